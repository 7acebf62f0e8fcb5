/-
  The walks: each function of the program returns what the plain function beside it returns. No statement is proved here.
-/
import Derived.Test.YtfhmgiipcmmnlaaDoorTlGroupc

import Derived.Test.YtfhmgiipcmmnlaaDoorAuStatesF
import Derived.Test.YtfhmgiipcmmnlaaDoorProg
import Derived.Test.YtfhmgiipcmmnlaaDoorAuStatesO
import Derived.Test.YtfhmgiipcmmnlaaDoorAuStatesa
namespace Go.Proofs.YtfhmgiipcmmnlaaDoor.AuStates
open Go Go.Tl Go.Proofs
open Go.Proofs.YtfhmgiipcmmnlaaDoor.AuStatesO hiding tab tab_ok mixed
open Go.Proofs.YtfhmgiipcmmnlaaDoor.AuStatesa hiding tab tab_ok mixed
set_option linter.unusedVariables false
set_option linter.unusedSimpArgs false
set_option maxRecDepth 100000
def tab : Tab := [(3, ⟨.int .i64, 1, 8, [.int .i64 0]⟩), (4, ⟨.bool, 1, 1, [.bool false]⟩), (5, ⟨.int .u8, 1, 1, [.int .u8 0]⟩), (9, ⟨.string, 1, 16, [.str ⟨#[]⟩]⟩), (65, ⟨.slice 5 1 1, 1, 24, [.nils]⟩), (77, ⟨.slice 90 2 16, 1, 24, [.nils]⟩), (80, ⟨.slice 3 1 8, 1, 24, [.nils]⟩), (82, ⟨.struct [(0, 1, false), (1, 1, false)], 2, 32, [.nils, .int .i64 0]⟩), (90, ⟨.struct [(0, 1, false), (1, 1, false)], 2, 16, [.int .i64 0, .bool false]⟩), (124, ⟨.pointer 127, 1, 8, [.nilp]⟩), (125, ⟨.int .u64, 1, 8, [.int .u64 0]⟩), (127, ⟨.struct [(0, 1, false), (1, 1, false), (2, 1, false)], 3, 40, [.nils, .int .i64 0, .int .u64 0]⟩), (132, ⟨.func, 1, 8, [.nilf]⟩), (169, ⟨.func, 1, 8, [.nilf]⟩)]
theorem tab_ok : chkTab Tryd.prog tab = true := by kernel_rfl
theorem mixed : Tryd.prog.follows .mixedOrders = true := by kernel_rfl
theorem F_spec_l2Parse_W (x0 : ByteArray) (y0 : List Int) (y1 : Int) (y2 : Bool) (h : F_spec_l2Parse x0 = some (y0, y1, y2)) : CG Tryd.prog 128 [V.t (T.str x0)] [] (V.tup [V.agg [vo 9000 (List.length y0), vi y1], vb y2]) [(9000, oc 3 (List.map (T.int .i64) y0))] := by
  unfold F_spec_l2Parse at h
  refine CG.intro (tab := tab) tab_ok (fn := Tryd.f128) Tryd.func128 (by kernel_rfl) rfl (Nat.le_of_ble_eq_true rfl) (by kernel_rfl) ?_
  refine WP.seq ?_
  refine WP.path tab_ok mixed [(2, An.id 2002)] [.keep [3, 2, 0], .keepO [2002]] (ps := []) (e := .normal) (σ' := ⟨[2002], [(3, vb false), (2, V.ref 2002 0), (0, V.t (T.str x0))], [(2002, oc 82 [T.nils, ti 0])]⟩) (by kernel_rfl) trivial ?_
  refine WP.seq ?_
  obtain ⟨J1, hJ1, h⟩ := jn_some h
  refine WP.joinA (fun (zz : Bool) => ⟨[2002], [(23, vb zz), (3, vb false), (2, V.ref 2002 0), (0, V.t (T.str x0))], [(2002, oc 82 [T.nils, ti 0])]⟩) (fun zz => J1 zz = some (y0, y1, y2)) ?_ ?_
  · -- to where they meet
    rcases ite_some h with ⟨h1, h⟩ | ⟨h1, h⟩
    · -- yes
      refine WP.path tab_ok mixed [(9, An.call (tb (decide (((ByteArray.size x0 : Nat) : Int) ≥ (3 : Int)) && decide (((ByteArray.size x0 : Nat) : Int) ≤ (14 : Int))))), (11, An.b true)] [.keep [23, 3, 2, 0], .keepO [2002], .names [(2002, 2002)]] (ps := [(C Tryd.prog 80 [ti ((ByteArray.size x0 : Nat) : Int), ti 3, ti 14] (tb (decide (((ByteArray.size x0 : Nat) : Int) ≥ (3 : Int)) && decide (((ByteArray.size x0 : Nat) : Int) ≤ (14 : Int))))), ((!(decide (((ByteArray.size x0 : Nat) : Int) ≥ (3 : Int)) && decide (((ByteArray.size x0 : Nat) : Int) ≤ (14 : Int)))) = true)]) (e := .normal) (σ' := ⟨[2002], [(23, vb true), (3, vb false), (2, V.ref 2002 0), (0, V.t (T.str x0))], [(2002, oc 82 [T.nils, ti 0])]⟩) (by kernel_rfl) ⟨(by have hh := (l1In_C ((ByteArray.size x0 : Nat) : Int) (3 : Int) (14 : Int)); first | exact hh | simpa using hh), h1, trivial⟩ ?_
      exact ⟨(true), h, rfl⟩
    · -- no
      obtain ⟨c0, h⟩ := chk_some h
      obtain ⟨c1, h⟩ := chk_some h
      obtain ⟨c2, h⟩ := chk_some h
      rcases ite_some h with ⟨h2, h⟩ | ⟨h2, h⟩
      · -- yes
        refine WP.path tab_ok mixed [(9, An.call (tb (decide (((ByteArray.size x0 : Nat) : Int) ≥ (3 : Int)) && decide (((ByteArray.size x0 : Nat) : Int) ≤ (14 : Int))))), (11, An.b false), (14, An.v (T.int .i64 (byteAt x0 0))), (15, An.v (T.int .i64 ((byteAt x0 0) - (48 : Int)))), (16, An.call (tb (decide (((byteAt x0 0) - (48 : Int)) ≥ (0 : Int)) && decide (((byteAt x0 0) - (48 : Int)) ≤ (2 : Int))))), (19, An.b true)] [.keep [23, 3, 2, 0], .keepO [2002], .names [(2002, 2002)]] (ps := [(C Tryd.prog 80 [ti ((ByteArray.size x0 : Nat) : Int), ti 3, ti 14] (tb (decide (((ByteArray.size x0 : Nat) : Int) ≥ (3 : Int)) && decide (((ByteArray.size x0 : Nat) : Int) ≤ (14 : Int))))), ((!(decide (((ByteArray.size x0 : Nat) : Int) ≥ (3 : Int)) && decide (((ByteArray.size x0 : Nat) : Int) ≤ (14 : Int)))) = false), ((0 ≤ (0 : Int) ∧ (0 : Int) < ((ByteArray.size x0 : Nat) : Int))), (T.int .i64 (IntKind.wrap .i64 (byteAt x0 0)) = T.int .i64 (byteAt x0 0)), (True), (T.int .i64 (IntKind.wrap .i64 ((byteAt x0 0) - (48 : Int))) = T.int .i64 ((byteAt x0 0) - (48 : Int))), (C Tryd.prog 80 [ti ((byteAt x0 0) - (48 : Int)), ti 0, ti 2] (tb (decide (((byteAt x0 0) - (48 : Int)) ≥ (0 : Int)) && decide (((byteAt x0 0) - (48 : Int)) ≤ (2 : Int))))), ((!(decide (((byteAt x0 0) - (48 : Int)) ≥ (0 : Int)) && decide (((byteAt x0 0) - (48 : Int)) ≤ (2 : Int)))) = true)]) (e := .normal) (σ' := ⟨[2002], [(23, vb true), (3, vb false), (2, V.ref 2002 0), (0, V.t (T.str x0))], [(2002, oc 82 [T.nils, ti 0])]⟩) (by kernel_rfl) ⟨(by have hh := (l1In_C ((ByteArray.size x0 : Nat) : Int) (3 : Int) (14 : Int)); first | exact hh | simpa using hh), h1, c0, wrapI c1, trivial, wrapI c2, (by have hh := (l1In_C ((byteAt x0 0) - (48 : Int)) (0 : Int) (2 : Int)); first | exact hh | simpa using hh), h2, trivial⟩ ?_
        exact ⟨(true), h, rfl⟩
      · -- no
        obtain ⟨c3, h⟩ := chk_some h
        refine WP.path tab_ok mixed [(9, An.call (tb (decide (((ByteArray.size x0 : Nat) : Int) ≥ (3 : Int)) && decide (((ByteArray.size x0 : Nat) : Int) ≤ (14 : Int))))), (11, An.b false), (14, An.v (T.int .i64 (byteAt x0 0))), (15, An.v (T.int .i64 ((byteAt x0 0) - (48 : Int)))), (16, An.call (tb (decide (((byteAt x0 0) - (48 : Int)) ≥ (0 : Int)) && decide (((byteAt x0 0) - (48 : Int)) ≤ (2 : Int))))), (19, An.b false)] [.keep [23, 3, 2, 0], .keepO [2002], .names [(2002, 2002)]] (ps := [(C Tryd.prog 80 [ti ((ByteArray.size x0 : Nat) : Int), ti 3, ti 14] (tb (decide (((ByteArray.size x0 : Nat) : Int) ≥ (3 : Int)) && decide (((ByteArray.size x0 : Nat) : Int) ≤ (14 : Int))))), ((!(decide (((ByteArray.size x0 : Nat) : Int) ≥ (3 : Int)) && decide (((ByteArray.size x0 : Nat) : Int) ≤ (14 : Int)))) = false), ((0 ≤ (0 : Int) ∧ (0 : Int) < ((ByteArray.size x0 : Nat) : Int))), (T.int .i64 (IntKind.wrap .i64 (byteAt x0 0)) = T.int .i64 (byteAt x0 0)), (True), (T.int .i64 (IntKind.wrap .i64 ((byteAt x0 0) - (48 : Int))) = T.int .i64 ((byteAt x0 0) - (48 : Int))), (C Tryd.prog 80 [ti ((byteAt x0 0) - (48 : Int)), ti 0, ti 2] (tb (decide (((byteAt x0 0) - (48 : Int)) ≥ (0 : Int)) && decide (((byteAt x0 0) - (48 : Int)) ≤ (2 : Int))))), ((!(decide (((byteAt x0 0) - (48 : Int)) ≥ (0 : Int)) && decide (((byteAt x0 0) - (48 : Int)) ≤ (2 : Int)))) = false), ((0 ≤ (1 : Int) ∧ (1 : Int) < ((ByteArray.size x0 : Nat) : Int))), (True)]) (e := .normal) (σ' := ⟨[2002], [(23, vb ((byteAt x0 1) != (58 : Int))), (3, vb false), (2, V.ref 2002 0), (0, V.t (T.str x0))], [(2002, oc 82 [T.nils, ti 0])]⟩) (by kernel_rfl) ⟨(by have hh := (l1In_C ((ByteArray.size x0 : Nat) : Int) (3 : Int) (14 : Int)); first | exact hh | simpa using hh), h1, c0, wrapI c1, trivial, wrapI c2, (by have hh := (l1In_C ((byteAt x0 0) - (48 : Int)) (0 : Int) (2 : Int)); first | exact hh | simpa using hh), h2, c3, trivial, trivial⟩ ?_
        exact ⟨((byteAt x0 1) != (58 : Int)), h, rfl⟩
  · -- from there
    intro v23 h0
    have h := (show J1 v23 = some (y0, y1, y2) from h0)
    rw [hJ1] at h
    rcases ite_some h with ⟨h3, h⟩ | ⟨h3, h⟩
    · -- yes
      refine WP.cond (b := v23) rfl (fun _ => ?_) (fun hh => by rw [h3] at hh; cases hh)
      simp only [Option.some.injEq, Prod.mk.injEq] at h
      obtain ⟨rfl, rfl, rfl⟩ := h
      exact WP.pathG tab_ok mixed [] [.keep [2, 3], .keepO [2002], .names [(2002, 2002)]] [] _ (r' := V.tup [V.agg [vo 9000 (List.length ([] : List Int)), vi (0 : Int)], vb false]) (ps := [(True), ((0 + 2 ≤ 2 ∧ 2 = 2)), (0 + 2 ≤ 2)]) (r := V.t (T.tup [T.agg [T.nils, ti 0], tb false])) (N := [2002]) (O := []) [(9000, 3)] (by kernel_rfl) ⟨trivial, by decide, by first | decide | omega | (simp only [tlL] <;> omega) | (simp <;> omega) | (simp [] <;> omega), trivial⟩ ⟨(by first | rfl | (simp; done)), (WkT.eq (WkT.refl _) (by first | rfl | (simp only [tlS, tl, vl, vo, oc, ov, tbl, vbl, ty, vy] <;> rfl) | (simp <;> omega) | (simp []; done) | (rw [List.take_of_length_le (by simp [])] <;> rfl) | (simp [List.take_of_length_le]; done))), (WkT.refl _), trivial⟩ rfl rfl (fun _ h => h)
    · -- no
      refine WP.cond (b := v23) rfl (fun hh => by rw [h3] at hh; cases hh) (fun _ => ?_)
      refine WP.path tab_ok mixed [] [.keep [3, 2, 0], .keepO [2002]] (ps := []) (e := .normal) (σ' := ⟨[2002], [(3, vb false), (2, V.ref 2002 0), (0, V.t (T.str x0))], [(2002, oc 82 [T.nils, ti 0])]⟩) (by kernel_rfl) trivial ?_
      refine WP.seq ?_
      obtain ⟨c0, h⟩ := chk_some h
      obtain ⟨c1, h⟩ := chk_some h
      obtain ⟨c2, h⟩ := chk_some h
      refine WP.path tab_ok mixed [(25, An.id 2025), (28, An.v (T.int .i64 (byteAt x0 0))), (29, An.v (T.int .i64 ((byteAt x0 0) - (48 : Int)))), (4, An.id 2004)] [.keep [4, 3, 2, 0], .keepO [2002, 2004, 2025]] (ps := [(True), (0 = 0 * 1), ((0 ≤ (0 : Int) ∧ (0 : Int) < ((ByteArray.size x0 : Nat) : Int))), (T.int .i64 (IntKind.wrap .i64 (byteAt x0 0)) = T.int .i64 (byteAt x0 0)), (True), (T.int .i64 (IntKind.wrap .i64 ((byteAt x0 0) - (48 : Int))) = T.int .i64 ((byteAt x0 0) - (48 : Int))), ((1 = 1 ∧ 0 + 1 ≤ 2) ∧ (1 = 1 ∧ 1 + 1 ≤ 2) ∧ True), ((0 + 2 ≤ 2 ∧ 2 = 2))]) (e := .normal) (σ' := ⟨[2004, 2025, 2002], [(4, V.ref 2004 0), (3, vb false), (2, V.ref 2002 0), (0, V.t (T.str x0))], [(2002, oc 82 [T.nils, ti 0]), (2004, ov 82 [vo 2025 0, vi ((byteAt x0 0) - (48 : Int))]), (2025, oc 3 [])]⟩) (by kernel_rfl) ⟨trivial, by decide, c0, wrapI c1, trivial, wrapI c2, ⟨⟨by decide, by decide⟩, ⟨by decide, by decide⟩, trivial⟩, by decide, trivial⟩ ?_
      obtain ⟨J1, hJ1, h⟩ := jn_some h
      refine WP.joinA (fun (zz : (List Int)) => ⟨[2002, 2004, 2025], [(4, V.ref 2004 0), (3, vb false), (2, V.ref 2002 0)], [(2002, oc 82 [T.nils, ti 0]), (2004, ov 82 [vo 2025 (List.length zz), vi ((byteAt x0 0) - (48 : Int))]), (2025, oc 3 (List.map (T.int .i64) zz))]⟩) (fun zz => J1 zz = some (y0, y1, y2)) ?_ ?_
      · -- to where they meet
        refine WP.seq ?_
        refine WP.path tab_ok mixed [] [.keep [5, 4, 3, 2, 0], .keepO [2002, 2004, 2025]] (ps := []) (e := .normal) (σ' := ⟨[2004, 2025, 2002], [(5, vi 2), (4, V.ref 2004 0), (3, vb false), (2, V.ref 2002 0), (0, V.t (T.str x0))], [(2002, oc 82 [T.nils, ti 0]), (2004, ov 82 [vo 2025 0, vi ((byteAt x0 0) - (48 : Int))]), (2025, oc 3 [])]⟩) (by kernel_rfl) trivial ?_
        refine WP.block ?_
        refine WP.wk [.keep [5, 4, 3, 2, 0], .keepO [2002, 2004, 2025], .names [(2002, 2002), (2004, 2004), (2025, 2025)]] (σ' := ⟨[2002, 2004, 2025], [(5, vi 2), (4, V.ref 2004 0), (3, vb false), (2, V.ref 2002 0), (0, V.t (T.str x0))], [(2002, oc 82 [T.nils, ti 0]), (2004, ov 82 [vo 2025 0, vi ((byteAt x0 0) - (48 : Int))]), (2025, oc 3 [])]⟩) (ps := []) (by kernel_rfl) trivial ?_
        refine WP.st (σ' := ⟨[2002, 2004, 2025], [(5, vi (2 : Int)), (4, V.ref 2004 0), (3, vb false), (2, V.ref 2002 0), (0, V.t (T.str x0))], [(2002, oc 82 [T.nils, ti 0]), (2004, ov 82 [vo 2025 (List.length ([] : List Int)), vi ((byteAt x0 0) - (48 : Int))]), (2025, oc 3 (List.map (T.int .i64) ([] : List Int)))]⟩) (by first | rfl | (simp only [tlS, tl, vl, vo, oc, ov, tbl, vbl, ty, vy] <;> rfl) | (simp <;> omega) | (simp []; done) | (rw [List.take_of_length_le (by simp [])] <;> rfl) | (simp [List.take_of_length_le]; done)) ?_
        refine WP.loop (α := Nat × (List Int) × Int) (fun zz => ⟨[2002, 2004, 2025], [(5, vi zz.2.2), (4, V.ref 2004 0), (3, vb false), (2, V.ref 2002 0), (0, V.t (T.str x0))], [(2002, oc 82 [T.nils, ti 0]), (2004, ov 82 [vo 2025 (List.length zz.2.1), vi ((byteAt x0 0) - (48 : Int))]), (2025, oc 3 (List.map (T.int .i64) zz.2.1))]⟩) (fun zz => F_spec_l2Parse_L1 x0 J1 zz.1 zz.2.1 zz.2.2 = some (y0, y1, y2)) (fun zz => zz.1) (fuel, ([] : List Int), (2 : Int)) h ?_
        rintro ⟨n, o25, v5⟩ h0
        have h := (show F_spec_l2Parse_L1 x0 J1 n o25 v5 = some (y0, y1, y2) from h0)
        rcases n with _ | n
        · rw [F_spec_l2Parse_L1] at h; cases h
        · rw [F_spec_l2Parse_L1] at h
          refine WP.seq ?_
          refine WP.seq ?_
          refine WP.path tab_ok mixed [] [.keep [34, 5, 4, 3, 2, 0], .keepO [2002, 2004, 2025]] (ps := [(True)]) (e := .normal) (σ' := ⟨[2002, 2004, 2025], [(34, vb (decide (v5 < ((ByteArray.size x0 : Nat) : Int)))), (5, vi v5), (4, V.ref 2004 0), (3, vb false), (2, V.ref 2002 0), (0, V.t (T.str x0))], [(2002, oc 82 [T.nils, ti 0]), (2004, ov 82 [vo 2025 (List.length o25), vi ((byteAt x0 0) - (48 : Int))]), (2025, oc 3 (List.map (T.int .i64) o25))]⟩) (by kernel_rfl) ⟨trivial, trivial⟩ ?_
          rcases ite_some h with ⟨h4, h⟩ | ⟨h4, h⟩
          · -- yes
            refine WP.cond (b := decide (v5 < ((ByteArray.size x0 : Nat) : Int))) rfl (fun _ => ?_) (fun hh => by rw [h4] at hh; cases hh)
            refine WP.path tab_ok mixed [] [.keep [5, 4, 3, 2, 0], .keepO [2002, 2004, 2025]] (ps := []) (e := .normal) (σ' := ⟨[2002, 2004, 2025], [(5, vi v5), (4, V.ref 2004 0), (3, vb false), (2, V.ref 2002 0), (0, V.t (T.str x0))], [(2002, oc 82 [T.nils, ti 0]), (2004, ov 82 [vo 2025 (List.length o25), vi ((byteAt x0 0) - (48 : Int))]), (2025, oc 3 (List.map (T.int .i64) o25))]⟩) (by kernel_rfl) trivial ?_
            refine WP.seq ?_
            refine WP.block ?_
            refine WP.seq ?_
            obtain ⟨c3, h⟩ := chk_some h
            obtain ⟨c4, h⟩ := chk_some h
            obtain ⟨c5, h⟩ := chk_some h
            refine WP.path tab_ok mixed [(40, An.v (T.int .i64 (byteAt x0 (Int.toNat v5)))), (41, An.v (T.int .i64 ((byteAt x0 (Int.toNat v5)) - (48 : Int))))] [.keep [6, 5, 4, 3, 2, 0], .keepO [2002, 2004, 2025]] (ps := [((0 ≤ v5 ∧ v5 < ((ByteArray.size x0 : Nat) : Int))), (T.int .i64 (IntKind.wrap .i64 (byteAt x0 (Int.toNat v5))) = T.int .i64 (byteAt x0 (Int.toNat v5))), (True), (T.int .i64 (IntKind.wrap .i64 ((byteAt x0 (Int.toNat v5)) - (48 : Int))) = T.int .i64 ((byteAt x0 (Int.toNat v5)) - (48 : Int)))]) (e := .normal) (σ' := ⟨[2002, 2004, 2025], [(6, vi ((byteAt x0 (Int.toNat v5)) - (48 : Int))), (5, vi v5), (4, V.ref 2004 0), (3, vb false), (2, V.ref 2002 0), (0, V.t (T.str x0))], [(2002, oc 82 [T.nils, ti 0]), (2004, ov 82 [vo 2025 (List.length o25), vi ((byteAt x0 0) - (48 : Int))]), (2025, oc 3 (List.map (T.int .i64) o25))]⟩) (by kernel_rfl) ⟨c3, wrapI c4, trivial, wrapI c5, trivial⟩ ?_
            obtain ⟨J2, hJ2, h⟩ := jn_some h
            refine WP.joinA (fun (zz : Int) => ⟨[2002, 2004, 2025], [(6, vi zz), (5, vi v5), (4, V.ref 2004 0), (3, vb false), (2, V.ref 2002 0), (0, V.t (T.str x0))], [(2002, oc 82 [T.nils, ti 0]), (2004, ov 82 [vo 2025 (List.length o25), vi ((byteAt x0 0) - (48 : Int))]), (2025, oc 3 (List.map (T.int .i64) o25))]⟩) (fun zz => J2 zz = some (y0, y1, y2)) ?_ ?_
            · -- to where they meet
              refine WP.seq ?_
              refine WP.path tab_ok mixed [] [.keep [45, 6, 5, 4, 3, 2, 0], .keepO [2002, 2004, 2025]] (ps := [((0 ≤ v5 ∧ v5 < ((ByteArray.size x0 : Nat) : Int))), (True)]) (e := .normal) (σ' := ⟨[2002, 2004, 2025], [(45, vb ((byteAt x0 (Int.toNat v5)) == (45 : Int))), (6, vi ((byteAt x0 (Int.toNat v5)) - (48 : Int))), (5, vi v5), (4, V.ref 2004 0), (3, vb false), (2, V.ref 2002 0), (0, V.t (T.str x0))], [(2002, oc 82 [T.nils, ti 0]), (2004, ov 82 [vo 2025 (List.length o25), vi ((byteAt x0 0) - (48 : Int))]), (2025, oc 3 (List.map (T.int .i64) o25))]⟩) (by kernel_rfl) ⟨c3, trivial, trivial⟩ ?_
              rcases ite_some h with ⟨h5, h⟩ | ⟨h5, h⟩
              · -- yes
                refine WP.cond (b := (byteAt x0 (Int.toNat v5)) == (45 : Int)) rfl (fun _ => ?_) (fun hh => by rw [h5] at hh; cases hh)
                refine WP.path tab_ok mixed [] [.keep [6, 5, 4, 3, 2, 0], .keepO [2002, 2004, 2025], .names [(2002, 2002), (2004, 2004), (2025, 2025)]] (ps := []) (e := .normal) (σ' := ⟨[2002, 2004, 2025], [(6, vi (-1)), (5, vi v5), (4, V.ref 2004 0), (3, vb false), (2, V.ref 2002 0), (0, V.t (T.str x0))], [(2002, oc 82 [T.nils, ti 0]), (2004, ov 82 [vo 2025 (List.length o25), vi ((byteAt x0 0) - (48 : Int))]), (2025, oc 3 (List.map (T.int .i64) o25))]⟩) (by kernel_rfl) trivial ?_
                exact ⟨((-1 : Int)), h, (by first | rfl | (simp only [tlS, tl, vl, vo, oc, ov, tbl, vbl, ty, vy] <;> rfl) | (simp <;> omega) | (simp []; done) | (rw [List.take_of_length_le (by simp [])] <;> rfl) | (simp [List.take_of_length_le]; done))⟩
              · -- no
                refine WP.cond (b := (byteAt x0 (Int.toNat v5)) == (45 : Int)) rfl (fun hh => by rw [h5] at hh; cases hh) (fun _ => ?_)
                refine WP.seq ?_
                refine WP.path tab_ok mixed [] [.keep [47, 6, 5, 4, 3, 2, 0], .keepO [2002, 2004, 2025]] (ps := [(True)]) (e := .normal) (σ' := ⟨[2002, 2004, 2025], [(47, vb (decide (((byteAt x0 (Int.toNat v5)) - (48 : Int)) < (0 : Int)))), (6, vi ((byteAt x0 (Int.toNat v5)) - (48 : Int))), (5, vi v5), (4, V.ref 2004 0), (3, vb false), (2, V.ref 2002 0), (0, V.t (T.str x0))], [(2002, oc 82 [T.nils, ti 0]), (2004, ov 82 [vo 2025 (List.length o25), vi ((byteAt x0 0) - (48 : Int))]), (2025, oc 3 (List.map (T.int .i64) o25))]⟩) (by kernel_rfl) ⟨trivial, trivial⟩ ?_
                rcases ite_some h with ⟨h6, h⟩ | ⟨h6, h⟩
                · -- yes
                  refine WP.cond (b := decide (((byteAt x0 (Int.toNat v5)) - (48 : Int)) < (0 : Int))) rfl (fun _ => ?_) (fun hh => by rw [h6] at hh; cases hh)
                  simp only [Option.some.injEq, Prod.mk.injEq] at h
                  obtain ⟨rfl, rfl, rfl⟩ := h
                  exact WP.pathG tab_ok mixed [] [.keep [2, 3], .keepO [2002], .names [(2002, 2002)]] [] _ (r' := V.tup [V.agg [vo 9000 (List.length ([] : List Int)), vi (0 : Int)], vb false]) (ps := [(True), ((0 + 2 ≤ 2 ∧ 2 = 2)), (0 + 2 ≤ 2)]) (r := V.t (T.tup [T.agg [T.nils, ti 0], tb false])) (N := [2002]) (O := []) [(9000, 3)] (by kernel_rfl) ⟨trivial, by decide, by first | decide | omega | (simp only [tlL] <;> omega) | (simp <;> omega) | (simp [] <;> omega), trivial⟩ ⟨(by first | rfl | (simp; done)), (WkT.eq (WkT.refl _) (by first | rfl | (simp only [tlS, tl, vl, vo, oc, ov, tbl, vbl, ty, vy] <;> rfl) | (simp <;> omega) | (simp []; done) | (rw [List.take_of_length_le (by simp [])] <;> rfl) | (simp [List.take_of_length_le]; done))), (WkT.refl _), trivial⟩ rfl rfl (fun _ h => h)
                · -- no
                  refine WP.cond (b := decide (((byteAt x0 (Int.toNat v5)) - (48 : Int)) < (0 : Int))) rfl (fun hh => by rw [h6] at hh; cases hh) (fun _ => ?_)
                  refine WP.path tab_ok mixed [] [.keep [6, 5, 4, 3, 2, 0], .keepO [2002, 2004, 2025], .names [(2002, 2002), (2004, 2004), (2025, 2025)]] (ps := []) (e := .normal) (σ' := ⟨[2002, 2004, 2025], [(6, vi ((byteAt x0 (Int.toNat v5)) - (48 : Int))), (5, vi v5), (4, V.ref 2004 0), (3, vb false), (2, V.ref 2002 0), (0, V.t (T.str x0))], [(2002, oc 82 [T.nils, ti 0]), (2004, ov 82 [vo 2025 (List.length o25), vi ((byteAt x0 0) - (48 : Int))]), (2025, oc 3 (List.map (T.int .i64) o25))]⟩) (by kernel_rfl) trivial ?_
                  exact ⟨(((byteAt x0 (Int.toNat v5)) - (48 : Int))), h, rfl⟩
            · -- from there
              intro v6 h0
              have h := (show J2 v6 = some (y0, y1, y2) from h0)
              rw [hJ2] at h
              obtain ⟨c6, h⟩ := chk_some h
              refine WP.path tab_ok mixed [(52, An.fz), (53, An.id 2053)] [.keep [5, 4, 3, 2, 0], .keepO [2002, 2004, 2053]] (ps := [(True), ((1 = 1 ∧ 0 + 1 ≤ 1) ∧ True), (1 = 1 * 1), (True), (List.length (List.map (T.int .i64) o25) = (List.length o25) * 1), ((((List.length o25) + 1) * 8 ≤ 140737488355328 ∧ (List.length o25) + 1 ≤ maxLen)), (0 < 2)]) (e := .normal) (σ' := ⟨[2053, 2002, 2004, 2025], [(5, vi v5), (4, V.ref 2004 0), (3, vb false), (2, V.ref 2002 0), (0, V.t (T.str x0))], [(2002, oc 82 [T.nils, ti 0]), (2004, ov 82 [vo 2053 ((List.length o25) + 1), vi ((byteAt x0 0) - (48 : Int))]), (2053, oc 3 ((List.map (T.int .i64) o25) ++ [ti v6]))]⟩) (by kernel_rfl) ⟨trivial, ⟨⟨by first | rfl | (simp; done) | (simp []; done) | omega, by first | decide | (simp; done) | (simp []; done) | omega | (simp only [tlL]; omega) | (simp; omega)⟩, trivial⟩, by decide, trivial, by first | rfl | omega | (simp only [tlL] <;> omega) | (simp <;> omega) | (simp [] <;> omega), c6, by decide, trivial⟩ ?_
              obtain ⟨c7, h⟩ := chk_some h
              refine WP.path tab_ok mixed [(36, An.v (T.int .i64 (v5 + (1 : Int))))] [.keep [5, 4, 3, 2, 0], .keepO [2002, 2004, 2053], .names [(2002, 2002), (2004, 2004), (2053, 2025)]] (ps := [(True), (T.int .i64 (IntKind.wrap .i64 (v5 + (1 : Int))) = T.int .i64 (v5 + (1 : Int)))]) (e := .normal) (σ' := ⟨[2002, 2004, 2025], [(5, vi (v5 + (1 : Int))), (4, V.ref 2004 0), (3, vb false), (2, V.ref 2002 0), (0, V.t (T.str x0))], [(2002, oc 82 [T.nils, ti 0]), (2004, ov 82 [vo 2025 ((List.length o25) + 1), vi ((byteAt x0 0) - (48 : Int))]), (2025, oc 3 ((List.map (T.int .i64) o25) ++ [ti v6]))]⟩) (by kernel_rfl) ⟨trivial, wrapI c7, trivial⟩ ?_
              exact ⟨(n, o25 ++ [v6], (v5 + (1 : Int))), h, Nat.lt_succ_self _, (by first | rfl | (simp only [tlS, tl, vl, vo, oc, ov, tbl, vbl, ty, vy] <;> rfl) | (simp <;> omega) | (simp []; done) | (rw [List.take_of_length_le (by simp [])] <;> rfl) | (simp [List.take_of_length_le]; done))⟩
          · -- no
            refine WP.cond (b := decide (v5 < ((ByteArray.size x0 : Nat) : Int))) rfl (fun hh => by rw [h4] at hh; cases hh) (fun _ => ?_)
            refine WP.path tab_ok mixed [] [.keep [4, 3, 2], .keepO [2002, 2004, 2025], .names [(2002, 2002), (2004, 2004), (2025, 2025)]] (ps := []) (e := (.exit 0)) (σ' := ⟨[2002, 2004, 2025], [(4, V.ref 2004 0), (3, vb false), (2, V.ref 2002 0)], [(2002, oc 82 [T.nils, ti 0]), (2004, ov 82 [vo 2025 (List.length o25), vi ((byteAt x0 0) - (48 : Int))]), (2025, oc 3 (List.map (T.int .i64) o25))]⟩) (by kernel_rfl) trivial ?_
            exact ⟨(o25), h, rfl⟩
      · -- from there
        intro o25 h0
        have h := (show J1 o25 = some (y0, y1, y2) from h0)
        rw [hJ1] at h
        refine WP.seq ?_
        refine WP.seq ?_
        obtain ⟨c3, h⟩ := chk_some h
        refine WP.path tab_ok mixed [(56, An.call (tb (isStateN o25 ((byteAt x0 0) - (48 : Int)))))] [.keep [57, 4, 3, 2], .keepO [2002, 2004, 2025]] (ps := [(0 + 2 ≤ 2), (C Tryd.prog 119 [T.agg [tl o25, ti ((byteAt x0 0) - (48 : Int))]] (tb (isStateN o25 ((byteAt x0 0) - (48 : Int))))), (List.length (List.map (T.int .i64) o25) = (List.length o25) * 1)]) (e := .normal) (σ' := ⟨[2002, 2004, 2025], [(57, vb (!(isStateN o25 ((byteAt x0 0) - (48 : Int))))), (4, V.ref 2004 0), (3, vb false), (2, V.ref 2002 0)], [(2002, oc 82 [T.nils, ti 0]), (2004, ov 82 [vo 2025 (List.length o25), vi ((byteAt x0 0) - (48 : Int))]), (2025, oc 3 (List.map (T.int .i64) o25))]⟩) (by kernel_rfl) ⟨by decide, (l2State_C o25 ((byteAt x0 0) - (48 : Int)) c3), by first | rfl | omega | (simp only [tlL] <;> omega) | (simp <;> omega) | (simp [] <;> omega), trivial⟩ ?_
        rcases ite_some h with ⟨h7, h⟩ | ⟨h7, h⟩
        · -- yes
          refine WP.cond (b := !(isStateN o25 ((byteAt x0 0) - (48 : Int)))) rfl (fun _ => ?_) (fun hh => by rw [h7] at hh; cases hh)
          simp only [Option.some.injEq, Prod.mk.injEq] at h
          obtain ⟨rfl, rfl, rfl⟩ := h
          exact WP.pathG tab_ok mixed [] [.keep [2, 3], .keepO [2002], .names [(2002, 2002)]] [] _ (r' := V.tup [V.agg [vo 9000 (List.length ([] : List Int)), vi (0 : Int)], vb false]) (ps := [(True), ((0 + 2 ≤ 2 ∧ 2 = 2)), (0 + 2 ≤ 2)]) (r := V.t (T.tup [T.agg [T.nils, ti 0], tb false])) (N := [2002]) (O := []) [(9000, 3)] (by kernel_rfl) ⟨trivial, by decide, by first | decide | omega | (simp only [tlL] <;> omega) | (simp <;> omega) | (simp [] <;> omega), trivial⟩ ⟨(by first | rfl | (simp; done)), (WkT.eq (WkT.refl _) (by first | rfl | (simp only [tlS, tl, vl, vo, oc, ov, tbl, vbl, ty, vy] <;> rfl) | (simp <;> omega) | (simp []; done) | (rw [List.take_of_length_le (by simp [])] <;> rfl) | (simp [List.take_of_length_le]; done))), (WkT.refl _), trivial⟩ rfl rfl (fun _ h => h)
        · -- no
          refine WP.cond (b := !(isStateN o25 ((byteAt x0 0) - (48 : Int)))) rfl (fun hh => by rw [h7] at hh; cases hh) (fun _ => ?_)
          refine WP.path tab_ok mixed [] [.keep [4, 3, 2], .keepO [2002, 2004, 2025]] (ps := []) (e := .normal) (σ' := ⟨[2002, 2004, 2025], [(4, V.ref 2004 0), (3, vb false), (2, V.ref 2002 0)], [(2002, oc 82 [T.nils, ti 0]), (2004, ov 82 [vo 2025 (List.length o25), vi ((byteAt x0 0) - (48 : Int))]), (2025, oc 3 (List.map (T.int .i64) o25))]⟩) (by kernel_rfl) trivial ?_
          simp only [Option.some.injEq, Prod.mk.injEq] at h
          obtain ⟨rfl, rfl, rfl⟩ := h
          exact WP.pathG tab_ok mixed [] [.keep [2, 3], .keepO [2025, 2002], .names [(2025, 9000), (2002, 2002)]] [9000] _ (r' := V.tup [V.agg [vo 9000 (List.length o25), vi ((byteAt x0 0) - (48 : Int))], vb true]) (ps := [(0 + 2 ≤ 2), ((0 + 2 ≤ 2 ∧ 2 = 2)), (0 + 2 ≤ 2)]) (r := V.tup [V.agg [vo 9000 (List.length o25), vi ((byteAt x0 0) - (48 : Int))], vb true]) (N := [9000, 2002]) (O := [(9000, oc 3 (List.map (T.int .i64) o25))]) [] (by kernel_rfl) ⟨by decide, by decide, by decide, trivial⟩ ⟨rfl, (WkT.refl _), (WkT.refl _), trivial⟩ rfl rfl (fun _ h => h)
theorem F_spec_l2Parse_W_C (x0 : ByteArray) (y0 : List Int) (y1 : Int) (y2 : Bool) (h : F_spec_l2Parse x0 = some (y0, y1, y2)) : C Tryd.prog 128 [T.str x0] (T.tup [T.agg [tl y0, ti y1], tb y2]) :=
  CG.toC (ps := [(List.length (List.map (T.int .i64) y0) = (List.length y0) * 1)]) (F_spec_l2Parse_W  x0 y0 y1 y2 h) (by rfl) ⟨by first | rfl | omega | (simp <;> omega) | (simp [hl] <;> omega), trivial⟩
theorem F_spec_ParseState_W (x0 : ByteArray) (y0 : List Int) (y1 : Int) (y2 : Bool) (h : F_spec_ParseState x0 = some (y0, y1, y2)) : CG Tryd.prog 70 [V.t (T.str x0)] [] (V.tup [V.agg [vo 9000 (List.length y0), vi y1], vb y2]) [(9000, oc 3 (List.map (T.int .i64) y0))] := by
  unfold F_spec_ParseState at h
  refine CG.intro (tab := tab) tab_ok (fn := Tryd.f70) Tryd.func70 (by kernel_rfl) rfl (Nat.le_of_ble_eq_true rfl) (by kernel_rfl) ?_
  obtain ⟨r5, r5b, r5c, c0, h⟩ := bnd3_some h
  simp only [Option.some.injEq, Prod.mk.injEq] at h
  obtain ⟨rfl, rfl, rfl⟩ := h
  exact WP.pathG tab_ok mixed [(2, An.id 2002), (5, An.callG [(9000, 10050)] [V.t (T.str x0)] [] (V.tup [V.agg [vo 9000 (List.length r5), vi r5b], vb r5c]) [(9000, oc 3 (List.map (T.int .i64) r5))])] [.keep [2, 3], .keepO [10050, 2002], .names [(10050, 9000), (2002, 2002)]] [9000] _ (r' := V.tup [V.agg [vo 9000 (List.length r5), vi r5b], vb r5c]) (ps := [(CG Tryd.prog 128 [V.t (T.str x0)] [] (V.tup [V.agg [vo 9000 (List.length r5), vi r5b], vb r5c]) [(9000, oc 3 (List.map (T.int .i64) r5))]), (WkT (T.str x0) (T.str x0)), ((0 + 2 ≤ 2 ∧ 2 = 2)), (0 + 2 ≤ 2)]) (r := V.tup [V.agg [vo 9000 (List.length r5), vi r5b], vb r5c]) (N := [9000, 2002]) (O := [(9000, oc 3 (List.map (T.int .i64) r5))]) [] (by kernel_rfl) ⟨(F_spec_l2Parse_W x0 r5 r5b r5c c0), WkT.refl _, by decide, by decide, trivial⟩ ⟨rfl, (WkT.refl _), (WkT.refl _), trivial⟩ rfl rfl (fun _ h => h)
theorem F_spec_ParseState_W_C (x0 : ByteArray) (y0 : List Int) (y1 : Int) (y2 : Bool) (h : F_spec_ParseState x0 = some (y0, y1, y2)) : C Tryd.prog 70 [T.str x0] (T.tup [T.agg [tl y0, ti y1], tb y2]) :=
  CG.toC (ps := [(List.length (List.map (T.int .i64) y0) = (List.length y0) * 1)]) (F_spec_ParseState_W  x0 y0 y1 y2 h) (by rfl) ⟨by first | rfl | omega | (simp <;> omega) | (simp [hl] <;> omega), trivial⟩
theorem F_spec_DrawFalseFor_W (x0 : List Int) (y0 : Int) (y1 : List (Int × Bool)) (y2 : Int) (h : F_spec_DrawFalseFor x0 = some (y0, y1, y2)) : CG Tryd.prog 71 [vy x0] [] (V.tup [vi y0, V.own 9000 2 (List.length y1), vi y2]) [(9000, oc 90 (List.flatMap askedC y1))] := by
  unfold F_spec_DrawFalseFor at h
  refine CG.intro (tab := tab) tab_ok (fn := Tryd.f71) Tryd.func71 (by kernel_rfl) rfl (Nat.le_of_ble_eq_true rfl) (by kernel_rfl) ?_
  obtain ⟨r12, r12b, r12c, r12d, c0, h⟩ := bnd4_some h
  obtain ⟨r16, r16b, r16c, r16d, c1, h⟩ := bnd4_some h
  obtain ⟨r18, r18b, r18c, r18d, c2, h⟩ := bnd4_some h
  obtain ⟨c3, h⟩ := chk_some h
  obtain ⟨c4, h⟩ := chk_some h
  obtain ⟨r22, r22b, r22c, r22d, c5, h⟩ := bnd4_some h
  obtain ⟨c6, h⟩ := chk_some h
  obtain ⟨c7, h⟩ := chk_some h
  obtain ⟨n24, c8, h⟩ := nam_some h
  obtain ⟨r28, r28b, r28c, r28d, c9, h⟩ := bnd4_some h
  simp only [Option.some.injEq, Prod.mk.injEq] at h
  obtain ⟨rfl, rfl, rfl⟩ := h
  exact WP.pathG tab_ok mixed [(10, An.id 2010), (12, An.callG [(500, 2010)] [V.ref 500 0] [(500, oc 127 [ty x0, ti 0, T.int .u64 0])] (vi r12) [(500, oc 127 [ty r12b, ti r12c, T.int .u64 r12d])]), (15, An.call (ti (maxN (1 : Int) r12))), (16, An.callG [(500, 2010)] [V.ref 500 0, vi (maxN (1 : Int) r12)] [(500, oc 127 [ty r12b, ti r12c, T.int .u64 r12d])] (vi r16) [(500, oc 127 [ty r16b, ti r16c, T.int .u64 r16d])]), (18, An.callG [(500, 2010)] [V.ref 500 0, vi 24] [(500, oc 127 [ty r16b, ti r16c, T.int .u64 r16d])] (vi r18) [(500, oc 127 [ty r18b, ti r18c, T.int .u64 r18d])]), (19, An.v (T.int .i64 (Int.tdiv r18 (23 : Int)))), (20, An.v (T.int .i64 (r16 + (Int.tdiv r18 (23 : Int))))), (22, An.callG [(500, 2010)] [V.ref 500 0, vi 24] [(500, oc 127 [ty r18b, ti r18c, T.int .u64 r18d])] (vi r22) [(500, oc 127 [ty r22b, ti r22c, T.int .u64 r22d])]), (23, An.v (T.int .i64 (Int.tdiv r22 (23 : Int)))), (24, An.v (ti n24)), (28, An.callG [(500, 2010), (9000, 10280)] [V.ref 500 0, vi r12] [(500, oc 127 [ty r22b, ti r22c, T.int .u64 r22d])] (V.own 9000 2 (List.length r28)) [(500, oc 127 [ty r28b, ti r28c, T.int .u64 r28d]), (9000, oc 90 (List.flatMap askedC r28))])] [.keep [2, 3, 4], .keepO [10280], .names [(10280, 9000)]] [9000] _ (r' := V.tup [vi r12, V.own 9000 2 (List.length r28), vi n24]) (ps := [((1 = 1 ∧ 0 + 1 ≤ 3) ∧ True), (CG Tryd.prog 104 [V.ref 500 0] [(500, oc 127 [ty x0, ti 0, T.int .u64 0])] (vi r12) [(500, oc 127 [ty r12b, ti r12c, T.int .u64 r12d])]), ((V.ref 500 0).ren (renF [(500, 2010)]) = V.ref 2010 0), ((oc 127 [ty x0, ti 0, T.int .u64 0]) = (oc 127 [ty x0, ti 0, T.int .u64 0]).ren (renF [(500, 2010)])), (C Tryd.prog 129 [ti 1, ti r12] (ti (maxN (1 : Int) r12))), (CG Tryd.prog 99 [V.ref 500 0, vi (maxN (1 : Int) r12)] [(500, oc 127 [ty r12b, ti r12c, T.int .u64 r12d])] (vi r16) [(500, oc 127 [ty r16b, ti r16c, T.int .u64 r16d])]), ((V.ref 500 0).ren (renF [(500, 2010)]) = V.ref 2010 0), (WkT (ti (maxN (1 : Int) r12)) (ti (maxN (1 : Int) r12))), ((oc 127 [ty r12b, ti r12c, T.int .u64 r12d]) = (oc 127 [ty r12b, ti r12c, T.int .u64 r12d]).ren (renF [(500, 2010)])), (CG Tryd.prog 99 [V.ref 500 0, vi 24] [(500, oc 127 [ty r16b, ti r16c, T.int .u64 r16d])] (vi r18) [(500, oc 127 [ty r18b, ti r18c, T.int .u64 r18d])]), ((V.ref 500 0).ren (renF [(500, 2010)]) = V.ref 2010 0), (WkT (ti 24) (ti 24)), ((oc 127 [ty r16b, ti r16c, T.int .u64 r16d]) = (oc 127 [ty r16b, ti r16c, T.int .u64 r16d]).ren (renF [(500, 2010)])), ((23 : Int) ≠ 0), (T.int .i64 (IntKind.wrap .i64 (Int.tdiv r18 (23 : Int))) = T.int .i64 (Int.tdiv r18 (23 : Int))), (True), (T.int .i64 (IntKind.wrap .i64 (r16 + (Int.tdiv r18 (23 : Int)))) = T.int .i64 (r16 + (Int.tdiv r18 (23 : Int)))), (CG Tryd.prog 99 [V.ref 500 0, vi 24] [(500, oc 127 [ty r18b, ti r18c, T.int .u64 r18d])] (vi r22) [(500, oc 127 [ty r22b, ti r22c, T.int .u64 r22d])]), ((V.ref 500 0).ren (renF [(500, 2010)]) = V.ref 2010 0), (WkT (ti 24) (ti 24)), ((oc 127 [ty r18b, ti r18c, T.int .u64 r18d]) = (oc 127 [ty r18b, ti r18c, T.int .u64 r18d]).ren (renF [(500, 2010)])), ((23 : Int) ≠ 0), (T.int .i64 (IntKind.wrap .i64 (Int.tdiv r22 (23 : Int))) = T.int .i64 (Int.tdiv r22 (23 : Int))), (True), (T.int .i64 (IntKind.wrap .i64 ((r16 + (Int.tdiv r18 (23 : Int))) - (Int.tdiv r22 (23 : Int)))) = ti n24), (CG Tryd.prog 106 [V.ref 500 0, vi r12] [(500, oc 127 [ty r22b, ti r22c, T.int .u64 r22d])] (V.own 9000 2 (List.length r28)) [(500, oc 127 [ty r28b, ti r28c, T.int .u64 r28d]), (9000, oc 90 (List.flatMap askedC r28))]), ((V.ref 500 0).ren (renF [(500, 2010), (9000, 10280)]) = V.ref 2010 0), (WkT (ti r12) (ti r12)), ((oc 127 [ty r22b, ti r22c, T.int .u64 r22d]) = (oc 127 [ty r22b, ti r22c, T.int .u64 r22d]).ren (renF [(500, 2010), (9000, 10280)]))]) (r := V.tup [vi r12, V.own 9000 2 (List.length r28), vi n24]) (N := [9000]) (O := [(9000, oc 90 (List.flatMap askedC r28))]) [] (by kernel_rfl) ⟨⟨⟨by first | rfl | (simp; done) | (simp []; done) | omega, by first | decide | (simp; done) | (simp []; done) | omega | (simp only [tlL]; omega) | (simp; omega)⟩, trivial⟩, (F_p_spec_l1Cur_many_W x0 (0 : Int) (0 : Int) r12 r12b r12c r12d c0), by first | rfl | (simp [V.ren, V.renL, renF, lk]; done) | (simp [V.ren, V.renL, renF, lk]; omega), by first | rfl | (simp only [tlS]; rfl) | (simp [Tl.Obj.ren, V.ren, V.renL, renF, lk]; done), (by have hh := (l1Most_C (1 : Int) r12); first | exact hh | simpa using hh), (F_p_spec_l1Cur_pick_W r12b r12c r12d (maxN (1 : Int) r12) r16 r16b r16c r16d c1), by first | rfl | (simp [V.ren, V.renL, renF, lk]; done) | (simp [V.ren, V.renL, renF, lk]; omega), WkT.refl _, by first | rfl | (simp only [tlS]; rfl) | (simp [Tl.Obj.ren, V.ren, V.renL, renF, lk]; done), (F_p_spec_l1Cur_pick_W r16b r16c r16d (24 : Int) r18 r18b r18c r18d c2), by first | rfl | (simp [V.ren, V.renL, renF, lk]; done) | (simp [V.ren, V.renL, renF, lk]; omega), WkT.refl _, by first | rfl | (simp only [tlS]; rfl) | (simp [Tl.Obj.ren, V.ren, V.renL, renF, lk]; done), (show (23 : Int) ≠ 0 by first | decide | (simp only [maxLen]; omega) | (unfold I64; omega) | (unfold I64; decide)), quo_told c3, trivial, wrapI c4, (F_p_spec_l1Cur_pick_W r18b r18c r18d (24 : Int) r22 r22b r22c r22d c5), by first | rfl | (simp [V.ren, V.renL, renF, lk]; done) | (simp [V.ren, V.renL, renF, lk]; omega), WkT.refl _, by first | rfl | (simp only [tlS]; rfl) | (simp [Tl.Obj.ren, V.ren, V.renL, renF, lk]; done), (show (23 : Int) ≠ 0 by first | decide | (simp only [maxLen]; omega) | (unfold I64; omega) | (unfold I64; decide)), quo_told c6, trivial, Eq.trans (wrapI c7) (congrArg (ti) c8), (F_p_spec_l1Cur_asked_W r22b r22c r22d r12 r28 r28b r28c r28d c9), by first | rfl | (simp [V.ren, V.renL, renF, lk]; done) | (simp [V.ren, V.renL, renF, lk]; omega), WkT.refl _, by first | rfl | (simp only [tlS]; rfl) | (simp [Tl.Obj.ren, V.ren, V.renL, renF, lk]; done), trivial⟩ ⟨(WkT.refl _), rfl, (WkT.refl _), trivial⟩ rfl rfl (fun _ h => h)
theorem F_spec_DrawFalseFor_W_C (x0 : List Int) (y0 : Int) (y1 : List (Int × Bool)) (y2 : Int) (h : F_spec_DrawFalseFor x0 = some (y0, y1, y2)) : C Tryd.prog 71 [ty x0] (T.tup [ti y0, T.list (List.length y1) 2 (List.flatMap askedC y1), ti y2]) :=
  CG.toC (ps := [(List.length (List.flatMap askedC y1) = (List.length y1) * 2)]) (F_spec_DrawFalseFor_W  x0 y0 y1 y2 h) (by rfl) ⟨by first | exact len_asked _ | (rw [len_asked]; first | done | omega | (simp; done) | (simp; omega)), trivial⟩
theorem F_impl_falseFor_W (x0 : List (Int × Bool)) (x1 : Int) (y0 : Int) (h : F_impl_falseFor x0 x1 = some y0) : C Tryd.prog 131 [T.list (List.length x0) 2 (List.flatMap askedC x0), ti x1] (ti y0) := by
  unfold F_impl_falseFor at h
  refine C.intro (tab := tab) tab_ok (fn := Tryd.f131) Tryd.func131 (by kernel_rfl) rfl (Nat.le_of_ble_eq_true rfl) ?_
  refine WP.seq ?_
  refine WP.path tab_ok mixed [] [.keep [4, 0, 1], .keepO []] (ps := []) (e := .normal) (σ' := ⟨[], [(4, vi 0), (0, V.t (T.list (List.length x0) 2 (List.flatMap askedC x0))), (1, vi x1)], []⟩) (by kernel_rfl) trivial ?_
  refine WP.seq ?_
  refine WP.path tab_ok mixed [] [.keep [5, 4, 0, 1], .keepO []] (ps := []) (e := .normal) (σ' := ⟨[], [(5, vi 0), (4, vi 0), (0, V.t (T.list (List.length x0) 2 (List.flatMap askedC x0))), (1, vi x1)], []⟩) (by kernel_rfl) trivial ?_
  obtain ⟨J1, hJ1, h⟩ := jn_some h
  refine WP.joinA (fun (zz : Int) => ⟨[], [(5, vi zz), (4, vi 0)], []⟩) (fun zz => J1 zz = some y0) ?_ ?_
  · -- to where they meet
    refine WP.seq ?_
    refine WP.path tab_ok mixed [] [.keep [10, 9, 8, 5, 4, 1], .keepO []] (ps := []) (e := .normal) (σ' := ⟨[], [(10, vi 0), (9, vi ((List.length x0 : Nat) : Int)), (8, V.t (T.list (List.length x0) 2 (List.flatMap askedC x0))), (5, vi 0), (4, vi 0), (1, vi x1)], []⟩) (by kernel_rfl) trivial ?_
    refine WP.block ?_
    refine WP.wk [.keep [10, 9, 8, 5, 4, 1], .keepO [], .names []] (σ' := ⟨[], [(10, vi 0), (9, vi ((List.length x0 : Nat) : Int)), (8, V.t (T.list (List.length x0) 2 (List.flatMap askedC x0))), (5, vi 0), (4, vi 0), (1, vi x1)], []⟩) (ps := []) (by kernel_rfl) trivial ?_
    refine WP.st (σ' := ⟨[], [(10, vi (0 : Int)), (9, vi ((List.length x0 : Nat) : Int)), (8, V.t (T.list (List.length x0) 2 (List.flatMap askedC x0))), (5, vi (0 : Int)), (4, vi 0), (1, vi x1)], []⟩) (by first | rfl | (simp only [tlS, tl, vl, vo, oc, ov, tbl, vbl, ty, vy] <;> rfl) | (simp <;> omega) | (simp []; done) | (rw [List.take_of_length_le (by simp [])] <;> rfl) | (simp [List.take_of_length_le]; done)) ?_
    refine WP.loop (α := Nat × Int × Int) (fun zz => ⟨[], [(10, vi zz.2.1), (9, vi ((List.length x0 : Nat) : Int)), (8, V.t (T.list (List.length x0) 2 (List.flatMap askedC x0))), (5, vi zz.2.2), (4, vi 0), (1, vi x1)], []⟩) (fun zz => F_impl_falseFor_L1 x0 x1 J1 zz.1 zz.2.1 zz.2.2 = some y0) (fun zz => zz.1) (fuel, (0 : Int), (0 : Int)) h ?_
    rintro ⟨n, v10, v5⟩ h0
    have h := (show F_impl_falseFor_L1 x0 x1 J1 n v10 v5 = some y0 from h0)
    rcases n with _ | n
    · rw [F_impl_falseFor_L1] at h; cases h
    · rw [F_impl_falseFor_L1] at h
      refine WP.seq ?_
      refine WP.path tab_ok mixed [] [.keep [11, 10, 9, 8, 5, 4, 1], .keepO []] (ps := [(True)]) (e := .normal) (σ' := ⟨[], [(11, vb (decide (v10 < ((List.length x0 : Nat) : Int)))), (10, vi v10), (9, vi ((List.length x0 : Nat) : Int)), (8, V.t (T.list (List.length x0) 2 (List.flatMap askedC x0))), (5, vi v5), (4, vi 0), (1, vi x1)], []⟩) (by kernel_rfl) ⟨trivial, trivial⟩ ?_
      refine WP.seq ?_
      rcases ite_some h with ⟨h1, h⟩ | ⟨h1, h⟩
      · -- yes
        refine WP.cond (b := decide (v10 < ((List.length x0 : Nat) : Int))) rfl (fun _ => ?_) (fun hh => by rw [h1] at hh; cases hh)
        refine WP.path tab_ok mixed [] [.keep [10, 9, 8, 5, 4, 1], .keepO []] (ps := []) (e := .normal) (σ' := ⟨[], [(10, vi v10), (9, vi ((List.length x0 : Nat) : Int)), (8, V.t (T.list (List.length x0) 2 (List.flatMap askedC x0))), (5, vi v5), (4, vi 0), (1, vi x1)], []⟩) (by kernel_rfl) trivial ?_
        refine WP.seq ?_
        refine WP.block ?_
        refine WP.seq ?_
        obtain ⟨c0, h⟩ := chk_some h
        refine WP.path tab_ok mixed [(13, An.v (T.agg [ti ((List.getD x0 (Int.toNat v10) (0, false)).1), tb ((List.getD x0 (Int.toNat v10) (0, false)).2)])), (7, An.id 2007)] [.keep [7, 10, 9, 8, 5, 4, 1], .keepO [2007]] (ps := [((0 ≤ v10 ∧ v10 < ((List.length x0 : Nat) : Int))), (2 ≤ List.length (List.drop ((Int.toNat v10) * 2) (List.flatMap askedC x0))), (T.agg (List.take 2 (List.drop ((Int.toNat v10) * 2) (List.flatMap askedC x0))) = T.agg [ti ((List.getD x0 (Int.toNat v10) (0, false)).1), tb ((List.getD x0 (Int.toNat v10) (0, false)).2)]), ((0 + 2 ≤ 2 ∧ 2 = 2))]) (e := .normal) (σ' := ⟨[2007], [(7, V.ref 2007 0), (10, vi v10), (9, vi ((List.length x0 : Nat) : Int)), (8, V.t (T.list (List.length x0) 2 (List.flatMap askedC x0))), (5, vi v5), (4, vi 0), (1, vi x1)], [(2007, oc 90 [ti ((List.getD x0 (Int.toNat v10) (0, false)).1), tb ((List.getD x0 (Int.toNat v10) (0, false)).2)])]⟩) (by kernel_rfl) ⟨c0, fit_asked (i := Int.toNat v10) (by simp) (by omega), at_asked (by simp) (by omega), by decide, trivial⟩ ?_
        refine WP.seq ?_
        obtain ⟨c1, h⟩ := chk_some h
        refine WP.path tab_ok mixed [(16, An.call (tb (falseB ((List.getD x0 (Int.toNat v10) (0, false)).1) ((List.getD x0 (Int.toNat v10) (0, false)).2) x1)))] [.keep [16, 10, 9, 8, 5, 4, 1], .keepO []] (ps := [(0 + 2 ≤ 2), (C Tryd.prog 155 [T.agg [ti ((List.getD x0 (Int.toNat v10) (0, false)).1), tb ((List.getD x0 (Int.toNat v10) (0, false)).2)], ti x1] (tb (falseB ((List.getD x0 (Int.toNat v10) (0, false)).1) ((List.getD x0 (Int.toNat v10) (0, false)).2) x1)))]) (e := .normal) (σ' := ⟨[2007], [(16, vb (falseB ((List.getD x0 (Int.toNat v10) (0, false)).1) ((List.getD x0 (Int.toNat v10) (0, false)).2) x1)), (10, vi v10), (9, vi ((List.length x0 : Nat) : Int)), (8, V.t (T.list (List.length x0) 2 (List.flatMap askedC x0))), (5, vi v5), (4, vi 0), (1, vi x1)], []⟩) (by kernel_rfl) ⟨by decide, (isFalse_C ((List.getD x0 (Int.toNat v10) (0, false)).1) ((List.getD x0 (Int.toNat v10) (0, false)).2) x1 c1), trivial⟩ ?_
        rcases ite_some h with ⟨h2, h⟩ | ⟨h2, h⟩
        · -- yes
          refine WP.cond (b := falseB ((List.getD x0 (Int.toNat v10) (0, false)).1) ((List.getD x0 (Int.toNat v10) (0, false)).2) x1) rfl (fun _ => ?_) (fun hh => by rw [h2] at hh; cases hh)
          obtain ⟨c2, h⟩ := chk_some h
          refine WP.path tab_ok mixed [(18, An.v (T.int .i64 (v5 + (1 : Int))))] [.keep [5, 10, 9, 8, 4, 1], .keepO []] (ps := [(True), (T.int .i64 (IntKind.wrap .i64 (v5 + (1 : Int))) = T.int .i64 (v5 + (1 : Int)))]) (e := .normal) (σ' := ⟨[2007], [(5, vi (v5 + (1 : Int))), (10, vi v10), (9, vi ((List.length x0 : Nat) : Int)), (8, V.t (T.list (List.length x0) 2 (List.flatMap askedC x0))), (4, vi 0), (1, vi x1)], []⟩) (by kernel_rfl) ⟨trivial, wrapI c2, trivial⟩ ?_
          obtain ⟨c3, h⟩ := chk_some h
          refine WP.path tab_ok mixed [(19, An.v (T.int .i64 (v10 + (1 : Int))))] [.keep [10, 9, 8, 5, 4, 1], .keepO [], .names []] (ps := [(True), (T.int .i64 (IntKind.wrap .i64 (v10 + (1 : Int))) = T.int .i64 (v10 + (1 : Int)))]) (e := .normal) (σ' := ⟨[], [(10, vi (v10 + (1 : Int))), (9, vi ((List.length x0 : Nat) : Int)), (8, V.t (T.list (List.length x0) 2 (List.flatMap askedC x0))), (5, vi (v5 + (1 : Int))), (4, vi 0), (1, vi x1)], []⟩) (by kernel_rfl) ⟨trivial, wrapI c3, trivial⟩ ?_
          exact ⟨(n, (v10 + (1 : Int)), (v5 + (1 : Int))), h, Nat.lt_succ_self _, rfl⟩
        · -- no
          refine WP.cond (b := falseB ((List.getD x0 (Int.toNat v10) (0, false)).1) ((List.getD x0 (Int.toNat v10) (0, false)).2) x1) rfl (fun hh => by rw [h2] at hh; cases hh) (fun _ => ?_)
          refine WP.path tab_ok mixed [] [.keep [10, 9, 8, 5, 4, 1], .keepO []] (ps := []) (e := .normal) (σ' := ⟨[2007], [(10, vi v10), (9, vi ((List.length x0 : Nat) : Int)), (8, V.t (T.list (List.length x0) 2 (List.flatMap askedC x0))), (5, vi v5), (4, vi 0), (1, vi x1)], []⟩) (by kernel_rfl) trivial ?_
          obtain ⟨c2, h⟩ := chk_some h
          refine WP.path tab_ok mixed [(19, An.v (T.int .i64 (v10 + (1 : Int))))] [.keep [10, 9, 8, 5, 4, 1], .keepO [], .names []] (ps := [(True), (T.int .i64 (IntKind.wrap .i64 (v10 + (1 : Int))) = T.int .i64 (v10 + (1 : Int)))]) (e := .normal) (σ' := ⟨[], [(10, vi (v10 + (1 : Int))), (9, vi ((List.length x0 : Nat) : Int)), (8, V.t (T.list (List.length x0) 2 (List.flatMap askedC x0))), (5, vi v5), (4, vi 0), (1, vi x1)], []⟩) (by kernel_rfl) ⟨trivial, wrapI c2, trivial⟩ ?_
          exact ⟨(n, (v10 + (1 : Int)), v5), h, Nat.lt_succ_self _, rfl⟩
      · -- no
        refine WP.cond (b := decide (v10 < ((List.length x0 : Nat) : Int))) rfl (fun hh => by rw [h1] at hh; cases hh) (fun _ => ?_)
        refine WP.path tab_ok mixed [] [.keep [5, 4], .keepO [], .names []] (ps := []) (e := (.exit 0)) (σ' := ⟨[], [(5, vi v5), (4, vi 0)], []⟩) (by kernel_rfl) trivial ?_
        exact ⟨(v5), h, rfl⟩
  · -- from there
    intro v5 h0
    have h := (show J1 v5 = some y0 from h0)
    rw [hJ1] at h
    have h := Option.some.inj h
    subst h
    exact WP.pathW tab_ok mixed [] _ (ps := []) (r := ti v5) (by kernel_rfl) trivial (WkT.eq (y := ti v5) (WkT.refl _) rfl) (fun _ h => h)
theorem F_impl_FalseFor_W (x0 : Int) (x1 : List (Int × Bool)) (x2 : Int) (y0 : Int) (y1 : Bool) (h : F_impl_FalseFor x0 x1 x2 = some (y0, y1)) : C Tryd.prog 72 [ti x0, T.list (List.length x1) 2 (List.flatMap askedC x1), ti x2] (T.tup [ti y0, tb y1]) := by
  unfold F_impl_FalseFor at h
  refine C.intro (tab := tab) tab_ok (fn := Tryd.f72) Tryd.func72 (by kernel_rfl) rfl (Nat.le_of_ble_eq_true rfl) ?_
  refine WP.seq ?_
  refine WP.path tab_ok mixed [] [.keep [7, 6, 0, 1, 2], .keepO []] (ps := []) (e := .normal) (σ' := ⟨[], [(7, vb false), (6, vi 0), (0, vi x0), (1, V.t (T.list (List.length x1) 2 (List.flatMap askedC x1))), (2, vi x2)], []⟩) (by kernel_rfl) trivial ?_
  refine WP.seq ?_
  obtain ⟨J1, hJ1, h⟩ := jn_some h
  refine WP.joinA (fun (zz : Bool) => ⟨[], [(17, vb zz), (7, vb false), (6, vi 0), (1, V.t (T.list (List.length x1) 2 (List.flatMap askedC x1))), (2, vi x2)], []⟩) (fun zz => J1 zz = some (y0, y1)) ?_ ?_
  · -- to where they meet
    obtain ⟨r10, c0, h⟩ := bnd1_some h
    rcases ite_some h with ⟨h1, h⟩ | ⟨h1, h⟩
    · -- yes
      refine WP.path tab_ok mixed [(10, An.call (tb r10)), (12, An.b true)] [.keep [17, 7, 6, 1, 2], .keepO [], .names []] (ps := [(C Tryd.prog 107 [ti x0, T.list (List.length x1) 2 (List.flatMap askedC x1), ti 20] (tb r10)), ((!r10) = true)]) (e := .normal) (σ' := ⟨[], [(17, vb true), (7, vb false), (6, vi 0), (1, V.t (T.list (List.length x1) 2 (List.flatMap askedC x1))), (2, vi x2)], []⟩) (by kernel_rfl) ⟨(F_impl_areAsked_W x0 x1 (20 : Int) r10 c0), h1, trivial⟩ ?_
      exact ⟨(true), h, rfl⟩
    · -- no
      refine WP.path tab_ok mixed [(10, An.call (tb r10)), (12, An.b false), (15, An.call (tb (numB x0 x2)))] [.keep [17, 7, 6, 1, 2], .keepO [], .names []] (ps := [(C Tryd.prog 107 [ti x0, T.list (List.length x1) 2 (List.flatMap askedC x1), ti 20] (tb r10)), ((!r10) = false), (C Tryd.prog 130 [ti x0, ti x2] (tb (numB x0 x2)))]) (e := .normal) (σ' := ⟨[], [(17, vb (!(numB x0 x2))), (7, vb false), (6, vi 0), (1, V.t (T.list (List.length x1) 2 (List.flatMap askedC x1))), (2, vi x2)], []⟩) (by kernel_rfl) ⟨(F_impl_areAsked_W x0 x1 (20 : Int) r10 c0), h1, (isNumber_C x0 x2), trivial⟩ ?_
      exact ⟨(!(numB x0 x2)), h, rfl⟩
  · -- from there
    intro v17 h0
    have h := (show J1 v17 = some (y0, y1) from h0)
    rw [hJ1] at h
    rcases ite_some h with ⟨h2, h⟩ | ⟨h2, h⟩
    · -- yes
      refine WP.cond (b := v17) rfl (fun _ => ?_) (fun hh => by rw [h2] at hh; cases hh)
      simp only [Option.some.injEq, Prod.mk.injEq] at h
      obtain ⟨rfl, rfl⟩ := h
      exact WP.pathW tab_ok mixed [] _ (ps := []) (r := T.tup [ti 0, tb false]) (by kernel_rfl) trivial (WkT.eq (y := T.tup [ti 0, tb false]) (WkT.refl _) (by first | rfl | (simp only [tlS, tl, vl, vo, oc, ov, tbl, vbl, ty, vy] <;> rfl) | (simp <;> omega) | (simp []; done) | (rw [List.take_of_length_le (by simp [])] <;> rfl) | (simp [List.take_of_length_le]; done))) (fun _ h => h)
    · -- no
      refine WP.cond (b := v17) rfl (fun hh => by rw [h2] at hh; cases hh) (fun _ => ?_)
      refine WP.path tab_ok mixed [] [.keep [7, 6, 1, 2], .keepO []] (ps := []) (e := .normal) (σ' := ⟨[], [(7, vb false), (6, vi 0), (1, V.t (T.list (List.length x1) 2 (List.flatMap askedC x1))), (2, vi x2)], []⟩) (by kernel_rfl) trivial ?_
      obtain ⟨r20, c0, h⟩ := bnd1_some h
      simp only [Option.some.injEq, Prod.mk.injEq] at h
      obtain ⟨rfl, rfl⟩ := h
      exact WP.pathW tab_ok mixed [(20, An.call (ti r20))] _ (ps := [(C Tryd.prog 131 [T.list (List.length x1) 2 (List.flatMap askedC x1), ti x2] (ti r20))]) (r := T.tup [ti r20, tb true]) (by kernel_rfl) ⟨(F_impl_falseFor_W x1 x2 r20 c0), trivial⟩ (WkT.eq (y := T.tup [ti r20, tb true]) (WkT.refl _) rfl) (fun _ h => h)
theorem F_spec_l2Many_W (x0 : List (Int × Bool)) (x1 : Int) (y0 : Int) (h : F_spec_l2Many x0 x1 = some y0) : C Tryd.prog 132 [T.list (List.length x0) 2 (List.flatMap askedC x0), ti x1] (ti y0) := by
  unfold F_spec_l2Many at h
  refine C.intro (tab := tab) tab_ok (fn := Tryd.f132) Tryd.func132 (by kernel_rfl) rfl (Nat.le_of_ble_eq_true rfl) ?_
  refine WP.seq ?_
  refine WP.path tab_ok mixed [] [.keep [4, 0, 1], .keepO []] (ps := []) (e := .normal) (σ' := ⟨[], [(4, vi 0), (0, V.t (T.list (List.length x0) 2 (List.flatMap askedC x0))), (1, vi x1)], []⟩) (by kernel_rfl) trivial ?_
  refine WP.seq ?_
  refine WP.path tab_ok mixed [] [.keep [5, 4, 0, 1], .keepO []] (ps := []) (e := .normal) (σ' := ⟨[], [(5, vi 0), (4, vi 0), (0, V.t (T.list (List.length x0) 2 (List.flatMap askedC x0))), (1, vi x1)], []⟩) (by kernel_rfl) trivial ?_
  obtain ⟨J1, hJ1, h⟩ := jn_some h
  refine WP.joinA (fun (zz : Int) => ⟨[], [(5, vi zz), (4, vi 0)], []⟩) (fun zz => J1 zz = some y0) ?_ ?_
  · -- to where they meet
    refine WP.seq ?_
    refine WP.path tab_ok mixed [] [.keep [6, 5, 4, 0, 1], .keepO []] (ps := []) (e := .normal) (σ' := ⟨[], [(6, vi 0), (5, vi 0), (4, vi 0), (0, V.t (T.list (List.length x0) 2 (List.flatMap askedC x0))), (1, vi x1)], []⟩) (by kernel_rfl) trivial ?_
    refine WP.block ?_
    refine WP.wk [.keep [6, 5, 4, 0, 1], .keepO [], .names []] (σ' := ⟨[], [(6, vi 0), (5, vi 0), (4, vi 0), (0, V.t (T.list (List.length x0) 2 (List.flatMap askedC x0))), (1, vi x1)], []⟩) (ps := []) (by kernel_rfl) trivial ?_
    refine WP.st (σ' := ⟨[], [(6, vi (0 : Int)), (5, vi (0 : Int)), (4, vi 0), (0, V.t (T.list (List.length x0) 2 (List.flatMap askedC x0))), (1, vi x1)], []⟩) (by first | rfl | (simp only [tlS, tl, vl, vo, oc, ov, tbl, vbl, ty, vy] <;> rfl) | (simp <;> omega) | (simp []; done) | (rw [List.take_of_length_le (by simp [])] <;> rfl) | (simp [List.take_of_length_le]; done)) ?_
    refine WP.loop (α := Nat × Int × Int) (fun zz => ⟨[], [(6, vi zz.2.1), (5, vi zz.2.2), (4, vi 0), (0, V.t (T.list (List.length x0) 2 (List.flatMap askedC x0))), (1, vi x1)], []⟩) (fun zz => F_spec_l2Many_L1 x0 x1 J1 zz.1 zz.2.1 zz.2.2 = some y0) (fun zz => zz.1) (fuel, (0 : Int), (0 : Int)) h ?_
    rintro ⟨n, v6, v5⟩ h0
    have h := (show F_spec_l2Many_L1 x0 x1 J1 n v6 v5 = some y0 from h0)
    rcases n with _ | n
    · rw [F_spec_l2Many_L1] at h; cases h
    · rw [F_spec_l2Many_L1] at h
      refine WP.seq ?_
      refine WP.seq ?_
      refine WP.path tab_ok mixed [] [.keep [10, 6, 5, 4, 0, 1], .keepO []] (ps := [(True)]) (e := .normal) (σ' := ⟨[], [(10, vb (decide (v6 < ((List.length x0 : Nat) : Int)))), (6, vi v6), (5, vi v5), (4, vi 0), (0, V.t (T.list (List.length x0) 2 (List.flatMap askedC x0))), (1, vi x1)], []⟩) (by kernel_rfl) ⟨trivial, trivial⟩ ?_
      rcases ite_some h with ⟨h1, h⟩ | ⟨h1, h⟩
      · -- yes
        refine WP.cond (b := decide (v6 < ((List.length x0 : Nat) : Int))) rfl (fun _ => ?_) (fun hh => by rw [h1] at hh; cases hh)
        refine WP.path tab_ok mixed [] [.keep [6, 5, 4, 0, 1], .keepO []] (ps := []) (e := .normal) (σ' := ⟨[], [(6, vi v6), (5, vi v5), (4, vi 0), (0, V.t (T.list (List.length x0) 2 (List.flatMap askedC x0))), (1, vi x1)], []⟩) (by kernel_rfl) trivial ?_
        refine WP.seq ?_
        refine WP.block ?_
        refine WP.seq ?_
        obtain ⟨c0, h⟩ := chk_some h
        obtain ⟨c1, h⟩ := chk_some h
        refine WP.path tab_ok mixed [(17, An.v (ti ((List.getD x0 (Int.toNat v6) (0, false)).1))), (22, An.v (tb ((List.getD x0 (Int.toNat v6) (0, false)).2))), (24, An.call (tb (falseB ((List.getD x0 (Int.toNat v6) (0, false)).1) ((List.getD x0 (Int.toNat v6) (0, false)).2) x1)))] [.keep [24, 6, 5, 4, 0, 1], .keepO []] (ps := [((0 ≤ v6 ∧ v6 < ((List.length x0 : Nat) : Int))), ((List.drop ((Int.toNat v6) * 2) (List.flatMap askedC x0) : List T)[0]? = some (ti ((List.getD x0 (Int.toNat v6) (0, false)).1))), (ti ((List.getD x0 (Int.toNat v6) (0, false)).1) = ti ((List.getD x0 (Int.toNat v6) (0, false)).1)), ((0 ≤ v6 ∧ v6 < ((List.length x0 : Nat) : Int))), ((List.drop 1 (List.drop ((Int.toNat v6) * 2) (List.flatMap askedC x0)) : List T)[0]? = some (tb ((List.getD x0 (Int.toNat v6) (0, false)).2))), (tb ((List.getD x0 (Int.toNat v6) (0, false)).2) = tb ((List.getD x0 (Int.toNat v6) (0, false)).2)), (C Tryd.prog 159 [ti ((List.getD x0 (Int.toNat v6) (0, false)).1), tb ((List.getD x0 (Int.toNat v6) (0, false)).2), ti x1] (tb (falseB ((List.getD x0 (Int.toNat v6) (0, false)).1) ((List.getD x0 (Int.toNat v6) (0, false)).2) x1)))]) (e := .normal) (σ' := ⟨[], [(24, vb (falseB ((List.getD x0 (Int.toNat v6) (0, false)).1) ((List.getD x0 (Int.toNat v6) (0, false)).2) x1)), (6, vi v6), (5, vi v5), (4, vi 0), (0, V.t (T.list (List.length x0) 2 (List.flatMap askedC x0))), (1, vi x1)], []⟩) (by kernel_rfl) ⟨c0, fld0_asked (by simp) (by omega) rfl, rfl, c0, fld_asked (by simp) (by omega) rfl, rfl, (l2False_C ((List.getD x0 (Int.toNat v6) (0, false)).1) ((List.getD x0 (Int.toNat v6) (0, false)).2) x1 c1), trivial⟩ ?_
        rcases ite_some h with ⟨h2, h⟩ | ⟨h2, h⟩
        · -- yes
          refine WP.cond (b := falseB ((List.getD x0 (Int.toNat v6) (0, false)).1) ((List.getD x0 (Int.toNat v6) (0, false)).2) x1) rfl (fun _ => ?_) (fun hh => by rw [h2] at hh; cases hh)
          obtain ⟨c2, h⟩ := chk_some h
          refine WP.path tab_ok mixed [(26, An.v (T.int .i64 (v5 + (1 : Int))))] [.keep [5, 6, 4, 0, 1], .keepO []] (ps := [(True), (T.int .i64 (IntKind.wrap .i64 (v5 + (1 : Int))) = T.int .i64 (v5 + (1 : Int)))]) (e := .normal) (σ' := ⟨[], [(5, vi (v5 + (1 : Int))), (6, vi v6), (4, vi 0), (0, V.t (T.list (List.length x0) 2 (List.flatMap askedC x0))), (1, vi x1)], []⟩) (by kernel_rfl) ⟨trivial, wrapI c2, trivial⟩ ?_
          obtain ⟨c3, h⟩ := chk_some h
          refine WP.path tab_ok mixed [(12, An.v (T.int .i64 (v6 + (1 : Int))))] [.keep [6, 5, 4, 0, 1], .keepO [], .names []] (ps := [(True), (T.int .i64 (IntKind.wrap .i64 (v6 + (1 : Int))) = T.int .i64 (v6 + (1 : Int)))]) (e := .normal) (σ' := ⟨[], [(6, vi (v6 + (1 : Int))), (5, vi (v5 + (1 : Int))), (4, vi 0), (0, V.t (T.list (List.length x0) 2 (List.flatMap askedC x0))), (1, vi x1)], []⟩) (by kernel_rfl) ⟨trivial, wrapI c3, trivial⟩ ?_
          exact ⟨(n, (v6 + (1 : Int)), (v5 + (1 : Int))), h, Nat.lt_succ_self _, rfl⟩
        · -- no
          refine WP.cond (b := falseB ((List.getD x0 (Int.toNat v6) (0, false)).1) ((List.getD x0 (Int.toNat v6) (0, false)).2) x1) rfl (fun hh => by rw [h2] at hh; cases hh) (fun _ => ?_)
          refine WP.path tab_ok mixed [] [.keep [6, 5, 4, 0, 1], .keepO []] (ps := []) (e := .normal) (σ' := ⟨[], [(6, vi v6), (5, vi v5), (4, vi 0), (0, V.t (T.list (List.length x0) 2 (List.flatMap askedC x0))), (1, vi x1)], []⟩) (by kernel_rfl) trivial ?_
          obtain ⟨c2, h⟩ := chk_some h
          refine WP.path tab_ok mixed [(12, An.v (T.int .i64 (v6 + (1 : Int))))] [.keep [6, 5, 4, 0, 1], .keepO [], .names []] (ps := [(True), (T.int .i64 (IntKind.wrap .i64 (v6 + (1 : Int))) = T.int .i64 (v6 + (1 : Int)))]) (e := .normal) (σ' := ⟨[], [(6, vi (v6 + (1 : Int))), (5, vi v5), (4, vi 0), (0, V.t (T.list (List.length x0) 2 (List.flatMap askedC x0))), (1, vi x1)], []⟩) (by kernel_rfl) ⟨trivial, wrapI c2, trivial⟩ ?_
          exact ⟨(n, (v6 + (1 : Int)), v5), h, Nat.lt_succ_self _, rfl⟩
      · -- no
        refine WP.cond (b := decide (v6 < ((List.length x0 : Nat) : Int))) rfl (fun hh => by rw [h1] at hh; cases hh) (fun _ => ?_)
        refine WP.path tab_ok mixed [] [.keep [5, 4], .keepO [], .names []] (ps := []) (e := (.exit 0)) (σ' := ⟨[], [(5, vi v5), (4, vi 0)], []⟩) (by kernel_rfl) trivial ?_
        exact ⟨(v5), h, rfl⟩
  · -- from there
    intro v5 h0
    have h := (show J1 v5 = some y0 from h0)
    rw [hJ1] at h
    have h := Option.some.inj h
    subst h
    exact WP.pathW tab_ok mixed [] _ (ps := []) (r := ti v5) (by kernel_rfl) trivial (WkT.eq (y := ti v5) (WkT.refl _) rfl) (fun _ h => h)
theorem F_spec_FalseFor_W (x0 : Int) (x1 : List (Int × Bool)) (x2 : Int) (y0 : Int) (y1 : Bool) (h : F_spec_FalseFor x0 x1 x2 = some (y0, y1)) : C Tryd.prog 73 [ti x0, T.list (List.length x1) 2 (List.flatMap askedC x1), ti x2] (T.tup [ti y0, tb y1]) := by
  unfold F_spec_FalseFor at h
  refine C.intro (tab := tab) tab_ok (fn := Tryd.f73) Tryd.func73 (by kernel_rfl) rfl (Nat.le_of_ble_eq_true rfl) ?_
  refine WP.seq ?_
  refine WP.path tab_ok mixed [] [.keep [7, 6, 0, 1, 2], .keepO []] (ps := []) (e := .normal) (σ' := ⟨[], [(7, vb false), (6, vi 0), (0, vi x0), (1, V.t (T.list (List.length x1) 2 (List.flatMap askedC x1))), (2, vi x2)], []⟩) (by kernel_rfl) trivial ?_
  refine WP.seq ?_
  obtain ⟨J1, hJ1, h⟩ := jn_some h
  refine WP.joinA (fun (zz : Bool) => ⟨[], [(18, vb zz), (7, vb false), (6, vi 0), (1, V.t (T.list (List.length x1) 2 (List.flatMap askedC x1))), (2, vi x2)], []⟩) (fun zz => J1 zz = some (y0, y1)) ?_ ?_
  · -- to where they meet
    obtain ⟨r10, c0, h⟩ := bnd1_some h
    rcases ite_some h with ⟨h1, h⟩ | ⟨h1, h⟩
    · -- yes
      refine WP.path tab_ok mixed [(10, An.call (tb r10)), (12, An.b true)] [.keep [18, 7, 6, 1, 2], .keepO [], .names []] (ps := [(C Tryd.prog 111 [ti x0, T.list (List.length x1) 2 (List.flatMap askedC x1)] (tb r10)), ((!r10) = true)]) (e := .normal) (σ' := ⟨[], [(18, vb true), (7, vb false), (6, vi 0), (1, V.t (T.list (List.length x1) 2 (List.flatMap askedC x1))), (2, vi x2)], []⟩) (by kernel_rfl) ⟨(F_spec_l2Answers_W x0 x1 r10 c0), h1, trivial⟩ ?_
      exact ⟨(true), h, rfl⟩
    · -- no
      obtain ⟨c1, h⟩ := chk_some h
      refine WP.path tab_ok mixed [(10, An.call (tb r10)), (12, An.b false), (15, An.v (T.int .i64 (x0 - (1 : Int)))), (16, An.call (tb (decide (x2 ≥ (0 : Int)) && decide (x2 ≤ (x0 - (1 : Int))))))] [.keep [18, 7, 6, 1, 2], .keepO [], .names []] (ps := [(C Tryd.prog 111 [ti x0, T.list (List.length x1) 2 (List.flatMap askedC x1)] (tb r10)), ((!r10) = false), (True), (T.int .i64 (IntKind.wrap .i64 (x0 - (1 : Int))) = T.int .i64 (x0 - (1 : Int))), (C Tryd.prog 80 [ti x2, ti 0, ti (x0 - (1 : Int))] (tb (decide (x2 ≥ (0 : Int)) && decide (x2 ≤ (x0 - (1 : Int))))))]) (e := .normal) (σ' := ⟨[], [(18, vb (!(decide (x2 ≥ (0 : Int)) && decide (x2 ≤ (x0 - (1 : Int)))))), (7, vb false), (6, vi 0), (1, V.t (T.list (List.length x1) 2 (List.flatMap askedC x1))), (2, vi x2)], []⟩) (by kernel_rfl) ⟨(F_spec_l2Answers_W x0 x1 r10 c0), h1, trivial, wrapI c1, (by have hh := (l1In_C x2 (0 : Int) (x0 - (1 : Int))); first | exact hh | simpa using hh), trivial⟩ ?_
      exact ⟨(!(decide (x2 ≥ (0 : Int)) && decide (x2 ≤ (x0 - (1 : Int))))), h, rfl⟩
  · -- from there
    intro v18 h0
    have h := (show J1 v18 = some (y0, y1) from h0)
    rw [hJ1] at h
    rcases ite_some h with ⟨h2, h⟩ | ⟨h2, h⟩
    · -- yes
      refine WP.cond (b := v18) rfl (fun _ => ?_) (fun hh => by rw [h2] at hh; cases hh)
      simp only [Option.some.injEq, Prod.mk.injEq] at h
      obtain ⟨rfl, rfl⟩ := h
      exact WP.pathW tab_ok mixed [] _ (ps := []) (r := T.tup [ti 0, tb false]) (by kernel_rfl) trivial (WkT.eq (y := T.tup [ti 0, tb false]) (WkT.refl _) (by first | rfl | (simp only [tlS, tl, vl, vo, oc, ov, tbl, vbl, ty, vy] <;> rfl) | (simp <;> omega) | (simp []; done) | (rw [List.take_of_length_le (by simp [])] <;> rfl) | (simp [List.take_of_length_le]; done))) (fun _ h => h)
    · -- no
      refine WP.cond (b := v18) rfl (fun hh => by rw [h2] at hh; cases hh) (fun _ => ?_)
      refine WP.path tab_ok mixed [] [.keep [7, 6, 1, 2], .keepO []] (ps := []) (e := .normal) (σ' := ⟨[], [(7, vb false), (6, vi 0), (1, V.t (T.list (List.length x1) 2 (List.flatMap askedC x1))), (2, vi x2)], []⟩) (by kernel_rfl) trivial ?_
      obtain ⟨r21, c0, h⟩ := bnd1_some h
      simp only [Option.some.injEq, Prod.mk.injEq] at h
      obtain ⟨rfl, rfl⟩ := h
      exact WP.pathW tab_ok mixed [(21, An.call (ti r21))] _ (ps := [(C Tryd.prog 132 [T.list (List.length x1) 2 (List.flatMap askedC x1), ti x2] (ti r21))]) (r := T.tup [ti r21, tb true]) (by kernel_rfl) ⟨(F_spec_l2Many_W x1 x2 r21 c0), trivial⟩ (WkT.eq (y := T.tup [ti r21, tb true]) (WkT.refl _) rfl) (fun _ h => h)
theorem F_spec_DrawFewestFalse_W (x0 : List Int) (y0 : Int) (y1 : List (Int × Bool)) (h : F_spec_DrawFewestFalse x0 = some (y0, y1)) : CG Tryd.prog 74 [vy x0] [] (V.tup [vi y0, V.own 9000 2 (List.length y1)]) [(9000, oc 90 (List.flatMap askedC y1))] := by
  unfold F_spec_DrawFewestFalse at h
  refine CG.intro (tab := tab) tab_ok (fn := Tryd.f74) Tryd.func74 (by kernel_rfl) rfl (Nat.le_of_ble_eq_true rfl) (by kernel_rfl) ?_
  obtain ⟨r10, r10b, r10c, r10d, c0, h⟩ := bnd4_some h
  obtain ⟨r14, r14b, r14c, r14d, c1, h⟩ := bnd4_some h
  simp only [Option.some.injEq, Prod.mk.injEq] at h
  obtain ⟨rfl, rfl⟩ := h
  exact WP.pathG tab_ok mixed [(8, An.id 2008), (10, An.callG [(500, 2008)] [V.ref 500 0] [(500, oc 127 [ty x0, ti 0, T.int .u64 0])] (vi r10) [(500, oc 127 [ty r10b, ti r10c, T.int .u64 r10d])]), (14, An.callG [(500, 2008), (9000, 10140)] [V.ref 500 0, vi r10] [(500, oc 127 [ty r10b, ti r10c, T.int .u64 r10d])] (V.own 9000 2 (List.length r14)) [(500, oc 127 [ty r14b, ti r14c, T.int .u64 r14d]), (9000, oc 90 (List.flatMap askedC r14))])] [.keep [2, 3], .keepO [10140], .names [(10140, 9000)]] [9000] _ (r' := V.tup [vi r10, V.own 9000 2 (List.length r14)]) (ps := [((1 = 1 ∧ 0 + 1 ≤ 3) ∧ True), (CG Tryd.prog 104 [V.ref 500 0] [(500, oc 127 [ty x0, ti 0, T.int .u64 0])] (vi r10) [(500, oc 127 [ty r10b, ti r10c, T.int .u64 r10d])]), ((V.ref 500 0).ren (renF [(500, 2008)]) = V.ref 2008 0), ((oc 127 [ty x0, ti 0, T.int .u64 0]) = (oc 127 [ty x0, ti 0, T.int .u64 0]).ren (renF [(500, 2008)])), (CG Tryd.prog 106 [V.ref 500 0, vi r10] [(500, oc 127 [ty r10b, ti r10c, T.int .u64 r10d])] (V.own 9000 2 (List.length r14)) [(500, oc 127 [ty r14b, ti r14c, T.int .u64 r14d]), (9000, oc 90 (List.flatMap askedC r14))]), ((V.ref 500 0).ren (renF [(500, 2008), (9000, 10140)]) = V.ref 2008 0), (WkT (ti r10) (ti r10)), ((oc 127 [ty r10b, ti r10c, T.int .u64 r10d]) = (oc 127 [ty r10b, ti r10c, T.int .u64 r10d]).ren (renF [(500, 2008), (9000, 10140)]))]) (r := V.tup [vi r10, V.own 9000 2 (List.length r14)]) (N := [9000]) (O := [(9000, oc 90 (List.flatMap askedC r14))]) [] (by kernel_rfl) ⟨⟨⟨by first | rfl | (simp; done) | (simp []; done) | omega, by first | decide | (simp; done) | (simp []; done) | omega | (simp only [tlL]; omega) | (simp; omega)⟩, trivial⟩, (F_p_spec_l1Cur_many_W x0 (0 : Int) (0 : Int) r10 r10b r10c r10d c0), by first | rfl | (simp [V.ren, V.renL, renF, lk]; done) | (simp [V.ren, V.renL, renF, lk]; omega), by first | rfl | (simp only [tlS]; rfl) | (simp [Tl.Obj.ren, V.ren, V.renL, renF, lk]; done), (F_p_spec_l1Cur_asked_W r10b r10c r10d r10 r14 r14b r14c r14d c1), by first | rfl | (simp [V.ren, V.renL, renF, lk]; done) | (simp [V.ren, V.renL, renF, lk]; omega), WkT.refl _, by first | rfl | (simp only [tlS]; rfl) | (simp [Tl.Obj.ren, V.ren, V.renL, renF, lk]; done), trivial⟩ ⟨(WkT.refl _), rfl, trivial⟩ rfl rfl (fun _ h => h)
theorem F_spec_DrawFewestFalse_W_C (x0 : List Int) (y0 : Int) (y1 : List (Int × Bool)) (h : F_spec_DrawFewestFalse x0 = some (y0, y1)) : C Tryd.prog 74 [ty x0] (T.tup [ti y0, T.list (List.length y1) 2 (List.flatMap askedC y1)]) :=
  CG.toC (ps := [(List.length (List.flatMap askedC y1) = (List.length y1) * 2)]) (F_spec_DrawFewestFalse_W  x0 y0 y1 h) (by rfl) ⟨by first | exact len_asked _ | (rw [len_asked]; first | done | omega | (simp; done) | (simp; omega)), trivial⟩
theorem F_impl_leastOf_W (x0 : Int) (g1 : FuncId) (pre1 caps1 : List T) (p1 : Int → Option (Int)) (hp1 : ∀ (a1_0 : Int) (b1_1 : Int), p1 a1_0 = some b1_1 → C Tryd.prog g1 (pre1 ++ ([ti a1_0] ++ caps1)) (ti b1_1)) (y0 : Int) (y1 : List Int) (h : F_impl_leastOf x0 p1 = some (y0, y1)) : CG Tryd.prog 133 [vi x0, V.t (T.fn g1 pre1 caps1)] [] (V.tup [vi y0, vo 9000 (List.length y1)]) [(9000, oc 3 (List.map (T.int .i64) y1))] := by
  unfold F_impl_leastOf at h
  refine CG.intro (tab := tab) tab_ok (fn := Tryd.f133) Tryd.func133 (by kernel_rfl) rfl (Nat.le_of_ble_eq_true rfl) (by kernel_rfl) ?_
  refine WP.seq ?_
  refine WP.path tab_ok mixed [] [.keep [5, 4, 0, 1], .keepO []] (ps := []) (e := .normal) (σ' := ⟨[], [(5, V.t (T.nils)), (4, vi 0), (0, vi x0), (1, V.t (T.fn g1 pre1 caps1))], []⟩) (by kernel_rfl) trivial ?_
  refine WP.seq ?_
  refine WP.path tab_ok mixed [(10, An.id 2010)] [.keep [7, 6, 5, 4, 0, 1], .keepO [2010]] (ps := [(True), (0 = 0 * 1)]) (e := .normal) (σ' := ⟨[2010], [(7, vo 2010 0), (6, vi 0), (5, V.t (T.nils)), (4, vi 0), (0, vi x0), (1, V.t (T.fn g1 pre1 caps1))], [(2010, oc 3 [])]⟩) (by kernel_rfl) ⟨trivial, by decide, trivial⟩ ?_
  obtain ⟨J1, hJ1, h⟩ := jn_some h
  refine WP.joinA (fun (zz : (List Int) × Int) => ⟨[2010], [(7, vo 2010 (List.length zz.1)), (6, vi zz.2), (5, V.t (T.nils)), (4, vi 0)], [(2010, oc 3 (List.map (T.int .i64) zz.1))]⟩) (fun zz => J1 zz.1 zz.2 = some (y0, y1)) ?_ ?_
  · -- to where they meet
    refine WP.seq ?_
    refine WP.path tab_ok mixed [] [.keep [12, 11, 7, 6, 5, 4, 1], .keepO [2010]] (ps := []) (e := .normal) (σ' := ⟨[2010], [(12, vi 0), (11, vi x0), (7, vo 2010 0), (6, vi 0), (5, V.t (T.nils)), (4, vi 0), (1, V.t (T.fn g1 pre1 caps1))], [(2010, oc 3 [])]⟩) (by kernel_rfl) trivial ?_
    refine WP.block ?_
    refine WP.wk [.keep [12, 11, 7, 6, 5, 4, 1], .keepO [2010], .names [(2010, 2010)]] (σ' := ⟨[2010], [(12, vi 0), (11, vi x0), (7, vo 2010 0), (6, vi 0), (5, V.t (T.nils)), (4, vi 0), (1, V.t (T.fn g1 pre1 caps1))], [(2010, oc 3 [])]⟩) (ps := []) (by kernel_rfl) trivial ?_
    refine WP.st (σ' := ⟨[2010], [(12, vi (0 : Int)), (11, vi x0), (7, vo 2010 (List.length ([] : List Int))), (6, vi (0 : Int)), (5, V.t (T.nils)), (4, vi 0), (1, V.t (T.fn g1 pre1 caps1))], [(2010, oc 3 (List.map (T.int .i64) ([] : List Int)))]⟩) (by first | rfl | (simp only [tlS, tl, vl, vo, oc, ov, tbl, vbl, ty, vy] <;> rfl) | (simp <;> omega) | (simp []; done) | (rw [List.take_of_length_le (by simp [])] <;> rfl) | (simp [List.take_of_length_le]; done)) ?_
    refine WP.loop (α := Nat × (List Int) × Int × Int) (fun zz => ⟨[2010], [(12, vi zz.2.2.1), (11, vi x0), (7, vo 2010 (List.length zz.2.1)), (6, vi zz.2.2.2), (5, V.t (T.nils)), (4, vi 0), (1, V.t (T.fn g1 pre1 caps1))], [(2010, oc 3 (List.map (T.int .i64) zz.2.1))]⟩) (fun zz => F_impl_leastOf_L1 x0 p1 J1 zz.1 zz.2.1 zz.2.2.1 zz.2.2.2 = some (y0, y1)) (fun zz => zz.1) (fuel, ([] : List Int), (0 : Int), (0 : Int)) h ?_
    rintro ⟨n, o10, v12, v6⟩ h0
    have h := (show F_impl_leastOf_L1 x0 p1 J1 n o10 v12 v6 = some (y0, y1) from h0)
    rcases n with _ | n
    · rw [F_impl_leastOf_L1] at h; cases h
    · rw [F_impl_leastOf_L1] at h
      refine WP.seq ?_
      refine WP.path tab_ok mixed [] [.keep [13, 12, 11, 7, 6, 5, 4, 1], .keepO [2010]] (ps := [(True)]) (e := .normal) (σ' := ⟨[2010], [(13, vb (decide (v12 < x0))), (12, vi v12), (11, vi x0), (7, vo 2010 (List.length o10)), (6, vi v6), (5, V.t (T.nils)), (4, vi 0), (1, V.t (T.fn g1 pre1 caps1))], [(2010, oc 3 (List.map (T.int .i64) o10))]⟩) (by kernel_rfl) ⟨trivial, trivial⟩ ?_
      refine WP.seq ?_
      rcases ite_some h with ⟨h1, h⟩ | ⟨h1, h⟩
      · -- yes
        refine WP.cond (b := decide (v12 < x0)) rfl (fun _ => ?_) (fun hh => by rw [h1] at hh; cases hh)
        refine WP.path tab_ok mixed [] [.keep [12, 11, 7, 6, 5, 4, 1], .keepO [2010]] (ps := []) (e := .normal) (σ' := ⟨[2010], [(12, vi v12), (11, vi x0), (7, vo 2010 (List.length o10)), (6, vi v6), (5, V.t (T.nils)), (4, vi 0), (1, V.t (T.fn g1 pre1 caps1))], [(2010, oc 3 (List.map (T.int .i64) o10))]⟩) (by kernel_rfl) trivial ?_
        refine WP.seq ?_
        refine WP.block ?_
        refine WP.seq ?_
        refine WP.path tab_ok mixed [] [.keep [8, 12, 11, 7, 6, 5, 4, 1], .keepO [2010]] (ps := []) (e := .normal) (σ' := ⟨[2010], [(8, vi v12), (12, vi v12), (11, vi x0), (7, vo 2010 (List.length o10)), (6, vi v6), (5, V.t (T.nils)), (4, vi 0), (1, V.t (T.fn g1 pre1 caps1))], [(2010, oc 3 (List.map (T.int .i64) o10))]⟩) (by kernel_rfl) trivial ?_
        refine WP.seq ?_
        obtain ⟨r17, c0, h⟩ := bnd1_some h
        refine WP.path tab_ok mixed [(17, An.call (ti r17))] [.keep [9, 8, 12, 11, 7, 6, 5, 4, 1], .keepO [2010]] (ps := [(C Tryd.prog g1 (pre1 ++ ([ti v12] ++ caps1)) (ti r17))]) (e := .normal) (σ' := ⟨[2010], [(9, vi r17), (8, vi v12), (12, vi v12), (11, vi x0), (7, vo 2010 (List.length o10)), (6, vi v6), (5, V.t (T.nils)), (4, vi 0), (1, V.t (T.fn g1 pre1 caps1))], [(2010, oc 3 (List.map (T.int .i64) o10))]⟩) (by kernel_rfl) ⟨(hp1 v12 r17 c0), trivial⟩ ?_
        obtain ⟨J2, hJ2, h⟩ := jn_some h
        refine WP.joinA (fun (zz : (List Int) × Int) => ⟨[600007], [(7, vo 600007 (List.length zz.1)), (6, vi zz.2), (9, vi r17), (8, vi v12), (12, vi v12), (11, vi x0), (5, V.t (T.nils)), (4, vi 0), (1, V.t (T.fn g1 pre1 caps1))], [(600007, oc 3 (List.map (T.int .i64) zz.1))]⟩) (fun zz => J2 zz.1 zz.2 = some (y0, y1)) ?_ ?_
        · -- to where they meet
          obtain ⟨J3, hJ3, h⟩ := jn_some h
          refine WP.joinA (fun (zz : Bool) => ⟨[2010], [(25, vb zz), (9, vi r17), (8, vi v12), (12, vi v12), (11, vi x0), (7, vo 2010 (List.length o10)), (6, vi v6), (5, V.t (T.nils)), (4, vi 0), (1, V.t (T.fn g1 pre1 caps1))], [(2010, oc 3 (List.map (T.int .i64) o10))]⟩) (fun zz => J3 zz = some (y0, y1)) ?_ ?_
          · -- to where they meet
            rcases ite_some h with ⟨h2, h⟩ | ⟨h2, h⟩
            · -- yes
              refine WP.path tab_ok mixed [(20, An.b true)] [.keep [25, 9, 8, 12, 11, 7, 6, 5, 4, 1], .keepO [2010], .names [(2010, 2010)]] (ps := [(True), ((((List.length o10 : Nat) : Int) == (0 : Int)) = true)]) (e := .normal) (σ' := ⟨[2010], [(25, vb true), (9, vi r17), (8, vi v12), (12, vi v12), (11, vi x0), (7, vo 2010 (List.length o10)), (6, vi v6), (5, V.t (T.nils)), (4, vi 0), (1, V.t (T.fn g1 pre1 caps1))], [(2010, oc 3 (List.map (T.int .i64) o10))]⟩) (by kernel_rfl) ⟨trivial, h2, trivial⟩ ?_
              exact ⟨(true), h, rfl⟩
            · -- no
              refine WP.path tab_ok mixed [(20, An.b false)] [.keep [25, 9, 8, 12, 11, 7, 6, 5, 4, 1], .keepO [2010], .names [(2010, 2010)]] (ps := [(True), ((((List.length o10 : Nat) : Int) == (0 : Int)) = false), (True)]) (e := .normal) (σ' := ⟨[2010], [(25, vb (decide (r17 < v6))), (9, vi r17), (8, vi v12), (12, vi v12), (11, vi x0), (7, vo 2010 (List.length o10)), (6, vi v6), (5, V.t (T.nils)), (4, vi 0), (1, V.t (T.fn g1 pre1 caps1))], [(2010, oc 3 (List.map (T.int .i64) o10))]⟩) (by kernel_rfl) ⟨trivial, h2, trivial, trivial⟩ ?_
              exact ⟨(decide (r17 < v6)), h, rfl⟩
          · -- from there
            intro v25 h0
            have h := (show J3 v25 = some (y0, y1) from h0)
            rw [hJ3] at h
            rcases ite_some h with ⟨h3, h⟩ | ⟨h3, h⟩
            · -- yes
              refine WP.cond (b := v25) rfl (fun _ => ?_) (fun hh => by rw [h3] at hh; cases hh)
              refine WP.path tab_ok mixed [] [.adopt 7 (vo 600007 0) [(600007, 3)], .keep [7, 6, 9, 8, 12, 11, 5, 4, 1], .keepO [600007], .names [(600007, 600007)]] (ps := [(((0 : Nat) = 0))]) (e := .normal) (σ' := ⟨[600007], [(7, vo 600007 0), (6, vi r17), (9, vi r17), (8, vi v12), (12, vi v12), (11, vi x0), (5, V.t (T.nils)), (4, vi 0), (1, V.t (T.fn g1 pre1 caps1))], [(600007, oc 3 [])]⟩) (by kernel_rfl) ⟨rfl, trivial⟩ ?_
              exact ⟨(([] : List Int), r17), h, (by first | rfl | (simp only [tlS, tl, vl, vo, oc, ov, tbl, vbl, ty, vy] <;> rfl) | (simp <;> omega) | (simp []; done) | (rw [List.take_of_length_le (by simp [])] <;> rfl) | (simp [List.take_of_length_le]; done))⟩
            · -- no
              refine WP.cond (b := v25) rfl (fun hh => by rw [h3] at hh; cases hh) (fun _ => ?_)
              refine WP.path tab_ok mixed [] [.keep [7, 6, 9, 8, 12, 11, 5, 4, 1], .keepO [2010], .names [(2010, 600007)]] (ps := []) (e := .normal) (σ' := ⟨[600007], [(7, vo 600007 (List.length o10)), (6, vi v6), (9, vi r17), (8, vi v12), (12, vi v12), (11, vi x0), (5, V.t (T.nils)), (4, vi 0), (1, V.t (T.fn g1 pre1 caps1))], [(600007, oc 3 (List.map (T.int .i64) o10))]⟩) (by kernel_rfl) trivial ?_
              exact ⟨(o10, v6), h, rfl⟩
        · -- from there
          rintro ⟨o600007, v6b⟩ h0
          have h := (show J2 o600007 v6b = some (y0, y1) from h0)
          rw [hJ2] at h
          refine WP.seq ?_
          refine WP.path tab_ok mixed [] [.keep [29, 7, 6, 8, 12, 11, 5, 4, 1], .keepO [600007]] (ps := [(True)]) (e := .normal) (σ' := ⟨[600007], [(29, vb (r17 == v6b)), (7, vo 600007 (List.length o600007)), (6, vi v6b), (8, vi v12), (12, vi v12), (11, vi x0), (5, V.t (T.nils)), (4, vi 0), (1, V.t (T.fn g1 pre1 caps1))], [(600007, oc 3 (List.map (T.int .i64) o600007))]⟩) (by kernel_rfl) ⟨trivial, trivial⟩ ?_
          rcases ite_some h with ⟨h4, h⟩ | ⟨h4, h⟩
          · -- yes
            refine WP.cond (b := r17 == v6b) rfl (fun _ => ?_) (fun hh => by rw [h4] at hh; cases hh)
            obtain ⟨c1, h⟩ := chk_some h
            refine WP.path tab_ok mixed [(32, An.fz), (33, An.id 2033)] [.keep [7, 6, 12, 11, 5, 4, 1], .keepO [2033]] (ps := [((1 = 1 ∧ 0 + 1 ≤ 1) ∧ True), (1 = 1 * 1), (True), (List.length (List.map (T.int .i64) o600007) = (List.length o600007) * 1), ((((List.length o600007) + 1) * 8 ≤ 140737488355328 ∧ (List.length o600007) + 1 ≤ maxLen))]) (e := .normal) (σ' := ⟨[2033, 600007], [(7, vo 2033 ((List.length o600007) + 1)), (6, vi v6b), (12, vi v12), (11, vi x0), (5, V.t (T.nils)), (4, vi 0), (1, V.t (T.fn g1 pre1 caps1))], [(2033, oc 3 ((List.map (T.int .i64) o600007) ++ [ti v12]))]⟩) (by kernel_rfl) ⟨⟨⟨by first | rfl | (simp; done) | (simp []; done) | omega, by first | decide | (simp; done) | (simp []; done) | omega | (simp only [tlL]; omega) | (simp; omega)⟩, trivial⟩, by decide, trivial, by first | rfl | omega | (simp only [tlL] <;> omega) | (simp <;> omega) | (simp [] <;> omega), c1, trivial⟩ ?_
            obtain ⟨c2, h⟩ := chk_some h
            refine WP.path tab_ok mixed [(34, An.v (T.int .i64 (v12 + (1 : Int))))] [.keep [12, 11, 7, 6, 5, 4, 1], .keepO [2033], .names [(2033, 2010)]] (ps := [(True), (T.int .i64 (IntKind.wrap .i64 (v12 + (1 : Int))) = T.int .i64 (v12 + (1 : Int)))]) (e := .normal) (σ' := ⟨[2010], [(12, vi (v12 + (1 : Int))), (11, vi x0), (7, vo 2010 ((List.length o600007) + 1)), (6, vi v6b), (5, V.t (T.nils)), (4, vi 0), (1, V.t (T.fn g1 pre1 caps1))], [(2010, oc 3 ((List.map (T.int .i64) o600007) ++ [ti v12]))]⟩) (by kernel_rfl) ⟨trivial, wrapI c2, trivial⟩ ?_
            exact ⟨(n, o600007 ++ [v12], (v12 + (1 : Int)), v6b), h, Nat.lt_succ_self _, (by first | rfl | (simp only [tlS, tl, vl, vo, oc, ov, tbl, vbl, ty, vy] <;> rfl) | (simp <;> omega) | (simp []; done) | (rw [List.take_of_length_le (by simp [])] <;> rfl) | (simp [List.take_of_length_le]; done))⟩
          · -- no
            refine WP.cond (b := r17 == v6b) rfl (fun hh => by rw [h4] at hh; cases hh) (fun _ => ?_)
            refine WP.path tab_ok mixed [] [.keep [7, 6, 12, 11, 5, 4, 1], .keepO [600007]] (ps := []) (e := .normal) (σ' := ⟨[600007], [(7, vo 600007 (List.length o600007)), (6, vi v6b), (12, vi v12), (11, vi x0), (5, V.t (T.nils)), (4, vi 0), (1, V.t (T.fn g1 pre1 caps1))], [(600007, oc 3 (List.map (T.int .i64) o600007))]⟩) (by kernel_rfl) trivial ?_
            obtain ⟨c1, h⟩ := chk_some h
            refine WP.path tab_ok mixed [(34, An.v (T.int .i64 (v12 + (1 : Int))))] [.keep [12, 11, 7, 6, 5, 4, 1], .keepO [600007], .names [(600007, 2010)]] (ps := [(True), (T.int .i64 (IntKind.wrap .i64 (v12 + (1 : Int))) = T.int .i64 (v12 + (1 : Int)))]) (e := .normal) (σ' := ⟨[2010], [(12, vi (v12 + (1 : Int))), (11, vi x0), (7, vo 2010 (List.length o600007)), (6, vi v6b), (5, V.t (T.nils)), (4, vi 0), (1, V.t (T.fn g1 pre1 caps1))], [(2010, oc 3 (List.map (T.int .i64) o600007))]⟩) (by kernel_rfl) ⟨trivial, wrapI c1, trivial⟩ ?_
            exact ⟨(n, o600007, (v12 + (1 : Int)), v6b), h, Nat.lt_succ_self _, rfl⟩
      · -- no
        refine WP.cond (b := decide (v12 < x0)) rfl (fun hh => by rw [h1] at hh; cases hh) (fun _ => ?_)
        refine WP.path tab_ok mixed [] [.keep [7, 6, 5, 4], .keepO [2010], .names [(2010, 2010)]] (ps := []) (e := (.exit 0)) (σ' := ⟨[2010], [(7, vo 2010 (List.length o10)), (6, vi v6), (5, V.t (T.nils)), (4, vi 0)], [(2010, oc 3 (List.map (T.int .i64) o10))]⟩) (by kernel_rfl) trivial ?_
        exact ⟨(o10, v6), h, rfl⟩
  · -- from there
    rintro ⟨o10, v6⟩ h0
    have h := (show J1 o10 v6 = some (y0, y1) from h0)
    rw [hJ1] at h
    simp only [Option.some.injEq, Prod.mk.injEq] at h
    obtain ⟨rfl, rfl⟩ := h
    exact WP.pathG tab_ok mixed [] [.keep [4, 5], .keepO [2010], .names [(2010, 9000)]] [9000] _ (r' := V.tup [vi v6, vo 9000 (List.length o10)]) (ps := []) (r := V.tup [vi v6, vo 9000 (List.length o10)]) (N := [9000]) (O := [(9000, oc 3 (List.map (T.int .i64) o10))]) [] (by kernel_rfl) trivial ⟨(WkT.refl _), rfl, trivial⟩ rfl rfl (fun _ h => h)
theorem F_impl_leastOf_W_C (x0 : Int) (g1 : FuncId) (pre1 caps1 : List T) (p1 : Int → Option (Int)) (hp1 : ∀ (a1_0 : Int) (b1_1 : Int), p1 a1_0 = some b1_1 → C Tryd.prog g1 (pre1 ++ ([ti a1_0] ++ caps1)) (ti b1_1)) (y0 : Int) (y1 : List Int) (h : F_impl_leastOf x0 p1 = some (y0, y1)) : C Tryd.prog 133 [ti x0, T.fn g1 pre1 caps1] (T.tup [ti y0, tl y1]) :=
  CG.toC (ps := [(List.length (List.map (T.int .i64) y1) = (List.length y1) * 1)]) (F_impl_leastOf_W  x0 g1 pre1 caps1 p1 hp1 y0 y1 h) (by rfl) ⟨by first | rfl | omega | (simp <;> omega) | (simp [hl] <;> omega), trivial⟩
theorem F_impl_FewestFalse_1_W (x0 : Int) (x1 : List (Int × Bool)) (y0 : Int) (h : F_impl_FewestFalse_1 x0 x1 = some y0) : C Tryd.prog 134 [ti x0, T.ptr [T.list (List.length x1) 2 (List.flatMap askedC x1)]] (ti y0) := by
  unfold F_impl_FewestFalse_1 at h
  refine C.intro (tab := tab) tab_ok (fn := Tryd.f134) Tryd.func134 (by kernel_rfl) rfl (Nat.le_of_ble_eq_true rfl) ?_
  obtain ⟨r6, c0, h⟩ := bnd1_some h
  have h := Option.some.inj h
  subst h
  exact WP.pathW tab_ok mixed [(6, An.call (ti r6))] _ (ps := [(True), (C Tryd.prog 131 [T.list (List.length x1) 2 (List.flatMap askedC x1), ti x0] (ti r6))]) (r := ti r6) (by kernel_rfl) ⟨trivial, (F_impl_falseFor_W x1 x0 r6 c0), trivial⟩ (WkT.eq (y := ti r6) (WkT.refl _) rfl) (fun _ h => h)
theorem F_impl_FewestFalse_W (x0 : Int) (x1 : List (Int × Bool)) (y0 : Int) (y1 : List Int) (y2 : Bool) (h : F_impl_FewestFalse x0 x1 = some (y0, y1, y2)) : CG Tryd.prog 75 [vi x0, V.t (T.list (List.length x1) 2 (List.flatMap askedC x1))] [] (V.tup [vi y0, vo 9000 (List.length y1), vb y2]) [(9000, oc 3 (List.map (T.int .i64) y1))] := by
  unfold F_impl_FewestFalse at h
  refine CG.intro (tab := tab) tab_ok (fn := Tryd.f75) Tryd.func75 (by kernel_rfl) rfl (Nat.le_of_ble_eq_true rfl) (by kernel_rfl) ?_
  refine WP.seq ?_
  refine WP.path tab_ok mixed [(3, An.fz)] [.keep [6, 5, 4, 3, 0], .keepO []] (ps := []) (e := .normal) (σ' := ⟨[], [(6, vb false), (5, V.t (T.nils)), (4, vi 0), (3, V.t (T.ptr [T.list (List.length x1) 2 (List.flatMap askedC x1)])), (0, vi x0)], []⟩) (by kernel_rfl) trivial ?_
  refine WP.seq ?_
  refine WP.seq ?_
  obtain ⟨r11, c0, h⟩ := bnd1_some h
  refine WP.path tab_ok mixed [(11, An.call (tb r11))] [.keep [12, 6, 5, 4, 3, 0], .keepO []] (ps := [(True), (C Tryd.prog 107 [ti x0, T.list (List.length x1) 2 (List.flatMap askedC x1), ti 20] (tb r11))]) (e := .normal) (σ' := ⟨[], [(12, vb (!r11)), (6, vb false), (5, V.t (T.nils)), (4, vi 0), (3, V.t (T.ptr [T.list (List.length x1) 2 (List.flatMap askedC x1)])), (0, vi x0)], []⟩) (by kernel_rfl) ⟨trivial, (F_impl_areAsked_W x0 x1 (20 : Int) r11 c0), trivial⟩ ?_
  rcases ite_some h with ⟨h1, h⟩ | ⟨h1, h⟩
  · -- yes
    refine WP.cond (b := !r11) rfl (fun _ => ?_) (fun hh => by rw [h1] at hh; cases hh)
    simp only [Option.some.injEq, Prod.mk.injEq] at h
    obtain ⟨rfl, rfl, rfl⟩ := h
    exact WP.pathG tab_ok mixed [] [.keep [4, 5, 6], .keepO [], .names []] [] _ (r' := V.tup [vi (0 : Int), vo 9000 (List.length ([] : List Int)), vb false]) (ps := []) (r := V.t (T.tup [ti 0, T.nils, tb false])) (N := []) (O := []) [(9000, 3)] (by kernel_rfl) trivial ⟨(WkT.eq (WkT.refl _) (by first | rfl | (simp only [tlS, tl, vl, vo, oc, ov, tbl, vbl, ty, vy] <;> rfl) | (simp <;> omega) | (simp []; done) | (rw [List.take_of_length_le (by simp [])] <;> rfl) | (simp [List.take_of_length_le]; done))), (by first | rfl | (simp; done)), (WkT.refl _), trivial⟩ rfl rfl (fun _ h => h)
  · -- no
    refine WP.cond (b := !r11) rfl (fun hh => by rw [h1] at hh; cases hh) (fun _ => ?_)
    refine WP.path tab_ok mixed [] [.keep [6, 5, 4, 3, 0], .keepO []] (ps := []) (e := .normal) (σ' := ⟨[], [(6, vb false), (5, V.t (T.nils)), (4, vi 0), (3, V.t (T.ptr [T.list (List.length x1) 2 (List.flatMap askedC x1)])), (0, vi x0)], []⟩) (by kernel_rfl) trivial ?_
    obtain ⟨r16, r16b, c1, h⟩ := bnd2_some h
    simp only [Option.some.injEq, Prod.mk.injEq] at h
    obtain ⟨rfl, rfl, rfl⟩ := h
    exact WP.pathG tab_ok mixed [(16, An.callG [(9000, 10160)] [vi x0, V.t (T.fn 134 [] [T.ptr [T.list (List.length x1) 2 (List.flatMap askedC x1)]])] [] (V.tup [vi r16, vo 9000 (List.length r16b)]) [(9000, oc 3 (List.map (T.int .i64) r16b))])] [.keep [4, 5, 6], .keepO [10160], .names [(10160, 9000)]] [9000] _ (r' := V.tup [vi r16, vo 9000 (List.length r16b), vb true]) (ps := [(CG Tryd.prog 133 [vi x0, V.t (T.fn 134 [] [T.ptr [T.list (List.length x1) 2 (List.flatMap askedC x1)]])] [] (V.tup [vi r16, vo 9000 (List.length r16b)]) [(9000, oc 3 (List.map (T.int .i64) r16b))]), (WkT (ti x0) (ti x0)), (WkT (T.fn 134 [] [T.ptr [T.list (List.length x1) 2 (List.flatMap askedC x1)]]) (T.fn 134 [] [T.ptr [T.list (List.length x1) 2 (List.flatMap askedC x1)]]))]) (r := V.tup [vi r16, vo 9000 (List.length r16b), vb true]) (N := [9000]) (O := [(9000, oc 3 (List.map (T.int .i64) r16b))]) [] (by kernel_rfl) ⟨(F_impl_leastOf_W x0 134 [] [T.ptr [T.list (List.length x1) 2 (List.flatMap askedC x1)]] (fun u0 => F_impl_FewestFalse_1 u0 x1) (fun u0 w0 hh => F_impl_FewestFalse_1_W u0 x1 w0 hh) r16 r16b c1), WkT.refl _, WkT.refl _, trivial⟩ ⟨(WkT.refl _), rfl, (WkT.refl _), trivial⟩ rfl rfl (fun _ h => h)
theorem F_impl_FewestFalse_W_C (x0 : Int) (x1 : List (Int × Bool)) (y0 : Int) (y1 : List Int) (y2 : Bool) (h : F_impl_FewestFalse x0 x1 = some (y0, y1, y2)) : C Tryd.prog 75 [ti x0, T.list (List.length x1) 2 (List.flatMap askedC x1)] (T.tup [ti y0, tl y1, tb y2]) :=
  CG.toC (ps := [(List.length (List.map (T.int .i64) y1) = (List.length y1) * 1)]) (F_impl_FewestFalse_W  x0 x1 y0 y1 y2 h) (by rfl) ⟨by first | rfl | omega | (simp <;> omega) | (simp [hl] <;> omega), trivial⟩
theorem F_spec_FewestFalse_W (x0 : Int) (x1 : List (Int × Bool)) (y0 : Int) (y1 : List Int) (y2 : Bool) (h : F_spec_FewestFalse x0 x1 = some (y0, y1, y2)) : CG Tryd.prog 76 [vi x0, V.t (T.list (List.length x1) 2 (List.flatMap askedC x1))] [] (V.tup [vi y0, vo 9000 (List.length y1), vb y2]) [(9000, oc 3 (List.map (T.int .i64) y1))] := by
  unfold F_spec_FewestFalse at h
  refine CG.intro (tab := tab) tab_ok (fn := Tryd.f76) Tryd.func76 (by kernel_rfl) rfl (Nat.le_of_ble_eq_true rfl) (by kernel_rfl) ?_
  refine WP.seq ?_
  refine WP.path tab_ok mixed [] [.keep [6, 5, 4, 0, 1], .keepO []] (ps := []) (e := .normal) (σ' := ⟨[], [(6, vb false), (5, V.t (T.nils)), (4, vi 0), (0, vi x0), (1, V.t (T.list (List.length x1) 2 (List.flatMap askedC x1)))], []⟩) (by kernel_rfl) trivial ?_
  refine WP.seq ?_
  refine WP.path tab_ok mixed [(11, An.id 2011)] [.keep [8, 7, 6, 5, 4, 0, 1], .keepO [2011]] (ps := [(True), (0 = 0 * 1)]) (e := .normal) (σ' := ⟨[2011], [(8, vi 21), (7, vo 2011 0), (6, vb false), (5, V.t (T.nils)), (4, vi 0), (0, vi x0), (1, V.t (T.list (List.length x1) 2 (List.flatMap askedC x1)))], [(2011, oc 3 [])]⟩) (by kernel_rfl) ⟨trivial, by decide, trivial⟩ ?_
  refine WP.seq ?_
  refine WP.seq ?_
  obtain ⟨r14, c0, h⟩ := bnd1_some h
  refine WP.path tab_ok mixed [(14, An.call (tb r14))] [.keep [15, 8, 7, 6, 5, 4, 0, 1], .keepO [2011]] (ps := [(C Tryd.prog 111 [ti x0, T.list (List.length x1) 2 (List.flatMap askedC x1)] (tb r14))]) (e := .normal) (σ' := ⟨[2011], [(15, vb (!r14)), (8, vi 21), (7, vo 2011 0), (6, vb false), (5, V.t (T.nils)), (4, vi 0), (0, vi x0), (1, V.t (T.list (List.length x1) 2 (List.flatMap askedC x1)))], [(2011, oc 3 [])]⟩) (by kernel_rfl) ⟨(F_spec_l2Answers_W x0 x1 r14 c0), trivial⟩ ?_
  rcases ite_some h with ⟨h1, h⟩ | ⟨h1, h⟩
  · -- yes
    refine WP.cond (b := !r14) rfl (fun _ => ?_) (fun hh => by rw [h1] at hh; cases hh)
    simp only [Option.some.injEq, Prod.mk.injEq] at h
    obtain ⟨rfl, rfl, rfl⟩ := h
    exact WP.pathG tab_ok mixed [] [.keep [4, 5, 6], .keepO [2011], .names [(2011, 9000)]] [9000] _ (r' := V.tup [vi (0 : Int), vo 9000 (List.length []), vb false]) (ps := []) (r := V.tup [vi 0, vo 9000 0, vb false]) (N := [9000]) (O := [(9000, oc 3 [])]) [] (by kernel_rfl) trivial ⟨(WkT.eq (WkT.refl _) (by first | rfl | (simp only [tlS, tl, vl, vo, oc, ov, tbl, vbl, ty, vy] <;> rfl) | (simp <;> omega) | (simp []; done) | (rw [List.take_of_length_le (by simp [])] <;> rfl) | (simp [List.take_of_length_le]; done))), (congrArg (V.own 9000 1) (by first | rfl | (simp only [tlS, tl, vl, vo, oc, ov, tbl, vbl, ty, vy] <;> rfl) | (simp <;> omega) | (simp []; done) | (rw [List.take_of_length_le (by simp [])] <;> rfl) | (simp [List.take_of_length_le]; done))), (WkT.refl _), trivial⟩ rfl (by first | rfl | (simp only [tlS, tl, vl, vo, oc, ov, tbl, vbl, ty, vy] <;> rfl) | (simp <;> omega) | (simp []; done) | (rw [List.take_of_length_le (by simp [])] <;> rfl) | (simp [List.take_of_length_le]; done)) (fun _ h => h)
  · -- no
    refine WP.cond (b := !r14) rfl (fun hh => by rw [h1] at hh; cases hh) (fun _ => ?_)
    refine WP.path tab_ok mixed [] [.keep [8, 7, 6, 5, 4, 0, 1], .keepO [2011]] (ps := []) (e := .normal) (σ' := ⟨[2011], [(8, vi 21), (7, vo 2011 0), (6, vb false), (5, V.t (T.nils)), (4, vi 0), (0, vi x0), (1, V.t (T.list (List.length x1) 2 (List.flatMap askedC x1)))], [(2011, oc 3 [])]⟩) (by kernel_rfl) trivial ?_
    obtain ⟨J1, hJ1, h⟩ := jn_some h
    refine WP.joinA (fun (zz : (List Int) × Int) => ⟨[2011], [(8, vi zz.2), (7, vo 2011 (List.length zz.1)), (6, vb false), (5, V.t (T.nils)), (4, vi 0)], [(2011, oc 3 (List.map (T.int .i64) zz.1))]⟩) (fun zz => J1 zz.1 zz.2 = some (y0, y1, y2)) ?_ ?_
    · -- to where they meet
      refine WP.seq ?_
      refine WP.path tab_ok mixed [] [.keep [9, 8, 7, 6, 5, 4, 0, 1], .keepO [2011]] (ps := []) (e := .normal) (σ' := ⟨[2011], [(9, vi 0), (8, vi 21), (7, vo 2011 0), (6, vb false), (5, V.t (T.nils)), (4, vi 0), (0, vi x0), (1, V.t (T.list (List.length x1) 2 (List.flatMap askedC x1)))], [(2011, oc 3 [])]⟩) (by kernel_rfl) trivial ?_
      refine WP.block ?_
      refine WP.wk [.keep [9, 8, 7, 6, 5, 4, 0, 1], .keepO [2011], .names [(2011, 2011)]] (σ' := ⟨[2011], [(9, vi 0), (8, vi 21), (7, vo 2011 0), (6, vb false), (5, V.t (T.nils)), (4, vi 0), (0, vi x0), (1, V.t (T.list (List.length x1) 2 (List.flatMap askedC x1)))], [(2011, oc 3 [])]⟩) (ps := []) (by kernel_rfl) trivial ?_
      refine WP.st (σ' := ⟨[2011], [(9, vi (0 : Int)), (8, vi (21 : Int)), (7, vo 2011 (List.length ([] : List Int))), (6, vb false), (5, V.t (T.nils)), (4, vi 0), (0, vi x0), (1, V.t (T.list (List.length x1) 2 (List.flatMap askedC x1)))], [(2011, oc 3 (List.map (T.int .i64) ([] : List Int)))]⟩) (by first | rfl | (simp only [tlS, tl, vl, vo, oc, ov, tbl, vbl, ty, vy] <;> rfl) | (simp <;> omega) | (simp []; done) | (rw [List.take_of_length_le (by simp [])] <;> rfl) | (simp [List.take_of_length_le]; done)) ?_
      refine WP.loop (α := Nat × (List Int) × Int × Int) (fun zz => ⟨[2011], [(9, vi zz.2.2.1), (8, vi zz.2.2.2), (7, vo 2011 (List.length zz.2.1)), (6, vb false), (5, V.t (T.nils)), (4, vi 0), (0, vi x0), (1, V.t (T.list (List.length x1) 2 (List.flatMap askedC x1)))], [(2011, oc 3 (List.map (T.int .i64) zz.2.1))]⟩) (fun zz => F_spec_FewestFalse_L1 x0 x1 J1 zz.1 zz.2.1 zz.2.2.1 zz.2.2.2 = some (y0, y1, y2)) (fun zz => zz.1) (fuel, ([] : List Int), (0 : Int), (21 : Int)) h ?_
      rintro ⟨n, o11, v9, v8⟩ h0
      have h := (show F_spec_FewestFalse_L1 x0 x1 J1 n o11 v9 v8 = some (y0, y1, y2) from h0)
      rcases n with _ | n
      · rw [F_spec_FewestFalse_L1] at h; cases h
      · rw [F_spec_FewestFalse_L1] at h
        refine WP.seq ?_
        refine WP.seq ?_
        refine WP.path tab_ok mixed [] [.keep [19, 9, 8, 7, 6, 5, 4, 0, 1], .keepO [2011]] (ps := [(True)]) (e := .normal) (σ' := ⟨[2011], [(19, vb (decide (v9 < x0))), (9, vi v9), (8, vi v8), (7, vo 2011 (List.length o11)), (6, vb false), (5, V.t (T.nils)), (4, vi 0), (0, vi x0), (1, V.t (T.list (List.length x1) 2 (List.flatMap askedC x1)))], [(2011, oc 3 (List.map (T.int .i64) o11))]⟩) (by kernel_rfl) ⟨trivial, trivial⟩ ?_
        rcases ite_some h with ⟨h2, h⟩ | ⟨h2, h⟩
        · -- yes
          refine WP.cond (b := decide (v9 < x0)) rfl (fun _ => ?_) (fun hh => by rw [h2] at hh; cases hh)
          refine WP.path tab_ok mixed [] [.keep [9, 8, 7, 6, 5, 4, 0, 1], .keepO [2011]] (ps := []) (e := .normal) (σ' := ⟨[2011], [(9, vi v9), (8, vi v8), (7, vo 2011 (List.length o11)), (6, vb false), (5, V.t (T.nils)), (4, vi 0), (0, vi x0), (1, V.t (T.list (List.length x1) 2 (List.flatMap askedC x1)))], [(2011, oc 3 (List.map (T.int .i64) o11))]⟩) (by kernel_rfl) trivial ?_
          refine WP.seq ?_
          refine WP.block ?_
          refine WP.seq ?_
          obtain ⟨r24, c1, h⟩ := bnd1_some h
          refine WP.path tab_ok mixed [(24, An.call (ti r24))] [.keep [10, 9, 8, 7, 6, 5, 4, 0, 1], .keepO [2011]] (ps := [(C Tryd.prog 132 [T.list (List.length x1) 2 (List.flatMap askedC x1), ti v9] (ti r24))]) (e := .normal) (σ' := ⟨[2011], [(10, vi r24), (9, vi v9), (8, vi v8), (7, vo 2011 (List.length o11)), (6, vb false), (5, V.t (T.nils)), (4, vi 0), (0, vi x0), (1, V.t (T.list (List.length x1) 2 (List.flatMap askedC x1)))], [(2011, oc 3 (List.map (T.int .i64) o11))]⟩) (by kernel_rfl) ⟨(F_spec_l2Many_W x1 v9 r24 c1), trivial⟩ ?_
          obtain ⟨J2, hJ2, h⟩ := jn_some h
          refine WP.joinA (fun (zz : (List Int) × Int) => ⟨[2029], [(7, vo 2029 (List.length zz.1)), (8, vi zz.2), (10, vi r24), (9, vi v9), (6, vb false), (5, V.t (T.nils)), (4, vi 0), (0, vi x0), (1, V.t (T.list (List.length x1) 2 (List.flatMap askedC x1)))], [(2029, oc 3 (List.map (T.int .i64) zz.1))]⟩) (fun zz => J2 zz.1 zz.2 = some (y0, y1, y2)) ?_ ?_
          · -- to where they meet
            refine WP.seq ?_
            refine WP.path tab_ok mixed [] [.keep [27, 10, 9, 8, 7, 6, 5, 4, 0, 1], .keepO [2011]] (ps := [(True)]) (e := .normal) (σ' := ⟨[2011], [(27, vb (decide (r24 < v8))), (10, vi r24), (9, vi v9), (8, vi v8), (7, vo 2011 (List.length o11)), (6, vb false), (5, V.t (T.nils)), (4, vi 0), (0, vi x0), (1, V.t (T.list (List.length x1) 2 (List.flatMap askedC x1)))], [(2011, oc 3 (List.map (T.int .i64) o11))]⟩) (by kernel_rfl) ⟨trivial, trivial⟩ ?_
            rcases ite_some h with ⟨h3, h⟩ | ⟨h3, h⟩
            · -- yes
              refine WP.cond (b := decide (r24 < v8)) rfl (fun _ => ?_) (fun hh => by rw [h3] at hh; cases hh)
              refine WP.path tab_ok mixed [(29, An.id 2029)] [.keep [7, 8, 10, 9, 6, 5, 4, 0, 1], .keepO [2029], .names [(2029, 2029)]] (ps := [(True), (0 = 0 * 1)]) (e := .normal) (σ' := ⟨[2029], [(7, vo 2029 0), (8, vi r24), (10, vi r24), (9, vi v9), (6, vb false), (5, V.t (T.nils)), (4, vi 0), (0, vi x0), (1, V.t (T.list (List.length x1) 2 (List.flatMap askedC x1)))], [(2029, oc 3 [])]⟩) (by kernel_rfl) ⟨trivial, by decide, trivial⟩ ?_
              exact ⟨(([] : List Int), r24), h, (by first | rfl | (simp only [tlS, tl, vl, vo, oc, ov, tbl, vbl, ty, vy] <;> rfl) | (simp <;> omega) | (simp []; done) | (rw [List.take_of_length_le (by simp [])] <;> rfl) | (simp [List.take_of_length_le]; done))⟩
            · -- no
              refine WP.cond (b := decide (r24 < v8)) rfl (fun hh => by rw [h3] at hh; cases hh) (fun _ => ?_)
              refine WP.path tab_ok mixed [] [.keep [7, 8, 10, 9, 6, 5, 4, 0, 1], .keepO [2011], .names [(2011, 2029)]] (ps := []) (e := .normal) (σ' := ⟨[2029], [(7, vo 2029 (List.length o11)), (8, vi v8), (10, vi r24), (9, vi v9), (6, vb false), (5, V.t (T.nils)), (4, vi 0), (0, vi x0), (1, V.t (T.list (List.length x1) 2 (List.flatMap askedC x1)))], [(2029, oc 3 (List.map (T.int .i64) o11))]⟩) (by kernel_rfl) trivial ?_
              exact ⟨(o11, v8), h, rfl⟩
          · -- from there
            rintro ⟨o29, v8b⟩ h0
            have h := (show J2 o29 v8b = some (y0, y1, y2) from h0)
            rw [hJ2] at h
            refine WP.seq ?_
            refine WP.path tab_ok mixed [] [.keep [32, 7, 8, 9, 6, 5, 4, 0, 1], .keepO [2029]] (ps := [(True)]) (e := .normal) (σ' := ⟨[2029], [(32, vb (r24 == v8b)), (7, vo 2029 (List.length o29)), (8, vi v8b), (9, vi v9), (6, vb false), (5, V.t (T.nils)), (4, vi 0), (0, vi x0), (1, V.t (T.list (List.length x1) 2 (List.flatMap askedC x1)))], [(2029, oc 3 (List.map (T.int .i64) o29))]⟩) (by kernel_rfl) ⟨trivial, trivial⟩ ?_
            rcases ite_some h with ⟨h4, h⟩ | ⟨h4, h⟩
            · -- yes
              refine WP.cond (b := r24 == v8b) rfl (fun _ => ?_) (fun hh => by rw [h4] at hh; cases hh)
              obtain ⟨c2, h⟩ := chk_some h
              refine WP.path tab_ok mixed [(35, An.fz), (36, An.id 2036)] [.keep [7, 8, 9, 6, 5, 4, 0, 1], .keepO [2036]] (ps := [((1 = 1 ∧ 0 + 1 ≤ 1) ∧ True), (1 = 1 * 1), (True), (List.length (List.map (T.int .i64) o29) = (List.length o29) * 1), ((((List.length o29) + 1) * 8 ≤ 140737488355328 ∧ (List.length o29) + 1 ≤ maxLen))]) (e := .normal) (σ' := ⟨[2036, 2029], [(7, vo 2036 ((List.length o29) + 1)), (8, vi v8b), (9, vi v9), (6, vb false), (5, V.t (T.nils)), (4, vi 0), (0, vi x0), (1, V.t (T.list (List.length x1) 2 (List.flatMap askedC x1)))], [(2036, oc 3 ((List.map (T.int .i64) o29) ++ [ti v9]))]⟩) (by kernel_rfl) ⟨⟨⟨by first | rfl | (simp; done) | (simp []; done) | omega, by first | decide | (simp; done) | (simp []; done) | omega | (simp only [tlL]; omega) | (simp; omega)⟩, trivial⟩, by decide, trivial, by first | rfl | omega | (simp only [tlL] <;> omega) | (simp <;> omega) | (simp [] <;> omega), c2, trivial⟩ ?_
              obtain ⟨c3, h⟩ := chk_some h
              refine WP.path tab_ok mixed [(21, An.v (T.int .i64 (v9 + (1 : Int))))] [.keep [9, 8, 7, 6, 5, 4, 0, 1], .keepO [2036], .names [(2036, 2011)]] (ps := [(True), (T.int .i64 (IntKind.wrap .i64 (v9 + (1 : Int))) = T.int .i64 (v9 + (1 : Int)))]) (e := .normal) (σ' := ⟨[2011], [(9, vi (v9 + (1 : Int))), (8, vi v8b), (7, vo 2011 ((List.length o29) + 1)), (6, vb false), (5, V.t (T.nils)), (4, vi 0), (0, vi x0), (1, V.t (T.list (List.length x1) 2 (List.flatMap askedC x1)))], [(2011, oc 3 ((List.map (T.int .i64) o29) ++ [ti v9]))]⟩) (by kernel_rfl) ⟨trivial, wrapI c3, trivial⟩ ?_
              exact ⟨(n, o29 ++ [v9], (v9 + (1 : Int)), v8b), h, Nat.lt_succ_self _, (by first | rfl | (simp only [tlS, tl, vl, vo, oc, ov, tbl, vbl, ty, vy] <;> rfl) | (simp <;> omega) | (simp []; done) | (rw [List.take_of_length_le (by simp [])] <;> rfl) | (simp [List.take_of_length_le]; done))⟩
            · -- no
              refine WP.cond (b := r24 == v8b) rfl (fun hh => by rw [h4] at hh; cases hh) (fun _ => ?_)
              refine WP.path tab_ok mixed [] [.keep [7, 8, 9, 6, 5, 4, 0, 1], .keepO [2029]] (ps := []) (e := .normal) (σ' := ⟨[2029], [(7, vo 2029 (List.length o29)), (8, vi v8b), (9, vi v9), (6, vb false), (5, V.t (T.nils)), (4, vi 0), (0, vi x0), (1, V.t (T.list (List.length x1) 2 (List.flatMap askedC x1)))], [(2029, oc 3 (List.map (T.int .i64) o29))]⟩) (by kernel_rfl) trivial ?_
              obtain ⟨c2, h⟩ := chk_some h
              refine WP.path tab_ok mixed [(21, An.v (T.int .i64 (v9 + (1 : Int))))] [.keep [9, 8, 7, 6, 5, 4, 0, 1], .keepO [2029], .names [(2029, 2011)]] (ps := [(True), (T.int .i64 (IntKind.wrap .i64 (v9 + (1 : Int))) = T.int .i64 (v9 + (1 : Int)))]) (e := .normal) (σ' := ⟨[2011], [(9, vi (v9 + (1 : Int))), (8, vi v8b), (7, vo 2011 (List.length o29)), (6, vb false), (5, V.t (T.nils)), (4, vi 0), (0, vi x0), (1, V.t (T.list (List.length x1) 2 (List.flatMap askedC x1)))], [(2011, oc 3 (List.map (T.int .i64) o29))]⟩) (by kernel_rfl) ⟨trivial, wrapI c2, trivial⟩ ?_
              exact ⟨(n, o29, (v9 + (1 : Int)), v8b), h, Nat.lt_succ_self _, rfl⟩
        · -- no
          refine WP.cond (b := decide (v9 < x0)) rfl (fun hh => by rw [h2] at hh; cases hh) (fun _ => ?_)
          refine WP.path tab_ok mixed [] [.keep [8, 7, 6, 5, 4], .keepO [2011], .names [(2011, 2011)]] (ps := []) (e := (.exit 0)) (σ' := ⟨[2011], [(8, vi v8), (7, vo 2011 (List.length o11)), (6, vb false), (5, V.t (T.nils)), (4, vi 0)], [(2011, oc 3 (List.map (T.int .i64) o11))]⟩) (by kernel_rfl) trivial ?_
          exact ⟨(o11, v8), h, rfl⟩
    · -- from there
      rintro ⟨o11, v8⟩ h0
      have h := (show J1 o11 v8 = some (y0, y1, y2) from h0)
      rw [hJ1] at h
      simp only [Option.some.injEq, Prod.mk.injEq] at h
      obtain ⟨rfl, rfl, rfl⟩ := h
      exact WP.pathG tab_ok mixed [] [.keep [4, 5, 6], .keepO [2011], .names [(2011, 9000)]] [9000] _ (r' := V.tup [vi v8, vo 9000 (List.length o11), vb true]) (ps := []) (r := V.tup [vi v8, vo 9000 (List.length o11), vb true]) (N := [9000]) (O := [(9000, oc 3 (List.map (T.int .i64) o11))]) [] (by kernel_rfl) trivial ⟨(WkT.refl _), rfl, (WkT.refl _), trivial⟩ rfl rfl (fun _ h => h)
theorem F_spec_FewestFalse_W_C (x0 : Int) (x1 : List (Int × Bool)) (y0 : Int) (y1 : List Int) (y2 : Bool) (h : F_spec_FewestFalse x0 x1 = some (y0, y1, y2)) : C Tryd.prog 76 [ti x0, T.list (List.length x1) 2 (List.flatMap askedC x1)] (T.tup [ti y0, tl y1, tb y2]) :=
  CG.toC (ps := [(List.length (List.map (T.int .i64) y1) = (List.length y1) * 1)]) (F_spec_FewestFalse_W  x0 x1 y0 y1 y2 h) (by rfl) ⟨by first | rfl | omega | (simp <;> omega) | (simp [hl] <;> omega), trivial⟩
theorem F_impl_OpenNumbers_W (x0 : List Int) (x1 : Int) (y0 : List Int) (y1 : Bool) (h : F_impl_OpenNumbers x0 x1 = some (y0, y1)) : CG Tryd.prog 79 [V.t (T.agg [tl x0, ti x1])] [] (V.tup [vo 9000 (List.length y0), vb y1]) [(9000, oc 3 (List.map (T.int .i64) y0))] := by
  unfold F_impl_OpenNumbers at h
  refine CG.intro (tab := tab) tab_ok (fn := Tryd.f79) Tryd.func79 (by kernel_rfl) rfl (Nat.le_of_ble_eq_true rfl) (by kernel_rfl) ?_
  refine WP.seq ?_
  refine WP.path tab_ok mixed [(1, An.fz)] [.keep [3, 2, 1], .keepO []] (ps := []) (e := .normal) (σ' := ⟨[], [(3, vb false), (2, V.t (T.nils)), (1, V.t (T.ptr [tl x0, ti x1]))], []⟩) (by kernel_rfl) trivial ?_
  refine WP.seq ?_
  refine WP.seq ?_
  obtain ⟨c0, h⟩ := chk_some h
  refine WP.path tab_ok mixed [(5, An.call (tb (isStateN x0 x1)))] [.keep [6, 3, 2, 1], .keepO []] (ps := [(2 ≤ 2), (C Tryd.prog 67 [T.agg [tl x0, ti x1]] (tb (isStateN x0 x1)))]) (e := .normal) (σ' := ⟨[], [(6, vb (!(isStateN x0 x1))), (3, vb false), (2, V.t (T.nils)), (1, V.t (T.ptr [tl x0, ti x1]))], []⟩) (by kernel_rfl) ⟨by decide, (isState_C x0 x1 c0), trivial⟩ ?_
  rcases ite_some h with ⟨h1, h⟩ | ⟨h1, h⟩
  · -- yes
    refine WP.cond (b := !(isStateN x0 x1)) rfl (fun _ => ?_) (fun hh => by rw [h1] at hh; cases hh)
    simp only [Option.some.injEq, Prod.mk.injEq] at h
    obtain ⟨rfl, rfl⟩ := h
    exact WP.pathG tab_ok mixed [] [.keep [2, 3], .keepO [], .names []] [] _ (r' := V.tup [vo 9000 (List.length ([] : List Int)), vb false]) (ps := []) (r := V.t (T.tup [T.nils, tb false])) (N := []) (O := []) [(9000, 3)] (by kernel_rfl) trivial ⟨(by first | rfl | (simp; done)), (WkT.refl _), trivial⟩ rfl rfl (fun _ h => h)
  · -- no
    refine WP.cond (b := !(isStateN x0 x1)) rfl (fun hh => by rw [h1] at hh; cases hh) (fun _ => ?_)
    refine WP.path tab_ok mixed [] [.keep [3, 2, 1], .keepO []] (ps := []) (e := .normal) (σ' := ⟨[], [(3, vb false), (2, V.t (T.nils)), (1, V.t (T.ptr [tl x0, ti x1]))], []⟩) (by kernel_rfl) trivial ?_
    obtain ⟨c1, h⟩ := chk_some h
    simp only [Option.some.injEq, Prod.mk.injEq] at h
    obtain ⟨rfl, rfl⟩ := h
    exact WP.pathG tab_ok mixed [(8, An.callG [(9000, 10080)] [V.t (T.agg [tl x0, ti x1])] [] (vo 9000 (List.length (openN x0))) [(9000, oc 3 (List.map (T.int .i64) (openN x0)))])] [.keep [2, 3], .keepO [10080], .names [(10080, 9000)]] [9000] _ (r' := V.tup [vo 9000 (List.length (openN x0)), vb true]) (ps := [(2 ≤ 2), (CG Tryd.prog 122 [V.t (T.agg [tl x0, ti x1])] [] (vo 9000 (List.length (openN x0))) [(9000, oc 3 (List.map (T.int .i64) (openN x0)))]), (WkT (T.agg [tl x0, ti x1]) (T.agg [tl x0, ti x1]))]) (r := V.tup [vo 9000 (List.length (openN x0)), vb true]) (N := [9000]) (O := [(9000, oc 3 (List.map (T.int .i64) (openN x0)))]) [] (by kernel_rfl) ⟨by decide, (open_C_G x0 x1 c1), WkT.refl _, trivial⟩ ⟨rfl, (WkT.refl _), trivial⟩ rfl rfl (fun _ h => h)
theorem F_impl_OpenNumbers_W_C (x0 : List Int) (x1 : Int) (y0 : List Int) (y1 : Bool) (h : F_impl_OpenNumbers x0 x1 = some (y0, y1)) : C Tryd.prog 79 [T.agg [tl x0, ti x1]] (T.tup [tl y0, tb y1]) :=
  CG.toC (ps := [(List.length (List.map (T.int .i64) y0) = (List.length y0) * 1)]) (F_impl_OpenNumbers_W  x0 x1 y0 y1 h) (by rfl) ⟨by first | rfl | omega | (simp <;> omega) | (simp [hl] <;> omega), trivial⟩
theorem F_laws_FnStates_W (x0 : List Int) (y0 : Bool) (h : F_laws_FnStates x0 = some y0) : C Tryd.prog 13 [ty x0] (tb y0) := by
  unfold F_laws_FnStates at h
  refine C.intro (tab := tab) tab_ok (fn := Tryd.f13) Tryd.func13 (by kernel_rfl) rfl (Nat.le_of_ble_eq_true rfl) ?_
  refine WP.seq ?_
  refine WP.path tab_ok mixed [] [.keep [2, 0], .keepO []] (ps := []) (e := .normal) (σ' := ⟨[], [(2, vb false), (0, vy x0)], []⟩) (by kernel_rfl) trivial ?_
  refine WP.seq ?_
  refine WP.seq ?_
  obtain ⟨c0, h⟩ := chk_some h
  refine WP.path tab_ok mixed [(65, An.call (tb (decide (((List.length x0 : Nat) : Int) > (65536 : Int)))))] [.keep [65, 2, 0], .keepO []] (ps := [(C Tryd.prog 51 [ty x0] (tb (decide (((List.length x0 : Nat) : Int) > (65536 : Int)))))]) (e := .normal) (σ' := ⟨[], [(65, vb (decide (((List.length x0 : Nat) : Int) > (65536 : Int)))), (2, vb false), (0, vy x0)], []⟩) (by kernel_rfl) ⟨(rBig_C x0 c0), trivial⟩ ?_
  rcases ite_some h with ⟨h1, h⟩ | ⟨h1, h⟩
  · -- yes
    refine WP.cond (b := decide (((List.length x0 : Nat) : Int) > (65536 : Int))) rfl (fun _ => ?_) (fun hh => by rw [h1] at hh; cases hh)
    have h := Option.some.inj h
    subst h
    exact WP.pathW tab_ok mixed [] _ (ps := []) (r := tb true) (by kernel_rfl) trivial (WkT.eq (y := tb true) (WkT.refl _) rfl) (fun _ h => h)
  · -- no
    refine WP.cond (b := decide (((List.length x0 : Nat) : Int) > (65536 : Int))) rfl (fun hh => by rw [h1] at hh; cases hh) (fun _ => ?_)
    refine WP.path tab_ok mixed [] [.keep [2, 0], .keepO []] (ps := []) (e := .normal) (σ' := ⟨[], [(2, vb false), (0, vy x0)], []⟩) (by kernel_rfl) trivial ?_
    refine WP.seq ?_
    obtain ⟨r68, r68b, r68c, c1, h⟩ := bnd3_some h
    refine WP.path tab_ok mixed [(68, An.call (T.tup [ti r68, ti r68b, T.list (List.length r68c) 2 (List.flatMap askedC r68c)]))] [.keep [5, 4, 3, 2, 0], .keepO []] (ps := [(C Tryd.prog 52 [ty x0] (T.tup [ti r68, ti r68b, T.list (List.length r68c) 2 (List.flatMap askedC r68c)]))]) (e := .normal) (σ' := ⟨[], [(5, V.t (T.list (List.length r68c) 2 (List.flatMap askedC r68c))), (4, vi r68b), (3, vi r68), (2, vb false), (0, vy x0)], []⟩) (by kernel_rfl) ⟨(F_spec_DrawAnswerAll_W_C x0 r68 r68b r68c c1), trivial⟩ ?_
    refine WP.seq ?_
    obtain ⟨r76, r76b, r76c, c2, h⟩ := bnd3_some h
    refine WP.path tab_ok mixed [(76, An.call (T.tup [T.agg [tl r76, ti r76b], tb r76c])), (6, An.id 2006)] [.keep [7, 6, 5, 4, 3, 2, 0], .keepO [2006]] (ps := [(C Tryd.prog 53 [ti r68, ti r68b, T.list (List.length r68c) 2 (List.flatMap askedC r68c)] (T.tup [T.agg [tl r76, ti r76b], tb r76c])), ((0 + 2 ≤ 2 ∧ 2 = 2))]) (e := .normal) (σ' := ⟨[2006], [(7, vb r76c), (6, V.ref 2006 0), (5, V.t (T.list (List.length r68c) 2 (List.flatMap askedC r68c))), (4, vi r68b), (3, vi r68), (2, vb false), (0, vy x0)], [(2006, oc 82 [tl r76, ti r76b])]⟩) (by kernel_rfl) ⟨(F_impl_AnswerAll_W_C r68 r68b r68c r76 r76b r76c c2), by decide, trivial⟩ ?_
    refine WP.seq ?_
    refine WP.seq ?_
    obtain ⟨r83, r83b, r83c, c3, h⟩ := bnd3_some h
    refine WP.path tab_ok mixed [(83, An.call (T.tup [T.agg [tl r83, ti r83b], tb r83c])), (8, An.id 2008)] [.keep [9, 8, 7, 6, 5, 4, 3, 2, 0], .keepO [2006, 2008]] (ps := [(C Tryd.prog 54 [ti r68, ti r68b, T.list (List.length r68c) 2 (List.flatMap askedC r68c)] (T.tup [T.agg [tl r83, ti r83b], tb r83c])), ((0 + 2 ≤ 2 ∧ 2 = 2))]) (e := .normal) (σ' := ⟨[2008, 2006], [(9, vb r83c), (8, V.ref 2008 0), (7, vb r76c), (6, V.ref 2006 0), (5, V.t (T.list (List.length r68c) 2 (List.flatMap askedC r68c))), (4, vi r68b), (3, vi r68), (2, vb false), (0, vy x0)], [(2006, oc 82 [tl r76, ti r76b]), (2008, oc 82 [tl r83, ti r83b])]⟩) (by kernel_rfl) ⟨(F_spec_AnswerAll_W_C r68 r68b r68c r83 r83b r83c c3), by decide, trivial⟩ ?_
    obtain ⟨J1, hJ1, h⟩ := jn_some h
    refine WP.joinA (fun (zz : Bool) => ⟨[2006], [(94, vb zz), (7, vb r76c), (6, V.ref 2006 0), (5, V.t (T.list (List.length r68c) 2 (List.flatMap askedC r68c))), (4, vi r68b), (3, vi r68), (2, vb false), (0, vy x0)], [(2006, oc 82 [tl r76, ti r76b])]⟩) (fun zz => J1 zz = some y0) ?_ ?_
    · -- to where they meet
      rcases ite_some h with ⟨h2, h⟩ | ⟨h2, h⟩
      · -- yes
        refine WP.path tab_ok mixed [(88, An.b true)] [.keep [94, 7, 6, 5, 4, 3, 2, 0], .keepO [2006], .names [(2006, 2006)]] (ps := [(True), ((!(r76c == r83c)) = true)]) (e := .normal) (σ' := ⟨[2006], [(94, vb true), (7, vb r76c), (6, V.ref 2006 0), (5, V.t (T.list (List.length r68c) 2 (List.flatMap askedC r68c))), (4, vi r68b), (3, vi r68), (2, vb false), (0, vy x0)], [(2006, oc 82 [tl r76, ti r76b])]⟩) (by kernel_rfl) ⟨trivial, h2, trivial⟩ ?_
        exact ⟨(true), h, rfl⟩
      · -- no
        obtain ⟨r92, c4, h⟩ := bnd1_some h
        refine WP.path tab_ok mixed [(88, An.b false), (92, An.call (tb r92))] [.keep [94, 7, 6, 5, 4, 3, 2, 0], .keepO [2006], .names [(2006, 2006)]] (ps := [(True), ((!(r76c == r83c)) = false), (0 + 2 ≤ 2), (0 + 2 ≤ 2), (C Tryd.prog 55 [T.agg [tl r76, ti r76b], T.agg [tl r83, ti r83b]] (tb r92))]) (e := .normal) (σ' := ⟨[2006], [(94, vb (!r92)), (7, vb r76c), (6, V.ref 2006 0), (5, V.t (T.list (List.length r68c) 2 (List.flatMap askedC r68c))), (4, vi r68b), (3, vi r68), (2, vb false), (0, vy x0)], [(2006, oc 82 [tl r76, ti r76b])]⟩) (by kernel_rfl) ⟨trivial, h2, by decide, by decide, (F_laws_rState_W r76 r76b r83 r83b r92 c4), trivial⟩ ?_
        exact ⟨(!r92), h, rfl⟩
    · -- from there
      intro v94 h0
      have h := (show J1 v94 = some y0 from h0)
      rw [hJ1] at h
      rcases ite_some h with ⟨h3, h⟩ | ⟨h3, h⟩
      · -- yes
        refine WP.cond (b := v94) rfl (fun _ => ?_) (fun hh => by rw [h3] at hh; cases hh)
        have h := Option.some.inj h
        subst h
        exact WP.pathW tab_ok mixed [] _ (ps := []) (r := tb false) (by kernel_rfl) trivial (WkT.eq (y := tb false) (WkT.refl _) rfl) (fun _ h => h)
      · -- no
        refine WP.cond (b := v94) rfl (fun hh => by rw [h3] at hh; cases hh) (fun _ => ?_)
        refine WP.path tab_ok mixed [] [.keep [7, 6, 5, 4, 3, 2, 0], .keepO [2006]] (ps := []) (e := .normal) (σ' := ⟨[2006], [(7, vb r76c), (6, V.ref 2006 0), (5, V.t (T.list (List.length r68c) 2 (List.flatMap askedC r68c))), (4, vi r68b), (3, vi r68), (2, vb false), (0, vy x0)], [(2006, oc 82 [tl r76, ti r76b])]⟩) (by kernel_rfl) trivial ?_
        refine WP.seq ?_
        obtain ⟨r97, r97b, c4, h⟩ := bnd2_some h
        refine WP.path tab_ok mixed [(97, An.call (T.tup [ti r97, ti r97b]))] [.keep [11, 10, 7, 6, 5, 4, 3, 2, 0], .keepO [2006]] (ps := [(C Tryd.prog 56 [ty x0] (T.tup [ti r97, ti r97b]))]) (e := .normal) (σ' := ⟨[2006], [(11, vi r97b), (10, vi r97), (7, vb r76c), (6, V.ref 2006 0), (5, V.t (T.list (List.length r68c) 2 (List.flatMap askedC r68c))), (4, vi r68b), (3, vi r68), (2, vb false), (0, vy x0)], [(2006, oc 82 [tl r76, ti r76b])]⟩) (by kernel_rfl) ⟨(F_spec_DrawStartState_W x0 r97 r97b c4), trivial⟩ ?_
        refine WP.seq ?_
        refine WP.path tab_ok mixed [(103, An.call (T.tup [T.agg [tl (ssL r97 r97b), ti (ssM r97 r97b)], tb (ssB r97 r97b)])), (12, An.id 2012)] [.keep [13, 12, 11, 10, 7, 6, 5, 4, 3, 2, 0], .keepO [2006, 2012]] (ps := [(C Tryd.prog 57 [ti r97, ti r97b] (T.tup [T.agg [tl (ssL r97 r97b), ti (ssM r97 r97b)], tb (ssB r97 r97b)])), ((0 + 2 ≤ 2 ∧ 2 = 2))]) (e := .normal) (σ' := ⟨[2012, 2006], [(13, vb (ssB r97 r97b)), (12, V.ref 2012 0), (11, vi r97b), (10, vi r97), (7, vb r76c), (6, V.ref 2006 0), (5, V.t (T.list (List.length r68c) 2 (List.flatMap askedC r68c))), (4, vi r68b), (3, vi r68), (2, vb false), (0, vy x0)], [(2006, oc 82 [tl r76, ti r76b]), (2012, oc 82 [tl (ssL r97 r97b), ti (ssM r97 r97b)])]⟩) (by kernel_rfl) ⟨(iStartState_C r97 r97b), by decide, trivial⟩ ?_
        refine WP.seq ?_
        refine WP.seq ?_
        refine WP.path tab_ok mixed [(109, An.call (T.tup [T.agg [tl (ssL r97 r97b), ti (ssM r97 r97b)], tb (ssB r97 r97b)])), (14, An.id 2014)] [.keep [15, 14, 13, 12, 7, 6, 5, 4, 3, 2, 0], .keepO [2006, 2012, 2014]] (ps := [(C Tryd.prog 58 [ti r97, ti r97b] (T.tup [T.agg [tl (ssL r97 r97b), ti (ssM r97 r97b)], tb (ssB r97 r97b)])), ((0 + 2 ≤ 2 ∧ 2 = 2))]) (e := .normal) (σ' := ⟨[2014, 2012, 2006], [(15, vb (ssB r97 r97b)), (14, V.ref 2014 0), (13, vb (ssB r97 r97b)), (12, V.ref 2012 0), (7, vb r76c), (6, V.ref 2006 0), (5, V.t (T.list (List.length r68c) 2 (List.flatMap askedC r68c))), (4, vi r68b), (3, vi r68), (2, vb false), (0, vy x0)], [(2006, oc 82 [tl r76, ti r76b]), (2012, oc 82 [tl (ssL r97 r97b), ti (ssM r97 r97b)]), (2014, oc 82 [tl (ssL r97 r97b), ti (ssM r97 r97b)])]⟩) (by kernel_rfl) ⟨(sStartState_C r97 r97b), by decide, trivial⟩ ?_
        refine WP.seq ?_
        obtain ⟨r118, c5, h⟩ := bnd1_some h
        refine WP.path tab_ok mixed [(114, An.b false), (118, An.call (tb r118))] [.keep [120, 7, 6, 5, 4, 3, 2, 0], .keepO [2006]] (ps := [(True), ((!((ssB r97 r97b) == (ssB r97 r97b))) = false), (0 + 2 ≤ 2), (0 + 2 ≤ 2), (C Tryd.prog 55 [T.agg [tl (ssL r97 r97b), ti (ssM r97 r97b)], T.agg [tl (ssL r97 r97b), ti (ssM r97 r97b)]] (tb r118))]) (e := .normal) (σ' := ⟨[2014, 2012, 2006], [(120, vb (!r118)), (7, vb r76c), (6, V.ref 2006 0), (5, V.t (T.list (List.length r68c) 2 (List.flatMap askedC r68c))), (4, vi r68b), (3, vi r68), (2, vb false), (0, vy x0)], [(2006, oc 82 [tl r76, ti r76b])]⟩) (by kernel_rfl) ⟨trivial, (by simp), by decide, by decide, (F_laws_rState_W (ssL r97 r97b) (ssM r97 r97b) (ssL r97 r97b) (ssM r97 r97b) r118 c5), trivial⟩ ?_
        rcases ite_some h with ⟨h4, h⟩ | ⟨h4, h⟩
        · -- yes
          refine WP.cond (b := !r118) rfl (fun _ => ?_) (fun hh => by rw [h4] at hh; cases hh)
          have h := Option.some.inj h
          subst h
          exact WP.pathW tab_ok mixed [] _ (ps := []) (r := tb false) (by kernel_rfl) trivial (WkT.eq (y := tb false) (WkT.refl _) rfl) (fun _ h => h)
        · -- no
          refine WP.cond (b := !r118) rfl (fun hh => by rw [h4] at hh; cases hh) (fun _ => ?_)
          refine WP.path tab_ok mixed [] [.keep [7, 6, 5, 4, 3, 2, 0], .keepO [2006]] (ps := []) (e := .normal) (σ' := ⟨[2014, 2012, 2006], [(7, vb r76c), (6, V.ref 2006 0), (5, V.t (T.list (List.length r68c) 2 (List.flatMap askedC r68c))), (4, vi r68b), (3, vi r68), (2, vb false), (0, vy x0)], [(2006, oc 82 [tl r76, ti r76b])]⟩) (by kernel_rfl) trivial ?_
          refine WP.seq ?_
          obtain ⟨r123, r123b, r123c, r123d, c6, h⟩ := bnd4_some h
          refine WP.path tab_ok mixed [(123, An.call (T.tup [T.agg [tl r123, ti r123b], T.agg [ti r123c, tb r123d]])), (16, An.id 2016), (17, An.id 2017)] [.keep [17, 16, 7, 6, 5, 4, 3, 2, 0], .keepO [2006, 2016, 2017]] (ps := [(C Tryd.prog 59 [ty x0] (T.tup [T.agg [tl r123, ti r123b], T.agg [ti r123c, tb r123d]])), ((0 + 2 ≤ 2 ∧ 2 = 2)), ((0 + 2 ≤ 2 ∧ 2 = 2))]) (e := .normal) (σ' := ⟨[2017, 2016, 2014, 2012, 2006], [(17, V.ref 2017 0), (16, V.ref 2016 0), (7, vb r76c), (6, V.ref 2006 0), (5, V.t (T.list (List.length r68c) 2 (List.flatMap askedC r68c))), (4, vi r68b), (3, vi r68), (2, vb false), (0, vy x0)], [(2006, oc 82 [tl r76, ti r76b]), (2016, oc 82 [tl r123, ti r123b]), (2017, oc 90 [ti r123c, tb r123d])]⟩) (by kernel_rfl) ⟨(F_spec_DrawAnswerState_W_C x0 r123 r123b r123c r123d c6), by decide, by decide, trivial⟩ ?_
          refine WP.seq ?_
          obtain ⟨c7, h⟩ := chk_some h
          refine WP.path tab_ok mixed [(129, An.call (T.tup [T.agg [tl (asL r123 r123b r123c r123d), ti (asM r123 r123b r123c r123d)], tb (asB r123 r123b r123c)])), (18, An.id 2018)] [.keep [19, 18, 17, 16, 7, 6, 5, 4, 3, 2, 0], .keepO [2006, 2016, 2017, 2018]] (ps := [(0 + 2 ≤ 2), (0 + 2 ≤ 2), (C Tryd.prog 60 [T.agg [tl r123, ti r123b], T.agg [ti r123c, tb r123d]] (T.tup [T.agg [tl (asL r123 r123b r123c r123d), ti (asM r123 r123b r123c r123d)], tb (asB r123 r123b r123c)])), ((0 + 2 ≤ 2 ∧ 2 = 2))]) (e := .normal) (σ' := ⟨[2018, 2017, 2016, 2014, 2012, 2006], [(19, vb (asB r123 r123b r123c)), (18, V.ref 2018 0), (17, V.ref 2017 0), (16, V.ref 2016 0), (7, vb r76c), (6, V.ref 2006 0), (5, V.t (T.list (List.length r68c) 2 (List.flatMap askedC r68c))), (4, vi r68b), (3, vi r68), (2, vb false), (0, vy x0)], [(2006, oc 82 [tl r76, ti r76b]), (2016, oc 82 [tl r123, ti r123b]), (2017, oc 90 [ti r123c, tb r123d]), (2018, oc 82 [tl (asL r123 r123b r123c r123d), ti (asM r123 r123b r123c r123d)])]⟩) (by kernel_rfl) ⟨by decide, by decide, (iAnswerState_C r123 r123b r123c r123d c7), by decide, trivial⟩ ?_
          refine WP.seq ?_
          refine WP.seq ?_
          obtain ⟨r135, r135b, r135c, c8, h⟩ := bnd3_some h
          refine WP.path tab_ok mixed [(135, An.call (T.tup [T.agg [tl r135, ti r135b], tb r135c])), (20, An.id 2020)] [.keep [21, 20, 19, 18, 17, 16, 7, 6, 5, 4, 3, 2, 0], .keepO [2006, 2016, 2017, 2018, 2020]] (ps := [(0 + 2 ≤ 2), (0 + 2 ≤ 2), (C Tryd.prog 61 [T.agg [tl r123, ti r123b], T.agg [ti r123c, tb r123d]] (T.tup [T.agg [tl r135, ti r135b], tb r135c])), ((0 + 2 ≤ 2 ∧ 2 = 2))]) (e := .normal) (σ' := ⟨[2020, 2018, 2017, 2016, 2014, 2012, 2006], [(21, vb r135c), (20, V.ref 2020 0), (19, vb (asB r123 r123b r123c)), (18, V.ref 2018 0), (17, V.ref 2017 0), (16, V.ref 2016 0), (7, vb r76c), (6, V.ref 2006 0), (5, V.t (T.list (List.length r68c) 2 (List.flatMap askedC r68c))), (4, vi r68b), (3, vi r68), (2, vb false), (0, vy x0)], [(2006, oc 82 [tl r76, ti r76b]), (2016, oc 82 [tl r123, ti r123b]), (2017, oc 90 [ti r123c, tb r123d]), (2018, oc 82 [tl (asL r123 r123b r123c r123d), ti (asM r123 r123b r123c r123d)]), (2020, oc 82 [tl r135, ti r135b])]⟩) (by kernel_rfl) ⟨by decide, by decide, (F_spec_AnswerState_W_C r123 r123b r123c r123d r135 r135b r135c c8), by decide, trivial⟩ ?_
          obtain ⟨J1, hJ1, h⟩ := jn_some h
          refine WP.joinA (fun (zz : Bool) => ⟨[2006, 2016, 2017, 2018], [(146, vb zz), (19, vb (asB r123 r123b r123c)), (18, V.ref 2018 0), (17, V.ref 2017 0), (16, V.ref 2016 0), (7, vb r76c), (6, V.ref 2006 0), (5, V.t (T.list (List.length r68c) 2 (List.flatMap askedC r68c))), (4, vi r68b), (3, vi r68), (2, vb false), (0, vy x0)], [(2006, oc 82 [tl r76, ti r76b]), (2016, oc 82 [tl r123, ti r123b]), (2017, oc 90 [ti r123c, tb r123d]), (2018, oc 82 [tl (asL r123 r123b r123c r123d), ti (asM r123 r123b r123c r123d)])]⟩) (fun zz => J1 zz = some y0) ?_ ?_
          · -- to where they meet
            rcases ite_some h with ⟨h5, h⟩ | ⟨h5, h⟩
            · -- yes
              refine WP.path tab_ok mixed [(140, An.b true)] [.keep [146, 19, 18, 17, 16, 7, 6, 5, 4, 3, 2, 0], .keepO [2006, 2016, 2017, 2018], .names [(2006, 2006), (2016, 2016), (2017, 2017), (2018, 2018)]] (ps := [(True), ((!((asB r123 r123b r123c) == r135c)) = true)]) (e := .normal) (σ' := ⟨[2006, 2016, 2017, 2018], [(146, vb true), (19, vb (asB r123 r123b r123c)), (18, V.ref 2018 0), (17, V.ref 2017 0), (16, V.ref 2016 0), (7, vb r76c), (6, V.ref 2006 0), (5, V.t (T.list (List.length r68c) 2 (List.flatMap askedC r68c))), (4, vi r68b), (3, vi r68), (2, vb false), (0, vy x0)], [(2006, oc 82 [tl r76, ti r76b]), (2016, oc 82 [tl r123, ti r123b]), (2017, oc 90 [ti r123c, tb r123d]), (2018, oc 82 [tl (asL r123 r123b r123c r123d), ti (asM r123 r123b r123c r123d)])]⟩) (by kernel_rfl) ⟨trivial, h5, trivial⟩ ?_
              exact ⟨(true), h, rfl⟩
            · -- no
              obtain ⟨r144, c9, h⟩ := bnd1_some h
              refine WP.path tab_ok mixed [(140, An.b false), (144, An.call (tb r144))] [.keep [146, 19, 18, 17, 16, 7, 6, 5, 4, 3, 2, 0], .keepO [2006, 2016, 2017, 2018], .names [(2006, 2006), (2016, 2016), (2017, 2017), (2018, 2018)]] (ps := [(True), ((!((asB r123 r123b r123c) == r135c)) = false), (0 + 2 ≤ 2), (0 + 2 ≤ 2), (C Tryd.prog 55 [T.agg [tl (asL r123 r123b r123c r123d), ti (asM r123 r123b r123c r123d)], T.agg [tl r135, ti r135b]] (tb r144))]) (e := .normal) (σ' := ⟨[2006, 2016, 2017, 2018], [(146, vb (!r144)), (19, vb (asB r123 r123b r123c)), (18, V.ref 2018 0), (17, V.ref 2017 0), (16, V.ref 2016 0), (7, vb r76c), (6, V.ref 2006 0), (5, V.t (T.list (List.length r68c) 2 (List.flatMap askedC r68c))), (4, vi r68b), (3, vi r68), (2, vb false), (0, vy x0)], [(2006, oc 82 [tl r76, ti r76b]), (2016, oc 82 [tl r123, ti r123b]), (2017, oc 90 [ti r123c, tb r123d]), (2018, oc 82 [tl (asL r123 r123b r123c r123d), ti (asM r123 r123b r123c r123d)])]⟩) (by kernel_rfl) ⟨trivial, h5, by decide, by decide, (F_laws_rState_W (asL r123 r123b r123c r123d) (asM r123 r123b r123c r123d) r135 r135b r144 c9), trivial⟩ ?_
              exact ⟨(!r144), h, rfl⟩
          · -- from there
            intro v146 h0
            have h := (show J1 v146 = some y0 from h0)
            rw [hJ1] at h
            rcases ite_some h with ⟨h6, h⟩ | ⟨h6, h⟩
            · -- yes
              refine WP.cond (b := v146) rfl (fun _ => ?_) (fun hh => by rw [h6] at hh; cases hh)
              have h := Option.some.inj h
              subst h
              exact WP.pathW tab_ok mixed [] _ (ps := []) (r := tb false) (by kernel_rfl) trivial (WkT.eq (y := tb false) (WkT.refl _) rfl) (fun _ h => h)
            · -- no
              refine WP.cond (b := v146) rfl (fun hh => by rw [h6] at hh; cases hh) (fun _ => ?_)
              refine WP.path tab_ok mixed [] [.keep [19, 18, 17, 16, 7, 6, 5, 4, 3, 2, 0], .keepO [2006, 2016, 2017, 2018]] (ps := []) (e := .normal) (σ' := ⟨[2006, 2016, 2017, 2018], [(19, vb (asB r123 r123b r123c)), (18, V.ref 2018 0), (17, V.ref 2017 0), (16, V.ref 2016 0), (7, vb r76c), (6, V.ref 2006 0), (5, V.t (T.list (List.length r68c) 2 (List.flatMap askedC r68c))), (4, vi r68b), (3, vi r68), (2, vb false), (0, vy x0)], [(2006, oc 82 [tl r76, ti r76b]), (2016, oc 82 [tl r123, ti r123b]), (2017, oc 90 [ti r123c, tb r123d]), (2018, oc 82 [tl (asL r123 r123b r123c r123d), ti (asM r123 r123b r123c r123d)])]⟩) (by kernel_rfl) trivial ?_
              refine WP.seq ?_
              obtain ⟨r150, r150b, c9, h⟩ := bnd2_some h
              refine WP.path tab_ok mixed [(150, An.call (T.tup [tb r150, tb r150b]))] [.keep [23, 22, 19, 18, 17, 16, 7, 6, 5, 4, 3, 2, 0], .keepO [2006, 2016, 2017, 2018]] (ps := [(0 + 2 ≤ 2), (0 + 2 ≤ 2), (C Tryd.prog 62 [T.agg [tl r123, ti r123b], T.agg [ti r123c, tb r123d]] (T.tup [tb r150, tb r150b]))]) (e := .normal) (σ' := ⟨[2006, 2016, 2017, 2018], [(23, vb r150b), (22, vb r150), (19, vb (asB r123 r123b r123c)), (18, V.ref 2018 0), (17, V.ref 2017 0), (16, V.ref 2016 0), (7, vb r76c), (6, V.ref 2006 0), (5, V.t (T.list (List.length r68c) 2 (List.flatMap askedC r68c))), (4, vi r68b), (3, vi r68), (2, vb false), (0, vy x0)], [(2006, oc 82 [tl r76, ti r76b]), (2016, oc 82 [tl r123, ti r123b]), (2017, oc 90 [ti r123c, tb r123d]), (2018, oc 82 [tl (asL r123 r123b r123c r123d), ti (asM r123 r123b r123c r123d)])]⟩) (by kernel_rfl) ⟨by decide, by decide, (F_impl_CanAnswer_W r123 r123b r123c r123d r150 r150b c9), trivial⟩ ?_
              refine WP.seq ?_
              refine WP.seq ?_
              obtain ⟨r156, r156b, c10, h⟩ := bnd2_some h
              refine WP.path tab_ok mixed [(156, An.call (T.tup [tb r156, tb r156b]))] [.keep [25, 24, 23, 22, 19, 18, 17, 16, 7, 6, 5, 4, 3, 2, 0], .keepO [2006, 2016, 2017, 2018]] (ps := [(0 + 2 ≤ 2), (0 + 2 ≤ 2), (C Tryd.prog 63 [T.agg [tl r123, ti r123b], T.agg [ti r123c, tb r123d]] (T.tup [tb r156, tb r156b]))]) (e := .normal) (σ' := ⟨[2006, 2016, 2017, 2018], [(25, vb r156b), (24, vb r156), (23, vb r150b), (22, vb r150), (19, vb (asB r123 r123b r123c)), (18, V.ref 2018 0), (17, V.ref 2017 0), (16, V.ref 2016 0), (7, vb r76c), (6, V.ref 2006 0), (5, V.t (T.list (List.length r68c) 2 (List.flatMap askedC r68c))), (4, vi r68b), (3, vi r68), (2, vb false), (0, vy x0)], [(2006, oc 82 [tl r76, ti r76b]), (2016, oc 82 [tl r123, ti r123b]), (2017, oc 90 [ti r123c, tb r123d]), (2018, oc 82 [tl (asL r123 r123b r123c r123d), ti (asM r123 r123b r123c r123d)])]⟩) (by kernel_rfl) ⟨by decide, by decide, (F_spec_CanAnswer_W r123 r123b r123c r123d r156 r156b c10), trivial⟩ ?_
              obtain ⟨J1, hJ1, h⟩ := jn_some h
              refine WP.joinA (fun (zz : Bool) => ⟨[2006, 2016, 2017, 2018], [(171, vb zz), (22, vb r150), (19, vb (asB r123 r123b r123c)), (18, V.ref 2018 0), (17, V.ref 2017 0), (16, V.ref 2016 0), (7, vb r76c), (6, V.ref 2006 0), (5, V.t (T.list (List.length r68c) 2 (List.flatMap askedC r68c))), (4, vi r68b), (3, vi r68), (2, vb false), (0, vy x0)], [(2006, oc 82 [tl r76, ti r76b]), (2016, oc 82 [tl r123, ti r123b]), (2017, oc 90 [ti r123c, tb r123d]), (2018, oc 82 [tl (asL r123 r123b r123c r123d), ti (asM r123 r123b r123c r123d)])]⟩) (fun zz => J1 zz = some y0) ?_ ?_
              · -- to where they meet
                rcases ite_some h with ⟨h7, h⟩ | ⟨h7, h⟩
                · -- yes
                  refine WP.path tab_ok mixed [(161, An.b true)] [.keep [171, 22, 19, 18, 17, 16, 7, 6, 5, 4, 3, 2, 0], .keepO [2006, 2016, 2017, 2018], .names [(2006, 2006), (2016, 2016), (2017, 2017), (2018, 2018)]] (ps := [(True), ((!(r150 == r156)) = true)]) (e := .normal) (σ' := ⟨[2006, 2016, 2017, 2018], [(171, vb true), (22, vb r150), (19, vb (asB r123 r123b r123c)), (18, V.ref 2018 0), (17, V.ref 2017 0), (16, V.ref 2016 0), (7, vb r76c), (6, V.ref 2006 0), (5, V.t (T.list (List.length r68c) 2 (List.flatMap askedC r68c))), (4, vi r68b), (3, vi r68), (2, vb false), (0, vy x0)], [(2006, oc 82 [tl r76, ti r76b]), (2016, oc 82 [tl r123, ti r123b]), (2017, oc 90 [ti r123c, tb r123d]), (2018, oc 82 [tl (asL r123 r123b r123c r123d), ti (asM r123 r123b r123c r123d)])]⟩) (by kernel_rfl) ⟨trivial, h7, trivial⟩ ?_
                  exact ⟨(true), h, rfl⟩
                · -- no
                  rcases ite_some h with ⟨h8, h⟩ | ⟨h8, h⟩
                  · -- yes
                    refine WP.path tab_ok mixed [(161, An.b false), (165, An.b true)] [.keep [171, 22, 19, 18, 17, 16, 7, 6, 5, 4, 3, 2, 0], .keepO [2006, 2016, 2017, 2018], .names [(2006, 2006), (2016, 2016), (2017, 2017), (2018, 2018)]] (ps := [(True), ((!(r150 == r156)) = false), (True), ((!(r150b == r156b)) = true)]) (e := .normal) (σ' := ⟨[2006, 2016, 2017, 2018], [(171, vb true), (22, vb r150), (19, vb (asB r123 r123b r123c)), (18, V.ref 2018 0), (17, V.ref 2017 0), (16, V.ref 2016 0), (7, vb r76c), (6, V.ref 2006 0), (5, V.t (T.list (List.length r68c) 2 (List.flatMap askedC r68c))), (4, vi r68b), (3, vi r68), (2, vb false), (0, vy x0)], [(2006, oc 82 [tl r76, ti r76b]), (2016, oc 82 [tl r123, ti r123b]), (2017, oc 90 [ti r123c, tb r123d]), (2018, oc 82 [tl (asL r123 r123b r123c r123d), ti (asM r123 r123b r123c r123d)])]⟩) (by kernel_rfl) ⟨trivial, h7, trivial, h8, trivial⟩ ?_
                    exact ⟨(true), h, rfl⟩
                  · -- no
                    refine WP.path tab_ok mixed [(161, An.b false), (165, An.b false)] [.keep [171, 22, 19, 18, 17, 16, 7, 6, 5, 4, 3, 2, 0], .keepO [2006, 2016, 2017, 2018], .names [(2006, 2006), (2016, 2016), (2017, 2017), (2018, 2018)]] (ps := [(True), ((!(r150 == r156)) = false), (True), ((!(r150b == r156b)) = false), (True)]) (e := .normal) (σ' := ⟨[2006, 2016, 2017, 2018], [(171, vb (!(r150b == (asB r123 r123b r123c)))), (22, vb r150), (19, vb (asB r123 r123b r123c)), (18, V.ref 2018 0), (17, V.ref 2017 0), (16, V.ref 2016 0), (7, vb r76c), (6, V.ref 2006 0), (5, V.t (T.list (List.length r68c) 2 (List.flatMap askedC r68c))), (4, vi r68b), (3, vi r68), (2, vb false), (0, vy x0)], [(2006, oc 82 [tl r76, ti r76b]), (2016, oc 82 [tl r123, ti r123b]), (2017, oc 90 [ti r123c, tb r123d]), (2018, oc 82 [tl (asL r123 r123b r123c r123d), ti (asM r123 r123b r123c r123d)])]⟩) (by kernel_rfl) ⟨trivial, h7, trivial, h8, trivial, trivial⟩ ?_
                    exact ⟨(!(r150b == (asB r123 r123b r123c))), h, rfl⟩
              · -- from there
                intro v171 h0
                have h := (show J1 v171 = some y0 from h0)
                rw [hJ1] at h
                rcases ite_some h with ⟨h9, h⟩ | ⟨h9, h⟩
                · -- yes
                  refine WP.cond (b := v171) rfl (fun _ => ?_) (fun hh => by rw [h9] at hh; cases hh)
                  have h := Option.some.inj h
                  subst h
                  exact WP.pathW tab_ok mixed [] _ (ps := []) (r := tb false) (by kernel_rfl) trivial (WkT.eq (y := tb false) (WkT.refl _) rfl) (fun _ h => h)
                · -- no
                  refine WP.cond (b := v171) rfl (fun hh => by rw [h9] at hh; cases hh) (fun _ => ?_)
                  refine WP.path tab_ok mixed [] [.keep [22, 19, 18, 17, 16, 7, 6, 5, 4, 3, 2, 0], .keepO [2006, 2016, 2017, 2018]] (ps := []) (e := .normal) (σ' := ⟨[2006, 2016, 2017, 2018], [(22, vb r150), (19, vb (asB r123 r123b r123c)), (18, V.ref 2018 0), (17, V.ref 2017 0), (16, V.ref 2016 0), (7, vb r76c), (6, V.ref 2006 0), (5, V.t (T.list (List.length r68c) 2 (List.flatMap askedC r68c))), (4, vi r68b), (3, vi r68), (2, vb false), (0, vy x0)], [(2006, oc 82 [tl r76, ti r76b]), (2016, oc 82 [tl r123, ti r123b]), (2017, oc 90 [ti r123c, tb r123d]), (2018, oc 82 [tl (asL r123 r123b r123c r123d), ti (asM r123 r123b r123c r123d)])]⟩) (by kernel_rfl) trivial ?_
                  refine WP.seq ?_
                  obtain ⟨r173, r173b, c11, h⟩ := bnd2_some h
                  refine WP.path tab_ok mixed [(173, An.call (T.agg [tl r173, ti r173b])), (26, An.id 2026)] [.keep [26, 22, 19, 18, 17, 16, 7, 6, 5, 4, 3, 2, 0], .keepO [2006, 2016, 2017, 2018, 2026]] (ps := [(C Tryd.prog 64 [ty x0] (T.agg [tl r173, ti r173b])), ((0 + 2 ≤ 2 ∧ 2 = 2))]) (e := .normal) (σ' := ⟨[2026, 2006, 2016, 2017, 2018], [(26, V.ref 2026 0), (22, vb r150), (19, vb (asB r123 r123b r123c)), (18, V.ref 2018 0), (17, V.ref 2017 0), (16, V.ref 2016 0), (7, vb r76c), (6, V.ref 2006 0), (5, V.t (T.list (List.length r68c) 2 (List.flatMap askedC r68c))), (4, vi r68b), (3, vi r68), (2, vb false), (0, vy x0)], [(2006, oc 82 [tl r76, ti r76b]), (2016, oc 82 [tl r123, ti r123b]), (2017, oc 90 [ti r123c, tb r123d]), (2018, oc 82 [tl (asL r123 r123b r123c r123d), ti (asM r123 r123b r123c r123d)]), (2026, oc 82 [tl r173, ti r173b])]⟩) (by kernel_rfl) ⟨(F_spec_DrawStateText_W_C x0 r173 r173b c11), by decide, trivial⟩ ?_
                  refine WP.seq ?_
                  obtain ⟨r176, r176b, c12, h⟩ := bnd2_some h
                  refine WP.path tab_ok mixed [(176, An.call (T.tup [T.str r176, tb r176b]))] [.keep [28, 27, 26, 22, 19, 18, 17, 16, 7, 6, 5, 4, 3, 2, 0], .keepO [2006, 2016, 2017, 2018, 2026]] (ps := [(0 + 2 ≤ 2), (C Tryd.prog 65 [T.agg [tl r173, ti r173b]] (T.tup [T.str r176, tb r176b]))]) (e := .normal) (σ' := ⟨[2026, 2006, 2016, 2017, 2018], [(28, vb r176b), (27, V.t (T.str r176)), (26, V.ref 2026 0), (22, vb r150), (19, vb (asB r123 r123b r123c)), (18, V.ref 2018 0), (17, V.ref 2017 0), (16, V.ref 2016 0), (7, vb r76c), (6, V.ref 2006 0), (5, V.t (T.list (List.length r68c) 2 (List.flatMap askedC r68c))), (4, vi r68b), (3, vi r68), (2, vb false), (0, vy x0)], [(2006, oc 82 [tl r76, ti r76b]), (2016, oc 82 [tl r123, ti r123b]), (2017, oc 90 [ti r123c, tb r123d]), (2018, oc 82 [tl (asL r123 r123b r123c r123d), ti (asM r123 r123b r123c r123d)]), (2026, oc 82 [tl r173, ti r173b])]⟩) (by kernel_rfl) ⟨by decide, (F_impl_StateText_W r173 r173b r176 r176b c12), trivial⟩ ?_
                  refine WP.seq ?_
                  refine WP.seq ?_
                  obtain ⟨r181, r181b, c13, h⟩ := bnd2_some h
                  refine WP.path tab_ok mixed [(181, An.call (T.tup [T.str r181, tb r181b]))] [.keep [30, 29, 28, 27, 26, 22, 19, 18, 17, 16, 7, 6, 5, 4, 3, 2, 0], .keepO [2006, 2016, 2017, 2018, 2026]] (ps := [(0 + 2 ≤ 2), (C Tryd.prog 66 [T.agg [tl r173, ti r173b]] (T.tup [T.str r181, tb r181b]))]) (e := .normal) (σ' := ⟨[2026, 2006, 2016, 2017, 2018], [(30, vb r181b), (29, V.t (T.str r181)), (28, vb r176b), (27, V.t (T.str r176)), (26, V.ref 2026 0), (22, vb r150), (19, vb (asB r123 r123b r123c)), (18, V.ref 2018 0), (17, V.ref 2017 0), (16, V.ref 2016 0), (7, vb r76c), (6, V.ref 2006 0), (5, V.t (T.list (List.length r68c) 2 (List.flatMap askedC r68c))), (4, vi r68b), (3, vi r68), (2, vb false), (0, vy x0)], [(2006, oc 82 [tl r76, ti r76b]), (2016, oc 82 [tl r123, ti r123b]), (2017, oc 90 [ti r123c, tb r123d]), (2018, oc 82 [tl (asL r123 r123b r123c r123d), ti (asM r123 r123b r123c r123d)]), (2026, oc 82 [tl r173, ti r173b])]⟩) (by kernel_rfl) ⟨by decide, (F_spec_StateText_W r173 r173b r181 r181b c13), trivial⟩ ?_
                  obtain ⟨J1, hJ1, h⟩ := jn_some h
                  refine WP.joinA (fun (zz : Bool) => ⟨[2006, 2016, 2017, 2018, 2026], [(197, vb zz), (28, vb r176b), (27, V.t (T.str r176)), (26, V.ref 2026 0), (22, vb r150), (19, vb (asB r123 r123b r123c)), (18, V.ref 2018 0), (17, V.ref 2017 0), (16, V.ref 2016 0), (7, vb r76c), (6, V.ref 2006 0), (5, V.t (T.list (List.length r68c) 2 (List.flatMap askedC r68c))), (4, vi r68b), (3, vi r68), (2, vb false), (0, vy x0)], [(2006, oc 82 [tl r76, ti r76b]), (2016, oc 82 [tl r123, ti r123b]), (2017, oc 90 [ti r123c, tb r123d]), (2018, oc 82 [tl (asL r123 r123b r123c r123d), ti (asM r123 r123b r123c r123d)]), (2026, oc 82 [tl r173, ti r173b])]⟩) (fun zz => J1 zz = some y0) ?_ ?_
                  · -- to where they meet
                    rcases ite_some h with ⟨h10, h⟩ | ⟨h10, h⟩
                    · -- yes
                      refine WP.path tab_ok mixed [(186, An.b true)] [.keep [197, 28, 27, 26, 22, 19, 18, 17, 16, 7, 6, 5, 4, 3, 2, 0], .keepO [2006, 2016, 2017, 2018, 2026], .names [(2006, 2006), (2016, 2016), (2017, 2017), (2018, 2018), (2026, 2026)]] (ps := [(True), ((!(r176.toList == r181.toList)) = true)]) (e := .normal) (σ' := ⟨[2006, 2016, 2017, 2018, 2026], [(197, vb true), (28, vb r176b), (27, V.t (T.str r176)), (26, V.ref 2026 0), (22, vb r150), (19, vb (asB r123 r123b r123c)), (18, V.ref 2018 0), (17, V.ref 2017 0), (16, V.ref 2016 0), (7, vb r76c), (6, V.ref 2006 0), (5, V.t (T.list (List.length r68c) 2 (List.flatMap askedC r68c))), (4, vi r68b), (3, vi r68), (2, vb false), (0, vy x0)], [(2006, oc 82 [tl r76, ti r76b]), (2016, oc 82 [tl r123, ti r123b]), (2017, oc 90 [ti r123c, tb r123d]), (2018, oc 82 [tl (asL r123 r123b r123c r123d), ti (asM r123 r123b r123c r123d)]), (2026, oc 82 [tl r173, ti r173b])]⟩) (by kernel_rfl) ⟨trivial, h10, trivial⟩ ?_
                      exact ⟨(true), h, rfl⟩
                    · -- no
                      rcases ite_some h with ⟨h11, h⟩ | ⟨h11, h⟩
                      · -- yes
                        refine WP.path tab_ok mixed [(186, An.b false), (190, An.b true)] [.keep [197, 28, 27, 26, 22, 19, 18, 17, 16, 7, 6, 5, 4, 3, 2, 0], .keepO [2006, 2016, 2017, 2018, 2026], .names [(2006, 2006), (2016, 2016), (2017, 2017), (2018, 2018), (2026, 2026)]] (ps := [(True), ((!(r176.toList == r181.toList)) = false), (True), ((!(r176b == r181b)) = true)]) (e := .normal) (σ' := ⟨[2006, 2016, 2017, 2018, 2026], [(197, vb true), (28, vb r176b), (27, V.t (T.str r176)), (26, V.ref 2026 0), (22, vb r150), (19, vb (asB r123 r123b r123c)), (18, V.ref 2018 0), (17, V.ref 2017 0), (16, V.ref 2016 0), (7, vb r76c), (6, V.ref 2006 0), (5, V.t (T.list (List.length r68c) 2 (List.flatMap askedC r68c))), (4, vi r68b), (3, vi r68), (2, vb false), (0, vy x0)], [(2006, oc 82 [tl r76, ti r76b]), (2016, oc 82 [tl r123, ti r123b]), (2017, oc 90 [ti r123c, tb r123d]), (2018, oc 82 [tl (asL r123 r123b r123c r123d), ti (asM r123 r123b r123c r123d)]), (2026, oc 82 [tl r173, ti r173b])]⟩) (by kernel_rfl) ⟨trivial, h10, trivial, h11, trivial⟩ ?_
                        exact ⟨(true), h, rfl⟩
                      · -- no
                        obtain ⟨c14, h⟩ := chk_some h
                        refine WP.path tab_ok mixed [(186, An.b false), (190, An.b false), (195, An.call (tb (isStateN r173 r173b)))] [.keep [197, 28, 27, 26, 22, 19, 18, 17, 16, 7, 6, 5, 4, 3, 2, 0], .keepO [2006, 2016, 2017, 2018, 2026], .names [(2006, 2006), (2016, 2016), (2017, 2017), (2018, 2018), (2026, 2026)]] (ps := [(True), ((!(r176.toList == r181.toList)) = false), (True), ((!(r176b == r181b)) = false), (0 + 2 ≤ 2), (C Tryd.prog 67 [T.agg [tl r173, ti r173b]] (tb (isStateN r173 r173b))), (True)]) (e := .normal) (σ' := ⟨[2006, 2016, 2017, 2018, 2026], [(197, vb (!(r176b == (isStateN r173 r173b)))), (28, vb r176b), (27, V.t (T.str r176)), (26, V.ref 2026 0), (22, vb r150), (19, vb (asB r123 r123b r123c)), (18, V.ref 2018 0), (17, V.ref 2017 0), (16, V.ref 2016 0), (7, vb r76c), (6, V.ref 2006 0), (5, V.t (T.list (List.length r68c) 2 (List.flatMap askedC r68c))), (4, vi r68b), (3, vi r68), (2, vb false), (0, vy x0)], [(2006, oc 82 [tl r76, ti r76b]), (2016, oc 82 [tl r123, ti r123b]), (2017, oc 90 [ti r123c, tb r123d]), (2018, oc 82 [tl (asL r123 r123b r123c r123d), ti (asM r123 r123b r123c r123d)]), (2026, oc 82 [tl r173, ti r173b])]⟩) (by kernel_rfl) ⟨trivial, h10, trivial, h11, by decide, (isState_C r173 r173b c14), trivial, trivial⟩ ?_
                        exact ⟨(!(r176b == (isStateN r173 r173b))), h, rfl⟩
                  · -- from there
                    intro v197 h0
                    have h := (show J1 v197 = some y0 from h0)
                    rw [hJ1] at h
                    rcases ite_some h with ⟨h12, h⟩ | ⟨h12, h⟩
                    · -- yes
                      refine WP.cond (b := v197) rfl (fun _ => ?_) (fun hh => by rw [h12] at hh; cases hh)
                      have h := Option.some.inj h
                      subst h
                      exact WP.pathW tab_ok mixed [] _ (ps := []) (r := tb false) (by kernel_rfl) trivial (WkT.eq (y := tb false) (WkT.refl _) rfl) (fun _ h => h)
                    · -- no
                      refine WP.cond (b := v197) rfl (fun hh => by rw [h12] at hh; cases hh) (fun _ => ?_)
                      refine WP.path tab_ok mixed [] [.keep [28, 27, 26, 22, 19, 18, 17, 16, 7, 6, 5, 4, 3, 2, 0], .keepO [2006, 2016, 2017, 2018, 2026]] (ps := []) (e := .normal) (σ' := ⟨[2006, 2016, 2017, 2018, 2026], [(28, vb r176b), (27, V.t (T.str r176)), (26, V.ref 2026 0), (22, vb r150), (19, vb (asB r123 r123b r123c)), (18, V.ref 2018 0), (17, V.ref 2017 0), (16, V.ref 2016 0), (7, vb r76c), (6, V.ref 2006 0), (5, V.t (T.list (List.length r68c) 2 (List.flatMap askedC r68c))), (4, vi r68b), (3, vi r68), (2, vb false), (0, vy x0)], [(2006, oc 82 [tl r76, ti r76b]), (2016, oc 82 [tl r123, ti r123b]), (2017, oc 90 [ti r123c, tb r123d]), (2018, oc 82 [tl (asL r123 r123b r123c r123d), ti (asM r123 r123b r123c r123d)]), (2026, oc 82 [tl r173, ti r173b])]⟩) (by kernel_rfl) trivial ?_
                      refine WP.seq ?_
                      obtain ⟨r199, c14, h⟩ := bnd1_some h
                      refine WP.path tab_ok mixed [(199, An.call (T.str r199))] [.keep [31, 28, 27, 26, 22, 19, 18, 17, 16, 7, 6, 5, 4, 3, 2, 0], .keepO [2006, 2016, 2017, 2018, 2026]] (ps := [(C Tryd.prog 68 [ty x0] (T.str r199))]) (e := .normal) (σ' := ⟨[2006, 2016, 2017, 2018, 2026], [(31, V.t (T.str r199)), (28, vb r176b), (27, V.t (T.str r176)), (26, V.ref 2026 0), (22, vb r150), (19, vb (asB r123 r123b r123c)), (18, V.ref 2018 0), (17, V.ref 2017 0), (16, V.ref 2016 0), (7, vb r76c), (6, V.ref 2006 0), (5, V.t (T.list (List.length r68c) 2 (List.flatMap askedC r68c))), (4, vi r68b), (3, vi r68), (2, vb false), (0, vy x0)], [(2006, oc 82 [tl r76, ti r76b]), (2016, oc 82 [tl r123, ti r123b]), (2017, oc 90 [ti r123c, tb r123d]), (2018, oc 82 [tl (asL r123 r123b r123c r123d), ti (asM r123 r123b r123c r123d)]), (2026, oc 82 [tl r173, ti r173b])]⟩) (by kernel_rfl) ⟨(F_spec_DrawParseState_W x0 r199 c14), trivial⟩ ?_
                      refine WP.seq ?_
                      obtain ⟨r202, r202b, r202c, c15, h⟩ := bnd3_some h
                      refine WP.path tab_ok mixed [(202, An.call (T.tup [T.agg [tl r202, ti r202b], tb r202c])), (32, An.id 2032)] [.keep [33, 32, 31, 28, 27, 26, 22, 19, 18, 17, 16, 7, 6, 5, 4, 3, 2, 0], .keepO [2006, 2016, 2017, 2018, 2026, 2032]] (ps := [(C Tryd.prog 69 [T.str r199] (T.tup [T.agg [tl r202, ti r202b], tb r202c])), ((0 + 2 ≤ 2 ∧ 2 = 2))]) (e := .normal) (σ' := ⟨[2032, 2006, 2016, 2017, 2018, 2026], [(33, vb r202c), (32, V.ref 2032 0), (31, V.t (T.str r199)), (28, vb r176b), (27, V.t (T.str r176)), (26, V.ref 2026 0), (22, vb r150), (19, vb (asB r123 r123b r123c)), (18, V.ref 2018 0), (17, V.ref 2017 0), (16, V.ref 2016 0), (7, vb r76c), (6, V.ref 2006 0), (5, V.t (T.list (List.length r68c) 2 (List.flatMap askedC r68c))), (4, vi r68b), (3, vi r68), (2, vb false), (0, vy x0)], [(2006, oc 82 [tl r76, ti r76b]), (2016, oc 82 [tl r123, ti r123b]), (2017, oc 90 [ti r123c, tb r123d]), (2018, oc 82 [tl (asL r123 r123b r123c r123d), ti (asM r123 r123b r123c r123d)]), (2026, oc 82 [tl r173, ti r173b]), (2032, oc 82 [tl r202, ti r202b])]⟩) (by kernel_rfl) ⟨(F_impl_ParseState_W_C r199 r202 r202b r202c c15), by decide, trivial⟩ ?_
                      refine WP.seq ?_
                      refine WP.seq ?_
                      obtain ⟨r207, r207b, r207c, c16, h⟩ := bnd3_some h
                      refine WP.path tab_ok mixed [(207, An.call (T.tup [T.agg [tl r207, ti r207b], tb r207c])), (34, An.id 2034)] [.keep [35, 34, 33, 32, 31, 28, 27, 26, 22, 19, 18, 17, 16, 7, 6, 5, 4, 3, 2, 0], .keepO [2006, 2016, 2017, 2018, 2026, 2032, 2034]] (ps := [(C Tryd.prog 70 [T.str r199] (T.tup [T.agg [tl r207, ti r207b], tb r207c])), ((0 + 2 ≤ 2 ∧ 2 = 2))]) (e := .normal) (σ' := ⟨[2034, 2032, 2006, 2016, 2017, 2018, 2026], [(35, vb r207c), (34, V.ref 2034 0), (33, vb r202c), (32, V.ref 2032 0), (31, V.t (T.str r199)), (28, vb r176b), (27, V.t (T.str r176)), (26, V.ref 2026 0), (22, vb r150), (19, vb (asB r123 r123b r123c)), (18, V.ref 2018 0), (17, V.ref 2017 0), (16, V.ref 2016 0), (7, vb r76c), (6, V.ref 2006 0), (5, V.t (T.list (List.length r68c) 2 (List.flatMap askedC r68c))), (4, vi r68b), (3, vi r68), (2, vb false), (0, vy x0)], [(2006, oc 82 [tl r76, ti r76b]), (2016, oc 82 [tl r123, ti r123b]), (2017, oc 90 [ti r123c, tb r123d]), (2018, oc 82 [tl (asL r123 r123b r123c r123d), ti (asM r123 r123b r123c r123d)]), (2026, oc 82 [tl r173, ti r173b]), (2032, oc 82 [tl r202, ti r202b]), (2034, oc 82 [tl r207, ti r207b])]⟩) (by kernel_rfl) ⟨(F_spec_ParseState_W_C r199 r207 r207b r207c c16), by decide, trivial⟩ ?_
                      obtain ⟨J1, hJ1, h⟩ := jn_some h
                      refine WP.joinA (fun (zz : Bool) => ⟨[2006, 2016, 2017, 2018, 2026, 2032], [(218, vb zz), (33, vb r202c), (32, V.ref 2032 0), (31, V.t (T.str r199)), (28, vb r176b), (27, V.t (T.str r176)), (26, V.ref 2026 0), (22, vb r150), (19, vb (asB r123 r123b r123c)), (18, V.ref 2018 0), (17, V.ref 2017 0), (16, V.ref 2016 0), (7, vb r76c), (6, V.ref 2006 0), (5, V.t (T.list (List.length r68c) 2 (List.flatMap askedC r68c))), (4, vi r68b), (3, vi r68), (2, vb false), (0, vy x0)], [(2006, oc 82 [tl r76, ti r76b]), (2016, oc 82 [tl r123, ti r123b]), (2017, oc 90 [ti r123c, tb r123d]), (2018, oc 82 [tl (asL r123 r123b r123c r123d), ti (asM r123 r123b r123c r123d)]), (2026, oc 82 [tl r173, ti r173b]), (2032, oc 82 [tl r202, ti r202b])]⟩) (fun zz => J1 zz = some y0) ?_ ?_
                      · -- to where they meet
                        rcases ite_some h with ⟨h13, h⟩ | ⟨h13, h⟩
                        · -- yes
                          refine WP.path tab_ok mixed [(212, An.b true)] [.keep [218, 33, 32, 31, 28, 27, 26, 22, 19, 18, 17, 16, 7, 6, 5, 4, 3, 2, 0], .keepO [2006, 2016, 2017, 2018, 2026, 2032], .names [(2006, 2006), (2016, 2016), (2017, 2017), (2018, 2018), (2026, 2026), (2032, 2032)]] (ps := [(True), ((!(r202c == r207c)) = true)]) (e := .normal) (σ' := ⟨[2006, 2016, 2017, 2018, 2026, 2032], [(218, vb true), (33, vb r202c), (32, V.ref 2032 0), (31, V.t (T.str r199)), (28, vb r176b), (27, V.t (T.str r176)), (26, V.ref 2026 0), (22, vb r150), (19, vb (asB r123 r123b r123c)), (18, V.ref 2018 0), (17, V.ref 2017 0), (16, V.ref 2016 0), (7, vb r76c), (6, V.ref 2006 0), (5, V.t (T.list (List.length r68c) 2 (List.flatMap askedC r68c))), (4, vi r68b), (3, vi r68), (2, vb false), (0, vy x0)], [(2006, oc 82 [tl r76, ti r76b]), (2016, oc 82 [tl r123, ti r123b]), (2017, oc 90 [ti r123c, tb r123d]), (2018, oc 82 [tl (asL r123 r123b r123c r123d), ti (asM r123 r123b r123c r123d)]), (2026, oc 82 [tl r173, ti r173b]), (2032, oc 82 [tl r202, ti r202b])]⟩) (by kernel_rfl) ⟨trivial, h13, trivial⟩ ?_
                          exact ⟨(true), h, rfl⟩
                        · -- no
                          obtain ⟨r216, c17, h⟩ := bnd1_some h
                          refine WP.path tab_ok mixed [(212, An.b false), (216, An.call (tb r216))] [.keep [218, 33, 32, 31, 28, 27, 26, 22, 19, 18, 17, 16, 7, 6, 5, 4, 3, 2, 0], .keepO [2006, 2016, 2017, 2018, 2026, 2032], .names [(2006, 2006), (2016, 2016), (2017, 2017), (2018, 2018), (2026, 2026), (2032, 2032)]] (ps := [(True), ((!(r202c == r207c)) = false), (0 + 2 ≤ 2), (0 + 2 ≤ 2), (C Tryd.prog 55 [T.agg [tl r202, ti r202b], T.agg [tl r207, ti r207b]] (tb r216))]) (e := .normal) (σ' := ⟨[2006, 2016, 2017, 2018, 2026, 2032], [(218, vb (!r216)), (33, vb r202c), (32, V.ref 2032 0), (31, V.t (T.str r199)), (28, vb r176b), (27, V.t (T.str r176)), (26, V.ref 2026 0), (22, vb r150), (19, vb (asB r123 r123b r123c)), (18, V.ref 2018 0), (17, V.ref 2017 0), (16, V.ref 2016 0), (7, vb r76c), (6, V.ref 2006 0), (5, V.t (T.list (List.length r68c) 2 (List.flatMap askedC r68c))), (4, vi r68b), (3, vi r68), (2, vb false), (0, vy x0)], [(2006, oc 82 [tl r76, ti r76b]), (2016, oc 82 [tl r123, ti r123b]), (2017, oc 90 [ti r123c, tb r123d]), (2018, oc 82 [tl (asL r123 r123b r123c r123d), ti (asM r123 r123b r123c r123d)]), (2026, oc 82 [tl r173, ti r173b]), (2032, oc 82 [tl r202, ti r202b])]⟩) (by kernel_rfl) ⟨trivial, h13, by decide, by decide, (F_laws_rState_W r202 r202b r207 r207b r216 c17), trivial⟩ ?_
                          exact ⟨(!r216), h, rfl⟩
                      · -- from there
                        intro v218 h0
                        have h := (show J1 v218 = some y0 from h0)
                        rw [hJ1] at h
                        rcases ite_some h with ⟨h14, h⟩ | ⟨h14, h⟩
                        · -- yes
                          refine WP.cond (b := v218) rfl (fun _ => ?_) (fun hh => by rw [h14] at hh; cases hh)
                          have h := Option.some.inj h
                          subst h
                          exact WP.pathW tab_ok mixed [] _ (ps := []) (r := tb false) (by kernel_rfl) trivial (WkT.eq (y := tb false) (WkT.refl _) rfl) (fun _ h => h)
                        · -- no
                          refine WP.cond (b := v218) rfl (fun hh => by rw [h14] at hh; cases hh) (fun _ => ?_)
                          refine WP.path tab_ok mixed [] [.keep [33, 32, 31, 28, 27, 26, 22, 19, 18, 17, 16, 7, 6, 5, 4, 3, 2, 0], .keepO [2006, 2016, 2017, 2018, 2026, 2032]] (ps := []) (e := .normal) (σ' := ⟨[2006, 2016, 2017, 2018, 2026, 2032], [(33, vb r202c), (32, V.ref 2032 0), (31, V.t (T.str r199)), (28, vb r176b), (27, V.t (T.str r176)), (26, V.ref 2026 0), (22, vb r150), (19, vb (asB r123 r123b r123c)), (18, V.ref 2018 0), (17, V.ref 2017 0), (16, V.ref 2016 0), (7, vb r76c), (6, V.ref 2006 0), (5, V.t (T.list (List.length r68c) 2 (List.flatMap askedC r68c))), (4, vi r68b), (3, vi r68), (2, vb false), (0, vy x0)], [(2006, oc 82 [tl r76, ti r76b]), (2016, oc 82 [tl r123, ti r123b]), (2017, oc 90 [ti r123c, tb r123d]), (2018, oc 82 [tl (asL r123 r123b r123c r123d), ti (asM r123 r123b r123c r123d)]), (2026, oc 82 [tl r173, ti r173b]), (2032, oc 82 [tl r202, ti r202b])]⟩) (by kernel_rfl) trivial ?_
                          refine WP.seq ?_
                          obtain ⟨r221, r221b, r221c, c17, h⟩ := bnd3_some h
                          refine WP.path tab_ok mixed [(221, An.call (T.tup [ti r221, T.list (List.length r221b) 2 (List.flatMap askedC r221b), ti r221c]))] [.keep [38, 37, 36, 33, 32, 31, 28, 27, 26, 22, 19, 18, 17, 16, 7, 6, 5, 4, 3, 2, 0], .keepO [2006, 2016, 2017, 2018, 2026, 2032]] (ps := [(C Tryd.prog 71 [ty x0] (T.tup [ti r221, T.list (List.length r221b) 2 (List.flatMap askedC r221b), ti r221c]))]) (e := .normal) (σ' := ⟨[2006, 2016, 2017, 2018, 2026, 2032], [(38, vi r221c), (37, V.t (T.list (List.length r221b) 2 (List.flatMap askedC r221b))), (36, vi r221), (33, vb r202c), (32, V.ref 2032 0), (31, V.t (T.str r199)), (28, vb r176b), (27, V.t (T.str r176)), (26, V.ref 2026 0), (22, vb r150), (19, vb (asB r123 r123b r123c)), (18, V.ref 2018 0), (17, V.ref 2017 0), (16, V.ref 2016 0), (7, vb r76c), (6, V.ref 2006 0), (5, V.t (T.list (List.length r68c) 2 (List.flatMap askedC r68c))), (4, vi r68b), (3, vi r68), (2, vb false), (0, vy x0)], [(2006, oc 82 [tl r76, ti r76b]), (2016, oc 82 [tl r123, ti r123b]), (2017, oc 90 [ti r123c, tb r123d]), (2018, oc 82 [tl (asL r123 r123b r123c r123d), ti (asM r123 r123b r123c r123d)]), (2026, oc 82 [tl r173, ti r173b]), (2032, oc 82 [tl r202, ti r202b])]⟩) (by kernel_rfl) ⟨(F_spec_DrawFalseFor_W_C x0 r221 r221b r221c c17), trivial⟩ ?_
                          refine WP.seq ?_
                          obtain ⟨r229, r229b, c18, h⟩ := bnd2_some h
                          refine WP.path tab_ok mixed [(229, An.call (T.tup [ti r229, tb r229b]))] [.keep [40, 39, 38, 37, 36, 33, 32, 31, 28, 27, 26, 22, 19, 18, 17, 16, 7, 6, 5, 4, 3, 2, 0], .keepO [2006, 2016, 2017, 2018, 2026, 2032]] (ps := [(C Tryd.prog 72 [ti r221, T.list (List.length r221b) 2 (List.flatMap askedC r221b), ti r221c] (T.tup [ti r229, tb r229b]))]) (e := .normal) (σ' := ⟨[2006, 2016, 2017, 2018, 2026, 2032], [(40, vb r229b), (39, vi r229), (38, vi r221c), (37, V.t (T.list (List.length r221b) 2 (List.flatMap askedC r221b))), (36, vi r221), (33, vb r202c), (32, V.ref 2032 0), (31, V.t (T.str r199)), (28, vb r176b), (27, V.t (T.str r176)), (26, V.ref 2026 0), (22, vb r150), (19, vb (asB r123 r123b r123c)), (18, V.ref 2018 0), (17, V.ref 2017 0), (16, V.ref 2016 0), (7, vb r76c), (6, V.ref 2006 0), (5, V.t (T.list (List.length r68c) 2 (List.flatMap askedC r68c))), (4, vi r68b), (3, vi r68), (2, vb false), (0, vy x0)], [(2006, oc 82 [tl r76, ti r76b]), (2016, oc 82 [tl r123, ti r123b]), (2017, oc 90 [ti r123c, tb r123d]), (2018, oc 82 [tl (asL r123 r123b r123c r123d), ti (asM r123 r123b r123c r123d)]), (2026, oc 82 [tl r173, ti r173b]), (2032, oc 82 [tl r202, ti r202b])]⟩) (by kernel_rfl) ⟨(F_impl_FalseFor_W r221 r221b r221c r229 r229b c18), trivial⟩ ?_
                          refine WP.seq ?_
                          refine WP.seq ?_
                          obtain ⟨r236, r236b, c19, h⟩ := bnd2_some h
                          refine WP.path tab_ok mixed [(236, An.call (T.tup [ti r236, tb r236b]))] [.keep [42, 41, 40, 39, 33, 32, 31, 28, 27, 26, 22, 19, 18, 17, 16, 7, 6, 5, 4, 3, 2, 0], .keepO [2006, 2016, 2017, 2018, 2026, 2032]] (ps := [(C Tryd.prog 73 [ti r221, T.list (List.length r221b) 2 (List.flatMap askedC r221b), ti r221c] (T.tup [ti r236, tb r236b]))]) (e := .normal) (σ' := ⟨[2006, 2016, 2017, 2018, 2026, 2032], [(42, vb r236b), (41, vi r236), (40, vb r229b), (39, vi r229), (33, vb r202c), (32, V.ref 2032 0), (31, V.t (T.str r199)), (28, vb r176b), (27, V.t (T.str r176)), (26, V.ref 2026 0), (22, vb r150), (19, vb (asB r123 r123b r123c)), (18, V.ref 2018 0), (17, V.ref 2017 0), (16, V.ref 2016 0), (7, vb r76c), (6, V.ref 2006 0), (5, V.t (T.list (List.length r68c) 2 (List.flatMap askedC r68c))), (4, vi r68b), (3, vi r68), (2, vb false), (0, vy x0)], [(2006, oc 82 [tl r76, ti r76b]), (2016, oc 82 [tl r123, ti r123b]), (2017, oc 90 [ti r123c, tb r123d]), (2018, oc 82 [tl (asL r123 r123b r123c r123d), ti (asM r123 r123b r123c r123d)]), (2026, oc 82 [tl r173, ti r173b]), (2032, oc 82 [tl r202, ti r202b])]⟩) (by kernel_rfl) ⟨(F_spec_FalseFor_W r221 r221b r221c r236 r236b c19), trivial⟩ ?_
                          obtain ⟨J1, hJ1, h⟩ := jn_some h
                          refine WP.joinA (fun (zz : Bool) => ⟨[2006, 2016, 2017, 2018, 2026, 2032], [(246, vb zz), (33, vb r202c), (32, V.ref 2032 0), (31, V.t (T.str r199)), (28, vb r176b), (27, V.t (T.str r176)), (26, V.ref 2026 0), (22, vb r150), (19, vb (asB r123 r123b r123c)), (18, V.ref 2018 0), (17, V.ref 2017 0), (16, V.ref 2016 0), (7, vb r76c), (6, V.ref 2006 0), (5, V.t (T.list (List.length r68c) 2 (List.flatMap askedC r68c))), (4, vi r68b), (3, vi r68), (2, vb false), (0, vy x0)], [(2006, oc 82 [tl r76, ti r76b]), (2016, oc 82 [tl r123, ti r123b]), (2017, oc 90 [ti r123c, tb r123d]), (2018, oc 82 [tl (asL r123 r123b r123c r123d), ti (asM r123 r123b r123c r123d)]), (2026, oc 82 [tl r173, ti r173b]), (2032, oc 82 [tl r202, ti r202b])]⟩) (fun zz => J1 zz = some y0) ?_ ?_
                          · -- to where they meet
                            rcases ite_some h with ⟨h15, h⟩ | ⟨h15, h⟩
                            · -- yes
                              refine WP.path tab_ok mixed [(241, An.b true)] [.keep [246, 33, 32, 31, 28, 27, 26, 22, 19, 18, 17, 16, 7, 6, 5, 4, 3, 2, 0], .keepO [2006, 2016, 2017, 2018, 2026, 2032], .names [(2006, 2006), (2016, 2016), (2017, 2017), (2018, 2018), (2026, 2026), (2032, 2032)]] (ps := [(True), ((r229 != r236) = true)]) (e := .normal) (σ' := ⟨[2006, 2016, 2017, 2018, 2026, 2032], [(246, vb true), (33, vb r202c), (32, V.ref 2032 0), (31, V.t (T.str r199)), (28, vb r176b), (27, V.t (T.str r176)), (26, V.ref 2026 0), (22, vb r150), (19, vb (asB r123 r123b r123c)), (18, V.ref 2018 0), (17, V.ref 2017 0), (16, V.ref 2016 0), (7, vb r76c), (6, V.ref 2006 0), (5, V.t (T.list (List.length r68c) 2 (List.flatMap askedC r68c))), (4, vi r68b), (3, vi r68), (2, vb false), (0, vy x0)], [(2006, oc 82 [tl r76, ti r76b]), (2016, oc 82 [tl r123, ti r123b]), (2017, oc 90 [ti r123c, tb r123d]), (2018, oc 82 [tl (asL r123 r123b r123c r123d), ti (asM r123 r123b r123c r123d)]), (2026, oc 82 [tl r173, ti r173b]), (2032, oc 82 [tl r202, ti r202b])]⟩) (by kernel_rfl) ⟨trivial, h15, trivial⟩ ?_
                              exact ⟨(true), h, rfl⟩
                            · -- no
                              refine WP.path tab_ok mixed [(241, An.b false)] [.keep [246, 33, 32, 31, 28, 27, 26, 22, 19, 18, 17, 16, 7, 6, 5, 4, 3, 2, 0], .keepO [2006, 2016, 2017, 2018, 2026, 2032], .names [(2006, 2006), (2016, 2016), (2017, 2017), (2018, 2018), (2026, 2026), (2032, 2032)]] (ps := [(True), ((r229 != r236) = false), (True)]) (e := .normal) (σ' := ⟨[2006, 2016, 2017, 2018, 2026, 2032], [(246, vb (!(r229b == r236b))), (33, vb r202c), (32, V.ref 2032 0), (31, V.t (T.str r199)), (28, vb r176b), (27, V.t (T.str r176)), (26, V.ref 2026 0), (22, vb r150), (19, vb (asB r123 r123b r123c)), (18, V.ref 2018 0), (17, V.ref 2017 0), (16, V.ref 2016 0), (7, vb r76c), (6, V.ref 2006 0), (5, V.t (T.list (List.length r68c) 2 (List.flatMap askedC r68c))), (4, vi r68b), (3, vi r68), (2, vb false), (0, vy x0)], [(2006, oc 82 [tl r76, ti r76b]), (2016, oc 82 [tl r123, ti r123b]), (2017, oc 90 [ti r123c, tb r123d]), (2018, oc 82 [tl (asL r123 r123b r123c r123d), ti (asM r123 r123b r123c r123d)]), (2026, oc 82 [tl r173, ti r173b]), (2032, oc 82 [tl r202, ti r202b])]⟩) (by kernel_rfl) ⟨trivial, h15, trivial, trivial⟩ ?_
                              exact ⟨(!(r229b == r236b)), h, rfl⟩
                          · -- from there
                            intro v246 h0
                            have h := (show J1 v246 = some y0 from h0)
                            rw [hJ1] at h
                            rcases ite_some h with ⟨h16, h⟩ | ⟨h16, h⟩
                            · -- yes
                              refine WP.cond (b := v246) rfl (fun _ => ?_) (fun hh => by rw [h16] at hh; cases hh)
                              have h := Option.some.inj h
                              subst h
                              exact WP.pathW tab_ok mixed [] _ (ps := []) (r := tb false) (by kernel_rfl) trivial (WkT.eq (y := tb false) (WkT.refl _) rfl) (fun _ h => h)
                            · -- no
                              refine WP.cond (b := v246) rfl (fun hh => by rw [h16] at hh; cases hh) (fun _ => ?_)
                              refine WP.path tab_ok mixed [] [.keep [33, 32, 31, 28, 27, 26, 22, 19, 18, 17, 16, 7, 6, 5, 4, 3, 2, 0], .keepO [2006, 2016, 2017, 2018, 2026, 2032]] (ps := []) (e := .normal) (σ' := ⟨[2006, 2016, 2017, 2018, 2026, 2032], [(33, vb r202c), (32, V.ref 2032 0), (31, V.t (T.str r199)), (28, vb r176b), (27, V.t (T.str r176)), (26, V.ref 2026 0), (22, vb r150), (19, vb (asB r123 r123b r123c)), (18, V.ref 2018 0), (17, V.ref 2017 0), (16, V.ref 2016 0), (7, vb r76c), (6, V.ref 2006 0), (5, V.t (T.list (List.length r68c) 2 (List.flatMap askedC r68c))), (4, vi r68b), (3, vi r68), (2, vb false), (0, vy x0)], [(2006, oc 82 [tl r76, ti r76b]), (2016, oc 82 [tl r123, ti r123b]), (2017, oc 90 [ti r123c, tb r123d]), (2018, oc 82 [tl (asL r123 r123b r123c r123d), ti (asM r123 r123b r123c r123d)]), (2026, oc 82 [tl r173, ti r173b]), (2032, oc 82 [tl r202, ti r202b])]⟩) (by kernel_rfl) trivial ?_
                              refine WP.seq ?_
                              obtain ⟨r249, r249b, c20, h⟩ := bnd2_some h
                              refine WP.path tab_ok mixed [(249, An.call (T.tup [ti r249, T.list (List.length r249b) 2 (List.flatMap askedC r249b)]))] [.keep [44, 43, 33, 32, 31, 28, 27, 26, 22, 19, 18, 17, 16, 7, 6, 5, 4, 3, 2], .keepO [2006, 2016, 2017, 2018, 2026, 2032]] (ps := [(C Tryd.prog 74 [ty x0] (T.tup [ti r249, T.list (List.length r249b) 2 (List.flatMap askedC r249b)]))]) (e := .normal) (σ' := ⟨[2006, 2016, 2017, 2018, 2026, 2032], [(44, V.t (T.list (List.length r249b) 2 (List.flatMap askedC r249b))), (43, vi r249), (33, vb r202c), (32, V.ref 2032 0), (31, V.t (T.str r199)), (28, vb r176b), (27, V.t (T.str r176)), (26, V.ref 2026 0), (22, vb r150), (19, vb (asB r123 r123b r123c)), (18, V.ref 2018 0), (17, V.ref 2017 0), (16, V.ref 2016 0), (7, vb r76c), (6, V.ref 2006 0), (5, V.t (T.list (List.length r68c) 2 (List.flatMap askedC r68c))), (4, vi r68b), (3, vi r68), (2, vb false)], [(2006, oc 82 [tl r76, ti r76b]), (2016, oc 82 [tl r123, ti r123b]), (2017, oc 90 [ti r123c, tb r123d]), (2018, oc 82 [tl (asL r123 r123b r123c r123d), ti (asM r123 r123b r123c r123d)]), (2026, oc 82 [tl r173, ti r173b]), (2032, oc 82 [tl r202, ti r202b])]⟩) (by kernel_rfl) ⟨(F_spec_DrawFewestFalse_W_C x0 r249 r249b c20), trivial⟩ ?_
                              refine WP.seq ?_
                              obtain ⟨r255, r255b, r255c, c21, h⟩ := bnd3_some h
                              refine WP.path tab_ok mixed [(255, An.call (T.tup [ti r255, tl r255b, tb r255c]))] [.keep [47, 46, 45, 44, 43, 33, 32, 31, 28, 27, 26, 22, 19, 18, 17, 16, 7, 6, 5, 4, 3, 2], .keepO [2006, 2016, 2017, 2018, 2026, 2032]] (ps := [(C Tryd.prog 75 [ti r249, T.list (List.length r249b) 2 (List.flatMap askedC r249b)] (T.tup [ti r255, tl r255b, tb r255c]))]) (e := .normal) (σ' := ⟨[2006, 2016, 2017, 2018, 2026, 2032], [(47, vb r255c), (46, vl r255b), (45, vi r255), (44, V.t (T.list (List.length r249b) 2 (List.flatMap askedC r249b))), (43, vi r249), (33, vb r202c), (32, V.ref 2032 0), (31, V.t (T.str r199)), (28, vb r176b), (27, V.t (T.str r176)), (26, V.ref 2026 0), (22, vb r150), (19, vb (asB r123 r123b r123c)), (18, V.ref 2018 0), (17, V.ref 2017 0), (16, V.ref 2016 0), (7, vb r76c), (6, V.ref 2006 0), (5, V.t (T.list (List.length r68c) 2 (List.flatMap askedC r68c))), (4, vi r68b), (3, vi r68), (2, vb false)], [(2006, oc 82 [tl r76, ti r76b]), (2016, oc 82 [tl r123, ti r123b]), (2017, oc 90 [ti r123c, tb r123d]), (2018, oc 82 [tl (asL r123 r123b r123c r123d), ti (asM r123 r123b r123c r123d)]), (2026, oc 82 [tl r173, ti r173b]), (2032, oc 82 [tl r202, ti r202b])]⟩) (by kernel_rfl) ⟨(F_impl_FewestFalse_W_C r249 r249b r255 r255b r255c c21), trivial⟩ ?_
                              refine WP.seq ?_
                              refine WP.seq ?_
                              obtain ⟨r262, r262b, r262c, c22, h⟩ := bnd3_some h
                              refine WP.path tab_ok mixed [(262, An.call (T.tup [ti r262, tl r262b, tb r262c]))] [.keep [50, 49, 48, 47, 46, 45, 33, 32, 31, 28, 27, 26, 22, 19, 18, 17, 16, 7, 6, 5, 4, 3, 2], .keepO [2006, 2016, 2017, 2018, 2026, 2032]] (ps := [(C Tryd.prog 76 [ti r249, T.list (List.length r249b) 2 (List.flatMap askedC r249b)] (T.tup [ti r262, tl r262b, tb r262c]))]) (e := .normal) (σ' := ⟨[2006, 2016, 2017, 2018, 2026, 2032], [(50, vb r262c), (49, vl r262b), (48, vi r262), (47, vb r255c), (46, vl r255b), (45, vi r255), (33, vb r202c), (32, V.ref 2032 0), (31, V.t (T.str r199)), (28, vb r176b), (27, V.t (T.str r176)), (26, V.ref 2026 0), (22, vb r150), (19, vb (asB r123 r123b r123c)), (18, V.ref 2018 0), (17, V.ref 2017 0), (16, V.ref 2016 0), (7, vb r76c), (6, V.ref 2006 0), (5, V.t (T.list (List.length r68c) 2 (List.flatMap askedC r68c))), (4, vi r68b), (3, vi r68), (2, vb false)], [(2006, oc 82 [tl r76, ti r76b]), (2016, oc 82 [tl r123, ti r123b]), (2017, oc 90 [ti r123c, tb r123d]), (2018, oc 82 [tl (asL r123 r123b r123c r123d), ti (asM r123 r123b r123c r123d)]), (2026, oc 82 [tl r173, ti r173b]), (2032, oc 82 [tl r202, ti r202b])]⟩) (by kernel_rfl) ⟨(F_spec_FewestFalse_W_C r249 r249b r262 r262b r262c c22), trivial⟩ ?_
                              obtain ⟨J1, hJ1, h⟩ := jn_some h
                              refine WP.joinA (fun (zz : Bool) => ⟨[2006, 2016, 2017, 2018, 2026, 2032], [(287, vb zz), (33, vb r202c), (32, V.ref 2032 0), (31, V.t (T.str r199)), (28, vb r176b), (27, V.t (T.str r176)), (26, V.ref 2026 0), (22, vb r150), (19, vb (asB r123 r123b r123c)), (18, V.ref 2018 0), (17, V.ref 2017 0), (16, V.ref 2016 0), (7, vb r76c), (6, V.ref 2006 0), (5, V.t (T.list (List.length r68c) 2 (List.flatMap askedC r68c))), (4, vi r68b), (3, vi r68), (2, vb false)], [(2006, oc 82 [tl r76, ti r76b]), (2016, oc 82 [tl r123, ti r123b]), (2017, oc 90 [ti r123c, tb r123d]), (2018, oc 82 [tl (asL r123 r123b r123c r123d), ti (asM r123 r123b r123c r123d)]), (2026, oc 82 [tl r173, ti r173b]), (2032, oc 82 [tl r202, ti r202b])]⟩) (fun zz => J1 zz = some y0) ?_ ?_
                              · -- to where they meet
                                rcases ite_some h with ⟨h17, h⟩ | ⟨h17, h⟩
                                · -- yes
                                  refine WP.path tab_ok mixed [(268, An.b true)] [.keep [287, 33, 32, 31, 28, 27, 26, 22, 19, 18, 17, 16, 7, 6, 5, 4, 3, 2], .keepO [2006, 2016, 2017, 2018, 2026, 2032], .names [(2006, 2006), (2016, 2016), (2017, 2017), (2018, 2018), (2026, 2026), (2032, 2032)]] (ps := [(True), ((r255 != r262) = true)]) (e := .normal) (σ' := ⟨[2006, 2016, 2017, 2018, 2026, 2032], [(287, vb true), (33, vb r202c), (32, V.ref 2032 0), (31, V.t (T.str r199)), (28, vb r176b), (27, V.t (T.str r176)), (26, V.ref 2026 0), (22, vb r150), (19, vb (asB r123 r123b r123c)), (18, V.ref 2018 0), (17, V.ref 2017 0), (16, V.ref 2016 0), (7, vb r76c), (6, V.ref 2006 0), (5, V.t (T.list (List.length r68c) 2 (List.flatMap askedC r68c))), (4, vi r68b), (3, vi r68), (2, vb false)], [(2006, oc 82 [tl r76, ti r76b]), (2016, oc 82 [tl r123, ti r123b]), (2017, oc 90 [ti r123c, tb r123d]), (2018, oc 82 [tl (asL r123 r123b r123c r123d), ti (asM r123 r123b r123c r123d)]), (2026, oc 82 [tl r173, ti r173b]), (2032, oc 82 [tl r202, ti r202b])]⟩) (by kernel_rfl) ⟨trivial, h17, trivial⟩ ?_
                                  exact ⟨(true), h, rfl⟩
                                · -- no
                                  rcases ite_some h with ⟨h18, h⟩ | ⟨h18, h⟩
                                  · -- yes
                                    refine WP.path tab_ok mixed [(268, An.b false), (272, An.b true)] [.keep [287, 33, 32, 31, 28, 27, 26, 22, 19, 18, 17, 16, 7, 6, 5, 4, 3, 2], .keepO [2006, 2016, 2017, 2018, 2026, 2032], .names [(2006, 2006), (2016, 2016), (2017, 2017), (2018, 2018), (2026, 2026), (2032, 2032)]] (ps := [(True), ((r255 != r262) = false), (True), ((!(r255c == r262c)) = true)]) (e := .normal) (σ' := ⟨[2006, 2016, 2017, 2018, 2026, 2032], [(287, vb true), (33, vb r202c), (32, V.ref 2032 0), (31, V.t (T.str r199)), (28, vb r176b), (27, V.t (T.str r176)), (26, V.ref 2026 0), (22, vb r150), (19, vb (asB r123 r123b r123c)), (18, V.ref 2018 0), (17, V.ref 2017 0), (16, V.ref 2016 0), (7, vb r76c), (6, V.ref 2006 0), (5, V.t (T.list (List.length r68c) 2 (List.flatMap askedC r68c))), (4, vi r68b), (3, vi r68), (2, vb false)], [(2006, oc 82 [tl r76, ti r76b]), (2016, oc 82 [tl r123, ti r123b]), (2017, oc 90 [ti r123c, tb r123d]), (2018, oc 82 [tl (asL r123 r123b r123c r123d), ti (asM r123 r123b r123c r123d)]), (2026, oc 82 [tl r173, ti r173b]), (2032, oc 82 [tl r202, ti r202b])]⟩) (by kernel_rfl) ⟨trivial, h17, trivial, h18, trivial⟩ ?_
                                    exact ⟨(true), h, rfl⟩
                                  · -- no
                                    obtain ⟨r277, c23, h⟩ := bnd1_some h
                                    rcases ite_some h with ⟨h19, h⟩ | ⟨h19, h⟩
                                    · -- yes
                                      refine WP.path tab_ok mixed [(268, An.b false), (272, An.b false), (277, An.call (tb r277)), (280, An.b true)] [.keep [287, 33, 32, 31, 28, 27, 26, 22, 19, 18, 17, 16, 7, 6, 5, 4, 3, 2], .keepO [2006, 2016, 2017, 2018, 2026, 2032], .names [(2006, 2006), (2016, 2016), (2017, 2017), (2018, 2018), (2026, 2026), (2032, 2032)]] (ps := [(True), ((r255 != r262) = false), (True), ((!(r255c == r262c)) = false), (C Tryd.prog 77 [tl r255b, tl r262b] (tb r277)), ((!r277) = true)]) (e := .normal) (σ' := ⟨[2006, 2016, 2017, 2018, 2026, 2032], [(287, vb true), (33, vb r202c), (32, V.ref 2032 0), (31, V.t (T.str r199)), (28, vb r176b), (27, V.t (T.str r176)), (26, V.ref 2026 0), (22, vb r150), (19, vb (asB r123 r123b r123c)), (18, V.ref 2018 0), (17, V.ref 2017 0), (16, V.ref 2016 0), (7, vb r76c), (6, V.ref 2006 0), (5, V.t (T.list (List.length r68c) 2 (List.flatMap askedC r68c))), (4, vi r68b), (3, vi r68), (2, vb false)], [(2006, oc 82 [tl r76, ti r76b]), (2016, oc 82 [tl r123, ti r123b]), (2017, oc 90 [ti r123c, tb r123d]), (2018, oc 82 [tl (asL r123 r123b r123c r123d), ti (asM r123 r123b r123c r123d)]), (2026, oc 82 [tl r173, ti r173b]), (2032, oc 82 [tl r202, ti r202b])]⟩) (by kernel_rfl) ⟨trivial, h17, trivial, h18, (F_laws_rInts_W r255b r262b r277 c23), h19, trivial⟩ ?_
                                      exact ⟨(true), h, rfl⟩
                                    · -- no
                                      rcases ite_some h with ⟨h20, h⟩ | ⟨h20, h⟩
                                      · -- yes
                                        refine WP.path tab_ok mixed [(268, An.b false), (272, An.b false), (277, An.call (tb r277)), (280, An.b false), (282, An.b true)] [.keep [287, 33, 32, 31, 28, 27, 26, 22, 19, 18, 17, 16, 7, 6, 5, 4, 3, 2], .keepO [2006, 2016, 2017, 2018, 2026, 2032], .names [(2006, 2006), (2016, 2016), (2017, 2017), (2018, 2018), (2026, 2026), (2032, 2032)]] (ps := [(True), ((r255 != r262) = false), (True), ((!(r255c == r262c)) = false), (C Tryd.prog 77 [tl r255b, tl r262b] (tb r277)), ((!r277) = false), ((r255c) = true), (True)]) (e := .normal) (σ' := ⟨[2006, 2016, 2017, 2018, 2026, 2032], [(287, vb (((List.length r255b : Nat) : Int) == (0 : Int))), (33, vb r202c), (32, V.ref 2032 0), (31, V.t (T.str r199)), (28, vb r176b), (27, V.t (T.str r176)), (26, V.ref 2026 0), (22, vb r150), (19, vb (asB r123 r123b r123c)), (18, V.ref 2018 0), (17, V.ref 2017 0), (16, V.ref 2016 0), (7, vb r76c), (6, V.ref 2006 0), (5, V.t (T.list (List.length r68c) 2 (List.flatMap askedC r68c))), (4, vi r68b), (3, vi r68), (2, vb false)], [(2006, oc 82 [tl r76, ti r76b]), (2016, oc 82 [tl r123, ti r123b]), (2017, oc 90 [ti r123c, tb r123d]), (2018, oc 82 [tl (asL r123 r123b r123c r123d), ti (asM r123 r123b r123c r123d)]), (2026, oc 82 [tl r173, ti r173b]), (2032, oc 82 [tl r202, ti r202b])]⟩) (by kernel_rfl) ⟨trivial, h17, trivial, h18, (F_laws_rInts_W r255b r262b r277 c23), h19, h20, trivial, trivial⟩ ?_
                                        exact ⟨(((List.length r255b : Nat) : Int) == (0 : Int)), h, rfl⟩
                                      · -- no
                                        refine WP.path tab_ok mixed [(268, An.b false), (272, An.b false), (277, An.call (tb r277)), (280, An.b false), (282, An.b false)] [.keep [287, 33, 32, 31, 28, 27, 26, 22, 19, 18, 17, 16, 7, 6, 5, 4, 3, 2], .keepO [2006, 2016, 2017, 2018, 2026, 2032], .names [(2006, 2006), (2016, 2016), (2017, 2017), (2018, 2018), (2026, 2026), (2032, 2032)]] (ps := [(True), ((r255 != r262) = false), (True), ((!(r255c == r262c)) = false), (C Tryd.prog 77 [tl r255b, tl r262b] (tb r277)), ((!r277) = false), ((r255c) = false)]) (e := .normal) (σ' := ⟨[2006, 2016, 2017, 2018, 2026, 2032], [(287, vb false), (33, vb r202c), (32, V.ref 2032 0), (31, V.t (T.str r199)), (28, vb r176b), (27, V.t (T.str r176)), (26, V.ref 2026 0), (22, vb r150), (19, vb (asB r123 r123b r123c)), (18, V.ref 2018 0), (17, V.ref 2017 0), (16, V.ref 2016 0), (7, vb r76c), (6, V.ref 2006 0), (5, V.t (T.list (List.length r68c) 2 (List.flatMap askedC r68c))), (4, vi r68b), (3, vi r68), (2, vb false)], [(2006, oc 82 [tl r76, ti r76b]), (2016, oc 82 [tl r123, ti r123b]), (2017, oc 90 [ti r123c, tb r123d]), (2018, oc 82 [tl (asL r123 r123b r123c r123d), ti (asM r123 r123b r123c r123d)]), (2026, oc 82 [tl r173, ti r173b]), (2032, oc 82 [tl r202, ti r202b])]⟩) (by kernel_rfl) ⟨trivial, h17, trivial, h18, (F_laws_rInts_W r255b r262b r277 c23), h19, h20, trivial⟩ ?_
                                        exact ⟨(false), h, rfl⟩
                              · -- from there
                                intro v287 h0
                                have h := (show J1 v287 = some y0 from h0)
                                rw [hJ1] at h
                                rcases ite_some h with ⟨h21, h⟩ | ⟨h21, h⟩
                                · -- yes
                                  refine WP.cond (b := v287) rfl (fun _ => ?_) (fun hh => by rw [h21] at hh; cases hh)
                                  have h := Option.some.inj h
                                  subst h
                                  exact WP.pathW tab_ok mixed [] _ (ps := []) (r := tb false) (by kernel_rfl) trivial (WkT.eq (y := tb false) (WkT.refl _) rfl) (fun _ h => h)
                                · -- no
                                  refine WP.cond (b := v287) rfl (fun hh => by rw [h21] at hh; cases hh) (fun _ => ?_)
                                  refine WP.path tab_ok mixed [] [.keep [33, 32, 31, 28, 27, 26, 22, 19, 18, 17, 16, 7, 6, 5, 4, 3, 2], .keepO [2006, 2016, 2017, 2018, 2026, 2032]] (ps := []) (e := .normal) (σ' := ⟨[2006, 2016, 2017, 2018, 2026, 2032], [(33, vb r202c), (32, V.ref 2032 0), (31, V.t (T.str r199)), (28, vb r176b), (27, V.t (T.str r176)), (26, V.ref 2026 0), (22, vb r150), (19, vb (asB r123 r123b r123c)), (18, V.ref 2018 0), (17, V.ref 2017 0), (16, V.ref 2016 0), (7, vb r76c), (6, V.ref 2006 0), (5, V.t (T.list (List.length r68c) 2 (List.flatMap askedC r68c))), (4, vi r68b), (3, vi r68), (2, vb false)], [(2006, oc 82 [tl r76, ti r76b]), (2016, oc 82 [tl r123, ti r123b]), (2017, oc 90 [ti r123c, tb r123d]), (2018, oc 82 [tl (asL r123 r123b r123c r123d), ti (asM r123 r123b r123c r123d)]), (2026, oc 82 [tl r173, ti r173b]), (2032, oc 82 [tl r202, ti r202b])]⟩) (by kernel_rfl) trivial ?_
                                  obtain ⟨J1, hJ1, h⟩ := jn_some h
                                  refine WP.joinA (fun (zz : Unit) => ⟨[2006, 2016, 2017, 2018, 2032], [(33, vb r202c), (32, V.ref 2032 0), (31, V.t (T.str r199)), (22, vb r150), (19, vb (asB r123 r123b r123c)), (18, V.ref 2018 0), (17, V.ref 2017 0), (16, V.ref 2016 0), (7, vb r76c), (6, V.ref 2006 0), (5, V.t (T.list (List.length r68c) 2 (List.flatMap askedC r68c))), (4, vi r68b), (3, vi r68), (2, vb false)], [(2006, oc 82 [tl r76, ti r76b]), (2016, oc 82 [tl r123, ti r123b]), (2017, oc 90 [ti r123c, tb r123d]), (2018, oc 82 [tl (asL r123 r123b r123c r123d), ti (asM r123 r123b r123c r123d)]), (2032, oc 82 [tl r202, ti r202b])]⟩) (fun zz => J1 () = some y0) ?_ ?_
                                  · -- to where they meet
                                    refine WP.seq ?_
                                    refine WP.path tab_ok mixed [] [.keep [288, 33, 32, 31, 27, 26, 22, 19, 18, 17, 16, 7, 6, 5, 4, 3, 2], .keepO [2006, 2016, 2017, 2018, 2026, 2032]] (ps := []) (e := .normal) (σ' := ⟨[2006, 2016, 2017, 2018, 2026, 2032], [(288, vb r176b), (33, vb r202c), (32, V.ref 2032 0), (31, V.t (T.str r199)), (27, V.t (T.str r176)), (26, V.ref 2026 0), (22, vb r150), (19, vb (asB r123 r123b r123c)), (18, V.ref 2018 0), (17, V.ref 2017 0), (16, V.ref 2016 0), (7, vb r76c), (6, V.ref 2006 0), (5, V.t (T.list (List.length r68c) 2 (List.flatMap askedC r68c))), (4, vi r68b), (3, vi r68), (2, vb false)], [(2006, oc 82 [tl r76, ti r76b]), (2016, oc 82 [tl r123, ti r123b]), (2017, oc 90 [ti r123c, tb r123d]), (2018, oc 82 [tl (asL r123 r123b r123c r123d), ti (asM r123 r123b r123c r123d)]), (2026, oc 82 [tl r173, ti r173b]), (2032, oc 82 [tl r202, ti r202b])]⟩) (by kernel_rfl) trivial ?_
                                    rcases ite_some h with ⟨h22, h⟩ | ⟨h22, h⟩
                                    · -- yes
                                      refine WP.cond (b := r176b) rfl (fun _ => ?_) (fun hh => by rw [h22] at hh; cases hh)
                                      refine WP.seq ?_
                                      obtain ⟨r291, r291b, r291c, c23, h⟩ := bnd3_some h
                                      refine WP.path tab_ok mixed [(291, An.call (T.tup [T.agg [tl r291, ti r291b], tb r291c])), (51, An.id 2051)] [.keep [52, 51, 33, 32, 31, 26, 22, 19, 18, 17, 16, 7, 6, 5, 4, 3, 2], .keepO [2006, 2016, 2017, 2018, 2026, 2032, 2051]] (ps := [(C Tryd.prog 69 [T.str r176] (T.tup [T.agg [tl r291, ti r291b], tb r291c])), ((0 + 2 ≤ 2 ∧ 2 = 2))]) (e := .normal) (σ' := ⟨[2051, 2006, 2016, 2017, 2018, 2026, 2032], [(52, vb r291c), (51, V.ref 2051 0), (33, vb r202c), (32, V.ref 2032 0), (31, V.t (T.str r199)), (26, V.ref 2026 0), (22, vb r150), (19, vb (asB r123 r123b r123c)), (18, V.ref 2018 0), (17, V.ref 2017 0), (16, V.ref 2016 0), (7, vb r76c), (6, V.ref 2006 0), (5, V.t (T.list (List.length r68c) 2 (List.flatMap askedC r68c))), (4, vi r68b), (3, vi r68), (2, vb false)], [(2006, oc 82 [tl r76, ti r76b]), (2016, oc 82 [tl r123, ti r123b]), (2017, oc 90 [ti r123c, tb r123d]), (2018, oc 82 [tl (asL r123 r123b r123c r123d), ti (asM r123 r123b r123c r123d)]), (2026, oc 82 [tl r173, ti r173b]), (2032, oc 82 [tl r202, ti r202b]), (2051, oc 82 [tl r291, ti r291b])]⟩) (by kernel_rfl) ⟨(F_impl_ParseState_W_C r176 r291 r291b r291c c23), by decide, trivial⟩ ?_
                                      obtain ⟨J2, hJ2, h⟩ := jn_some h
                                      refine WP.joinA (fun (zz : Bool) => ⟨[2006, 2016, 2017, 2018, 2032], [(301, vb zz), (33, vb r202c), (32, V.ref 2032 0), (31, V.t (T.str r199)), (22, vb r150), (19, vb (asB r123 r123b r123c)), (18, V.ref 2018 0), (17, V.ref 2017 0), (16, V.ref 2016 0), (7, vb r76c), (6, V.ref 2006 0), (5, V.t (T.list (List.length r68c) 2 (List.flatMap askedC r68c))), (4, vi r68b), (3, vi r68), (2, vb false)], [(2006, oc 82 [tl r76, ti r76b]), (2016, oc 82 [tl r123, ti r123b]), (2017, oc 90 [ti r123c, tb r123d]), (2018, oc 82 [tl (asL r123 r123b r123c r123d), ti (asM r123 r123b r123c r123d)]), (2032, oc 82 [tl r202, ti r202b])]⟩) (fun zz => J2 zz = some y0) ?_ ?_
                                      · -- to where they meet
                                        rcases ite_some h with ⟨h23, h⟩ | ⟨h23, h⟩
                                        · -- yes
                                          refine WP.path tab_ok mixed [(296, An.b true)] [.keep [301, 33, 32, 31, 22, 19, 18, 17, 16, 7, 6, 5, 4, 3, 2], .keepO [2006, 2016, 2017, 2018, 2032], .names [(2006, 2006), (2016, 2016), (2017, 2017), (2018, 2018), (2032, 2032)]] (ps := [((!r291c) = true)]) (e := .normal) (σ' := ⟨[2006, 2016, 2017, 2018, 2032], [(301, vb true), (33, vb r202c), (32, V.ref 2032 0), (31, V.t (T.str r199)), (22, vb r150), (19, vb (asB r123 r123b r123c)), (18, V.ref 2018 0), (17, V.ref 2017 0), (16, V.ref 2016 0), (7, vb r76c), (6, V.ref 2006 0), (5, V.t (T.list (List.length r68c) 2 (List.flatMap askedC r68c))), (4, vi r68b), (3, vi r68), (2, vb false)], [(2006, oc 82 [tl r76, ti r76b]), (2016, oc 82 [tl r123, ti r123b]), (2017, oc 90 [ti r123c, tb r123d]), (2018, oc 82 [tl (asL r123 r123b r123c r123d), ti (asM r123 r123b r123c r123d)]), (2032, oc 82 [tl r202, ti r202b])]⟩) (by kernel_rfl) ⟨h23, trivial⟩ ?_
                                          exact ⟨(true), h, rfl⟩
                                        · -- no
                                          obtain ⟨r299, c24, h⟩ := bnd1_some h
                                          refine WP.path tab_ok mixed [(296, An.b false), (299, An.call (tb r299))] [.keep [301, 33, 32, 31, 22, 19, 18, 17, 16, 7, 6, 5, 4, 3, 2], .keepO [2006, 2016, 2017, 2018, 2032], .names [(2006, 2006), (2016, 2016), (2017, 2017), (2018, 2018), (2032, 2032)]] (ps := [((!r291c) = false), (0 + 2 ≤ 2), (0 + 2 ≤ 2), (C Tryd.prog 55 [T.agg [tl r291, ti r291b], T.agg [tl r173, ti r173b]] (tb r299))]) (e := .normal) (σ' := ⟨[2006, 2016, 2017, 2018, 2032], [(301, vb (!r299)), (33, vb r202c), (32, V.ref 2032 0), (31, V.t (T.str r199)), (22, vb r150), (19, vb (asB r123 r123b r123c)), (18, V.ref 2018 0), (17, V.ref 2017 0), (16, V.ref 2016 0), (7, vb r76c), (6, V.ref 2006 0), (5, V.t (T.list (List.length r68c) 2 (List.flatMap askedC r68c))), (4, vi r68b), (3, vi r68), (2, vb false)], [(2006, oc 82 [tl r76, ti r76b]), (2016, oc 82 [tl r123, ti r123b]), (2017, oc 90 [ti r123c, tb r123d]), (2018, oc 82 [tl (asL r123 r123b r123c r123d), ti (asM r123 r123b r123c r123d)]), (2032, oc 82 [tl r202, ti r202b])]⟩) (by kernel_rfl) ⟨h23, by decide, by decide, (F_laws_rState_W r291 r291b r173 r173b r299 c24), trivial⟩ ?_
                                          exact ⟨(!r299), h, rfl⟩
                                      · -- from there
                                        intro v301 h0
                                        have h := (show J2 v301 = some y0 from h0)
                                        rw [hJ2] at h
                                        rcases ite_some h with ⟨h24, h⟩ | ⟨h24, h⟩
                                        · -- yes
                                          refine WP.cond (b := v301) rfl (fun _ => ?_) (fun hh => by rw [h24] at hh; cases hh)
                                          have h := Option.some.inj h
                                          subst h
                                          exact WP.pathW tab_ok mixed [] _ (ps := []) (r := tb false) (by kernel_rfl) trivial (WkT.eq (y := tb false) (WkT.refl _) rfl) (fun _ h => h)
                                        · -- no
                                          refine WP.cond (b := v301) rfl (fun hh => by rw [h24] at hh; cases hh) (fun _ => ?_)
                                          refine WP.path tab_ok mixed [] [.keep [33, 32, 31, 22, 19, 18, 17, 16, 7, 6, 5, 4, 3, 2], .keepO [2006, 2016, 2017, 2018, 2032], .names [(2006, 2006), (2016, 2016), (2017, 2017), (2018, 2018), (2032, 2032)]] (ps := []) (e := .normal) (σ' := ⟨[2006, 2016, 2017, 2018, 2032], [(33, vb r202c), (32, V.ref 2032 0), (31, V.t (T.str r199)), (22, vb r150), (19, vb (asB r123 r123b r123c)), (18, V.ref 2018 0), (17, V.ref 2017 0), (16, V.ref 2016 0), (7, vb r76c), (6, V.ref 2006 0), (5, V.t (T.list (List.length r68c) 2 (List.flatMap askedC r68c))), (4, vi r68b), (3, vi r68), (2, vb false)], [(2006, oc 82 [tl r76, ti r76b]), (2016, oc 82 [tl r123, ti r123b]), (2017, oc 90 [ti r123c, tb r123d]), (2018, oc 82 [tl (asL r123 r123b r123c r123d), ti (asM r123 r123b r123c r123d)]), (2032, oc 82 [tl r202, ti r202b])]⟩) (by kernel_rfl) trivial ?_
                                          exact ⟨(), h, rfl⟩
                                    · -- no
                                      refine WP.cond (b := r176b) rfl (fun hh => by rw [h22] at hh; cases hh) (fun _ => ?_)
                                      refine WP.path tab_ok mixed [] [.keep [33, 32, 31, 22, 19, 18, 17, 16, 7, 6, 5, 4, 3, 2], .keepO [2006, 2016, 2017, 2018, 2032], .names [(2006, 2006), (2016, 2016), (2017, 2017), (2018, 2018), (2032, 2032)]] (ps := []) (e := .normal) (σ' := ⟨[2006, 2016, 2017, 2018, 2032], [(33, vb r202c), (32, V.ref 2032 0), (31, V.t (T.str r199)), (22, vb r150), (19, vb (asB r123 r123b r123c)), (18, V.ref 2018 0), (17, V.ref 2017 0), (16, V.ref 2016 0), (7, vb r76c), (6, V.ref 2006 0), (5, V.t (T.list (List.length r68c) 2 (List.flatMap askedC r68c))), (4, vi r68b), (3, vi r68), (2, vb false)], [(2006, oc 82 [tl r76, ti r76b]), (2016, oc 82 [tl r123, ti r123b]), (2017, oc 90 [ti r123c, tb r123d]), (2018, oc 82 [tl (asL r123 r123b r123c r123d), ti (asM r123 r123b r123c r123d)]), (2032, oc 82 [tl r202, ti r202b])]⟩) (by kernel_rfl) trivial ?_
                                      exact ⟨(), h, rfl⟩
                                  · -- from there
                                    intro _ h0
                                    have h := (show J1 () = some y0 from h0)
                                    rw [hJ1] at h
                                    obtain ⟨J1, hJ1, h⟩ := jn_some h
                                    refine WP.joinA (fun (zz : Unit) => ⟨[2006, 2016, 2017, 2018], [(22, vb r150), (19, vb (asB r123 r123b r123c)), (18, V.ref 2018 0), (17, V.ref 2017 0), (16, V.ref 2016 0), (7, vb r76c), (6, V.ref 2006 0), (5, V.t (T.list (List.length r68c) 2 (List.flatMap askedC r68c))), (4, vi r68b), (3, vi r68), (2, vb false)], [(2006, oc 82 [tl r76, ti r76b]), (2016, oc 82 [tl r123, ti r123b]), (2017, oc 90 [ti r123c, tb r123d]), (2018, oc 82 [tl (asL r123 r123b r123c r123d), ti (asM r123 r123b r123c r123d)])]⟩) (fun zz => J1 () = some y0) ?_ ?_
                                    · -- to where they meet
                                      refine WP.seq ?_
                                      refine WP.path tab_ok mixed [] [.keep [302, 32, 31, 22, 19, 18, 17, 16, 7, 6, 5, 4, 3, 2], .keepO [2006, 2016, 2017, 2018, 2032]] (ps := []) (e := .normal) (σ' := ⟨[2006, 2016, 2017, 2018, 2032], [(302, vb r202c), (32, V.ref 2032 0), (31, V.t (T.str r199)), (22, vb r150), (19, vb (asB r123 r123b r123c)), (18, V.ref 2018 0), (17, V.ref 2017 0), (16, V.ref 2016 0), (7, vb r76c), (6, V.ref 2006 0), (5, V.t (T.list (List.length r68c) 2 (List.flatMap askedC r68c))), (4, vi r68b), (3, vi r68), (2, vb false)], [(2006, oc 82 [tl r76, ti r76b]), (2016, oc 82 [tl r123, ti r123b]), (2017, oc 90 [ti r123c, tb r123d]), (2018, oc 82 [tl (asL r123 r123b r123c r123d), ti (asM r123 r123b r123c r123d)]), (2032, oc 82 [tl r202, ti r202b])]⟩) (by kernel_rfl) trivial ?_
                                      rcases ite_some h with ⟨h25, h⟩ | ⟨h25, h⟩
                                      · -- yes
                                        refine WP.cond (b := r202c) rfl (fun _ => ?_) (fun hh => by rw [h25] at hh; cases hh)
                                        refine WP.seq ?_
                                        obtain ⟨r305, r305b, c23, h⟩ := bnd2_some h
                                        refine WP.path tab_ok mixed [(305, An.call (T.tup [T.str r305, tb r305b]))] [.keep [54, 53, 31, 22, 19, 18, 17, 16, 7, 6, 5, 4, 3, 2], .keepO [2006, 2016, 2017, 2018]] (ps := [(0 + 2 ≤ 2), (C Tryd.prog 65 [T.agg [tl r202, ti r202b]] (T.tup [T.str r305, tb r305b]))]) (e := .normal) (σ' := ⟨[2006, 2016, 2017, 2018, 2032], [(54, vb r305b), (53, V.t (T.str r305)), (31, V.t (T.str r199)), (22, vb r150), (19, vb (asB r123 r123b r123c)), (18, V.ref 2018 0), (17, V.ref 2017 0), (16, V.ref 2016 0), (7, vb r76c), (6, V.ref 2006 0), (5, V.t (T.list (List.length r68c) 2 (List.flatMap askedC r68c))), (4, vi r68b), (3, vi r68), (2, vb false)], [(2006, oc 82 [tl r76, ti r76b]), (2016, oc 82 [tl r123, ti r123b]), (2017, oc 90 [ti r123c, tb r123d]), (2018, oc 82 [tl (asL r123 r123b r123c r123d), ti (asM r123 r123b r123c r123d)])]⟩) (by kernel_rfl) ⟨by decide, (F_impl_StateText_W r202 r202b r305 r305b c23), trivial⟩ ?_
                                        obtain ⟨J2, hJ2, h⟩ := jn_some h
                                        refine WP.joinA (fun (zz : Bool) => ⟨[2006, 2016, 2017, 2018], [(314, vb zz), (22, vb r150), (19, vb (asB r123 r123b r123c)), (18, V.ref 2018 0), (17, V.ref 2017 0), (16, V.ref 2016 0), (7, vb r76c), (6, V.ref 2006 0), (5, V.t (T.list (List.length r68c) 2 (List.flatMap askedC r68c))), (4, vi r68b), (3, vi r68), (2, vb false)], [(2006, oc 82 [tl r76, ti r76b]), (2016, oc 82 [tl r123, ti r123b]), (2017, oc 90 [ti r123c, tb r123d]), (2018, oc 82 [tl (asL r123 r123b r123c r123d), ti (asM r123 r123b r123c r123d)])]⟩) (fun zz => J2 zz = some y0) ?_ ?_
                                        · -- to where they meet
                                          rcases ite_some h with ⟨h26, h⟩ | ⟨h26, h⟩
                                          · -- yes
                                            refine WP.path tab_ok mixed [(310, An.b true)] [.keep [314, 22, 19, 18, 17, 16, 7, 6, 5, 4, 3, 2], .keepO [2006, 2016, 2017, 2018], .names [(2006, 2006), (2016, 2016), (2017, 2017), (2018, 2018)]] (ps := [((!r305b) = true)]) (e := .normal) (σ' := ⟨[2006, 2016, 2017, 2018], [(314, vb true), (22, vb r150), (19, vb (asB r123 r123b r123c)), (18, V.ref 2018 0), (17, V.ref 2017 0), (16, V.ref 2016 0), (7, vb r76c), (6, V.ref 2006 0), (5, V.t (T.list (List.length r68c) 2 (List.flatMap askedC r68c))), (4, vi r68b), (3, vi r68), (2, vb false)], [(2006, oc 82 [tl r76, ti r76b]), (2016, oc 82 [tl r123, ti r123b]), (2017, oc 90 [ti r123c, tb r123d]), (2018, oc 82 [tl (asL r123 r123b r123c r123d), ti (asM r123 r123b r123c r123d)])]⟩) (by kernel_rfl) ⟨h26, trivial⟩ ?_
                                            exact ⟨(true), h, rfl⟩
                                          · -- no
                                            refine WP.path tab_ok mixed [(310, An.b false)] [.keep [314, 22, 19, 18, 17, 16, 7, 6, 5, 4, 3, 2], .keepO [2006, 2016, 2017, 2018], .names [(2006, 2006), (2016, 2016), (2017, 2017), (2018, 2018)]] (ps := [((!r305b) = false), (True)]) (e := .normal) (σ' := ⟨[2006, 2016, 2017, 2018], [(314, vb (!(r305.toList == r199.toList))), (22, vb r150), (19, vb (asB r123 r123b r123c)), (18, V.ref 2018 0), (17, V.ref 2017 0), (16, V.ref 2016 0), (7, vb r76c), (6, V.ref 2006 0), (5, V.t (T.list (List.length r68c) 2 (List.flatMap askedC r68c))), (4, vi r68b), (3, vi r68), (2, vb false)], [(2006, oc 82 [tl r76, ti r76b]), (2016, oc 82 [tl r123, ti r123b]), (2017, oc 90 [ti r123c, tb r123d]), (2018, oc 82 [tl (asL r123 r123b r123c r123d), ti (asM r123 r123b r123c r123d)])]⟩) (by kernel_rfl) ⟨h26, trivial, trivial⟩ ?_
                                            exact ⟨(!(r305.toList == r199.toList)), h, rfl⟩
                                        · -- from there
                                          intro v314 h0
                                          have h := (show J2 v314 = some y0 from h0)
                                          rw [hJ2] at h
                                          rcases ite_some h with ⟨h27, h⟩ | ⟨h27, h⟩
                                          · -- yes
                                            refine WP.cond (b := v314) rfl (fun _ => ?_) (fun hh => by rw [h27] at hh; cases hh)
                                            have h := Option.some.inj h
                                            subst h
                                            exact WP.pathW tab_ok mixed [] _ (ps := []) (r := tb false) (by kernel_rfl) trivial (WkT.eq (y := tb false) (WkT.refl _) rfl) (fun _ h => h)
                                          · -- no
                                            refine WP.cond (b := v314) rfl (fun hh => by rw [h27] at hh; cases hh) (fun _ => ?_)
                                            refine WP.path tab_ok mixed [] [.keep [22, 19, 18, 17, 16, 7, 6, 5, 4, 3, 2], .keepO [2006, 2016, 2017, 2018], .names [(2006, 2006), (2016, 2016), (2017, 2017), (2018, 2018)]] (ps := []) (e := .normal) (σ' := ⟨[2006, 2016, 2017, 2018], [(22, vb r150), (19, vb (asB r123 r123b r123c)), (18, V.ref 2018 0), (17, V.ref 2017 0), (16, V.ref 2016 0), (7, vb r76c), (6, V.ref 2006 0), (5, V.t (T.list (List.length r68c) 2 (List.flatMap askedC r68c))), (4, vi r68b), (3, vi r68), (2, vb false)], [(2006, oc 82 [tl r76, ti r76b]), (2016, oc 82 [tl r123, ti r123b]), (2017, oc 90 [ti r123c, tb r123d]), (2018, oc 82 [tl (asL r123 r123b r123c r123d), ti (asM r123 r123b r123c r123d)])]⟩) (by kernel_rfl) trivial ?_
                                            exact ⟨(), h, rfl⟩
                                      · -- no
                                        refine WP.cond (b := r202c) rfl (fun hh => by rw [h25] at hh; cases hh) (fun _ => ?_)
                                        refine WP.path tab_ok mixed [] [.keep [22, 19, 18, 17, 16, 7, 6, 5, 4, 3, 2], .keepO [2006, 2016, 2017, 2018], .names [(2006, 2006), (2016, 2016), (2017, 2017), (2018, 2018)]] (ps := []) (e := .normal) (σ' := ⟨[2006, 2016, 2017, 2018], [(22, vb r150), (19, vb (asB r123 r123b r123c)), (18, V.ref 2018 0), (17, V.ref 2017 0), (16, V.ref 2016 0), (7, vb r76c), (6, V.ref 2006 0), (5, V.t (T.list (List.length r68c) 2 (List.flatMap askedC r68c))), (4, vi r68b), (3, vi r68), (2, vb false)], [(2006, oc 82 [tl r76, ti r76b]), (2016, oc 82 [tl r123, ti r123b]), (2017, oc 90 [ti r123c, tb r123d]), (2018, oc 82 [tl (asL r123 r123b r123c r123d), ti (asM r123 r123b r123c r123d)])]⟩) (by kernel_rfl) trivial ?_
                                        exact ⟨(), h, rfl⟩
                                    · -- from there
                                      intro _ h0
                                      have h := (show J1 () = some y0 from h0)
                                      rw [hJ1] at h
                                      obtain ⟨J1, hJ1, h⟩ := jn_some h
                                      refine WP.joinA (fun (zz : Unit) => ⟨[2006], [(7, vb r76c), (6, V.ref 2006 0), (5, V.t (T.list (List.length r68c) 2 (List.flatMap askedC r68c))), (4, vi r68b), (3, vi r68), (2, vb false)], [(2006, oc 82 [tl r76, ti r76b])]⟩) (fun zz => J1 () = some y0) ?_ ?_
                                      · -- to where they meet
                                        refine WP.seq ?_
                                        refine WP.path tab_ok mixed [] [.keep [315, 22, 18, 17, 16, 7, 6, 5, 4, 3, 2], .keepO [2006, 2016, 2017, 2018]] (ps := []) (e := .normal) (σ' := ⟨[2006, 2016, 2017, 2018], [(315, vb (asB r123 r123b r123c)), (22, vb r150), (18, V.ref 2018 0), (17, V.ref 2017 0), (16, V.ref 2016 0), (7, vb r76c), (6, V.ref 2006 0), (5, V.t (T.list (List.length r68c) 2 (List.flatMap askedC r68c))), (4, vi r68b), (3, vi r68), (2, vb false)], [(2006, oc 82 [tl r76, ti r76b]), (2016, oc 82 [tl r123, ti r123b]), (2017, oc 90 [ti r123c, tb r123d]), (2018, oc 82 [tl (asL r123 r123b r123c r123d), ti (asM r123 r123b r123c r123d)])]⟩) (by kernel_rfl) trivial ?_
                                        rcases ite_some h with ⟨h28, h⟩ | ⟨h28, h⟩
                                        · -- yes
                                          refine WP.cond (b := asB r123 r123b r123c) rfl (fun _ => ?_) (fun hh => by rw [h28] at hh; cases hh)
                                          refine WP.seq ?_
                                          refine WP.path tab_ok mixed [(322, An.call (T.tup [ti (oqV ((List.length r123 : Nat) : Int) r123c), tb (isQ ((List.length r123 : Nat) : Int) r123c)]))] [.keep [56, 55, 22, 18, 17, 16, 7, 6, 5, 4, 3, 2], .keepO [2006, 2016, 2017, 2018]] (ps := [(True), (True), (C Tryd.prog 78 [ti ((List.length r123 : Nat) : Int), ti r123c] (T.tup [ti (oqV ((List.length r123 : Nat) : Int) r123c), tb (isQ ((List.length r123 : Nat) : Int) r123c)]))]) (e := .normal) (σ' := ⟨[2006, 2016, 2017, 2018], [(56, vb (isQ ((List.length r123 : Nat) : Int) r123c)), (55, vi (oqV ((List.length r123 : Nat) : Int) r123c)), (22, vb r150), (18, V.ref 2018 0), (17, V.ref 2017 0), (16, V.ref 2016 0), (7, vb r76c), (6, V.ref 2006 0), (5, V.t (T.list (List.length r68c) 2 (List.flatMap askedC r68c))), (4, vi r68b), (3, vi r68), (2, vb false)], [(2006, oc 82 [tl r76, ti r76b]), (2016, oc 82 [tl r123, ti r123b]), (2017, oc 90 [ti r123c, tb r123d]), (2018, oc 82 [tl (asL r123 r123b r123c r123d), ti (asM r123 r123b r123c r123d)])]⟩) (by kernel_rfl) ⟨trivial, trivial, (iOtherQuestion_C ((List.length r123 : Nat) : Int) r123c), trivial⟩ ?_
                                          refine WP.seq ?_
                                          refine WP.path tab_ok mixed [(332, An.call (T.tup [T.agg [tl (asL r123 r123b (oqV ((List.length r123 : Nat) : Int) r123c) (!r123d)), ti (asM r123 r123b (oqV ((List.length r123 : Nat) : Int) r123c) (!r123d))], tb (asB r123 r123b (oqV ((List.length r123 : Nat) : Int) r123c))])), (57, An.id 2057)] [.keep [58, 57, 56, 22, 18, 7, 6, 5, 4, 3, 2], .keepO [2006, 2018, 2057]] (ps := [(0 + 2 ≤ 2), (True), ((1 = 1 ∧ 0 + 1 ≤ 2) ∧ (1 = 1 ∧ 1 + 1 ≤ 2) ∧ True), (C Tryd.prog 60 [T.agg [tl r123, ti r123b], T.agg [ti (oqV ((List.length r123 : Nat) : Int) r123c), tb (!r123d)]] (T.tup [T.agg [tl (asL r123 r123b (oqV ((List.length r123 : Nat) : Int) r123c) (!r123d)), ti (asM r123 r123b (oqV ((List.length r123 : Nat) : Int) r123c) (!r123d))], tb (asB r123 r123b (oqV ((List.length r123 : Nat) : Int) r123c))])), ((0 + 2 ≤ 2 ∧ 2 = 2))]) (e := .normal) (σ' := ⟨[2057, 2006, 2016, 2017, 2018], [(58, vb (asB r123 r123b (oqV ((List.length r123 : Nat) : Int) r123c))), (57, V.ref 2057 0), (56, vb (isQ ((List.length r123 : Nat) : Int) r123c)), (22, vb r150), (18, V.ref 2018 0), (7, vb r76c), (6, V.ref 2006 0), (5, V.t (T.list (List.length r68c) 2 (List.flatMap askedC r68c))), (4, vi r68b), (3, vi r68), (2, vb false)], [(2006, oc 82 [tl r76, ti r76b]), (2018, oc 82 [tl (asL r123 r123b r123c r123d), ti (asM r123 r123b r123c r123d)]), (2057, oc 82 [tl (asL r123 r123b (oqV ((List.length r123 : Nat) : Int) r123c) (!r123d)), ti (asM r123 r123b (oqV ((List.length r123 : Nat) : Int) r123c) (!r123d))])]⟩) (by kernel_rfl) ⟨by decide, trivial, ⟨⟨by first | rfl | (simp; done) | (simp []; done) | omega, by first | decide | (simp; done) | (simp []; done) | omega | (simp only [tlL]; omega) | (simp; omega)⟩, ⟨by first | rfl | (simp; done) | (simp []; done) | omega, by first | decide | (simp; done) | (simp []; done) | omega | (simp only [tlL]; omega) | (simp; omega)⟩, trivial⟩, (iAnswerState_C r123 r123b (oqV ((List.length r123 : Nat) : Int) r123c) (!r123d) c7), by decide, trivial⟩ ?_
                                          refine WP.seq ?_
                                          obtain ⟨r337, r337b, c23, h⟩ := bnd2_some h
                                          refine WP.path tab_ok mixed [(337, An.call (T.tup [tl r337, tb r337b]))] [.keep [60, 59, 58, 57, 56, 22, 18, 7, 6, 5, 4, 3, 2], .keepO [2006, 2018, 2057]] (ps := [(0 + 2 ≤ 2), (C Tryd.prog 79 [T.agg [tl (asL r123 r123b r123c r123d), ti (asM r123 r123b r123c r123d)]] (T.tup [tl r337, tb r337b]))]) (e := .normal) (σ' := ⟨[2057, 2006, 2016, 2017, 2018], [(60, vb r337b), (59, vl r337), (58, vb (asB r123 r123b (oqV ((List.length r123 : Nat) : Int) r123c))), (57, V.ref 2057 0), (56, vb (isQ ((List.length r123 : Nat) : Int) r123c)), (22, vb r150), (18, V.ref 2018 0), (7, vb r76c), (6, V.ref 2006 0), (5, V.t (T.list (List.length r68c) 2 (List.flatMap askedC r68c))), (4, vi r68b), (3, vi r68), (2, vb false)], [(2006, oc 82 [tl r76, ti r76b]), (2018, oc 82 [tl (asL r123 r123b r123c r123d), ti (asM r123 r123b r123c r123d)]), (2057, oc 82 [tl (asL r123 r123b (oqV ((List.length r123 : Nat) : Int) r123c) (!r123d)), ti (asM r123 r123b (oqV ((List.length r123 : Nat) : Int) r123c) (!r123d))])]⟩) (by kernel_rfl) ⟨by decide, (F_impl_OpenNumbers_W_C (asL r123 r123b r123c r123d) (asM r123 r123b r123c r123d) r337 r337b c23), trivial⟩ ?_
                                          obtain ⟨J2, hJ2, h⟩ := jn_some h
                                          refine WP.joinA (fun (zz : Bool) => ⟨[2006], [(362, vb zz), (7, vb r76c), (6, V.ref 2006 0), (5, V.t (T.list (List.length r68c) 2 (List.flatMap askedC r68c))), (4, vi r68b), (3, vi r68), (2, vb false)], [(2006, oc 82 [tl r76, ti r76b])]⟩) (fun zz => J2 zz = some y0) ?_ ?_
                                          · -- to where they meet
                                            rcases ite_some h with ⟨h29, h⟩ | ⟨h29, h⟩
                                            · -- yes
                                              refine WP.path tab_ok mixed [(342, An.b true)] [.keep [362, 7, 6, 5, 4, 3, 2], .keepO [2006], .names [(2006, 2006)]] (ps := [((!(isQ ((List.length r123 : Nat) : Int) r123c)) = true)]) (e := .normal) (σ' := ⟨[2006], [(362, vb true), (7, vb r76c), (6, V.ref 2006 0), (5, V.t (T.list (List.length r68c) 2 (List.flatMap askedC r68c))), (4, vi r68b), (3, vi r68), (2, vb false)], [(2006, oc 82 [tl r76, ti r76b])]⟩) (by kernel_rfl) ⟨h29, trivial⟩ ?_
                                              exact ⟨(true), h, rfl⟩
                                            · -- no
                                              rcases ite_some h with ⟨h30, h⟩ | ⟨h30, h⟩
                                              · -- yes
                                                refine WP.path tab_ok mixed [(342, An.b false), (346, An.b true)] [.keep [362, 7, 6, 5, 4, 3, 2], .keepO [2006], .names [(2006, 2006)]] (ps := [((!(isQ ((List.length r123 : Nat) : Int) r123c)) = false), ((!(asB r123 r123b (oqV ((List.length r123 : Nat) : Int) r123c))) = true)]) (e := .normal) (σ' := ⟨[2006], [(362, vb true), (7, vb r76c), (6, V.ref 2006 0), (5, V.t (T.list (List.length r68c) 2 (List.flatMap askedC r68c))), (4, vi r68b), (3, vi r68), (2, vb false)], [(2006, oc 82 [tl r76, ti r76b])]⟩) (by kernel_rfl) ⟨h29, h30, trivial⟩ ?_
                                                exact ⟨(true), h, rfl⟩
                                              · -- no
                                                rcases ite_some h with ⟨h31, h⟩ | ⟨h31, h⟩
                                                · -- yes
                                                  refine WP.path tab_ok mixed [(342, An.b false), (346, An.b false), (350, An.b true)] [.keep [362, 7, 6, 5, 4, 3, 2], .keepO [2006], .names [(2006, 2006)]] (ps := [((!(isQ ((List.length r123 : Nat) : Int) r123c)) = false), ((!(asB r123 r123b (oqV ((List.length r123 : Nat) : Int) r123c))) = false), ((!r337b) = true)]) (e := .normal) (σ' := ⟨[2006], [(362, vb true), (7, vb r76c), (6, V.ref 2006 0), (5, V.t (T.list (List.length r68c) 2 (List.flatMap askedC r68c))), (4, vi r68b), (3, vi r68), (2, vb false)], [(2006, oc 82 [tl r76, ti r76b])]⟩) (by kernel_rfl) ⟨h29, h30, h31, trivial⟩ ?_
                                                  exact ⟨(true), h, rfl⟩
                                                · -- no
                                                  obtain ⟨r353, c24, h⟩ := bnd1_some h
                                                  rcases ite_some h with ⟨h32, h⟩ | ⟨h32, h⟩
                                                  · -- yes
                                                    refine WP.path tab_ok mixed [(342, An.b false), (346, An.b false), (350, An.b false), (353, An.call (tb r353)), (356, An.b true)] [.keep [362, 7, 6, 5, 4, 3, 2], .keepO [2006], .names [(2006, 2006)]] (ps := [((!(isQ ((List.length r123 : Nat) : Int) r123c)) = false), ((!(asB r123 r123b (oqV ((List.length r123 : Nat) : Int) r123c))) = false), ((!r337b) = false), (0 + 2 ≤ 2), (0 + 2 ≤ 2), (C Tryd.prog 55 [T.agg [tl (asL r123 r123b (oqV ((List.length r123 : Nat) : Int) r123c) (!r123d)), ti (asM r123 r123b (oqV ((List.length r123 : Nat) : Int) r123c) (!r123d))], T.agg [tl (asL r123 r123b r123c r123d), ti (asM r123 r123b r123c r123d)]] (tb r353)), ((!r353) = true)]) (e := .normal) (σ' := ⟨[2006], [(362, vb true), (7, vb r76c), (6, V.ref 2006 0), (5, V.t (T.list (List.length r68c) 2 (List.flatMap askedC r68c))), (4, vi r68b), (3, vi r68), (2, vb false)], [(2006, oc 82 [tl r76, ti r76b])]⟩) (by kernel_rfl) ⟨h29, h30, h31, by decide, by decide, (F_laws_rState_W (asL r123 r123b (oqV ((List.length r123 : Nat) : Int) r123c) (!r123d)) (asM r123 r123b (oqV ((List.length r123 : Nat) : Int) r123c) (!r123d)) (asL r123 r123b r123c r123d) (asM r123 r123b r123c r123d) r353 c24), h32, trivial⟩ ?_
                                                    exact ⟨(true), h, rfl⟩
                                                  · -- no
                                                    refine WP.path tab_ok mixed [(342, An.b false), (346, An.b false), (350, An.b false), (353, An.call (tb r353)), (356, An.b false)] [.keep [362, 7, 6, 5, 4, 3, 2], .keepO [2006], .names [(2006, 2006)]] (ps := [((!(isQ ((List.length r123 : Nat) : Int) r123c)) = false), ((!(asB r123 r123b (oqV ((List.length r123 : Nat) : Int) r123c))) = false), ((!r337b) = false), (0 + 2 ≤ 2), (0 + 2 ≤ 2), (C Tryd.prog 55 [T.agg [tl (asL r123 r123b (oqV ((List.length r123 : Nat) : Int) r123c) (!r123d)), ti (asM r123 r123b (oqV ((List.length r123 : Nat) : Int) r123c) (!r123d))], T.agg [tl (asL r123 r123b r123c r123d), ti (asM r123 r123b r123c r123d)]] (tb r353)), ((!r353) = false), (True), (True)]) (e := .normal) (σ' := ⟨[2006], [(362, vb (!(r150 == (decide (((List.length r337 : Nat) : Int) > (0 : Int)))))), (7, vb r76c), (6, V.ref 2006 0), (5, V.t (T.list (List.length r68c) 2 (List.flatMap askedC r68c))), (4, vi r68b), (3, vi r68), (2, vb false)], [(2006, oc 82 [tl r76, ti r76b])]⟩) (by kernel_rfl) ⟨h29, h30, h31, by decide, by decide, (F_laws_rState_W (asL r123 r123b (oqV ((List.length r123 : Nat) : Int) r123c) (!r123d)) (asM r123 r123b (oqV ((List.length r123 : Nat) : Int) r123c) (!r123d)) (asL r123 r123b r123c r123d) (asM r123 r123b r123c r123d) r353 c24), h32, trivial, trivial, trivial⟩ ?_
                                                    exact ⟨(!(r150 == (decide (((List.length r337 : Nat) : Int) > (0 : Int))))), h, rfl⟩
                                          · -- from there
                                            intro v362 h0
                                            have h := (show J2 v362 = some y0 from h0)
                                            rw [hJ2] at h
                                            rcases ite_some h with ⟨h33, h⟩ | ⟨h33, h⟩
                                            · -- yes
                                              refine WP.cond (b := v362) rfl (fun _ => ?_) (fun hh => by rw [h33] at hh; cases hh)
                                              have h := Option.some.inj h
                                              subst h
                                              exact WP.pathW tab_ok mixed [] _ (ps := []) (r := tb false) (by kernel_rfl) trivial (WkT.eq (y := tb false) (WkT.refl _) rfl) (fun _ h => h)
                                            · -- no
                                              refine WP.cond (b := v362) rfl (fun hh => by rw [h33] at hh; cases hh) (fun _ => ?_)
                                              refine WP.path tab_ok mixed [] [.keep [7, 6, 5, 4, 3, 2], .keepO [2006], .names [(2006, 2006)]] (ps := []) (e := .normal) (σ' := ⟨[2006], [(7, vb r76c), (6, V.ref 2006 0), (5, V.t (T.list (List.length r68c) 2 (List.flatMap askedC r68c))), (4, vi r68b), (3, vi r68), (2, vb false)], [(2006, oc 82 [tl r76, ti r76b])]⟩) (by kernel_rfl) trivial ?_
                                              exact ⟨(), h, rfl⟩
                                        · -- no
                                          refine WP.cond (b := asB r123 r123b r123c) rfl (fun hh => by rw [h28] at hh; cases hh) (fun _ => ?_)
                                          refine WP.path tab_ok mixed [] [.keep [7, 6, 5, 4, 3, 2], .keepO [2006], .names [(2006, 2006)]] (ps := []) (e := .normal) (σ' := ⟨[2006], [(7, vb r76c), (6, V.ref 2006 0), (5, V.t (T.list (List.length r68c) 2 (List.flatMap askedC r68c))), (4, vi r68b), (3, vi r68), (2, vb false)], [(2006, oc 82 [tl r76, ti r76b])]⟩) (by kernel_rfl) trivial ?_
                                          exact ⟨(), h, rfl⟩
                                      · -- from there
                                        intro _ h0
                                        have h := (show J1 () = some y0 from h0)
                                        rw [hJ1] at h
                                        refine WP.seq ?_
                                        refine WP.seq ?_
                                        refine WP.path tab_ok mixed [] [.keep [364, 6, 5, 4, 3, 2], .keepO [2006]] (ps := []) (e := .normal) (σ' := ⟨[2006], [(364, vb (!r76c)), (6, V.ref 2006 0), (5, V.t (T.list (List.length r68c) 2 (List.flatMap askedC r68c))), (4, vi r68b), (3, vi r68), (2, vb false)], [(2006, oc 82 [tl r76, ti r76b])]⟩) (by kernel_rfl) trivial ?_
                                        rcases ite_some h with ⟨h34, h⟩ | ⟨h34, h⟩
                                        · -- yes
                                          refine WP.cond (b := !r76c) rfl (fun _ => ?_) (fun hh => by rw [h34] at hh; cases hh)
                                          have h := Option.some.inj h
                                          subst h
                                          exact WP.pathW tab_ok mixed [] _ (ps := []) (r := tb true) (by kernel_rfl) trivial (WkT.eq (y := tb true) (WkT.refl _) rfl) (fun _ h => h)
                                        · -- no
                                          refine WP.cond (b := !r76c) rfl (fun hh => by rw [h34] at hh; cases hh) (fun _ => ?_)
                                          refine WP.path tab_ok mixed [] [.keep [6, 5, 4, 3, 2], .keepO [2006]] (ps := []) (e := .normal) (σ' := ⟨[2006], [(6, V.ref 2006 0), (5, V.t (T.list (List.length r68c) 2 (List.flatMap askedC r68c))), (4, vi r68b), (3, vi r68), (2, vb false)], [(2006, oc 82 [tl r76, ti r76b])]⟩) (by kernel_rfl) trivial ?_
                                          obtain ⟨J1, hJ1, h⟩ := jn_some h
                                          refine WP.joinA (fun (zz : Unit) => ⟨[], [(2, vb false)], []⟩) (fun zz => J1 () = some y0) ?_ ?_
                                          · -- to where they meet
                                            refine WP.seq ?_
                                            refine WP.path tab_ok mixed [] [.keep [61, 6, 5, 4, 3, 2], .keepO [2006]] (ps := []) (e := .normal) (σ' := ⟨[2006], [(61, vi 0), (6, V.ref 2006 0), (5, V.t (T.list (List.length r68c) 2 (List.flatMap askedC r68c))), (4, vi r68b), (3, vi r68), (2, vb false)], [(2006, oc 82 [tl r76, ti r76b])]⟩) (by kernel_rfl) trivial ?_
                                            refine WP.block ?_
                                            refine WP.wk [.keep [61, 6, 5, 4, 3, 2], .keepO [2006], .names [(2006, 2006)]] (σ' := ⟨[2006], [(61, vi 0), (6, V.ref 2006 0), (5, V.t (T.list (List.length r68c) 2 (List.flatMap askedC r68c))), (4, vi r68b), (3, vi r68), (2, vb false)], [(2006, oc 82 [tl r76, ti r76b])]⟩) (ps := []) (by kernel_rfl) trivial ?_
                                            refine WP.st (σ' := ⟨[2006], [(61, vi (0 : Int)), (6, V.ref 2006 0), (5, V.t (T.list (List.length r68c) 2 (List.flatMap askedC r68c))), (4, vi r68b), (3, vi r68), (2, vb false)], [(2006, oc 82 [tl r76, ti r76b])]⟩) (by first | rfl | (simp only [tlS, tl, vl, vo, oc, ov, tbl, vbl, ty, vy] <;> rfl) | (simp <;> omega) | (simp []; done) | (rw [List.take_of_length_le (by simp [])] <;> rfl) | (simp [List.take_of_length_le]; done)) ?_
                                            refine WP.loop (α := Nat × Int) (fun zz => ⟨[2006], [(61, vi zz.2), (6, V.ref 2006 0), (5, V.t (T.list (List.length r68c) 2 (List.flatMap askedC r68c))), (4, vi r68b), (3, vi r68), (2, vb false)], [(2006, oc 82 [tl r76, ti r76b])]⟩) (fun zz => F_laws_FnStates_L1 r68 r68b r68c r76 J1 zz.1 zz.2 = some y0) (fun zz => zz.1) (fuel, (0 : Int)) h ?_
                                            rintro ⟨n, v61⟩ h0
                                            have h := (show F_laws_FnStates_L1 r68 r68b r68c r76 J1 n v61 = some y0 from h0)
                                            rcases n with _ | n
                                            · rw [F_laws_FnStates_L1] at h; cases h
                                            · rw [F_laws_FnStates_L1] at h
                                              refine WP.seq ?_
                                              refine WP.seq ?_
                                              refine WP.path tab_ok mixed [] [.keep [367, 61, 6, 5, 4, 3, 2], .keepO [2006]] (ps := [(True)]) (e := .normal) (σ' := ⟨[2006], [(367, vb (decide (v61 < r68))), (61, vi v61), (6, V.ref 2006 0), (5, V.t (T.list (List.length r68c) 2 (List.flatMap askedC r68c))), (4, vi r68b), (3, vi r68), (2, vb false)], [(2006, oc 82 [tl r76, ti r76b])]⟩) (by kernel_rfl) ⟨trivial, trivial⟩ ?_
                                              rcases ite_some h with ⟨h35, h⟩ | ⟨h35, h⟩
                                              · -- yes
                                                refine WP.cond (b := decide (v61 < r68)) rfl (fun _ => ?_) (fun hh => by rw [h35] at hh; cases hh)
                                                refine WP.path tab_ok mixed [] [.keep [61, 6, 5, 4, 3, 2], .keepO [2006]] (ps := []) (e := .normal) (σ' := ⟨[2006], [(61, vi v61), (6, V.ref 2006 0), (5, V.t (T.list (List.length r68c) 2 (List.flatMap askedC r68c))), (4, vi r68b), (3, vi r68), (2, vb false)], [(2006, oc 82 [tl r76, ti r76b])]⟩) (by kernel_rfl) trivial ?_
                                                refine WP.seq ?_
                                                refine WP.block ?_
                                                refine WP.seq ?_
                                                obtain ⟨r374, r374b, c23, h⟩ := bnd2_some h
                                                refine WP.path tab_ok mixed [(374, An.call (T.tup [ti r374, tb r374b]))] [.keep [63, 62, 61, 6, 5, 4, 3, 2], .keepO [2006]] (ps := [(C Tryd.prog 72 [ti r68, T.list (List.length r68c) 2 (List.flatMap askedC r68c), ti v61] (T.tup [ti r374, tb r374b]))]) (e := .normal) (σ' := ⟨[2006], [(63, vb r374b), (62, vi r374), (61, vi v61), (6, V.ref 2006 0), (5, V.t (T.list (List.length r68c) 2 (List.flatMap askedC r68c))), (4, vi r68b), (3, vi r68), (2, vb false)], [(2006, oc 82 [tl r76, ti r76b])]⟩) (by kernel_rfl) ⟨(F_impl_FalseFor_W r68 r68c v61 r374 r374b c23), trivial⟩ ?_
                                                obtain ⟨J2, hJ2, h⟩ := jn_some h
                                                refine WP.joinA (fun (zz : Bool) => ⟨[2006], [(405, vb zz), (61, vi v61), (6, V.ref 2006 0), (5, V.t (T.list (List.length r68c) 2 (List.flatMap askedC r68c))), (4, vi r68b), (3, vi r68), (2, vb false)], [(2006, oc 82 [tl r76, ti r76b])]⟩) (fun zz => J2 zz = some y0) ?_ ?_
                                                · -- to where they meet
                                                  rcases ite_some h with ⟨h36, h⟩ | ⟨h36, h⟩
                                                  · -- yes
                                                    refine WP.path tab_ok mixed [(379, An.b true)] [.keep [405, 61, 6, 5, 4, 3, 2], .keepO [2006], .names [(2006, 2006)]] (ps := [((!r374b) = true)]) (e := .normal) (σ' := ⟨[2006], [(405, vb true), (61, vi v61), (6, V.ref 2006 0), (5, V.t (T.list (List.length r68c) 2 (List.flatMap askedC r68c))), (4, vi r68b), (3, vi r68), (2, vb false)], [(2006, oc 82 [tl r76, ti r76b])]⟩) (by kernel_rfl) ⟨h36, trivial⟩ ?_
                                                    exact ⟨(true), h, rfl⟩
                                                  · -- no
                                                    rcases ite_some h with ⟨h37, h⟩ | ⟨h37, h⟩
                                                    · -- yes
                                                      obtain ⟨c24, h⟩ := chk_some h
                                                      rcases ite_some h with ⟨h38, h⟩ | ⟨h38, h⟩
                                                      · -- yes
                                                        refine WP.path tab_ok mixed [(379, An.b false), (382, An.b true), (388, An.v (ti (List.getD r76 (Int.toNat v61) 0))), (390, An.b true)] [.keep [405, 61, 6, 5, 4, 3, 2], .keepO [2006], .names [(2006, 2006)]] (ps := [((!r374b) = false), (True), ((decide (r374 ≤ r68b)) = true), (True), ((0 ≤ v61 ∧ v61 < ((List.length r76 : Nat) : Int))), ((List.drop ((Int.toNat v61) * 1) (List.map (T.int .i64) r76) : List T)[0]? = some (ti (List.getD r76 (Int.toNat v61) 0))), (ti (List.getD r76 (Int.toNat v61) 0) = ti (List.getD r76 (Int.toNat v61) 0)), (True), (((List.getD r76 (Int.toNat v61) 0) != r374) = true)]) (e := .normal) (σ' := ⟨[2006], [(405, vb true), (61, vi v61), (6, V.ref 2006 0), (5, V.t (T.list (List.length r68c) 2 (List.flatMap askedC r68c))), (4, vi r68b), (3, vi r68), (2, vb false)], [(2006, oc 82 [tl r76, ti r76b])]⟩) (by kernel_rfl) ⟨h36, trivial, h37, trivial, c24, at1 (by simp) (by omega), rfl, trivial, h38, trivial⟩ ?_
                                                        exact ⟨(true), h, rfl⟩
                                                      · -- no
                                                        rcases ite_some h with ⟨h39, h⟩ | ⟨h39, h⟩
                                                        · -- yes
                                                          refine WP.path tab_ok mixed [(379, An.b false), (382, An.b true), (388, An.v (ti (List.getD r76 (Int.toNat v61) 0))), (390, An.b false), (396, An.b true), (402, An.v (ti (List.getD r76 (Int.toNat v61) 0)))] [.keep [405, 61, 6, 5, 4, 3, 2], .keepO [2006], .names [(2006, 2006)]] (ps := [((!r374b) = false), (True), ((decide (r374 ≤ r68b)) = true), (True), ((0 ≤ v61 ∧ v61 < ((List.length r76 : Nat) : Int))), ((List.drop ((Int.toNat v61) * 1) (List.map (T.int .i64) r76) : List T)[0]? = some (ti (List.getD r76 (Int.toNat v61) 0))), (ti (List.getD r76 (Int.toNat v61) 0) = ti (List.getD r76 (Int.toNat v61) 0)), (True), (((List.getD r76 (Int.toNat v61) 0) != r374) = false), (True), ((decide (r374 > r68b)) = true), (True), ((0 ≤ v61 ∧ v61 < ((List.length r76 : Nat) : Int))), ((List.drop ((Int.toNat v61) * 1) (List.map (T.int .i64) r76) : List T)[0]? = some (ti (List.getD r76 (Int.toNat v61) 0))), (ti (List.getD r76 (Int.toNat v61) 0) = ti (List.getD r76 (Int.toNat v61) 0)), (True)]) (e := .normal) (σ' := ⟨[2006], [(405, vb ((List.getD r76 (Int.toNat v61) 0) != (-1 : Int))), (61, vi v61), (6, V.ref 2006 0), (5, V.t (T.list (List.length r68c) 2 (List.flatMap askedC r68c))), (4, vi r68b), (3, vi r68), (2, vb false)], [(2006, oc 82 [tl r76, ti r76b])]⟩) (by kernel_rfl) ⟨h36, trivial, h37, trivial, c24, at1 (by simp) (by omega), rfl, trivial, h38, trivial, h39, trivial, c24, at1 (by simp) (by omega), rfl, trivial, trivial⟩ ?_
                                                          exact ⟨((List.getD r76 (Int.toNat v61) 0) != (-1 : Int)), h, rfl⟩
                                                        · -- no
                                                          refine WP.path tab_ok mixed [(379, An.b false), (382, An.b true), (388, An.v (ti (List.getD r76 (Int.toNat v61) 0))), (390, An.b false), (396, An.b false)] [.keep [405, 61, 6, 5, 4, 3, 2], .keepO [2006], .names [(2006, 2006)]] (ps := [((!r374b) = false), (True), ((decide (r374 ≤ r68b)) = true), (True), ((0 ≤ v61 ∧ v61 < ((List.length r76 : Nat) : Int))), ((List.drop ((Int.toNat v61) * 1) (List.map (T.int .i64) r76) : List T)[0]? = some (ti (List.getD r76 (Int.toNat v61) 0))), (ti (List.getD r76 (Int.toNat v61) 0) = ti (List.getD r76 (Int.toNat v61) 0)), (True), (((List.getD r76 (Int.toNat v61) 0) != r374) = false), (True), ((decide (r374 > r68b)) = false)]) (e := .normal) (σ' := ⟨[2006], [(405, vb false), (61, vi v61), (6, V.ref 2006 0), (5, V.t (T.list (List.length r68c) 2 (List.flatMap askedC r68c))), (4, vi r68b), (3, vi r68), (2, vb false)], [(2006, oc 82 [tl r76, ti r76b])]⟩) (by kernel_rfl) ⟨h36, trivial, h37, trivial, c24, at1 (by simp) (by omega), rfl, trivial, h38, trivial, h39, trivial⟩ ?_
                                                          exact ⟨(false), h, rfl⟩
                                                    · -- no
                                                      rcases ite_some h with ⟨h40, h⟩ | ⟨h40, h⟩
                                                      · -- yes
                                                        obtain ⟨c24, h⟩ := chk_some h
                                                        refine WP.path tab_ok mixed [(379, An.b false), (382, An.b false), (396, An.b true), (402, An.v (ti (List.getD r76 (Int.toNat v61) 0)))] [.keep [405, 61, 6, 5, 4, 3, 2], .keepO [2006], .names [(2006, 2006)]] (ps := [((!r374b) = false), (True), ((decide (r374 ≤ r68b)) = false), (True), ((decide (r374 > r68b)) = true), (True), ((0 ≤ v61 ∧ v61 < ((List.length r76 : Nat) : Int))), ((List.drop ((Int.toNat v61) * 1) (List.map (T.int .i64) r76) : List T)[0]? = some (ti (List.getD r76 (Int.toNat v61) 0))), (ti (List.getD r76 (Int.toNat v61) 0) = ti (List.getD r76 (Int.toNat v61) 0)), (True)]) (e := .normal) (σ' := ⟨[2006], [(405, vb ((List.getD r76 (Int.toNat v61) 0) != (-1 : Int))), (61, vi v61), (6, V.ref 2006 0), (5, V.t (T.list (List.length r68c) 2 (List.flatMap askedC r68c))), (4, vi r68b), (3, vi r68), (2, vb false)], [(2006, oc 82 [tl r76, ti r76b])]⟩) (by kernel_rfl) ⟨h36, trivial, h37, trivial, h40, trivial, c24, at1 (by simp) (by omega), rfl, trivial, trivial⟩ ?_
                                                        exact ⟨((List.getD r76 (Int.toNat v61) 0) != (-1 : Int)), h, rfl⟩
                                                      · -- no
                                                        refine WP.path tab_ok mixed [(379, An.b false), (382, An.b false), (396, An.b false)] [.keep [405, 61, 6, 5, 4, 3, 2], .keepO [2006], .names [(2006, 2006)]] (ps := [((!r374b) = false), (True), ((decide (r374 ≤ r68b)) = false), (True), ((decide (r374 > r68b)) = false)]) (e := .normal) (σ' := ⟨[2006], [(405, vb false), (61, vi v61), (6, V.ref 2006 0), (5, V.t (T.list (List.length r68c) 2 (List.flatMap askedC r68c))), (4, vi r68b), (3, vi r68), (2, vb false)], [(2006, oc 82 [tl r76, ti r76b])]⟩) (by kernel_rfl) ⟨h36, trivial, h37, trivial, h40, trivial⟩ ?_
                                                        exact ⟨(false), h, rfl⟩
                                                · -- from there
                                                  intro v405 h0
                                                  have h := (show J2 v405 = some y0 from h0)
                                                  rw [hJ2] at h
                                                  rcases ite_some h with ⟨h41, h⟩ | ⟨h41, h⟩
                                                  · -- yes
                                                    refine WP.cond (b := v405) rfl (fun _ => ?_) (fun hh => by rw [h41] at hh; cases hh)
                                                    have h := Option.some.inj h
                                                    subst h
                                                    exact WP.pathW tab_ok mixed [] _ (ps := []) (r := tb false) (by kernel_rfl) trivial (WkT.eq (y := tb false) (WkT.refl _) rfl) (fun _ h => h)
                                                  · -- no
                                                    refine WP.cond (b := v405) rfl (fun hh => by rw [h41] at hh; cases hh) (fun _ => ?_)
                                                    refine WP.path tab_ok mixed [] [.keep [61, 6, 5, 4, 3, 2], .keepO [2006]] (ps := []) (e := .normal) (σ' := ⟨[2006], [(61, vi v61), (6, V.ref 2006 0), (5, V.t (T.list (List.length r68c) 2 (List.flatMap askedC r68c))), (4, vi r68b), (3, vi r68), (2, vb false)], [(2006, oc 82 [tl r76, ti r76b])]⟩) (by kernel_rfl) trivial ?_
                                                    obtain ⟨c24, h⟩ := chk_some h
                                                    refine WP.path tab_ok mixed [(369, An.v (T.int .i64 (v61 + (1 : Int))))] [.keep [61, 6, 5, 4, 3, 2], .keepO [2006], .names [(2006, 2006)]] (ps := [(True), (T.int .i64 (IntKind.wrap .i64 (v61 + (1 : Int))) = T.int .i64 (v61 + (1 : Int)))]) (e := .normal) (σ' := ⟨[2006], [(61, vi (v61 + (1 : Int))), (6, V.ref 2006 0), (5, V.t (T.list (List.length r68c) 2 (List.flatMap askedC r68c))), (4, vi r68b), (3, vi r68), (2, vb false)], [(2006, oc 82 [tl r76, ti r76b])]⟩) (by kernel_rfl) ⟨trivial, wrapI c24, trivial⟩ ?_
                                                    exact ⟨(n, (v61 + (1 : Int))), h, Nat.lt_succ_self _, rfl⟩
                                              · -- no
                                                refine WP.cond (b := decide (v61 < r68)) rfl (fun hh => by rw [h35] at hh; cases hh) (fun _ => ?_)
                                                refine WP.path tab_ok mixed [] [.keep [2], .keepO [], .names []] (ps := []) (e := (.exit 0)) (σ' := ⟨[], [(2, vb false)], []⟩) (by kernel_rfl) trivial ?_
                                                exact ⟨(), h, rfl⟩
                                          · -- from there
                                            intro _ h0
                                            have h := (show J1 () = some y0 from h0)
                                            rw [hJ1] at h
                                            have h := Option.some.inj h
                                            subst h
                                            exact WP.pathW tab_ok mixed [] _ (ps := []) (r := tb true) (by kernel_rfl) trivial (WkT.eq (y := tb true) (WkT.refl _) rfl) (fun _ h => h)

end Go.Proofs.YtfhmgiipcmmnlaaDoor.AuStates
