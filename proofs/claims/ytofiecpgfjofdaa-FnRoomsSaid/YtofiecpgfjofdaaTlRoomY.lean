/-
  Plain laws of rooms. No statement of the seat is proved here.
-/
import Derived.Test.YtofiecpgfjofdaaTlMark
namespace Go.Tl
set_option linter.unusedVariables false
set_option linter.unusedSimpArgs false
def sorL (lies : List Int) (n m k : Int) : List Int := if isRoomN lies n m k then lies.take n.toNat else []
def sorM (lies : List Int) (n m k : Int) : Int := if isRoomN lies n m k then m else 0
theorem room_in {lies : List Int} {n m k : Int} (h : isRoomN lies n m k = true) : 1 ≤ n ∧ n ≤ 12 ∧ 0 ≤ k ∧ k ≤ 1000 := by
  unfold isRoomN at h
  simp only [Bool.and_eq_true, decide_eq_true_eq] at h
  omega
theorem sor_good {lies : List Int} {n m k : Int} (h : isRoomN lies n m k = true) :
    T.tup [T.agg [T.list (lies.take n.toNat).length 1 (List.map (T.int .i64) (lies.take n.toNat)), T.int .i64 m], T.bool true] = T.tup [T.agg [T.list (sorL lies n m k).length 1 (List.map (T.int .i64) (sorL lies n m k)), T.int .i64 (sorM lies n m k)], T.bool (isRoomN lies n m k)] := by
  unfold sorL sorM; simp [h]
theorem sor_bad {lies : List Int} {n m k : Int} (h : isRoomN lies n m k = false) :
    T.tup [T.agg [T.list 0 1 [], T.int .i64 0], T.bool false] = T.tup [T.agg [T.list (sorL lies n m k).length 1 (List.map (T.int .i64) (sorL lies n m k)), T.int .i64 (sorM lies n m k)], T.bool (isRoomN lies n m k)] := by
  unfold sorL sorM; simp [h]
end Go.Tl
