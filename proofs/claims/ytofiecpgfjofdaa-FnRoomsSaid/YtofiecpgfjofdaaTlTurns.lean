/-
  What turns, one behind the other, make of a room. Plain lists: no program here.
-/
import Derived.Test.YtofiecpgfjofdaaTlTurn
import Derived.Test.YtofiecpgfjofdaaTlTree
namespace Go.Tl
abbrev Rm := List Int × Int × Int × Int
def stepR (r : Rm) (t : Nd) : Rm := (dtL r.1 r.2.1 r.2.2.1 r.2.2.2 t.1 t.2.1 t.2.2, dtN r.1 r.2.1 r.2.2.1 r.2.2.2 t.1 t.2.1 t.2.2, dtM r.1 r.2.1 r.2.2.1 r.2.2.2 t.1 t.2.1 t.2.2, dtK r.1 r.2.1 r.2.2.1 r.2.2.2 t.1 t.2.1 t.2.2)
def runR (r : Rm) (ts : List Nd) : Nat → Rm
  | 0 => r
  | i + 1 => stepR (runR r ts i) (ts.getD i (0, 0, 0))
def rL (l : List Int) (n m k : Int) (ts : List Nd) (i : Nat) : List Int := (runR (l, n, m, k) ts i).1
def rN (l : List Int) (n m k : Int) (ts : List Nd) (i : Nat) : Int := (runR (l, n, m, k) ts i).2.1
def rM (l : List Int) (n m k : Int) (ts : List Nd) (i : Nat) : Int := (runR (l, n, m, k) ts i).2.2.1
def rK (l : List Int) (n m k : Int) (ts : List Nd) (i : Nat) : Int := (runR (l, n, m, k) ts i).2.2.2
section
variable {l : List Int} {n m k : Int} {ts : List Nd} {i : Nat}
theorem rL_suc : rL l n m k ts (i + 1) = dtL (rL l n m k ts i) (rN l n m k ts i) (rM l n m k ts i) (rK l n m k ts i) (ts.getD i (0, 0, 0)).1 (ts.getD i (0, 0, 0)).2.1 (ts.getD i (0, 0, 0)).2.2 := rfl
theorem rN_suc : rN l n m k ts (i + 1) = dtN (rL l n m k ts i) (rN l n m k ts i) (rM l n m k ts i) (rK l n m k ts i) (ts.getD i (0, 0, 0)).1 (ts.getD i (0, 0, 0)).2.1 (ts.getD i (0, 0, 0)).2.2 := rfl
theorem rM_suc : rM l n m k ts (i + 1) = dtM (rL l n m k ts i) (rN l n m k ts i) (rM l n m k ts i) (rK l n m k ts i) (ts.getD i (0, 0, 0)).1 (ts.getD i (0, 0, 0)).2.1 (ts.getD i (0, 0, 0)).2.2 := rfl
theorem rK_suc : rK l n m k ts (i + 1) = dtK (rL l n m k ts i) (rN l n m k ts i) (rM l n m k ts i) (rK l n m k ts i) (ts.getD i (0, 0, 0)).1 (ts.getD i (0, 0, 0)).2.1 (ts.getD i (0, 0, 0)).2.2 := rfl
/-- The turn at a place can be done. -/
def rB (l : List Int) (n m k : Int) (ts : List Nd) (i : Nat) : Bool := dtB (rL l n m k ts i) (rN l n m k ts i) (rM l n m k ts i) (rK l n m k ts i) (ts.getD i (0, 0, 0)).1 (ts.getD i (0, 0, 0)).2.1 (ts.getD i (0, 0, 0)).2.2
theorem rL_len (h : l.length = 12) : ∀ i, (rL l n m k ts i).length = 12
  | 0 => h
  | i + 1 => by rw [rL_suc]; exact dtL_len
theorem dt_room {lies : List Int} {n m k c a b : Int} (h : dtB lies n m k c a b = true) : isRoomN (dtL lies n m k c a b) (dtN lies n m k c a b) (dtM lies n m k c a b) (dtK lies n m k c a b) = true := by
  have h' := h
  simp only [dtB, Bool.and_eq_true, Bool.not_eq_true', decide_eq_false_iff_not] at h'
  have hb := room_in h'.1.1
  rw [dtL, dtN, dtM, dtK, if_pos h, if_pos h, if_pos h, if_pos h]
  have hs := mk_state (room_state h'.1.1) h'.2
  unfold dtT
  rw [isRoom_pad hs, Bool.and_eq_true, decide_eq_true_eq, decide_eq_true_eq]
  omega
theorem r_room (h : rB l n m k ts i = true) : isRoomN (rL l n m k ts (i + 1)) (rN l n m k ts (i + 1)) (rM l n m k ts (i + 1)) (rK l n m k ts (i + 1)) = true := by
  rw [rL_suc, rN_suc, rM_suc, rK_suc]; exact dt_room h
/-- How many turns are done. -/
def cntR (p : Nat → Bool) : Nat → Nat → Nat
  | 0, i => i
  | f + 1, i => if p i = true then cntR p f (i + 1) else i
theorem cntR_skip {p : Nat → Bool} : ∀ (j i f : Nat), (∀ x, i ≤ x → x < i + j → p x = true) → cntR p (j + f) i = cntR p f (i + j)
  | 0, i, f, _ => by simp
  | j + 1, i, f, h => by
    rw [show j + 1 + f = (j + f) + 1 by omega]
    simp only [cntR]
    rw [if_pos (h i (by omega) (by omega)), cntR_skip j (i + 1) f fun x h1 h2 => h x (by omega) (by omega), show i + 1 + j = i + (j + 1) by omega]
def dsB (l : List Int) (n m k : Int) : Bool := isRoomN l n m k
def dsC (l : List Int) (n m k : Int) (ts : List Nd) : Nat := if dsB l n m k = true then cntR (rB l n m k ts) ts.length 0 else 0
def dsL (l : List Int) (n m k : Int) (ts : List Nd) : List Int := if dsB l n m k = true then rL l n m k ts (dsC l n m k ts) else List.replicate 12 0
def dsN (l : List Int) (n m k : Int) (ts : List Nd) : Int := if dsB l n m k = true then rN l n m k ts (dsC l n m k ts) else 0
def dsM (l : List Int) (n m k : Int) (ts : List Nd) : Int := if dsB l n m k = true then rM l n m k ts (dsC l n m k ts) else 0
def dsK (l : List Int) (n m k : Int) (ts : List Nd) : Int := if dsB l n m k = true then rK l n m k ts (dsC l n m k ts) else 0
theorem dsC_at (hr : isRoomN l n m k = true) (hi : i ≤ ts.length) (hall : ∀ j, j < i → rB l n m k ts j = true) (hend : i = ts.length ∨ rB l n m k ts i = false) : dsC l n m k ts = i := by
  unfold dsC dsB
  rw [if_pos hr]
  have e := cntR_skip (p := rB l n m k ts) i 0 (ts.length - i) fun x _ h => hall x (by omega)
  rw [show i + (ts.length - i) = ts.length by omega, Nat.zero_add] at e
  rw [e]
  rcases hend with h | h
  · rw [h, Nat.sub_self]; rfl
  · cases hx : ts.length - i with
    | zero => rfl
    | succ f => simp only [cntR]; rw [if_neg (by rw [h]; simp)]
theorem ds_bad (h : isRoomN l n m k = false) : T.tup [T.agg [T.int .i64 0, T.int .i64 0, T.int .i64 0, T.int .i64 0, T.int .i64 0, T.int .i64 0, T.int .i64 0, T.int .i64 0, T.int .i64 0, T.int .i64 0, T.int .i64 0, T.int .i64 0, T.int .i64 0, T.int .i64 0, T.int .i64 0], T.int .i64 0, T.bool false] = T.tup [T.agg (List.map (T.int .i64) (dsL l n m k ts) ++ [T.int .i64 (dsN l n m k ts), T.int .i64 (dsM l n m k ts), T.int .i64 (dsK l n m k ts)]), T.int .i64 (dsC l n m k ts : Int), T.bool (dsB l n m k)] := by
  simp [dsL, dsN, dsM, dsK, dsC, dsB, h]
theorem ds_at (hr : isRoomN l n m k = true) (hi : i ≤ ts.length) (hall : ∀ j, j < i → rB l n m k ts j = true) (hend : i = ts.length ∨ rB l n m k ts i = false) : T.tup [T.agg (List.map (T.int .i64) (rL l n m k ts i) ++ [T.int .i64 (rN l n m k ts i), T.int .i64 (rM l n m k ts i), T.int .i64 (rK l n m k ts i)]), T.int .i64 (i : Int), T.bool true] = T.tup [T.agg (List.map (T.int .i64) (dsL l n m k ts) ++ [T.int .i64 (dsN l n m k ts), T.int .i64 (dsM l n m k ts), T.int .i64 (dsK l n m k ts)]), T.int .i64 (dsC l n m k ts : Int), T.bool (dsB l n m k)] := by
  have e := dsC_at hr hi hall hend
  simp [dsL, dsN, dsM, dsK, dsB, hr, e]
end
end Go.Tl
