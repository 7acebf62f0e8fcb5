/-
  Regions: operations one after the other, and in any order that the edges leave open. No statement of the seat is proved here.
-/
import Derived.Test.YtfbkhpfhnimnfaaTlP
import Derived.Orders
namespace Go.Tl
set_option linter.unusedVariables false
set_option linter.unusedSimpArgs false

def An.fix (an : An) (r : Rs) : Option Rs :=
  match an with
  | .b c => match r.v with
    | .t (.bool b') => some { r with obs := r.obs ++ [b' = c], v := .t (.bool c) }
    | _ => none
  | .v x => match r.v with
    | .t y => some { r with obs := r.obs ++ [y = x], v := .t x }
    | _ => none
  | _ => some r
def dstOf (ops : List Oper) (g : Nat) : Option Nat := (ops[g]?).bind (·.dst)
/-- One operation of a region, its guard looked at. -/
def out1 (P : Program) (tab : Tab) (an : An) (ops : List Oper) (S : Nat → Option V) (O : Nat → Option Obj) (o : Oper) : Option Rs :=
  match o.guard with
  | none => (stepOp P tab an S O o).bind an.fix
  | some (g, want) => match dstOf ops g with
    | some d => match S d with
      | some (.t (.bool b)) => if b = want then (stepOp P tab an S O o).bind an.fix else some ⟨[], .t .undef, [], []⟩
      | some (.t .undef) => some ⟨[], .t .undef, [], []⟩
      | _ => none
    | none => none
def effA : List (Nat × Option Obj) → List (Nat × Obj) → List (Nat × Obj)
  | [], O => O
  | (i, some ob) :: r, O => effA r ((i, ob) :: delA O i)
  | (i, none) :: r, O => effA r (delA O i)
theorem upd_upd {α : Type} (S : Nat → Option α) (i : Nat) (x y : Option α) : upd (upd S i x) i y = upd S i y := by
  funext k; simp only [upd]; split <;> rfl
theorem lk_effA : ∀ (eff : List (Nat × Option Obj)) (O : List (Nat × Obj)), lk (effA eff O) = effs eff (lk O)
  | [], O => rfl
  | (i, some ob) :: r, O => by rw [effA, lk_effA r, lk_cons, lk_del, effs, upd_upd]
  | (i, none) :: r, O => by rw [effA, lk_effA r, lk_del, effs]
def St.put (σ : St) (dst : Option Nat) (r : Rs) : St :=
  ⟨r.new ++ σ.N, match dst with | some d => (d, r.v) :: delA σ.S d | none => σ.S, effA r.eff σ.O⟩
def okDst (n : Nat) (dst : Option Nat) : Bool :=
  match dst with
  | some d => decide (d < n)
  | none => true

section
variable {P : Program} {E : Env} {β : Names} {N : List Nat} {S S1 : Nat → Option V} {O O1 : Nat → Option Obj} {a : Act} {w : World} {tab : Tab} {n : Nat}
def updO (S : Nat → Option V) (dst : Option Nat) (v : V) : Nat → Option V :=
  match dst with
  | some d => upd S d (some v)
  | none => S
theorem out1_sound (htab : chkTab P tab = true) {an : An} {ops : Array Oper} {i : Nat} (h : R E β N S O a w) (hn : a.tmps.size = n) (hS : ∀ t x, S1 t = some x → S t = some x) (hO : ∀ i x, O1 i = some x → O i = some x)
    {o : Oper} (hi : ops[i]? = some o) {rs : Rs} (hs : out1 P tab an ops.toList S1 O1 o = some rs) (ho : Obs rs.obs) (hnew : ∀ j ∈ rs.new, j ∉ N) (hd : okDst n o.dst = true)
    {K : Act → World → Prop} {Q : Exit → Act → World → Prop} (hK : ∀ β' a' w', R E β' (rs.new ++ N) (updO S o.dst rs.v) (effs rs.eff O) a' w' → a'.tmps.size = n → K a' w') : wpOp P ops Q i K a w := by
  unfold wpOp
  simp only [hi]
  have put : ∀ {β' : Names} {N' : List Nat} {O' : Nat → Option Obj} {v : V} {u : Value} {w' : World}, R E β' N' S O' a w' → VV w' (Imm E O' β' w') β' v u → R E β' N' (updO S o.dst v) O' (a.put o.dst u) w' ∧ (a.put o.dst u).tmps.size = n := by
    intro β' N' O' v u w' h1 h2
    refine ⟨?_, by rw [size_put]; exact hn⟩
    cases hdd : o.dst with
    | none => exact h1
    | some d =>
      rw [hdd] at hd
      simp only [okDst, decide_eq_true_eq] at hd
      exact h1.put d (by rw [hn]; exact hd) u v h2
  have run : (stepOp P tab an S1 O1 o).bind an.fix = some rs → o.wp P a w K Q ∨ (o.asks P a w ∧ LetsOut Q) := by
    intro hb
    left
    rw [Option.bind_eq_some_iff] at hb
    obtain ⟨r, hr, hf⟩ := hb
    have key : Obs r.obs ∧ r.eff = rs.eff ∧ r.new = rs.new ∧ r.v = rs.v := by
      unfold An.fix at hf
      split at hf
      · split at hf
        · rename_i c b hv
          cases hf
          rw [Obs_append] at ho
          exact ⟨ho.1, rfl, rfl, by rw [hv, ho.2.1]⟩
        · cases hf
      · split at hf
        · rename_i x y hv
          cases hf
          rw [Obs_append] at ho
          exact ⟨ho.1, rfl, rfl, by rw [hv, ho.2.1]⟩
        · cases hf
      · cases hf; exact ⟨ho, rfl, rfl, rfl⟩
    obtain ⟨k1, k2, k3, k4⟩ := key
    refine stepOp_sound htab h hS hO hr k1 (by rw [k3]; exact hnew) (fun β' v w' g1 g2 => ?_)
    rw [k3, k2] at g1
    rw [k2, k4] at g2
    obtain ⟨q1, q2⟩ := put g1 g2
    exact hK β' _ w' q1 q2
  have skip : rs = ⟨[], .t .undef, [], []⟩ → K (a.put o.dst undef) w := by
    rintro rfl
    obtain ⟨q1, q2⟩ := put h (v := .t .undef) (u := undef) (by simp only [VV, VR])
    exact hK β _ w q1 q2
  unfold out1 at hs
  split at hs
  · rename_i hg
    have : Region.wanted o (yielded ops a.tmps) = true := by simp [Region.wanted, hg]
    simp only [this, if_true]
    exact run hs
  · rename_i g want hg
    cases hdo : dstOf ops.toList g with
    | none => simp [hdo] at hs
    | some d =>
      simp only [hdo] at hs
      have hdo' : (ops[g]?).bind (·.dst) = some d := by simpa [dstOf] using hdo
      split at hs
      · rename_i b hb
        obtain ⟨hlt, hv⟩ := h.slots d _ (hS _ _ hb)
        simp only [VV, VR] at hv
        have ht : a.tmps[d]? = some (.bool b) := by
          rw [Array.getElem?_eq_getElem hlt]
          rw [Array.getD_eq_getD_getElem?, Array.getElem?_eq_getElem hlt] at hv
          simpa using hv
        have hy : yielded ops a.tmps g = some b := by simp [yielded, hdo', ht]
        have hw : Region.wanted o (yielded ops a.tmps) = (some b == some want) := by simp [Region.wanted, hg, hy]
        split at hs
        · rename_i hbw
          have : Region.wanted o (yielded ops a.tmps) = true := by rw [hw, hbw]; simp
          simp only [this, if_true]
          exact run hs
        · rename_i hbw
          have : Region.wanted o (yielded ops a.tmps) = false := by rw [hw]; simpa using hbw
          simp only [this, Bool.false_eq_true, if_false]
          exact skip (Option.some.inj hs).symm
      · rename_i hb
        obtain ⟨hlt, hv⟩ := h.slots d _ (hS _ _ hb)
        simp only [VV, VR] at hv
        have ht : a.tmps[d]? = some undef := by
          rw [Array.getElem?_eq_getElem hlt]
          rw [Array.getD_eq_getD_getElem?, Array.getElem?_eq_getElem hlt] at hv
          simpa using hv
        have hy : yielded ops a.tmps g = none := by simp [yielded, hdo', ht, undef]
        have : Region.wanted o (yielded ops a.tmps) = false := by simp [Region.wanted, hg, hy]
        simp only [this, Bool.false_eq_true, if_false]
        exact skip (Option.some.inj hs).symm
      · cases hs
end

/-! ### one after the other -/
/-- The note of an operation: under its slot; of a store: under a million and the slot of the address. -/
def anOf (ans : List (Nat × An)) (o : Oper) : An := match o.dst with
  | some d => (lk ans d).getD .no
  | none => match o.op with
    | .store _ (.tmp t) _ => (lk ans (1000000 + t)).getD .no
    | .mapUpdate _ (.tmp t) _ _ => (lk ans (2000000 + t)).getD .no
    | _ => .no
def runOps (P : Program) (tab : Tab) (n : Nat) (ans : List (Nat × An)) (ops : List Oper) : List Oper → St → Option (List Prop × St)
  | [], σ => some ([], σ)
  | o :: r, σ => match out1 P tab (anOf ans o) ops (lk σ.S) (lk σ.O) o with
    | some rs => if rs.new.any (fun j => σ.N.contains j) || !okDst n o.dst then none else match runOps P tab n ans ops r (σ.put o.dst rs) with
      | some (qs, σ') => some (rs.obs ++ qs, σ')
      | none => none
    | none => none
section
variable {P : Program} {E : Env} {a : Act} {w : World} {tab : Tab} {n : Nat}
theorem lk_put (σ : St) (dst : Option Nat) (rs : Rs) : lk (σ.put dst rs).S = updO (lk σ.S) dst rs.v := by
  cases dst with
  | none => rfl
  | some d => simp only [St.put, updO]; rw [lk_cons, lk_del, upd_upd]
theorem runOps_sound (htab : chkTab P tab = true) {ans : List (Nat × An)} {ops : Array Oper} {Q : Exit → Act → World → Prop} : ∀ (r : List Oper) (i : Nat) (σ σ' : St) (ps : List Prop) (a : Act) (w : World),
    ops.toList.drop i = r → runOps P tab n ans ops.toList r σ = some (ps, σ') → Obs ps → Rel E σ a w → a.tmps.size = n → (∀ a' w', Rel E σ' a' w' → a'.tmps.size = n → Q .normal a' w') → wpOps P ops Q (List.range' i r.length) a w
  | [], i, σ, σ', ps, a, w, _, hr, _, h, hn, hQ => by
    simp only [runOps, Option.some.injEq, Prod.mk.injEq] at hr
    obtain ⟨_, rfl⟩ := hr
    exact hQ a w h hn
  | o :: r, i, σ, σ', ps, a, w, hd, hr, ho, h, hn, hQ => by
    have hi : ops[i]? = some o := by
      have := congrArg (·[0]?) hd
      simpa [List.getElem?_drop] using this
    simp only [runOps] at hr
    cases hout : out1 P tab (anOf ans o) ops.toList (lk σ.S) (lk σ.O) o with
    | none => simp [hout] at hr
    | some rs =>
      simp only [hout] at hr
      split at hr
      · cases hr
      · rename_i hc
        simp only [Bool.or_eq_true, List.any_eq_true, Bool.not_eq_true', not_or, not_exists, Bool.not_eq_false] at hc
        obtain ⟨hnw, hdd⟩ := hc
        split at hr
        · rename_i qs σ2 hrest
          cases hr
          rw [Obs_append] at ho
          obtain ⟨β, h⟩ := h
          rw [List.length_cons, List.range'_succ, wpOps_cons]
          refine out1_sound htab h hn (fun _ _ h => h) (fun _ _ h => h) hi hout ho.1 (fun j hj hN => hnw j ⟨hj, by simpa using hN⟩) hdd (fun β' a' w' k1 k2 => ?_)
          refine runOps_sound htab r (i + 1) (σ.put o.dst rs) _ qs a' w' ?_ hrest ho.2 ⟨β', ?_⟩ k2 hQ
          · rw [← List.drop_drop, hd]; rfl
          · rw [lk_put]
            show R E β' (rs.new ++ σ.N) _ (lk (effA rs.eff σ.O)) a' w'
            rw [lk_effA]
            exact k1
        · cases hr
end
end Go.Tl
