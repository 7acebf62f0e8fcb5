/-
  Regions whose order the edges leave open in part: what they do in any order that may be drawn. No statement of the seat is proved here.
-/
import Derived.Test.YtfbkhpfhnimnfaaTlQ
namespace Go.Tl
set_option linter.unusedVariables false
set_option linter.unusedSimpArgs false

structure Ent where
  dst : Option Nat
  rs : Rs

/-- The state when those operations that L names have been done. -/
def foldS (L : Nat → Bool) : Nat → List Ent → (Nat → Option V) → Nat → Option V
  | _, [], S => S
  | i, e :: es, S => foldS L (i + 1) es (if L i then updO S e.dst e.rs.v else S)
def foldO (L : Nat → Bool) : Nat → List Ent → (Nat → Option Obj) → Nat → Option Obj
  | _, [], O => O
  | i, e :: es, O => foldO L (i + 1) es (if L i then effs e.rs.eff O else O)
def foldN (L : Nat → Bool) : Nat → List Ent → List Nat → List Nat
  | _, [], N => N
  | i, e :: es, N => foldN L (i + 1) es (if L i then e.rs.new ++ N else N)

def ids (r : Rs) : List Nat := r.eff.map (·.1)
theorem effs_other : ∀ (eff : List (Nat × Option Obj)) (O : Nat → Option Obj) (i : Nat), i ∉ eff.map (·.1) → effs eff O i = O i
  | [], O, i, _ => rfl
  | (j, x) :: r, O, i, h => by
    simp only [List.map_cons, List.mem_cons, not_or] at h
    rw [effs, effs_other r _ i h.2, upd_other _ _ _ _ h.1]
theorem effs_congr : ∀ (eff : List (Nat × Option Obj)) (O O' : Nat → Option Obj) (i : Nat), (O i = O' i) → effs eff O i = effs eff O' i
  | [], O, O', i, h => h
  | (j, x) :: r, O, O', i, h => by
    rw [effs, effs]
    refine effs_congr r _ _ i ?_
    simp only [upd]; split
    · rfl
    · exact h
theorem effs_comm (e1 e2 : List (Nat × Option Obj)) (O : Nat → Option Obj) (h : ∀ i, i ∈ e1.map (·.1) → i ∉ e2.map (·.1)) : effs e1 (effs e2 O) = effs e2 (effs e1 O) := by
  funext i
  by_cases h1 : i ∈ e1.map (·.1)
  · rw [effs_other e2 _ i (h i h1)]
    exact effs_congr e1 _ _ i (effs_other e2 _ i (h i h1))
  · rw [effs_other e1 _ i h1]
    exact effs_congr e2 _ _ i (effs_other e1 _ i h1).symm
theorem updO_comm (S : Nat → Option V) (d1 d2 : Option Nat) (v1 v2 : V) (h : ∀ d, d1 = some d → d2 ≠ some d) : updO (updO S d1 v1) d2 v2 = updO (updO S d2 v2) d1 v1 := by
  cases d1 with
  | none => rfl
  | some d =>
    cases d2 with
    | none => rfl
    | some d' =>
      have hne : d' ≠ d := fun e => h d rfl (by rw [e])
      funext t
      simp only [updO, upd]
      by_cases h1 : t = d'
      · have : ¬ t = d := fun e => hne (h1.symm.trans e)
        simp [h1, hne]
      · simp [h1]
theorem updO_congr (S S' : Nat → Option V) (d : Option Nat) (v : V) (t : Nat) (h : S t = S' t) : updO S d v t = updO S' d v t := by
  cases d with
  | none => exact h
  | some d =>
    simp only [updO, upd]
    split
    · rfl
    · exact h
theorem updO_other (S : Nat → Option V) (d : Option Nat) (v : V) (t : Nat) (h : d ≠ some t) : updO S d v t = S t := by
  cases d with
  | none => rfl
  | some d => exact upd_other _ _ _ _ (fun e => h (by rw [e]))

theorem foldS_congr {L L' : Nat → Bool} {t : Nat} : ∀ (es : List Ent) (i : Nat) (S S' : Nat → Option V), S t = S' t → (∀ m e, es[m]? = some e → e.dst = some t → L (i + m) = L' (i + m)) → foldS L i es S t = foldS L' i es S' t
  | [], i, S, S', h, _ => h
  | e :: es, i, S, S', h, hl => by
    rw [foldS, foldS]
    refine foldS_congr es (i + 1) _ _ ?_ (fun m e' he hd => by have := hl (m + 1) e' (by simpa using he) hd; rwa [← Nat.add_assoc, Nat.add_right_comm] at this)
    by_cases hd : e.dst = some t
    · have := hl 0 e rfl hd
      simp only [Nat.add_zero] at this
      rw [this]
      split
      · exact updO_congr _ _ _ _ _ h
      · exact h
    · have g : ∀ (b : Bool) (S : Nat → Option V), (if b then updO S e.dst e.rs.v else S) t = S t := fun b S => by
        cases b
        · rfl
        · exact updO_other _ _ _ _ hd
      rw [g, g]; exact h
theorem foldO_congr {L L' : Nat → Bool} {t : Nat} : ∀ (es : List Ent) (i : Nat) (S S' : Nat → Option Obj), S t = S' t → (∀ m e, es[m]? = some e → t ∈ ids e.rs → L (i + m) = L' (i + m)) → foldO L i es S t = foldO L' i es S' t
  | [], i, S, S', h, _ => h
  | e :: es, i, S, S', h, hl => by
    rw [foldO, foldO]
    refine foldO_congr es (i + 1) _ _ ?_ (fun m e' he hd => by have := hl (m + 1) e' (by simpa using he) hd; rwa [← Nat.add_assoc, Nat.add_right_comm] at this)
    by_cases hd : t ∈ ids e.rs
    · have := hl 0 e rfl hd
      simp only [Nat.add_zero] at this
      rw [this]
      split
      · exact effs_congr _ _ _ _ h
      · exact h
    · have g : ∀ (b : Bool) (S : Nat → Option Obj), (if b then effs e.rs.eff S else S) t = S t := fun b S => by
        cases b
        · rfl
        · exact effs_other _ _ _ hd
      rw [g, g]; exact h
theorem mem_foldN {L : Nat → Bool} {j : Nat} : ∀ (es : List Ent) (i : Nat) (N : List Nat), j ∈ foldN L i es N ↔ j ∈ N ∨ ∃ m e, es[m]? = some e ∧ L (i + m) = true ∧ j ∈ e.rs.new
  | [], i, N => by simp [foldN]
  | e :: es, i, N => by
    rw [foldN, mem_foldN es (i + 1)]
    constructor
    · rintro (h | ⟨m, e', h1, h2, h3⟩)
      · by_cases hl : L i = true
        · rw [if_pos hl, List.mem_append] at h
          rcases h with h | h
          · exact .inr ⟨0, e, rfl, by simpa using hl, h⟩
          · exact .inl h
        · rw [if_neg hl] at h; exact .inl h
      · exact .inr ⟨m + 1, e', by simpa using h1, by rw [← Nat.add_assoc, Nat.add_right_comm]; exact h2, h3⟩
    · rintro (h | ⟨m, e', h1, h2, h3⟩)
      · left; split
        · exact List.mem_append_right _ h
        · exact h
      · cases m with
        | zero =>
          simp only [List.getElem?_cons_zero, Option.some.injEq] at h1
          subst h1
          left
          rw [if_pos (by simpa using h2)]
          exact List.mem_append_left _ h3
        | succ m => exact .inr ⟨m, e', by simpa using h1, by rw [← Nat.add_assoc, Nat.add_right_comm] at h2; exact h2, h3⟩

def with1 (L : Nat → Bool) (k : Nat) : Nat → Bool := fun m => m == k || L m
theorem foldS_base {L L' : Nat → Bool} : ∀ (es : List Ent) (i : Nat) (S : Nat → Option V) , (∀ m, i ≤ m → L m = L' m) → foldS L i es S = foldS L' i es S
  | [], _, _, _ => rfl
  | e :: es, i, S, h => by rw [foldS, foldS, h i (Nat.le_refl _), foldS_base es (i + 1) _ (fun m hm => h m (by omega))]
theorem foldO_base {L L' : Nat → Bool} : ∀ (es : List Ent) (i : Nat) (S : Nat → Option Obj) , (∀ m, i ≤ m → L m = L' m) → foldO L i es S = foldO L' i es S
  | [], _, _, _ => rfl
  | e :: es, i, S, h => by rw [foldO, foldO, h i (Nat.le_refl _), foldO_base es (i + 1) _ (fun m hm => h m (by omega))]
theorem foldS_push {L : Nat → Bool} {d : Option Nat} {v : V} : ∀ (es : List Ent) (i : Nat) (S : Nat → Option V), (∀ m e, es[m]? = some e → L (i + m) = true → ∀ d', d = some d' → e.dst ≠ some d') → foldS L i es (updO S d v) = updO (foldS L i es S) d v
  | [], _, _, _ => rfl
  | e :: es, i, S, h => by
    rw [foldS, foldS]
    have hr := foldS_push (L := L) (d := d) (v := v) es (i + 1) (if L i then updO S e.dst e.rs.v else S) (fun m e' he hl => h (m + 1) e' (by simpa using he) (by rw [← Nat.add_assoc, Nat.add_right_comm]; exact hl))
    rw [← hr]
    by_cases hl : L i = true
    · rw [if_pos hl, if_pos hl, updO_comm S d e.dst v e.rs.v (h 0 e rfl (by simpa using hl))]
    · rw [if_neg hl, if_neg hl]
theorem foldO_push {L : Nat → Bool} {f : List (Nat × Option Obj)} : ∀ (es : List Ent) (i : Nat) (S : Nat → Option Obj), (∀ m e, es[m]? = some e → L (i + m) = true → ∀ j, j ∈ f.map (·.1) → j ∉ ids e.rs) → foldO L i es (effs f S) = effs f (foldO L i es S)
  | [], _, _, _ => rfl
  | e :: es, i, S, h => by
    rw [foldO, foldO]
    have hr := foldO_push (L := L) (f := f) es (i + 1) (if L i then effs e.rs.eff S else S) (fun m e' he hl => h (m + 1) e' (by simpa using he) (by rw [← Nat.add_assoc, Nat.add_right_comm]; exact hl))
    rw [← hr]
    by_cases hl : L i = true
    · rw [if_pos hl, if_pos hl, effs_comm f e.rs.eff S (h 0 e rfl (by simpa using hl))]
    · rw [if_neg hl, if_neg hl]
theorem foldS_add {L : Nat → Bool} {k : Nat} {ek : Ent} : ∀ (es : List Ent) (i j : Nat) (S : Nat → Option V), i + j = k → es[j]? = some ek → L k = false → (∀ m e, es[m]? = some e → j < m → L (i + m) = true → ∀ d, ek.dst = some d → e.dst ≠ some d) →
    foldS (with1 L k) i es S = updO (foldS L i es S) ek.dst ek.rs.v
  | [], i, j, S, _, hk, _, _ => by simp at hk
  | e :: es, i, 0, S, hik, hk, hl, hd => by
    simp only [List.getElem?_cons_zero, Option.some.injEq] at hk
    subst hk
    simp only [Nat.add_zero] at hik
    subst hik
    rw [foldS, foldS, hl]
    have : with1 L i i = true := by simp [with1]
    rw [this, if_pos rfl, if_neg (by simp), ← foldS_push es (i + 1) S (fun m e' he hl' => hd (m + 1) e' (by simpa using he) (by omega) (by rw [← Nat.add_assoc, Nat.add_right_comm]; exact hl'))]
    exact foldS_base es (i + 1) _ (fun m hm => by simp [with1, show m ≠ i by omega])
  | e :: es, i, j + 1, S, hik, hk, hl, hd => by
    rw [foldS, foldS]
    have : with1 L k i = L i := by simp [with1, show i ≠ k by omega]
    rw [this]
    exact foldS_add es (i + 1) j _ (by omega) (by simpa using hk) hl (fun m e' he hm hl' => hd (m + 1) e' (by simpa using he) (by omega) (by rw [← Nat.add_assoc, Nat.add_right_comm]; exact hl'))
theorem foldO_add {L : Nat → Bool} {k : Nat} {ek : Ent} : ∀ (es : List Ent) (i j : Nat) (S : Nat → Option Obj), i + j = k → es[j]? = some ek → L k = false → (∀ m e, es[m]? = some e → j < m → L (i + m) = true → ∀ d, d ∈ ids ek.rs → d ∉ ids e.rs) →
    foldO (with1 L k) i es S = effs ek.rs.eff (foldO L i es S)
  | [], i, j, S, _, hk, _, _ => by simp at hk
  | e :: es, i, 0, S, hik, hk, hl, hd => by
    simp only [List.getElem?_cons_zero, Option.some.injEq] at hk
    subst hk
    simp only [Nat.add_zero] at hik
    subst hik
    rw [foldO, foldO, hl]
    have : with1 L i i = true := by simp [with1]
    rw [this, if_pos rfl, if_neg (by simp), ← foldO_push es (i + 1) S (fun m e' he hl' => hd (m + 1) e' (by simpa using he) (by omega) (by rw [← Nat.add_assoc, Nat.add_right_comm]; exact hl'))]
    exact foldO_base es (i + 1) _ (fun m hm => by simp [with1, show m ≠ i by omega])
  | e :: es, i, j + 1, S, hik, hk, hl, hd => by
    rw [foldO, foldO]
    have : with1 L k i = L i := by simp [with1, show i ≠ k by omega]
    rw [this]
    exact foldO_add es (i + 1) j _ (by omega) (by simpa using hk) hl (fun m e' he hm hl' => hd (m + 1) e' (by simpa using he) (by omega) (by rw [← Nat.add_assoc, Nat.add_right_comm]; exact hl'))

theorem foldS_take {L : Nat → Bool} {k : Nat} : ∀ (es : List Ent) (i j : Nat) (S : Nat → Option V), i + j = k → (∀ m, k ≤ m → L m = false) → foldS L i (es.take j) S = foldS L i es S
  | [], i, j, S, _, _ => by simp
  | e :: es, i, 0, S, hk, hl => by
    simp only [List.take_zero, foldS]
    have h : ∀ (es : List Ent) (i : Nat) (S : Nat → Option V), k ≤ i → foldS L i es S = S := by
      intro es
      induction es with
      | nil => intros; rfl
      | cons e es ih => intro i S hi; rw [foldS, hl i hi, if_neg (by simp), ih (i + 1) S (by omega)]
    rw [hl i (by omega), if_neg (by simp), h es (i + 1) S (by omega)]
  | e :: es, i, j + 1, S, hk, hl => by
    rw [List.take_succ_cons, foldS, foldS]
    exact foldS_take es (i + 1) j _ (by omega) hl
theorem foldO_take {L : Nat → Bool} {k : Nat} : ∀ (es : List Ent) (i j : Nat) (S : Nat → Option Obj), i + j = k → (∀ m, k ≤ m → L m = false) → foldO L i (es.take j) S = foldO L i es S
  | [], i, j, S, _, _ => by simp
  | e :: es, i, 0, S, hk, hl => by
    simp only [List.take_zero, foldO]
    have h : ∀ (es : List Ent) (i : Nat) (S : Nat → Option Obj), k ≤ i → foldO L i es S = S := by
      intro es
      induction es with
      | nil => intros; rfl
      | cons e es ih => intro i S hi; rw [foldO, hl i hi, if_neg (by simp), ih (i + 1) S (by omega)]
    rw [hl i (by omega), if_neg (by simp), h es (i + 1) S (by omega)]
  | e :: es, i, j + 1, S, hk, hl => by
    rw [List.take_succ_cons, foldO, foldO]
    exact foldO_take es (i + 1) j _ (by omega) hl

/-! ### the order -/
def predsOf (o : Oper) : List Nat := (o.after.toList.filter (Region.binds .any ·)).map (·.on)
/-- Each of them once: a region whose operations hang together in diamonds would else name an ancestor over and over. -/
def addN : List Nat → List Nat → List Nat
  | [], a => a
  | x :: r, a => bif a.contains x then addN r a else addN r (x :: a)
def ancsL : List Oper → List (List Nat) → List (List Nat)
  | [], acc => acc
  | o :: r, acc => ancsL r (acc ++ [(predsOf o).foldr (fun j a => addN (j :: acc.getD j []) a) []])
def ancAt (A : List (List Nat)) (k : Nat) : List Nat := A.getD k []
def chkAnc (ops : List Oper) (A : List (List Nat)) : Bool :=
  (List.range ops.length).all fun k => match ops[k]? with
    | some o => (predsOf o).all (fun j => decide (j < k) && (ancAt A k).contains j && (ancAt A j).all (fun m => (ancAt A k).contains m)) &&
      (ancAt A k).all (fun m => decide (m < k) && ((predsOf o).contains m || (predsOf o).any (fun j => (ancAt A j).contains m)))
    | none => false
def cmpA (A : List (List Nat)) (k m : Nat) : Bool := (ancAt A k).contains m || (ancAt A m).contains k
def visS (ops : List Oper) (A : List (List Nat)) (es : List Ent) (S0 : Nat → Option V) (k t : Nat) : Option V :=
  if (List.range ops.length).all (fun m => m == k || decide (dstOf ops m ≠ some t) || cmpA A k m) then foldS (fun m => (ancAt A k).contains m) 0 es S0 t else none
def visO (n : Nat) (A : List (List Nat)) (W : List (List Nat)) (es : List Ent) (O0 : Nat → Option Obj) (k i : Nat) : Option Obj :=
  if (List.range n).all (fun m => m == k || !(ancAt W m).contains i || cmpA A k m) then foldO (fun m => (ancAt A k).contains m) 0 es O0 i else none
def textIds (P : Program) (tab : Tab) (ans : List (Nat × An)) (ops : List Oper) : List Oper → St → List (List Nat)
  | [], _ => []
  | o :: r, σ => match out1 P tab (anOf ans o) ops (lk σ.S) (lk σ.O) o with
    | some rs => ids rs :: textIds P tab ans ops r (σ.put o.dst rs)
    | none => []
def goD (P : Program) (tab : Tab) (n : Nat) (ans : List (Nat × An)) (ops : List Oper) (A W : List (List Nat)) (σ : St) : List Oper → List Ent → Option (List Ent)
  | [], es => some es
  | o :: r, es => match out1 P tab (anOf ans o) ops (visS ops A es (lk σ.S) es.length) (visO ops.length A W es (lk σ.O) es.length) o with
    | some rs => if okDst n o.dst && (ids rs).all (fun i => (ancAt W es.length).contains i) then goD P tab n ans ops A W σ r (es ++ [⟨o.dst, rs⟩]) else none
    | none => none
def newsAt (es : List Ent) (k : Nat) : List Nat := match es[k]? with
  | some e => e.rs.new
  | none => []
def chkPairs (ops : List Oper) (A W : List (List Nat)) (es : List Ent) (N : List Nat) : Bool :=
  (List.range ops.length).all fun k => (newsAt es k).all (fun j => !N.contains j) && (List.range ops.length).all fun m => m == k ||
    ((cmpA A k m || ((match dstOf ops k with | some d => decide (dstOf ops m ≠ some d) | none => true) && (ancAt W k).all (fun i => !(ancAt W m).contains i))) &&
    (newsAt es k).all (fun j => !(newsAt es m).contains j))
def putsE : List Ent → St → St
  | [], σ => σ
  | e :: es, σ => putsE es (σ.put e.dst e.rs)
def obsE : List Ent → List Prop
  | [] => []
  | e :: es => e.rs.obs ++ obsE es
def drawOps (P : Program) (tab : Tab) (n : Nat) (ans : List (Nat × An)) (ops : List Oper) (σ : St) : Option (List Prop × St) :=
  let A := ancsL ops []
  let W := textIds P tab ans ops ops σ
  match goD P tab n ans ops A W σ ops [] with
  | some es => if chkAnc ops A && chkPairs ops A W es σ.N then some (obsE es, putsE es σ) else none
  | none => none

theorem goD_spec {P : Program} {tab : Tab} {n : Nat} {ans : List (Nat × An)} {ops : List Oper} {A W : List (List Nat)} {σ : St} : ∀ (r : List Oper) (es es' : List Ent), ops.drop es.length = r → goD P tab n ans ops A W σ r es = some es' →
    es <+: es' ∧ es'.length = ops.length + (es.length - ops.length) ∧ ∀ k o, es.length ≤ k → ops[k]? = some o → ∃ e, es'[k]? = some e ∧ e.dst = o.dst ∧ okDst n o.dst = true ∧ (∀ i ∈ ids e.rs, (ancAt W k).contains i = true) ∧
      out1 P tab (anOf ans o) ops (visS ops A (es'.take k) (lk σ.S) k) (visO ops.length A W (es'.take k) (lk σ.O) k) o = some e.rs
  | [], es, es', hd, hg => by
    simp only [goD, Option.some.injEq] at hg
    subst hg
    have hle : ops.length ≤ es.length := by simpa using hd
    refine ⟨List.prefix_rfl, by omega, fun k o hk ho => ?_⟩
    have := (List.getElem?_eq_some_iff.1 ho).1
    omega
  | o :: r, es, es', hd, hg => by
    simp only [goD] at hg
    have ho : ops[es.length]? = some o := by
      have := congrArg (·[0]?) hd
      simpa [List.getElem?_drop] using this
    have hlt : es.length < ops.length := (List.getElem?_eq_some_iff.1 ho).1
    split at hg
    · rename_i rs hout
      split at hg
      · rename_i hc
        simp only [Bool.and_eq_true, List.all_eq_true] at hc
        obtain ⟨p1, p2, p3⟩ := goD_spec r (es ++ [⟨o.dst, rs⟩]) es' (by rw [List.length_append, ← List.drop_drop, hd]; rfl) hg
        have hpre : es <+: es' := (List.prefix_append es _).trans p1
        refine ⟨hpre, by simp at p2; omega, fun k o' hk ho' => ?_⟩
        by_cases hke : k = es.length
        · subst hke
          rw [ho] at ho'; cases ho'
          have htake : es'.take es.length = es := (List.prefix_iff_eq_take.1 hpre).symm
          refine ⟨⟨o.dst, rs⟩, ?_, rfl, hc.1, hc.2, by rw [htake]; exact hout⟩
          obtain ⟨t, ht⟩ := p1
          rw [← ht, List.append_assoc, List.getElem?_append_right (Nat.le_refl _)]
          simp
        · exact p3 k o' (by simp; omega) ho'
      · cases hg
    · cases hg

theorem lk_putsE : ∀ (es : List Ent) (σ : St) (i : Nat), lk (putsE es σ).S = foldS (fun _ => true) i es (lk σ.S) ∧ lk (putsE es σ).O = foldO (fun _ => true) i es (lk σ.O) ∧ (putsE es σ).N = foldN (fun _ => true) i es σ.N
  | [], σ, i => ⟨rfl, rfl, rfl⟩
  | e :: es, σ, i => by
    obtain ⟨h1, h2, h3⟩ := lk_putsE es (σ.put e.dst e.rs) (i + 1)
    have e1 : lk (σ.put e.dst e.rs).S = updO (lk σ.S) e.dst e.rs.v := by
      cases hd : e.dst with
      | none => rfl
      | some d => simp only [St.put, updO]; rw [lk_cons, lk_del, upd_upd]
    have e2 : lk (σ.put e.dst e.rs).O = effs e.rs.eff (lk σ.O) := lk_effA _ _
    refine ⟨?_, ?_, ?_⟩
    · rw [putsE, h1, e1, foldS, if_pos rfl]
    · rw [putsE, h2, e2, foldO, if_pos rfl]
    · rw [putsE, h3, foldN, if_pos rfl]; rfl
theorem obsE_get : ∀ {es : List Ent} (_ : Obs (obsE es)) {k : Nat} {e : Ent}, es[k]? = some e → Obs e.rs.obs
  | [], _, k, e, h => by simp at h
  | e0 :: es, ho, k, e, h => by
    rw [obsE, Obs_append] at ho
    cases k with
    | zero => simp at h; subst h; exact ho.1
    | succ k => simp at h; exact obsE_get ho.2 h
end Go.Tl
