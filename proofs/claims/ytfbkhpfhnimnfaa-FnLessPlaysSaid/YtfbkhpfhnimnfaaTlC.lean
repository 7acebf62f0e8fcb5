/-
  Types: what the program's tables say of them, told by a list that is checked against the program. No statement of the seat is proved here.
-/
import Derived.Test.YtfbkhpfhnimnfaaTlB
namespace Go.Tl
set_option linter.unusedVariables false
set_option linter.unusedSimpArgs false

inductive TyK where
  | int (k : IntKind)
  | bool
  | string
  | slice (e sz bytes : Nat)
  | array (n e sz : Nat) (agg : Bool)
  | struct (fs : List (Nat × Nat × Bool))
  | pointer (e : TypeId)
  | map (k e : TypeId)
  | func
  | iface
structure Ty where
  k : TyK
  size : Nat
  bytes : Nat
  zero : List T
def TyK.agg : TyK → Bool
  | .array .. | .struct .. => true
  | _ => false

def look {α : Type} : List (Nat × α) → Nat → Option α
  | [], _ => none
  | (j, x) :: r, i => if i == j then some x else look r i

def aggP (P : Program) (t : TypeId) : Bool :=
  match P.underlying t with
  | some (.struct _) | some (.array _ _) => true
  | _ => false
def sizeP (P : Program) (t : TypeId) : Option Nat := (P.info? t).map (·.size)

/-- A closed value and its tree. -/
def chkV : Value → T → Bool
  | .int k n, .int k' n' => decide (k = k') && decide (n = n')
  | .bool b, .bool b' => b == b'
  | .string s, .str s' => decide (s = s')
  | .slice none 0 0, .nils => true
  | .pointer none, .nilp => true
  | .nilFunc, .nilf => true
  | .nilIface, .nili => true
  | .map none, .nilm => true
  | _, _ => false
def chkVs : List Value → List T → Bool
  | [], [] => true
  | v :: vs, t :: ts => chkV v t && chkVs vs ts
  | _, _ => false
def chkFs (P : Program) : List Field → List (Nat × Nat × Bool) → Bool
  | [], [] => true
  | f :: fs, (o, s, g) :: r => decide (f.offset = o) && decide (sizeP P f.type = some s) && (aggP P f.type == g) && chkFs P fs r
  | _, _ => false
def chkK (P : Program) (t : TypeId) : TyK → Bool
  | .int k => match P.underlying t with | some (.int k') => decide (k = k') | _ => false
  | .bool => match P.underlying t with | some .bool => true | _ => false
  | .string => match P.underlying t with | some .string => true | _ => false
  | .slice e sz b => match P.underlying t with | some (.slice e') => decide (e' = e) && (match P.info? e with | some i => decide (i.size = sz) && decide (i.bytes = b) | none => false) | _ => false
  | .array n e sz g => match P.underlying t with | some (.array n' e') => decide (n' = n) && decide (e' = e) && decide (sizeP P e = some sz) && (aggP P e == g) | _ => false
  | .struct fs => match P.underlying t with | some (.struct fields) => chkFs P fields.toList fs | _ => false
  | .pointer e => match P.underlying t with | some (.pointer e') => decide (e' = e) | _ => false
  | .map k e => match P.underlying t with | some (.map k' e') => decide (k' = k) && decide (e' = e) | _ => false
  | .func => match P.underlying t with | some (.func ..) => true | _ => false
  | .iface => match P.underlying t with | some (.interface _) => true | _ => false
def chkTy (P : Program) (t : TypeId) (y : Ty) : Bool :=
  (match P.info? t with
   | some i => decide (i.size = y.size) && decide (i.bytes = y.bytes) && (match i.zero with | some z => chkVs z.cells.toList y.zero && decide (z.cells.size = y.size) && ((match z with | .agg _ => true | _ => false) == y.k.agg) | none => false)
   | none => false) && chkK P t y.k
def chkTab (P : Program) : List (Nat × Ty) → Bool
  | [] => true
  | (t, y) :: r => chkTy P t y && chkTab P r
theorem chkTab_look {P : Program} : ∀ {tab : List (Nat × Ty)}, chkTab P tab = true → ∀ {t : Nat} {y : Ty}, look tab t = some y → chkTy P t y = true
  | [], _, t, y, h => by simp [look] at h
  | (t0, y0) :: r, hc, t, y, h => by
    simp only [chkTab, Bool.and_eq_true] at hc
    simp only [look] at h
    split at h
    · rename_i e
      have e' : t = t0 := by simpa using e
      cases h
      rw [e']
      exact hc.1
    · exact chkTab_look hc.2 h

theorem chkV_reads {w : World} {ok : Nat → Prop} : ∀ {v : Value} {t : T}, chkV v t = true → VR w ok t v := by
  intro v t h
  unfold chkV at h
  split at h
  · simp only [Bool.and_eq_true, decide_eq_true_eq] at h; simp only [VR]; rw [h.1, h.2]
  · simp only [beq_iff_eq] at h; simp only [VR]; rw [h]
  · simp only [decide_eq_true_eq] at h; simp only [VR]; rw [h]
  all_goals first | (simp only [VR]; done) | cases h
theorem chkVs_reads {w : World} {ok : Nat → Prop} : ∀ {vs : List Value} {ts : List T}, chkVs vs ts = true → VL w ok ts vs
  | [], [], _ => by simp only [VL]
  | v :: vs, t :: ts, h => by
    simp only [chkVs, Bool.and_eq_true] at h
    simp only [VL]
    exact ⟨v, vs, rfl, chkV_reads h.1, chkVs_reads h.2⟩
  | [], _ :: _, h => by simp [chkVs] at h
  | _ :: _, [], h => by simp [chkVs] at h

/-! ### the types' facts -/
section
variable {P : Program} {t : TypeId} {y : Ty}
theorem chkTy_info (h : chkTy P t y = true) : ∃ i z, P.info? t = some i ∧ i.size = y.size ∧ i.bytes = y.bytes ∧ i.zero = some z ∧ chkVs z.cells.toList y.zero = true ∧ z.cells.size = y.size ∧ (y.k.agg = true → ∃ cs, z = .agg cs) ∧ (y.k.agg = false → z.cells = #[z]) := by
  simp only [chkTy, Bool.and_eq_true] at h
  obtain ⟨h, _⟩ := h
  cases hi : P.info? t with
  | none => simp [hi] at h
  | some i =>
    simp only [hi, Bool.and_eq_true, decide_eq_true_eq] at h
    obtain ⟨⟨h1, h2⟩, h3⟩ := h
    cases hz : i.zero with
    | none => simp [hz] at h3
    | some z =>
      simp only [hz, Bool.and_eq_true, decide_eq_true_eq, beq_iff_eq] at h3
      obtain ⟨⟨h3, h4⟩, h5⟩ := h3
      refine ⟨i, z, rfl, h1, h2, hz, h3, h4, fun hg => ?_, fun hg => ?_⟩
      · rw [hg] at h5
        cases z <;> simp at h5
        exact ⟨_, rfl⟩
      · rw [hg] at h5
        cases z <;> simp at h5 <;> rfl
theorem chkTy_kind (h : chkTy P t y = true) : chkK P t y.k = true := by
  simp only [chkTy, Bool.and_eq_true] at h
  exact h.2
theorem chkK_slice {e sz b : Nat} (h : chkK P t (.slice e sz b) = true) : P.underlying t = some (.slice e) ∧ ∃ i, P.info? e = some i ∧ i.size = sz ∧ i.bytes = b := by
  simp only [chkK] at h
  cases hu : P.underlying t with
  | none => simp [hu] at h
  | some d =>
    cases d <;> simp [hu] at h
    rename_i e'
    obtain ⟨rfl, h⟩ := h
    cases hi : P.info? e' with
    | none => simp [hi] at h
    | some i =>
      simp only [hi, Bool.and_eq_true, decide_eq_true_eq] at h
      exact ⟨rfl, i, rfl, h.1, h.2⟩
theorem chkK_array {n e sz : Nat} {g : Bool} (h : chkK P t (.array n e sz g) = true) : P.underlying t = some (.array n e) ∧ sizeP P e = some sz ∧ aggP P e = g := by
  simp only [chkK] at h
  cases hu : P.underlying t with
  | none => simp [hu] at h
  | some d =>
    cases d <;> simp [hu] at h
    rename_i n' e'
    obtain ⟨⟨⟨rfl, rfl⟩, h2⟩, h3⟩ := h
    exact ⟨rfl, h2, h3⟩
theorem chkFs_get : ∀ {fs : List Field} {r : List (Nat × Nat × Bool)}, chkFs P fs r = true → ∀ {i o s : Nat} {g : Bool}, r[i]? = some (o, s, g) → ∃ f, fs[i]? = some f ∧ f.offset = o ∧ sizeP P f.type = some s ∧ aggP P f.type = g
  | [], [], _, i, o, s, g, h => by simp at h
  | f :: fs, (o0, s0, g0) :: r, hc, i, o, s, g, h => by
    simp only [chkFs, Bool.and_eq_true, decide_eq_true_eq, beq_iff_eq] at hc
    obtain ⟨⟨⟨h1, h2⟩, h3⟩, h4⟩ := hc
    cases i with
    | zero =>
      simp only [List.getElem?_cons_zero, Option.some.injEq, Prod.mk.injEq] at h
      obtain ⟨rfl, rfl, rfl⟩ := h
      exact ⟨f, rfl, h1, h2, h3⟩
    | succ i =>
      simp only [List.getElem?_cons_succ] at h
      simpa using chkFs_get h4 h
  | [], _ :: _, hc, i, o, s, g, h => by simp [chkFs] at hc
  | _ :: _, [], hc, i, o, s, g, h => by simp at h
theorem chkK_struct {r : List (Nat × Nat × Bool)} (h : chkK P t (.struct r) = true) : ∃ fields, P.underlying t = some (.struct fields) ∧ chkFs P fields.toList r = true := by
  simp only [chkK] at h
  cases hu : P.underlying t with
  | none => simp [hu] at h
  | some d =>
    cases d <;> simp [hu] at h
    exact ⟨_, rfl, h⟩
theorem chkK_int {k : IntKind} (h : chkK P t (.int k) = true) : P.underlying t = some (.int k) := by
  simp only [chkK] at h
  cases hu : P.underlying t with
  | none => simp [hu] at h
  | some d => cases d <;> simp [hu] at h; rw [h]
theorem chkK_bool (h : chkK P t .bool = true) : P.underlying t = some .bool := by
  simp only [chkK] at h
  cases hu : P.underlying t with
  | none => simp [hu] at h
  | some d => cases d <;> simp [hu] at h; rfl
theorem chkK_string (h : chkK P t .string = true) : P.underlying t = some .string := by
  simp only [chkK] at h
  cases hu : P.underlying t with
  | none => simp [hu] at h
  | some d => cases d <;> simp [hu] at h; rfl
theorem chkK_pointer {e : TypeId} (h : chkK P t (.pointer e) = true) : P.underlying t = some (.pointer e) := by
  simp only [chkK] at h
  cases hu : P.underlying t with
  | none => simp [hu] at h
  | some d => cases d <;> simp [hu] at h; rw [h]
theorem chkK_map {k e : TypeId} (h : chkK P t (.map k e) = true) : P.underlying t = some (.map k e) := by
  simp only [chkK] at h
  cases hu : P.underlying t with
  | none => simp [hu] at h
  | some d => cases d <;> simp [hu] at h; rw [h.1, h.2]
theorem chkK_func (h : chkK P t .func = true) : ∃ a b c, P.underlying t = some (.func a b c) := by
  simp only [chkK] at h
  cases hu : P.underlying t with
  | none => simp [hu] at h
  | some d => cases d <;> simp [hu] at h; exact ⟨_, _, _, rfl⟩
theorem chkK_iface (h : chkK P t .iface = true) : ∃ ms, P.underlying t = some (.interface ms) := by
  simp only [chkK] at h
  cases hu : P.underlying t with
  | none => simp [hu] at h
  | some d => cases d <;> simp [hu] at h; exact ⟨_, rfl⟩
/-- A type whose values lie in one cell. -/
theorem chkTy_agg {y : Ty} (h : chkTy P t y = true) : ∃ d, P.underlying t = some d ∧ (match d with | .struct _ | .array _ _ => true | _ => false) = y.k.agg := by
  have hk := chkTy_kind h
  cases hy : y.k <;> rw [hy] at hk <;> simp only [chkK] at hk <;> (cases hu : P.underlying t with
    | none => simp [hu] at hk
    | some d => cases d <;> simp [hu] at hk <;> exact ⟨_, rfl, rfl⟩)
end

end Go.Tl
