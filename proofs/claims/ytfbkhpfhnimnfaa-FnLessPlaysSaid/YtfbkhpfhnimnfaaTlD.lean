/-
  Operations that neither read nor write memory, on trees; each is shown to be what the machine does. No statement of the seat is proved here.
-/
import Derived.Test.YtfbkhpfhnimnfaaTlB
import Derived.Test.YtfbkhpfhnimnfaaTlC
namespace Go.Tl
set_option linter.unusedVariables false
set_option linter.unusedSimpArgs false

def ofValue : Value → Option T
  | .int k n => some (.int k n)
  | .bool b => some (.bool b)
  | .string s => some (.str s)
  | .slice none 0 0 => some .nils
  | .pointer none => some .nilp
  | .nilFunc => some .nilf
  | .nilIface => some .nili
  | .map none => some .nilm
  | _ => none
theorem ofValue_reads {w : World} {ok : Nat → Prop} {v : Value} {t : T} (h : ofValue v = some t) : VR w ok t v := by
  unfold ofValue at h
  split at h <;> cases h <;> simp only [VR]
def ev (S : Nat → Option V) : Operand → Option V
  | .tmp t => S t
  | .const v => (ofValue v).map V.t
  | .func f => some (.t (.fn f [] []))
  | .global _ => none
def evs (S : Nat → Option V) : List Operand → Option (List V)
  | [] => some []
  | x :: xs => match ev S x, evs S xs with
    | some t, some ts => some (t :: ts)
    | _, _ => none
section
variable {E : Env} {β : Names} {N : List Nat} {S : Nat → Option V} {O : Nat → Option Obj} {a : Act} {w : World}
theorem R.ev (h : R E β N S O a w) {x : Operand} {t : V} (he : ev S x = some t) : VV w (Imm E O β w) β t (a.eval x) := by
  cases x with
  | tmp i => exact (h.slots i t he).2
  | const v =>
    simp only [Tl.ev, Option.map_eq_some_iff] at he
    obtain ⟨t', he, rfl⟩ := he
    simp only [VV]
    exact ofValue_reads he
  | func f =>
    simp only [Tl.ev, Option.some.injEq] at he
    subst he
    simp only [VV, VR, Act.eval]
    exact ⟨#[], #[], rfl, by simp only [VL], by simp only [VL]⟩
  | global g => simp [Tl.ev] at he
theorem R.evs (h : R E β N S O a w) : ∀ {xs : List Operand} {ts : List V}, evs S xs = some ts → VVL w (Imm E O β w) β ts (xs.map a.eval)
  | [], ts, he => by simp only [Tl.evs, Option.some.injEq] at he; subst he; simp only [VVL, List.map_nil]
  | x :: xs, ts, he => by
    simp only [Tl.evs] at he
    cases hx : Tl.ev S x with
    | none => simp [hx] at he
    | some t =>
      cases hr : Tl.evs S xs with
      | none => simp [hx, hr] at he
      | some ts' =>
        simp only [hx, hr, Option.some.injEq] at he
        subst he
        simp only [VVL, List.map_cons]
        exact ⟨_, _, rfl, h.ev hx, R.evs h hr⟩
end

/-! ### integers, bools, strings -/
def intT (op : BinOp) (k : IntKind) (a b : Int) : Option (Prop × T) :=
  match op with
  | .add => some (True, .int k (k.wrap (a + b)))
  | .sub => some (True, .int k (k.wrap (a - b)))
  | .mul => some (True, .int k (k.wrap (a * b)))
  | .quo => some (b ≠ 0, .int k (k.wrap (a.tdiv b)))
  | .rem => some (b ≠ 0, .int k (a.tmod b))
  | .and => some (True, .int k (bits .and k a b))
  | .or => some (True, .int k (bits .or k a b))
  | .xor => some (True, .int k (bits .xor k a b))
  | .andNot => some (True, .int k (bits .andNot k a b))
  | .eql => some (True, .bool (a == b))
  | .neq => some (True, .bool (a != b))
  | .lss => some (True, .bool (decide (a < b)))
  | .leq => some (True, .bool (decide (a ≤ b)))
  | .gtr => some (True, .bool (decide (a > b)))
  | .geq => some (True, .bool (decide (a ≥ b)))
  | .shl | .shr => none
def strT (op : BinOp) (s t : ByteArray) : Option (Prop × T) :=
  match op with
  | .add => some (s.size + t.size ≤ 9223372036854775807, .str (s ++ t))
  | .eql => some (True, .bool (s.toList == t.toList))
  | .neq => some (True, .bool (!(s.toList == t.toList)))
  | .lss => some (True, .bool (Op.bytesLess s.toList t.toList))
  | .leq => some (True, .bool (Op.bytesLess s.toList t.toList || s.toList == t.toList))
  | .gtr => some (True, .bool (!(Op.bytesLess s.toList t.toList || s.toList == t.toList)))
  | .geq => some (True, .bool (!(Op.bytesLess s.toList t.toList)))
  | _ => none
def eqT (op : BinOp) (b : Bool) : Option (Prop × T) :=
  match op with
  | .eql => some (True, .bool b)
  | .neq => some (True, .bool (!b))
  | _ => none
def isConst : Operand → Bool
  | .const _ => true
  | _ => false
theorem run_intT {P : Program} {op : BinOp} {t : TypeId} {k : IntKind} {a b : Int} {p : Prop} {r : T} (h : intT op k a b = some (p, r)) (hp : p) (w : World) (ok : Nat → Prop) :
    ∃ v, (binOp op t (.int k a) (.int k b)).run P w = .ok v w ∧ VR w ok r v := by
  cases op <;> simp only [intT, Option.some.injEq, Prod.mk.injEq, reduceCtorEq] at h
  all_goals obtain ⟨rfl, rfl⟩ := h
  all_goals refine ⟨_, ?_, by simp only [VR]; rfl⟩
  all_goals first
    | (simp [go_sem, binOp, Op.intArith]; done)
    | (simp [go_sem, binOp, Op.intDiv, hp]; done)
    | (simp [go_sem, binOp, Op.intCmp]; done)
    | (simp [go_sem, binOp]; done)
theorem run_strT {P : Program} {op : BinOp} {t : TypeId} {a b : ByteArray} {p : Prop} {r : T} (h : strT op a b = some (p, r)) (hp : p) (w : World) (ok : Nat → Prop) :
    ∃ v, (binOp op t (.string a) (.string b)).run P w = .ok v w ∧ VR w ok r v := by
  cases op <;> simp only [strT, Option.some.injEq, Prod.mk.injEq, reduceCtorEq] at h
  all_goals obtain ⟨rfl, rfl⟩ := h
  all_goals refine ⟨_, ?_, by simp only [VR]; rfl⟩
  case add =>
    have : ¬ ((a.size : Int) + (b.size : Int) > IntKind.i64.max) := by
      have : IntKind.i64.max = 9223372036854775807 := by decide
      rw [this]; omega
    simp only [binOp, Op.stringOp]
    rw [if_neg (by push_cast; exact this)]
    rfl
  all_goals simp [binOp, Op.stringOp]

/-- What two values that are no integers and no strings answer to == and !=. k: the type. c: is one of them written as nil? -/
def eqV (k : TyK) (x y : V) (c : Bool) : Option Bool :=
  match k, x, y with
  | .bool, .t (.bool a), .t (.bool b) => some (a == b)
  | .pointer _, .t .nilp, .t .nilp => some true
  | .pointer _, .t .nilp, .t (.ptr _) => some false
  | .pointer _, .t (.ptr _), .t .nilp => some false
  | .pointer _, .t .nilp, .ref _ _ => some false
  | .pointer _, .ref _ _, .t .nilp => some false
  | .iface, .t .nili, .t .nili => if c then some true else none
  | .iface, .t .nili, .t (.iface _ _) => some false
  | .iface, .t (.iface _ _), .t .nili => some false
  | .func, .t .nilf, .t .nilf => some true
  | .func, .t .nilf, .t (.fn _ _ _) => some false
  | .func, .t (.fn _ _ _), .t .nilf => some false
  | .map _ _, .t .nilm, .t .nilm => some true
  | .map _ _, .t .nilm, .mapr _ => some false
  | .map _ _, .mapr _, .t .nilm => some false
  | .slice .., .t .nils, .t .nils => some true
  | .slice .., .t .zlist, .t .nils => some true
  | .slice .., .t (.rows _ _ _), .t .nils => some false
  | _, _, _ => none
def binV (op : BinOp) (k : Option TyK) (x y : V) (c : Bool) : Option (Prop × T) :=
  match x, y with
  | .t (.int k a), .t (.int k' b) =>
    match op with
    | .shl => some (0 ≤ b, .int k (k.wrap (a * 2 ^ (min b.toNat k.bits))))
    | .shr => some (0 ≤ b, .int k (a.fdiv (2 ^ (min b.toNat k.bits))))
    | op => if k = k' then intT op k a b else none
  | .t (.str s), .t (.str t) => strT op s t
  | x, y => match k with
    | some k => match eqV k x y c with
      | some b => eqT op b
      | none => none
    | none => none

theorem run_eqV' {P : Program} {t : TypeId} {y : Ty} (ht : chkTy P t y = true) {x x' : V} {c b : Bool} (h : eqV y.k x x' c = some b) {w : World} {ok : Nat → Prop} {β : Names} {v v' : Value}
    (hv : VV w ok β x v) (hv' : VV w ok β x' v') (d : Nat) : (Op.equalIn (d + 1) t v v').run P w = .ok b w := by
  have hk := chkTy_kind ht
  unfold eqV at h
  split at h <;> (try cases h) <;> (rename_i hy; rw [hy] at hk)
  · simp only [VV, VR] at hv hv'; subst hv; subst hv'
    simp [Op.equalIn, run_underlying (chkK_bool hk)]
  · simp only [VV, VR] at hv hv'; subst hv; subst hv'
    simp [Op.equalIn, run_underlying (chkK_pointer hk)]
  · simp only [VV, VR] at hv hv'; subst hv; obtain ⟨_, _, rfl, _⟩ := hv'
    simp [Op.equalIn, run_underlying (chkK_pointer hk)]
  · simp only [VV, VR] at hv hv'; subst hv'; obtain ⟨_, _, rfl, _⟩ := hv
    simp [Op.equalIn, run_underlying (chkK_pointer hk)]
  · simp only [VV, VR] at hv hv'; subst hv; obtain ⟨_, _, _, rfl⟩ := hv'
    simp [Op.equalIn, run_underlying (chkK_pointer hk)]
  · simp only [VV, VR] at hv hv'; subst hv'; obtain ⟨_, _, _, rfl⟩ := hv
    simp [Op.equalIn, run_underlying (chkK_pointer hk)]
  · obtain ⟨ms, hu⟩ := chkK_iface hk
    simp only [VV, VR] at hv hv'; subst hv; subst hv'
    simp only [Option.ite_none_right_eq_some, Option.some.injEq] at h
    obtain ⟨_, rfl⟩ := h
    simp [Op.equalIn, run_underlying hu]
  · obtain ⟨ms, hu⟩ := chkK_iface hk
    simp only [VV, VR] at hv hv'; subst hv; obtain ⟨_, rfl, _⟩ := hv'
    simp [Op.equalIn, run_underlying hu]
  · obtain ⟨ms, hu⟩ := chkK_iface hk
    simp only [VV, VR] at hv hv'; subst hv'; obtain ⟨_, rfl, _⟩ := hv
    simp [Op.equalIn, run_underlying hu]
  · simp only [VV, VR] at hv hv'; subst hv; subst hv'
    obtain ⟨_, _, _, hu⟩ := chkK_func hk
    simp [Op.equalIn, run_underlying hu]
  · simp only [VV, VR] at hv hv'; subst hv; obtain ⟨_, _, rfl, _⟩ := hv'
    obtain ⟨_, _, _, hu⟩ := chkK_func hk
    simp [Op.equalIn, run_underlying hu]
  · simp only [VV, VR] at hv hv'; subst hv'; obtain ⟨_, _, rfl, _⟩ := hv
    obtain ⟨_, _, _, hu⟩ := chkK_func hk
    simp [Op.equalIn, run_underlying hu]
  · simp only [VV, VR] at hv hv'; subst hv; subst hv'
    simp [Op.equalIn, run_underlying (chkK_map hk)]
  · simp only [VV, VR] at hv hv'; subst hv; obtain ⟨_, _, _, rfl⟩ := hv'
    simp [Op.equalIn, run_underlying (chkK_map hk)]
  · simp only [VV, VR] at hv hv'; subst hv'; obtain ⟨_, _, _, rfl⟩ := hv
    simp [Op.equalIn, run_underlying (chkK_map hk)]
  · simp only [VV, VR] at hv hv'; subst hv; subst hv'
    simp [Op.equalIn, run_underlying (chkK_slice hk).1]
  · simp only [VV, VR] at hv hv'; subst hv'; obtain ⟨_, rfl⟩ := hv
    simp [Op.equalIn, run_underlying (chkK_slice hk).1]
  · simp only [VV, VR] at hv hv'; subst hv'; obtain ⟨_, _, _, rfl, _⟩ := hv
    simp [Op.equalIn, run_underlying (chkK_slice hk).1]
theorem run_eqV {P : Program} {t : TypeId} {y : Ty} (ht : chkTy P t y = true) {x x' : V} {c b : Bool} (h : eqV y.k x x' c = some b) {w : World} {ok : Nat → Prop} {β : Names} {v v' : Value}
    (hv : VV w ok β x v) (hv' : VV w ok β x' v') : (Op.equal t v v').run P w = .ok b w := run_eqV' ht h hv hv' 9999
end Go.Tl
