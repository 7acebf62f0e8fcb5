/-
  The step of one operation on slots and objects, and that it is what the machine does. No statement of the seat is proved here.
-/
import Derived.Test.YtfbkhpfhnimnfaaTlEq
import Derived.Test.YtfbkhpfhnimnfaaTlCG
import Derived.Test.YtfbkhpfhnimnfaaTlMp
import Derived.Laws.Slices
namespace Go.Tl
set_option linter.unusedVariables false
set_option linter.unusedSimpArgs false

/-- What is told beside an operation: nothing; the bool that it yields; the tree that it yields; that what it makes is never written; the name of what it makes; the tree that a call yields. -/
inductive An where
  | no
  | b (c : Bool)
  | v (x : T)
  | fz
  | id (j : Nat)
  | call (r : T)
  | o (cs : List T)
  | fid (j : Nat)
  | callW (ts : List T) (r : T)
  | callG (rn : List (Nat × Nat)) (fa : List V) (Oi : List (Nat × Obj)) (r : V) (Oo : List (Nat × Obj))
  | same (as : List Int)
  | mp (es : List (T × T))
def An.x? : An → Option T
  | .v x => some x
  | _ => none
structure Rs where
  obs : List Prop
  v : V
  eff : List (Nat × Option Obj)
  new : List Nat
abbrev Tab := List (Nat × Ty)

def optV (S : Nat → Option V) : Option Operand → Option (Option Int)
  | none => some none
  | some x => match ev S x with
    | some v => match intOf v with
      | some (_, n) => some (some n)
      | none => none
    | none => none
def sliceV (k : TyK) (x : V) (lo hi : Option Int) : Option (Prop × V) :=
  let l := lo.getD 0
  match k, x with
  | .string, .t (.str s) => let h := hi.getD s.size; some (0 ≤ l ∧ l ≤ h ∧ h ≤ s.size, .t (.str (s.extract l.toNat h.toNat)))
  | .slice _ sz _, .t (.list len sz' cs) => let h := hi.getD len; if sz' = sz then some (0 ≤ l ∧ l ≤ h ∧ h ≤ len, .t (.list (h.toNat - l.toNat) sz ((cs.drop (l.toNat * sz)).take ((h.toNat - l.toNat) * sz)))) else none
  | .slice _ sz _, .own i sz' len => let h := hi.getD len; if sz' = sz then some (0 ≤ l ∧ l ≤ h ∧ h ≤ len, .view i (l.toNat * sz) sz (h.toNat - l.toNat)) else none
  | .array n _ sz _, .t (.ptr cs) => let h := hi.getD n; some (0 ≤ l ∧ l ≤ h ∧ h ≤ n ∧ n * sz ≤ cs.length ∧ n ≤ maxLen, .t (.list (h.toNat - l.toNat) sz ((cs.drop (l.toNat * sz)).take ((h.toNat - l.toNat) * sz))))
  | .array n _ sz _, .ref i o => let h := hi.getD n; some (0 ≤ l ∧ l ≤ h ∧ h ≤ n ∧ n ≤ maxLen, .view i (o + l.toNat * sz) sz (h.toNat - l.toNat))
  | _, _ => none

/-- What a callee is handed against what its contract speaks of: trees as they stand, objects by name. pure: no object stands for a tree. -/
def argObs (O : Nat → Option Obj) (F : Nat → Nat) (K : List Nat) : List V → List V → Option (List Prop × Bool)
  | [], [] => some ([], true)
  | v :: vs, .t x :: fs => match snapV O v, argObs O F K vs fs with
    | some (ps, t), some (qs, b) => some (ps ++ (WkT t x :: qs), b && (match v with | .t _ => true | _ => false))
    | _, _ => none
  | v :: vs, f :: fs => match f.inN K, argObs O F K vs fs with
    | true, some (qs, b) => some ((f.ren F = v) :: qs, b)
    | _, _ => none
  | _, _ => none
def objObs (O : Nat → Option Obj) (F : Nat → Nat) (K : List Nat) : List (Nat × Obj) → Option (List Prop)
  | [] => some []
  | (i, o) :: r => match O (F i), objObs O F K r with
    | some o', some ps => if decide (i < 1000) && o.inN K then some ((o' = o.ren F) :: ps) else none
    | _, _ => none
def inNO (K : List Nat) : List (Nat × Obj) → Bool
  | [] => true
  | (_, o) :: r => o.inN K && inNO K r
def flatO : List (Nat × Obj) → Bool
  | [] => true
  | (_, o) :: r => o.flat && flatO r
def without (F : Nat → Nat) (K : List Nat) (O : Nat → Option Obj) : Nat → Option Obj := fun i => if (K.map F).contains i then none else O i
def callG (P : Program) (O : Nat → Option Obj) (g : FuncId) (vs : List V) (rn : List (Nat × Nat)) (fa : List V) (Oi : List (Nat × Obj)) (r : V) (Oo : List (Nat × Obj)) : Option Rs :=
  let F := renF rn
  let K := keysO Oi
  let A := keysO Oi ++ (keysO Oo).filter fun k => !K.contains k
  match argObs (without F K O) F K vs fa, objObs O F K Oi with
  | some (ps, pure), some qs =>
    if nodupN K && nodupN (keysO Oo) && nodupN (A.map F) && (A.all fun k => K.contains k || decide (F k < 2000) || decide (2000 ≤ k) || K.all fun j => decide (2000 ≤ F j)) && inNO (K ++ keysO Oo) Oo && r.inN (K ++ keysO Oo) then
      some ⟨CG P g fa Oi r Oo :: ((match pure with | true => [] | false => [r.flat = true, flatO Oo = true]) ++ (ps ++ qs)), r.ren F, effG F Oi Oo, newG F Oi Oo⟩
    else none
  | _, _ => none

def mk1 (p : Prop × V) : Rs := ⟨[p.1], p.2, [], []⟩
def mk0 (v : V) : Rs := ⟨[], v, [], []⟩

def stepOp (P : Program) (tab : Tab) (an : An) (S : Nat → Option V) (O : Nat → Option Obj) (o : Oper) : Option Rs :=
  match o.op with
  | .move x | .assign x => (ev S x).map mk0
  | .pick c x y => match ev S c with
    | some (.t (.bool true)) => (ev S x).map mk0
    | some (.t (.bool false)) => (ev S y).map mk0
    | _ => none
  | .alloc t => match look tab t, an with
    | some y, .id j => some ⟨[], .ref j 0, [(j, some (.cells t y.zero))], [j]⟩
    | some y, .fz => some ⟨[], .t (.ptr y.zero), [], []⟩
    | _, _ => none
  | .box t x => match ev S x, an with
    | some v, .id j => (mkObj t v).map fun ob => ⟨[], .ref j 0, [(j, some ob)], [j]⟩
    | some v, .fz => (cellsT v).map fun cs => ⟨[], .t (.ptr cs), [], []⟩
    | _, _ => none
  | .build t parts => match look tab t, evp S parts.toList with
    | some y, some ps => (buildV y ps).map mk1
    | _, _ => none
  | .buildSlice t len parts => match look tab t, evp S parts.toList with
    | some y, some ps => match y.k with
      | .slice e sz _ => match look tab e with
        | some ye => if sz = 0 ∨ 16777216 < len * sz then none else match fillT (fun i => some (i * sz, sz)) (zerosT ye len) ps, an with
          | some (p, out), .id j => some ⟨[p, out.length = len * sz], .own j sz len, [(j, some (.cells e out))], [j]⟩
          | some (p, out), .fz => some ⟨[p, out.length = len * sz], .t (.list len sz out), [], []⟩
          | _, _ => none
        | none => none
      | _ => none
    | _, _ => none
  | .load t x => match look tab t, ev S x with
    | some y, some (.ref i off) => match O i with
      | some ob => (getObj an.x? ob off y).map mk1
      | none => none
    | some y, some (.t (.ptr cs)) => (getPtr an.x? cs y).map mk1
    | _, _ => none
  | .store t x v => match look tab t, ev S x, ev S v with
    | some y, some (.ref i off), some v => match O i with
      | some ob => match setObj ob off v y.size, an with
        | some (p, .cells e cs), .o cs' => some ⟨[p, cs = cs'], .t .undef, [(i, some (.cells e cs'))], []⟩
        | some (p, ob'), _ => some ⟨[p], .t .undef, [(i, some ob')], []⟩
        | none, _ => none
      | none => none
    | _, _, _ => none
  | .binOp op t x y _ => match ev S x, ev S y with
    | some (.t (.agg xs)), some (.t (.agg ys)) => match an with
      | .same as => match eqT op true with
        | some r => some ⟨[xs = as.map (T.int .i64), ys = as.map (T.int .i64), EqSame P t as.length], .t r.2, [], []⟩
        | none => none
      | _ => match eqCells xs ys with
        | some b => match eqT op b with
          | some r => some ⟨[chkEq P t xs = true], .t r.2, [], []⟩
          | none => none
        | none => none
    | some v, some u => (binV op ((look tab t).map (·.k)) v u (isConst x || isConst y)).map fun r => mk1 (r.1, .t r.2)
    | _, _ => none
  | .unOp op _ x => match ev S x with
    | some v => (unT op v).map mk0
    | none => none
  | .convert s d x => match look tab s, look tab d, ev S x with
    | some ys, some yd, some v => (convV ys.k yd.k v).map mk0
    | _, _, _ => none
  | .makeFunc (.func f) first captured => match first.toList, evs S captured.toList with
    | [], some vs => some (mk0 (mkFn f vs))
    | x :: xs, some vs => match evs S (x :: xs) with
      | some us => match pures us, pures vs with
        | some pre, some ts => some (mk0 (.t (.fn f pre ts)))
        | _, _ => none
      | none => none
    | _, _ => none
  | .nilCheck x => match ev S x with
    | some (.ref i o) => some (mk0 (.ref i o))
    | some (.t (.ptr cs)) => some (mk0 (.t (.ptr cs)))
    | some (.t (.fn f pre cs)) => some (mk0 (.t (.fn f pre cs)))
    | some (.fn f vs) => some (mk0 (.fn f vs))
    | _ => none
  | .makeSlice t l c => match look tab t, ev S l, ev S c, an with
    | some y, some vl, some vc, .id j => match y.k, intOf vl, intOf vc with
      | .slice e sz bytes, some (_, nl), some (_, nc) => match look tab e with
        | some ye => some ⟨[0 ≤ nl ∧ nl ≤ nc ∧ (bytes : Int) * nc ≤ 281474976710656 ∧ nc ≤ maxLen], .own j sz nl.toNat, [(j, some (.cells e (zerosT ye nl.toNat)))], [j]⟩
        | none => none
      | _, _, _ => none
    | _, _, _, _ => none
  | .slice t x lo hi none => match look tab t, ev S x, optV S lo, optV S hi with
    | some y, some v, some l, some h => (sliceV y.k v l h).map mk1
    | _, _, _, _ => none
  | .fieldAddr t x f => match look tab t, ev S x with
    | some y, some v => match y.k with
      | .struct fs => (fieldV fs f v).map mk0
      | _ => none
    | _, _ => none
  | .field t x f => if fieldHas P t f then match look tab t, ev S x with
    | some y, some v => match y.k with
      | .struct fs => (pickFieldV fs f v).map mk0
      | _ => none
    | _, _ => none
    else none
  | .indexAddr t x ix => match look tab t, ev S x, ev S ix with
    | some y, some v, some i => match intOf i with
      | some (_, n) => (indexAddrV y.k v n).map mk1
      | none => none
    | _, _, _ => none
  | .index t x ix => match look tab t, ev S x, ev S ix with
    | some y, some v, some i => match intOf i with
      | some (_, n) => match indexV y.k v n with
        | some r => some (mk1 r)
        | none => match y.k, v with
          | .array len e 1 false, .t (.agg cs) => match look tab e with
            | some ye => match ye.k with
              | .int _ => some (mk1 (0 ≤ n ∧ n < len ∧ n.toNat < cs.length, .t (cs.getD n.toNat .undef)))
              | _ => none
            | none => none
          | _, _ => none
      | none => none
    | _, _, _ => none
  | .makeMap t none => match an with
    | .id j => some ⟨[], .mapr j, [(j, some (.map []))], [j]⟩
    | _ => none
  | .lookup t x kx c => match look tab t, ev S x, ev S kx with
    | some y, some (.mapr i), some (.t kt) => match y.k, O i with
      | .map k e, some (.map es) => match look tab e with
        | some ye => some ⟨[∃ G, KeyRun P k G ∧ G kt ∧ ∀ x ∈ es, G x.1], .t (lookR c (zeroT ye) (lookT es kt)), [], []⟩
        | none => none
      | _, _ => none
    | _, _, _ => none
  | .mapUpdate t m kx vx => match look tab t, ev S m, ev S kx, ev S vx, an with
    | some y, some (.mapr i), some (.t kt), some (.t vt), .mp es' => match y.k, O i with
      | .map k e, some (.map es) => some ⟨[∃ G, KeyRun P k G ∧ G kt ∧ ∀ x ∈ es, G x.1, putT es kt vt = es'], .t .undef, [(i, some (.map es'))], []⟩
      | _, _ => none
    | _, _, _, _, _ => none
  | .extract x i => match ev S x with
    | some v => (extractV v i).map mk0
    | none => none
  | .call c => match c.callee with
    | .builtin .len => match c.args.toList, c.argTypes.toList with
      | [x], t :: _ => match look tab t, ev S x with
        | some y, some v => (lenV y.k v).map mk0
        | _, _ => none
      | _, _ => none
    | .builtin .append => match c.args.toList, c.argTypes.toList with
      | [x, z], [t, t'] => if t = t' then match look tab t, ev S x, ev S z with
        | some y, some (.own i sz n), some v => match y.k with
          | .slice e sz' bytes => if sz = sz' ∧ sz ≠ 0 then match O i, srcV O v sz, look tab e, an with
            | some (.cells e' cs), some (p, m, ts), some ye, .id j => if e' = e ∧ (2000 ≤ j → 2000 ≤ i) then some ⟨[p, cs.length = n * sz, (n + m) * bytes ≤ 140737488355328 ∧ n + m ≤ maxLen], .own j sz (n + m), [(i, none), (j, some (.cells e (cs ++ ts)))], [j]⟩ else none
            | _, _, _, _ => none
            else none
          | _ => none
        | _, _, _ => none
        else none
      | _, _ => none
    | .builtin .max => match c.args.toList with
      | [x, y] => match ev S x, ev S y with
        | some (.t (.int k a)), some (.t (.int _ b)) => some (mk0 (.t (.int k (max a b))))
        | _, _ => none
      | _ => none
    | .builtin .min => match c.args.toList with
      | [x, y] => match ev S x, ev S y with
        | some (.t (.int k a)), some (.t (.int _ b)) => some (mk0 (.t (.int k (min a b))))
        | _, _ => none
      | _ => none
    | .builtin .copy => match c.args.toList, c.argTypes.toList with
      | [x, z], [t, _] => match look tab t, ev S x, ev S z with
        | some y, some d, some v => match y.k with
          | .slice e 1 bytes => match dstV d, srcV O v 1 with
            | some (i, off, n), some (p, m, ts) => match O i with
              | some (.cells e' cs) => match an with
                | .o cs' => some ⟨[p, 0 < n ∧ off + Nat.min m n ≤ cs.length, cs.take off ++ ts.take (Nat.min m n) ++ cs.drop (off + Nat.min m n) = cs'], .t (.int .i64 (Nat.min m n : Nat)), [(i, some (.cells e' cs'))], []⟩
                | _ => some ⟨[p, 0 < n ∧ off + Nat.min m n ≤ cs.length], .t (.int .i64 (Nat.min m n : Nat)), [(i, some (.cells e' (cs.take off ++ ts.take (Nat.min m n) ++ cs.drop (off + Nat.min m n))))], []⟩
              | _ => none
            | _, _ => none
          | _ => none
        | _, _, _ => none
      | _, _ => none
    | .value f => match ev S f, evs S c.args.toList, an with
      | some (.t (.fn g pre caps)), some vs, .call r => match pures vs with
        | some ts => some ⟨[C P g (pre ++ (ts ++ caps)) r], .t r, [], []⟩
        | none => if r.flat then match snapL O vs with
          | some (ps, ts) => some ⟨C P g (pre ++ (ts ++ caps)) r :: ps, .t r, [], []⟩
          | none => none
          else none
      | some (.t (.fn g pre caps)), some vs, .callW ts' r => match pures vs with
        | some ts => some ⟨[C P g (pre ++ (ts' ++ caps)) r, WkL ts ts'], .t r, [], []⟩
        | none => if r.flat then match snapL O vs with
          | some (ps, ts) => some ⟨C P g (pre ++ (ts' ++ caps)) r :: WkL ts ts' :: ps, .t r, [], []⟩
          | none => none
          else none
      | some (.t (.fn g pre caps)), some vs, .callG rn fa Oi r Oo => callG P O g (pre.map V.t ++ (vs ++ caps.map V.t)) rn fa Oi r Oo
      | some (.fn g caps), some vs, .callG rn fa Oi r Oo => callG P O g (vs ++ caps) rn fa Oi r Oo
      | _, _, _ => none
    | _ => none
  | _ => none
end Go.Tl
