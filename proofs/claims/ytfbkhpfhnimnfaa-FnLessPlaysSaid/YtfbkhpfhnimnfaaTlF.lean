/-
  Operations that leave the memory as it is, on slots; each is shown to be what the machine does. No statement of the seat is proved here.
-/
import Derived.Test.YtfbkhpfhnimnfaaTlE
import Derived.Deep.MidRow
namespace Go.Tl
set_option linter.unusedVariables false
set_option linter.unusedSimpArgs false

def intOf : V → Option (IntKind × Int)
  | .t (.int k n) => some (k, n)
  | _ => none
theorem intOf_reads {w : World} {ok : Nat → Prop} {β : Names} {x : V} {k : IntKind} {n : Int} {v : Value} (h : intOf x = some (k, n)) (hv : VV w ok β x v) : v = .int k n := by
  unfold intOf at h
  split at h
  · cases h; simpa only [VV, VR] using hv
  · cases h

def fieldV (fs : List (Nat × Nat × Bool)) (f : Nat) (x : V) : Option V :=
  match fs[f]? with
  | some (off, sz, _) => if sz = 0 then none else match x with
    | .ref i o => some (.ref i (o + off))
    | .t (.ptr cs) => some (.t (.ptr (cs.drop off)))
    | _ => none
  | none => none
theorem run_fieldV {P : Program} {s : TypeId} {y : Ty} (hy : chkTy P s y = true) {fs : List (Nat × Nat × Bool)} (hk : y.k = .struct fs) {f : Nat} {x r : V} (h : fieldV fs f x = some r)
    {w : World} {ok : Nat → Prop} {β : Names} {v : Value} (hv : VV w ok β x v) : ∃ u, (Instr.fieldAt s v f).run P w = .ok u w ∧ VV w ok β r u := by
  have hc := chkTy_kind hy
  rw [hk] at hc
  obtain ⟨fields, hu, hf⟩ := chkK_struct hc
  unfold fieldV at h
  split at h
  · rename_i off sz g hfs
    obtain ⟨fd, h1, h2, h3, h4⟩ := chkFs_get hf hfs
    split at h
    · cases h
    · rename_i hsz
      have hfield : fields[f]? = some fd := by simpa using h1
      obtain ⟨ifo, hi, his⟩ : ∃ i, P.info? fd.type = some i ∧ i.size = sz := by
        unfold sizeP at h3
        cases hi : P.info? fd.type with
        | none => simp [hi] at h3
        | some i => exact ⟨i, rfl, by simpa [hi] using h3⟩
      have place : ∀ a : Addr, (fieldPlace a fd).run P w = .ok (a.add fd.offset) w := fun a => by
        have : ¬ ifo.size = 0 := by rw [his]; exact hsz
        simp [fieldPlace, sizeOf, typeInfo, hi, this]
      split at h
      · cases h
        simp only [VV] at hv ⊢
        obtain ⟨b, z, hb, rfl⟩ := hv
        exact ⟨_, by simp [Instr.fieldAt, run_underlying hu, hfield, Instr.sureAddr, place]; rfl, b, z, hb, by rw [Addr.add_mid, h2]⟩
      · cases h
        simp only [VV, VR] at hv ⊢
        obtain ⟨b, o, rfl, hb, hc⟩ := hv
        exact ⟨_, by simp [Instr.fieldAt, run_underlying hu, hfield, Instr.sureAddr, place]; rfl, b, o + off, by rw [Addr.add_mid, h2], hb, VA.drop off hc⟩
      · cases h
  · cases h

def indexAddrV (k : TyK) (x : V) (n : Int) : Option (Prop × V) :=
  match k, x with
  | .slice _ sz _, .t (.list len sz' cs) => if sz' = sz then some (0 ≤ n ∧ n < len, .t (.ptr (cs.drop (n.toNat * sz)))) else none
  | .slice _ sz _, .own i sz' len => if sz' = sz then some (0 ≤ n ∧ n < len, .ref i (n.toNat * sz)) else none
  | .slice _ sz _, .view i o sz' len => if sz' = sz then some (0 ≤ n ∧ n < len, .ref i (o + n.toNat * sz)) else none
  | .array len _ sz _, .ref i o => some (0 ≤ n ∧ n < len, .ref i (o + n.toNat * sz))
  | .array len _ sz _, .t (.ptr cs) => some (0 ≤ n ∧ n < len, .t (.ptr (cs.drop (n.toNat * sz))))
  | _, _ => none
theorem run_indexAddrV {P : Program} {s : TypeId} {y : Ty} (hy : chkTy P s y = true) {kx : IntKind} {n : Int} {x r : V} {p : Prop} (h : indexAddrV y.k x n = some (p, r)) (hp : p)
    {w : World} {ok : Nat → Prop} {β : Names} {v : Value} (hv : VV w ok β x v) : ∃ u, (Instr.indexAt s v (.int kx n)).run P w = .ok u w ∧ VV w ok β r u := by
  have hc := chkTy_kind hy
  unfold indexAddrV at h
  split at h
  · rename_i e sz bb len sz' cs hk
    rw [hk] at hc
    obtain ⟨hu, i, hi, his, _⟩ := chkK_slice hc
    simp only [Option.ite_none_right_eq_some, Option.some.injEq, Prod.mk.injEq] at h
    obtain ⟨rfl, rfl, rfl⟩ := h
    simp only [VV, VR] at hv ⊢
    obtain ⟨hl, A, cap, rfl, _, _, h0 | ⟨b, o, rfl, hb, hc⟩⟩ := hv
    · omega
    · exact ⟨_, by simp [Instr.indexAt, asIntOf, run_underlying hu, hp, sizeOf, typeInfo, hi]; rfl, b, o + n.toNat * sz', by rw [Addr.add_mid, his], hb, VA.drop _ hc⟩
  · rename_i e sz bb i sz' len hk
    rw [hk] at hc
    obtain ⟨hu, ii, hi, his, _⟩ := chkK_slice hc
    simp only [Option.ite_none_right_eq_some, Option.some.injEq, Prod.mk.injEq] at h
    obtain ⟨rfl, rfl, rfl⟩ := h
    simp only [VV] at hv ⊢
    rcases hv with ⟨b, z, cap, hb, rfl, _⟩ | ⟨h0, _⟩
    · exact ⟨_, by simp [Instr.indexAt, asIntOf, run_underlying hu, hp, sizeOf, typeInfo, hi]; rfl, b, z, hb, by rw [Addr.add_mid, his, Nat.zero_add]⟩
    · omega
  · rename_i e sz bb i o sz' len hk
    rw [hk] at hc
    obtain ⟨hu, ii, hi, his, _⟩ := chkK_slice hc
    simp only [Option.ite_none_right_eq_some, Option.some.injEq, Prod.mk.injEq] at h
    obtain ⟨rfl, rfl, rfl⟩ := h
    simp only [VV] at hv ⊢
    rcases hv with ⟨b, z, cap, hb, o', rfl, _, _, h0 | rfl⟩ | ⟨h0, _⟩
    rotate_right
    · omega
    · omega
    · exact ⟨_, by simp [Instr.indexAt, asIntOf, run_underlying hu, hp, sizeOf, typeInfo, hi]; rfl, b, z, hb, by rw [Addr.add_mid, his]⟩
  · rename_i len e sz g i o hk
    rw [hk] at hc
    obtain ⟨hu, h3, _⟩ := chkK_array hc
    obtain ⟨ifo, hi, his⟩ : ∃ i, P.info? e = some i ∧ i.size = sz := by
      unfold sizeP at h3
      cases hi : P.info? e with
      | none => simp [hi] at h3
      | some i => exact ⟨i, rfl, by simpa [hi] using h3⟩
    simp only [Option.some.injEq, Prod.mk.injEq] at h
    obtain ⟨rfl, rfl⟩ := h
    simp only [VV] at hv ⊢
    obtain ⟨b, z, hb, rfl⟩ := hv
    exact ⟨_, by simp [Instr.indexAt, asIntOf, run_underlying hu, hp, sizeOf, typeInfo, hi, Instr.sureAddr]; rfl, b, z, hb, by rw [Addr.add_mid, his]⟩
  · rename_i len e sz g cs hk
    rw [hk] at hc
    obtain ⟨hu, h3, _⟩ := chkK_array hc
    obtain ⟨ifo, hi, his⟩ : ∃ i, P.info? e = some i ∧ i.size = sz := by
      unfold sizeP at h3
      cases hi : P.info? e with
      | none => simp [hi] at h3
      | some i => exact ⟨i, rfl, by simpa [hi] using h3⟩
    simp only [Option.some.injEq, Prod.mk.injEq] at h
    obtain ⟨rfl, rfl⟩ := h
    simp only [VV, VR] at hv ⊢
    obtain ⟨b, o, rfl, hb, hc⟩ := hv
    exact ⟨_, by simp [Instr.indexAt, asIntOf, run_underlying hu, hp, sizeOf, typeInfo, hi, Instr.sureAddr]; rfl, b, o + n.toNat * sz, by rw [Addr.add_mid, his], hb, VA.drop _ hc⟩
  · cases h

/-- The byte at a place of a string. -/
def byteAt (s : ByteArray) (i : Nat) : Int := (((s.data.toList[i]?).getD 0).toNat : Int)
def indexV (k : TyK) (x : V) (n : Int) : Option (Prop × V) :=
  match k, x with
  | .string, .t (.str s) => some (0 ≤ n ∧ n < s.size, .t (.int .u8 (byteAt s n.toNat)))
  | .array len _ sz true, .t (.agg cs) => some (0 ≤ n ∧ n < len, .t (.agg ((cs.drop (n.toNat * sz)).take sz)))
  | _, _ => none
theorem run_indexV {P : Program} {s : TypeId} {y : Ty} (hy : chkTy P s y = true) {kx : IntKind} {n : Int} {x r : V} {p : Prop} (h : indexV y.k x n = some (p, r)) (hp : p)
    {w : World} {ok : Nat → Prop} {β : Names} {v : Value} (hv : VV w ok β x v) : ∃ u, (Instr.index s v (.int kx n)).run P w = .ok u w ∧ VV w ok β r u := by
  have hc := chkTy_kind hy
  unfold indexV at h
  split at h
  · rename_i st hk
    rw [hk] at hc
    have hu := chkK_string hc
    simp only [Option.some.injEq, Prod.mk.injEq] at h
    obtain ⟨rfl, rfl⟩ := h
    simp only [VV, VR] at hv ⊢
    subst hv
    have hlt : n.toNat < st.size := by omega
    have hget : st[n.toNat]? = some st[n.toNat] := by simp [hlt]
    refine ⟨.int .u8 (st[n.toNat]).toNat, by simp [Instr.index, asIntOf, run_underlying hu, hp.1, hget], ?_⟩
    have : st.data.toList[n.toNat]? = some st[n.toNat] := by
      have h' : n.toNat < st.data.size := hlt
      rw [Array.getElem?_toList, Array.getElem?_eq_getElem h']; rfl
    simp only [byteAt, this, Option.getD_some]
  · rename_i len e sz cs hk
    rw [hk] at hc
    obtain ⟨hu, h3, hg⟩ := chkK_array hc
    obtain ⟨ifo, hi, his⟩ : ∃ i, P.info? e = some i ∧ i.size = sz := by
      unfold sizeP at h3
      cases hi : P.info? e with
      | none => simp [hi] at h3
      | some i => exact ⟨i, rfl, by simpa [hi] using h3⟩
    simp only [Option.some.injEq, Prod.mk.injEq] at h
    obtain ⟨rfl, rfl⟩ := h
    simp only [VV, VR] at hv ⊢
    obtain ⟨vs, rfl, h1, h2⟩ := hv
    have hag : (isAgg e).run P w = .ok true w := by
      unfold aggP at hg
      cases hue : P.underlying e with
      | none => simp [hue] at hg
      | some d => cases d <;> simp [hue] at hg <;> simp [isAgg, run_underlying hue]
    refine ⟨.agg (vs.extract (n.toNat * sz) (n.toNat * sz + sz)), ?_, _, rfl, ?_, ?_⟩
    · simp [Instr.index, asIntOf, run_underlying hu, hp.1, hp.2, part, hag, sizeOf, typeInfo, hi, his]
    · intro u hu'
      rw [Array.toList_extract, List.extract_eq_take_drop] at hu'
      exact h1 u (List.mem_of_mem_drop (List.mem_of_mem_take hu'))
    · rw [Array.toList_extract, List.extract_eq_take_drop, Nat.add_sub_cancel_left]
      exact VL.take _ (VL.drop _ h2)
  · cases h

def lenV (k : TyK) (x : V) : Option V :=
  match k, x with
  | .string, .t (.str s) => some (.t (.int .i64 s.size))
  | .slice .., .t (.list n _ _) => some (.t (.int .i64 n))
  | .slice .., .t .nils => some (.t (.int .i64 0))
  | .slice .., .t (.rows n _ _) => some (.t (.int .i64 n))
  | .slice .., .own _ _ n => some (.t (.int .i64 n))
  | .slice .., .view _ _ _ n => some (.t (.int .i64 n))
  | .map _ _, .t .nilm => some (.t (.int .i64 0))
  | .array n _ _ _, _ => some (.t (.int .i64 n))
  | _, _ => none
theorem run_lenV {P : Program} {s : TypeId} {y : Ty} (hy : chkTy P s y = true) {x r : V} (h : lenV y.k x = some r)
    {w : World} {ok : Nat → Prop} {β : Names} {v : Value} (hv : VV w ok β x v) (ty : TypeId) (rest : List TypeId) : ∃ u, (Builtin.len_ (s :: rest).toArray ty #[v]).run P w = .ok u w ∧ VV w ok β r u := by
  have hc := chkTy_kind hy
  unfold lenV at h
  split at h <;> (try cases h) <;> (rename_i hk; rw [hk] at hc)
  · have hu := chkK_string hc
    simp only [VV, VR] at hv ⊢
    subst hv
    exact ⟨_, by simp [Builtin.len_, run_underlying hu]; rfl, rfl⟩
  · obtain ⟨hu, _⟩ := chkK_slice hc
    simp only [VV, VR] at hv ⊢
    obtain ⟨_, A, cap, rfl, _⟩ := hv
    exact ⟨_, by simp [Builtin.len_, run_underlying hu]; rfl, rfl⟩
  · obtain ⟨hu, _⟩ := chkK_slice hc
    simp only [VV, VR] at hv ⊢
    subst hv
    exact ⟨_, by simp [Builtin.len_, run_underlying hu]; rfl, rfl⟩
  · obtain ⟨hu, _⟩ := chkK_slice hc
    simp only [VV, VR] at hv ⊢
    obtain ⟨_, A, cap, rfl, _⟩ := hv
    exact ⟨_, by simp [Builtin.len_, run_underlying hu]; rfl, rfl⟩
  · obtain ⟨hu, _⟩ := chkK_slice hc
    simp only [VV, VR] at hv ⊢
    rcases hv with ⟨b, z, cap, _, rfl, _⟩ | ⟨rfl, rfl⟩
    · exact ⟨_, by simp [Builtin.len_, run_underlying hu]; rfl, rfl⟩
    · exact ⟨_, by simp [Builtin.len_, run_underlying hu]; rfl, rfl⟩
  · obtain ⟨hu, _⟩ := chkK_slice hc
    simp only [VV, VR] at hv ⊢
    rcases hv with ⟨b, z, cap, _, o', rfl, _⟩ | ⟨rfl, rfl⟩
    · exact ⟨_, by simp [Builtin.len_, run_underlying hu]; rfl, rfl⟩
    · exact ⟨_, by simp [Builtin.len_, run_underlying hu]; rfl, rfl⟩
  · have hu := chkK_map hc
    simp only [VV, VR] at hv ⊢
    subst hv
    exact ⟨_, by simp [Builtin.len_, run_underlying hu]; rfl, rfl⟩
  · obtain ⟨hu, _⟩ := chkK_array hc
    simp only [VV, VR]
    exact ⟨_, by cases v <;> simp [Builtin.len_, run_underlying hu] <;> rfl, rfl⟩

def unT (op : UnOp) (x : V) : Option V :=
  match op, x with
  | .neg, .t (.int k n) => some (.t (.int k (k.wrap (0 - n))))
  | .not, .t (.bool b) => some (.t (.bool (!b)))
  | _, _ => none
theorem run_unT {P : Program} {op : UnOp} {x r : V} (h : unT op x = some r) {w : World} {ok : Nat → Prop} {β : Names} {v : Value} (hv : VV w ok β x v) :
    ∃ u, (Op.unary op v).run P w = .ok u w ∧ VV w ok β r u := by
  unfold unT at h
  split at h <;> cases h <;> simp only [VV, VR] at hv ⊢ <;> subst hv
  · exact ⟨_, by simp [Op.unary, Op.intArith]; rfl, by simp⟩
  · exact ⟨_, by simp [Op.unary], rfl⟩

def convV (ks kd : TyK) (x : V) : Option V :=
  match ks, kd, x with
  | .int _, .int k, .t (.int _ n) => some (.t (.int k (k.wrap n)))
  | .string, .string, .t (.str s) => some (.t (.str s))
  | _, _, _ => none
theorem run_convV {P : Program} {s d : TypeId} {ys yd : Ty} (hs : chkTy P s ys = true) (hd : chkTy P d yd = true) {x r : V} (h : convV ys.k yd.k x = some r) {w : World} {ok : Nat → Prop} {β : Names} {v : Value} (hv : VV w ok β x v) :
    ∃ u, (convert s d v).run P w = .ok u w ∧ VV w ok β r u := by
  have hcs := chkTy_kind hs
  have hcd := chkTy_kind hd
  unfold convV at h
  split at h <;> (try cases h) <;> (rename_i hk1 hk2; rw [hk1] at hcs; rw [hk2] at hcd) <;> simp only [VV, VR] at hv ⊢ <;> subst hv
  · exact ⟨_, by simp [convert, run_underlying (chkK_int hcs), run_underlying (chkK_int hcd), Conv.intToInt], rfl⟩
  · exact ⟨_, by simp [convert, run_underlying (chkK_string hcs), run_underlying (chkK_string hcd)], rfl⟩

def extractV (x : V) (i : Nat) : Option V :=
  match x with
  | .t (.tup cs) => (cs[i]?).map V.t
  | .tup vs => vs[i]?
  | _ => none
theorem run_extractV {P : Program} {x r : V} {i : Nat} (h : extractV x i = some r) {w : World} {ok : Nat → Prop} {β : Names} {v : Value} (hv : VV w ok β x v) :
    ∃ u, (Instr.extract v i).run P w = .ok u w ∧ VV w ok β r u := by
  unfold extractV at h
  split at h
  · rename_i cs
    simp only [Option.map_eq_some_iff] at h
    obtain ⟨t, hi, rfl⟩ := h
    simp only [VV, VR] at hv ⊢
    obtain ⟨vs, rfl, hl⟩ := hv
    obtain ⟨u, hu, hr⟩ := VL.get hl i t hi
    have hu' : vs[i]? = some u := by simpa using hu
    exact ⟨u, by simp [Instr.extract, hu'], hr⟩
  · simp only [VV] at hv
    obtain ⟨vs, rfl, hl⟩ := hv
    obtain ⟨u, hu, hr⟩ := VVL.get hl i r h
    have hu' : vs[i]? = some u := by simpa using hu
    exact ⟨u, by simp [Instr.extract, hu'], hr⟩
  · cases h
/-- A field of a struct that is held as a value. -/
def pickFieldV (fs : List (Nat × Nat × Bool)) (f : Nat) (x : V) : Option V :=
  match fs[f]? with
  | some (off, sz, g) => match x with
    | .t (.agg cs) => if g then some (.t (.agg ((cs.drop off).take sz))) else (cs[off]?).map V.t
    | .agg vs => if g then none else vs[off]?
    | _ => none
  | none => none
def fieldHas (P : Program) (s : TypeId) (f : Nat) : Bool :=
  match P.underlying s with
  | some (.struct fds) => match fds[f]? with
    | some d => (P.underlying d.type).isSome
    | none => false
  | _ => false
theorem run_pickFieldV {P : Program} {s : TypeId} {y : Ty} (hy : chkTy P s y = true) {fs : List (Nat × Nat × Bool)} (hk : y.k = .struct fs) {f : Nat} (hh : fieldHas P s f = true) {x r : V} (h : pickFieldV fs f x = some r)
    {w : World} {ok : Nat → Prop} {β : Names} {v : Value} (hv : VV w ok β x v) : ∃ u, (Instr.field s v f).run P w = .ok u w ∧ VV w ok β r u := by
  have hc := chkTy_kind hy
  rw [hk] at hc
  obtain ⟨fields, hu, hf⟩ := chkK_struct hc
  unfold pickFieldV at h
  split at h
  · rename_i off sz g hfs
    obtain ⟨fd, h1, h2, h3, h4⟩ := chkFs_get hf hfs
    have hfield : fields[f]? = some fd := by simpa using h1
    obtain ⟨d, hd⟩ : ∃ d, P.underlying fd.type = some d := by
      unfold fieldHas at hh
      rw [hu] at hh
      simp only [hfield] at hh
      exact Option.isSome_iff_exists.1 hh
    obtain ⟨ifo, hi, his⟩ : ∃ i, P.info? fd.type = some i ∧ i.size = sz := by
      unfold sizeP at h3
      cases hi : P.info? fd.type with
      | none => simp [hi] at h3
      | some i => exact ⟨i, rfl, by simpa [hi] using h3⟩
    have hag : (isAgg fd.type).run P w = .ok g w := by
      rw [← h4]
      unfold aggP
      rw [hd]
      cases d <;> simp [isAgg, run_underlying hd]
    split at h
    · rename_i cs
      simp only [VV, VR] at hv
      obtain ⟨vs, rfl, h5, h6⟩ := hv
      cases g with
      | true =>
        simp only [if_true, Option.some.injEq] at h
        subst h
        refine ⟨.agg (vs.extract off (off + sz)), by simp [Instr.field, run_underlying hu, hfield, asAgg, part, hag, sizeOf, typeInfo, hi, his, h2], ?_⟩
        simp only [VV, VR]
        refine ⟨_, rfl, ?_, ?_⟩
        · intro u hu'
          rw [Array.toList_extract, List.extract_eq_take_drop] at hu'
          exact h5 u (List.mem_of_mem_drop (List.mem_of_mem_take hu'))
        · rw [Array.toList_extract, List.extract_eq_take_drop, Nat.add_sub_cancel_left]
          exact VL.take _ (VL.drop _ h6)
      | false =>
        simp only [Bool.false_eq_true, if_false, Option.map_eq_some_iff] at h
        obtain ⟨t, ht, rfl⟩ := h
        obtain ⟨u, hu1, hr⟩ := VL.get h6 off t ht
        have hu' : vs[off]? = some u := by simpa using hu1
        exact ⟨u, by simp [Instr.field, run_underlying hu, hfield, asAgg, part, hag, h2, hu'], by simpa only [VV] using hr⟩
    · rename_i ws
      simp only [VV] at hv
      obtain ⟨vs, rfl, h5, h6⟩ := hv
      cases g with
      | true => simp at h
      | false =>
        simp only [Bool.false_eq_true, if_false] at h
        obtain ⟨u, hu1, hr⟩ := VVL.get h6 off r h
        have hu' : vs[off]? = some u := by simpa using hu1
        exact ⟨u, by simp [Instr.field, run_underlying hu, hfield, asAgg, part, hag, h2, hu'], hr⟩
    · cases h
  · cases h
end Go.Tl
