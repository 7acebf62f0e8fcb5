/-
  Operations that make, read and write variables, on slots and on the store's objects; each is shown to be what the machine does. No statement of the seat is proved here.
-/
import Derived.Test.YtfbkhpfhnimnfaaTlF
import Derived.Laws.CopyRow
import Derived.Great.BuildSlice
namespace Go.Tl
set_option linter.unusedVariables false
set_option linter.unusedSimpArgs false

/-! ### objects as lists of slots -/
def Obj.isMap : Obj → Bool
  | .map _ => true
  | _ => false
def Obj.e : Obj → TypeId
  | .cells e _ | .vars e _ => e
  | .map _ => 0
def Obj.vs : Obj → List V
  | .cells _ cs => cs.map V.t
  | .vars _ vs => vs
  | .map _ => []
section
variable {w : World} {ok : Nat → Prop} {β : Names}
theorem VVL.of_map_t : ∀ {cs : List T} {us : List Value}, VVL w ok β (cs.map V.t) us → VL w ok cs us
  | [], us, h => by simp only [List.map_nil, VVL] at h; simp only [VL]; exact h
  | c :: cs, us, h => by
    simp only [List.map_cons, VVL] at h
    obtain ⟨u, us, rfl, hu, hr⟩ := h
    simp only [VL]
    exact ⟨u, us, rfl, by simpa only [VV] using hu, VVL.of_map_t hr⟩
theorem OR_iff {b z : Nat} {ob : Obj} (hm : ob.isMap = false) : OR w ok β b z ob ↔
    ∃ arr us rest, w.heap[b]? = some (.cells arr ob.e (0, 0)) ∧ arr.size = z ∧ arr.toList = us ++ rest ∧ (∀ u ∈ us, u.oneCell' = true) ∧ VVL w ok β ob.vs us := by
  cases ob with
  | cells e cs =>
    simp only [OR, Obj.e, Obj.vs]
    constructor
    · rintro ⟨arr, us, rest, h1, h2, h3, h4, h5⟩; exact ⟨arr, us, rest, h1, h2, h3, h4, VVL.map_t h5⟩
    · rintro ⟨arr, us, rest, h1, h2, h3, h4, h5⟩; exact ⟨arr, us, rest, h1, h2, h3, h4, VVL.of_map_t h5⟩
  | vars e vs => simp only [OR, Obj.e, Obj.vs]
  | map es => simp [Obj.isMap] at hm
end

/-- The cells of a slot's value. -/
def cellsV : V → Option (List V)
  | .t (.agg cs) => some (cs.map V.t)
  | .t x => if x.one then some [.t x] else none
  | .agg vs => some vs
  | .tup _ => none
  | v => some [v]
theorem VV.cells {w : World} {ok : Nat → Prop} {β : Names} {x : V} {cs : List V} {v : Value} (hx : cellsV x = some cs) (h : VV w ok β x v) :
    VVL w ok β cs v.cells.toList ∧ ∀ u ∈ v.cells.toList, u.oneCell' = true := by
  unfold cellsV at hx
  split at hx
  · cases hx
    simp only [VV] at h
    exact ⟨VVL.map_t (VR.cells h (.inr ⟨_, rfl⟩)), VR.ones h (.inr ⟨_, rfl⟩)⟩
  · rename_i t _
    simp only [VV] at h
    split at hx
    · rename_i h1
      cases hx
      have h2 := VR.cells h (.inl h1)
      have : t.cells = [t] := by cases t <;> first | rfl | cases h1
      rw [this] at h2
      exact ⟨VVL.map_t h2, VR.ones h (.inl h1)⟩
    · cases hx
  · cases hx
    simp only [VV] at h
    obtain ⟨xs, rfl, h1, h2⟩ := h
    exact ⟨h2, h1⟩
  · cases hx
  · cases hx
    rename_i h1 h2 h3 h4
    cases x with
    | tup vs => exact absurd rfl (h4 vs)
    | fn f vs =>
      simp only [VV] at h; obtain ⟨xs, rfl, hh⟩ := h
      refine ⟨by simp only [VVL]; exact ⟨_, [], rfl, by simp only [VV]; exact ⟨xs, rfl, hh⟩, rfl⟩, fun u hu => ?_⟩
      rw [show (Value.func (.func f) #[] xs).cells.toList = [Value.func (.func f) #[] xs] from rfl, List.mem_singleton] at hu
      rw [hu]; rfl
    | t t => exact absurd rfl (h2 t)
    | agg vs => exact absurd rfl (h3 vs)
    | ref i o =>
      simp only [VV] at h; obtain ⟨b, z, hb, rfl⟩ := h
      refine ⟨by simp only [VVL]; exact ⟨_, [], rfl, by simp only [VV]; exact ⟨b, z, hb, rfl⟩, rfl⟩, fun u hu => ?_⟩
      rw [show (Value.pointer (some ⟨b, o, none⟩)).cells.toList = [Value.pointer (some ⟨b, o, none⟩)] from rfl, List.mem_singleton] at hu
      rw [hu]; rfl
    | own i sz n =>
      simp only [VV] at h
      rcases h with ⟨b, z, cap, hb, rfl, hh⟩ | ⟨h0, rfl⟩
      · refine ⟨by simp only [VVL]; exact ⟨_, [], rfl, by simp only [VV]; exact .inl ⟨b, z, cap, hb, rfl, hh⟩, rfl⟩, fun u hu => ?_⟩
        rw [show (Value.slice (some ⟨b, 0, none⟩) n cap).cells.toList = [Value.slice (some ⟨b, 0, none⟩) n cap] from rfl, List.mem_singleton] at hu
        rw [hu]; rfl
      · refine ⟨by simp only [VVL]; exact ⟨_, [], rfl, by simp only [VV]; exact .inr ⟨h0, trivial⟩, rfl⟩, fun u hu => ?_⟩
        rw [show (Value.slice none 0 0).cells.toList = [Value.slice none 0 0] from rfl, List.mem_singleton] at hu
        rw [hu]; rfl
    | view i o sz n =>
      simp only [VV] at h
      rcases h with ⟨b, z, cap, hb, o', rfl, hh⟩ | ⟨h0, rfl⟩
      · refine ⟨by simp only [VVL]; exact ⟨_, [], rfl, by simp only [VV]; exact .inl ⟨b, z, cap, hb, o', rfl, hh⟩, rfl⟩, fun u hu => ?_⟩
        rw [show (Value.slice (some ⟨b, o', none⟩) n cap).cells.toList = [Value.slice (some ⟨b, o', none⟩) n cap] from rfl, List.mem_singleton] at hu
        rw [hu]; rfl
      · refine ⟨by simp only [VVL]; exact ⟨_, [], rfl, by simp only [VV]; exact .inr ⟨h0, trivial⟩, rfl⟩, fun u hu => ?_⟩
        rw [show (Value.slice none 0 0).cells.toList = [Value.slice none 0 0] from rfl, List.mem_singleton] at hu
        rw [hu]; rfl
    | mapr i =>
      simp only [VV] at h; obtain ⟨b, z, hb, rfl⟩ := h
      refine ⟨by simp only [VVL]; exact ⟨_, [], rfl, by simp only [VV]; exact ⟨b, z, hb, rfl⟩, rfl⟩, fun u hu => ?_⟩
      rw [show (Value.map (some b)).cells.toList = [Value.map (some b)] from rfl, List.mem_singleton] at hu
      rw [hu]; rfl

def mkAgg (vs : List V) : V :=
  match pures vs with
  | some ts => .t (.agg ts)
  | none => .agg vs
theorem mkAgg_reads {w : World} {ok : Nat → Prop} {β : Names} {vs : List V} {us : List Value} (h : VVL w ok β vs us) (h1 : ∀ u ∈ us, u.oneCell' = true) : VV w ok β (mkAgg vs) (.agg us.toArray) := by
  unfold mkAgg
  split
  · rename_i ts hp
    simp only [VV, VR]
    exact ⟨_, rfl, by simpa using h1, VVL.pures hp (by simpa using h)⟩
  · simp only [VV]
    exact ⟨_, rfl, by simpa using h1, by simpa using h⟩

/-! ### loads -/
section
variable {P : Program} {w : World}
theorem run_load_one {t : TypeId} {y : Ty} (hy : chkTy P t y = true) (hg : y.k.agg = false) {b o : Nat} {u : Value} (hc : w.cell? ⟨b, o, none⟩ = some u) :
    (Instr.loadAt t (.pointer (some ⟨b, o, none⟩))).run P w = .ok u w := by
  obtain ⟨d, hu, hd⟩ := chkTy_agg hy
  rw [hg] at hd
  cases d <;> simp at hd <;> simp [Instr.loadAt, Instr.sureAddr, loadVar, isAgg, run_underlying hu, hc]
theorem run_load_agg {t : TypeId} {y : Ty} (hy : chkTy P t y = true) (hg : y.k.agg = true) {b o : Nat} {us : List Value} (hl : us.length = y.size) (hc : ∀ j u, us[j]? = some u → w.cell? ⟨b, o + j, none⟩ = some u) :
    (Instr.loadAt t (.pointer (some ⟨b, o, none⟩))).run P w = .ok (.agg us.toArray) w := by
  obtain ⟨d, hu, hd⟩ := chkTy_agg hy
  rw [hg] at hd
  obtain ⟨i, z, hi, his, _⟩ := chkTy_info hy
  have := run_loadVar_mid (P := P) w b o t us d hc hu (by cases d <;> first | rfl | simp at hd) (by rw [hi]; simp [his, hl])
  simpa [Instr.loadAt, Instr.sureAddr] using this
end

def getObj (x? : Option T) (ob : Obj) (o : Nat) (y : Ty) : Option (Prop × V) :=
  match ob with
  | .cells _ cs => if y.k.agg then some (o + y.size ≤ cs.length, .t (.agg ((cs.drop o).take y.size))) else match x? with
    | some x => some (cs[o]? = some x, .t x)
    | none => (cs[o]?).map fun x => (True, .t x)
  | .vars _ vs => if y.k.agg then some (o + y.size ≤ vs.length, mkAgg ((vs.drop o).take y.size)) else (vs[o]?).map fun x => (True, x)
  | .map _ => none
theorem take_drop_get {α : Type} (l : List α) (o n j : Nat) (u : α) (h : ((l.drop o).take n)[j]? = some u) : l[o + j]? = some u := by
  rw [List.getElem?_take] at h
  split at h
  · simpa [List.getElem?_drop] using h
  · cases h
theorem run_getObj {P : Program} {w : World} {ok : Nat → Prop} {β : Names} {t : TypeId} {y : Ty} (hy : chkTy P t y = true) {x? : Option T} {ob : Obj} {o b z : Nat} {p : Prop} {r : V} (h : getObj x? ob o y = some (p, r)) (hp : p)
    (hor : OR w ok β b z ob) : ∃ u, (Instr.loadAt t (.pointer (some ⟨b, o, none⟩))).run P w = .ok u w ∧ VV w ok β r u := by
  have hm : ob.isMap = false := by cases ob <;> first | rfl | simp [getObj] at h
  obtain ⟨arr, us, rest, h1, h2, h3, h4, h5⟩ := (OR_iff hm).1 hor
  have hcell : ∀ j u, us[j]? = some u → w.cell? ⟨b, j, none⟩ = some u := fun j u hj => by
    have : arr[j]? = some u := by
      rw [← Array.getElem?_toList, h3, List.getElem?_append_left (List.getElem?_eq_some_iff.1 hj).1]; exact hj
    simp [World.cell?, h1, this]
  have one : ∀ x : V, ob.vs[o]? = some x → y.k.agg = false → ∃ u, (Instr.loadAt t (.pointer (some ⟨b, o, none⟩))).run P w = .ok u w ∧ VV w ok β x u := fun x hx hg => by
    obtain ⟨u, hu, hr⟩ := VVL.get h5 o x hx
    exact ⟨u, run_load_one hy hg (hcell o u hu), hr⟩
  have agg : ∀ vs, (ob.vs.drop o).take y.size = vs → o + y.size ≤ ob.vs.length → y.k.agg = true →
      ∃ us', (Instr.loadAt t (.pointer (some ⟨b, o, none⟩))).run P w = .ok (.agg us'.toArray) w ∧ VVL w ok β vs us' ∧ ∀ u ∈ us', u.oneCell' = true := fun vs hvs hl hg => by
    refine ⟨(us.drop o).take y.size, run_load_agg hy hg ?_ (fun j u hj => hcell _ _ (take_drop_get us o y.size j u hj)), hvs ▸ VVL.take _ (VVL.drop _ h5), fun u hu => h4 u (List.mem_of_mem_drop (List.mem_of_mem_take hu))⟩
    rw [← VVL.length h5] at hl
    simp; omega
  cases ob with
  | cells e cs =>
    simp only [getObj] at h
    split at h
    · rename_i hg
      simp only [Option.some.injEq, Prod.mk.injEq] at h
      obtain ⟨rfl, rfl⟩ := h
      obtain ⟨us', hrun, hr, h1'⟩ := agg _ rfl (by simpa [Obj.vs] using hp) hg
      refine ⟨_, hrun, ?_⟩
      simp only [Obj.vs, ← List.map_drop, ← List.map_take] at hr
      simp only [VV, VR]
      exact ⟨_, rfl, by simpa using h1', by simpa using VVL.of_map_t hr⟩
    · rename_i hg
      have hg' : y.k.agg = false := by simpa using hg
      split at h
      · simp only [Option.some.injEq, Prod.mk.injEq] at h
        obtain ⟨rfl, rfl⟩ := h
        exact one _ (by simp [Obj.vs, hp]) hg'
      · simp only [Option.map_eq_some_iff, Prod.mk.injEq] at h
        obtain ⟨x, hx, rfl, rfl⟩ := h
        exact one _ (by simp [Obj.vs, hx]) hg'
  | vars e vs =>
    simp only [getObj] at h
    split at h
    · rename_i hg
      simp only [Option.some.injEq, Prod.mk.injEq] at h
      obtain ⟨rfl, rfl⟩ := h
      obtain ⟨us', hrun, hr, h1'⟩ := agg _ rfl hp hg
      exact ⟨_, hrun, mkAgg_reads hr h1'⟩
    · rename_i hg
      simp only [Option.map_eq_some_iff, Prod.mk.injEq] at h
      obtain ⟨x, hx, rfl, rfl⟩ := h
      exact one _ hx (by simpa using hg)
  | map es => simp [getObj] at h

def getPtr (x? : Option T) (cs : List T) (y : Ty) : Option (Prop × V) :=
  if y.k.agg then some (y.size ≤ cs.length, .t (.agg (cs.take y.size))) else match x? with
    | some x => some (cs[0]? = some x, .t x)
    | none => (cs[0]?).map fun x => (True, .t x)
theorem run_getPtr {P : Program} {w : World} {ok : Nat → Prop} {β : Names} {t : TypeId} {y : Ty} (hy : chkTy P t y = true) {x? : Option T} {cs : List T} {o b : Nat} {p : Prop} {r : V} (h : getPtr x? cs y = some (p, r)) (hp : p)
    (hor : VA w ok cs b o) : ∃ u, (Instr.loadAt t (.pointer (some ⟨b, o, none⟩))).run P w = .ok u w ∧ VV w ok β r u := by
  have one : ∀ x : T, cs[0]? = some x → y.k.agg = false → ∃ u, (Instr.loadAt t (.pointer (some ⟨b, o, none⟩))).run P w = .ok u w ∧ VV w ok β (.t x) u := fun x hx hg => by
    obtain ⟨u, hu, _, hr⟩ := VA.get hor 0 x hx
    exact ⟨u, run_load_one hy hg hu, by simpa only [VV] using hr⟩
  unfold getPtr at h
  split at h
  · rename_i hg
    simp only [Option.some.injEq, Prod.mk.injEq] at h
    obtain ⟨rfl, rfl⟩ := h
    obtain ⟨us, h1, h2, h3⟩ := VA.cells (VA.take y.size hor)
    refine ⟨_, run_load_agg hy hg (us := us) ?_ h3, ?_⟩
    · rw [VL.length h1]; simp; omega
    · simp only [VV, VR]
      exact ⟨_, rfl, by simpa using h2, by simpa using h1⟩
  · rename_i hg
    have hg' : y.k.agg = false := by simpa using hg
    split at h
    · simp only [Option.some.injEq, Prod.mk.injEq] at h
      obtain ⟨rfl, rfl⟩ := h
      exact one _ hp hg'
    · simp only [Option.map_eq_some_iff, Prod.mk.injEq] at h
      obtain ⟨x, hx, rfl, rfl⟩ := h
      exact one _ hx hg'

/-! ### stores -/
def setObj (ob : Obj) (o : Nat) (x : V) (size : Nat) : Option (Prop × Obj) :=
  match ob, x with
  | .cells e cs, .t (.agg ts) => some (o + size ≤ cs.length ∧ ts.length = size, .cells e (cs.take o ++ ts ++ cs.drop (o + size)))
  | .cells e cs, .t x => if x.one && size == 1 then some (o < cs.length, .cells e (cs.set o x)) else none
  | .cells _ _, .tup _ => none
  | .vars _ _, .tup _ => none
  | .cells e cs, .agg vs => some (o + size ≤ cs.length ∧ vs.length = size, .vars e ((cs.map V.t).take o ++ vs ++ (cs.map V.t).drop (o + size)))
  | .cells e cs, x => if size == 1 then some (o < cs.length, .vars e ((cs.map V.t).set o x)) else none
  | .vars e vs, .t (.agg ts) => some (o + size ≤ vs.length ∧ ts.length = size, .vars e (vs.take o ++ ts.map V.t ++ vs.drop (o + size)))
  | .vars e vs, .agg xs => some (o + size ≤ vs.length ∧ xs.length = size, .vars e (vs.take o ++ xs ++ vs.drop (o + size)))
  | .vars e vs, .t x => if x.one && size == 1 then some (o < vs.length, .vars e (vs.set o (.t x))) else none
  | .vars e vs, x => if size == 1 then some (o < vs.length, .vars e (vs.set o x)) else none
  | .map _, _ => none
theorem set_eq {α : Type} (l : List α) (o : Nat) (x : α) (h : o < l.length) : l.set o x = l.take o ++ [x] ++ l.drop (o + 1) := by
  rw [List.set_eq_take_append_cons_drop, if_pos h]; simp
/-- What storing amounts to. -/
theorem setObj_spec {ob ob' : Obj} {o size : Nat} {x : V} {p : Prop} (h : setObj ob o x size = some (p, ob')) (hp : p) :
    ob.isMap = false ∧ ob'.isMap = false ∧ ob'.e = ob.e ∧ ∃ cs, cellsV x = some cs ∧ cs.length = size ∧ o + size ≤ ob.vs.length ∧ ob'.vs = ob.vs.take o ++ cs ++ ob.vs.drop (o + size) := by
  unfold setObj at h
  split at h
  · simp only [Option.some.injEq, Prod.mk.injEq] at h
    obtain ⟨rfl, rfl⟩ := h
    exact ⟨rfl, rfl, rfl, _, rfl, by simpa using hp.2, by simpa [Obj.vs] using hp.1, by simp [Obj.vs, List.map_take, List.map_drop]⟩
  · rename_i e cs t hna
    simp only [Option.ite_none_right_eq_some, Bool.and_eq_true, beq_iff_eq, Option.some.injEq, Prod.mk.injEq] at h
    obtain ⟨⟨h1, rfl⟩, rfl, rfl⟩ := h
    refine ⟨rfl, rfl, rfl, [.t t], ?_, rfl, by simp [Obj.vs]; omega, ?_⟩
    · cases t <;> first | rfl | cases h1
    · simp only [Obj.vs]; rw [set_eq _ _ _ hp]; simp [List.map_take, List.map_drop]
  · cases h
  · cases h
  · simp only [Option.some.injEq, Prod.mk.injEq] at h
    obtain ⟨rfl, rfl⟩ := h
    exact ⟨rfl, rfl, rfl, _, rfl, hp.2, by simpa [Obj.vs] using hp.1, by simp [Obj.vs]⟩
  · rename_i x' e cs hna hnt hntt hnb
    simp only [Option.ite_none_right_eq_some, beq_iff_eq, Option.some.injEq, Prod.mk.injEq] at h
    obtain ⟨rfl, rfl, rfl⟩ := h
    refine ⟨rfl, rfl, rfl, [x], ?_, rfl, by simp [Obj.vs]; omega, ?_⟩
    · cases x <;> first | rfl | exact (hna _ rfl).elim | exact (hnt _ rfl).elim | exact (hnb _ rfl).elim | exact (hntt _ rfl).elim
    · simp only [Obj.vs]; rw [set_eq _ _ _ (by simpa using hp)]
  · simp only [Option.some.injEq, Prod.mk.injEq] at h
    obtain ⟨rfl, rfl⟩ := h
    exact ⟨rfl, rfl, rfl, _, rfl, by simpa using hp.2, by simpa [Obj.vs] using hp.1, by simp [Obj.vs]⟩
  · simp only [Option.some.injEq, Prod.mk.injEq] at h
    obtain ⟨rfl, rfl⟩ := h
    exact ⟨rfl, rfl, rfl, _, rfl, hp.2, by simpa [Obj.vs] using hp.1, by simp [Obj.vs]⟩
  · rename_i e vs t hna
    simp only [Option.ite_none_right_eq_some, Bool.and_eq_true, beq_iff_eq, Option.some.injEq, Prod.mk.injEq] at h
    obtain ⟨⟨h1, rfl⟩, rfl, rfl⟩ := h
    refine ⟨rfl, rfl, rfl, [.t t], ?_, rfl, by simp [Obj.vs]; omega, ?_⟩
    · cases t <;> first | rfl | cases h1
    · simp only [Obj.vs]; rw [set_eq _ _ _ hp]
  · rename_i x' e vs hna hnt hntt hnb
    simp only [Option.ite_none_right_eq_some, beq_iff_eq, Option.some.injEq, Prod.mk.injEq] at h
    obtain ⟨rfl, rfl, rfl⟩ := h
    refine ⟨rfl, rfl, rfl, [x], ?_, rfl, by simp [Obj.vs]; omega, ?_⟩
    · cases x <;> first | rfl | exact (hna _ rfl).elim | exact (hnt _ rfl).elim | exact (hnb _ rfl).elim | exact (hntt _ rfl).elim
    · simp only [Obj.vs]; rw [set_eq _ _ _ (by simpa using hp)]
  · cases h
end Go.Tl
