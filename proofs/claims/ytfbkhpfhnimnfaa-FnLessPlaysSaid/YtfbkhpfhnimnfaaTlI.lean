/-
  What an operation does to the relation: making variables and rows, storing, appending, copying. No statement of the seat is proved here.
-/
import Derived.Test.YtfbkhpfhnimnfaaTlH
import Derived.Laws.MakeOwn
import Derived.Maps.AppendAt
namespace Go.Tl
set_option linter.unusedVariables false
set_option linter.unusedSimpArgs false

structure Res where
  ob : Prop
  v : V
  eff : List (Nat × Option Obj)
  new : List Nat
def effs : List (Nat × Option Obj) → (Nat → Option Obj) → Nat → Option Obj
  | [], O => O
  | (i, x) :: r, O => effs r (upd O i x)

section
variable {P : Program} {E : Env} {β : Names} {N : List Nat} {S : Nat → Option V} {O : Nat → Option Obj} {a : Act} {w : World}

/-- The operation runs to a value that reads as told, and what follows is told. -/
def Does (P : Program) (E : Env) (N : List Nat) (S : Nat → Option V) (O : Nat → Option Obj) (a : Act) (s : Sem Value) (w : World) (r : Res) : Prop :=
  ∃ v w' β', s.run P w = .ok v w' ∧ R E β' (r.new ++ N) S (effs r.eff O) a w' ∧ VV w' (Imm E (effs r.eff O) β' w') β' r.v v

theorem Does.pure (h : R E β N S O a w) {s : Sem Value} {p : Prop} {x : V} (hr : ∃ u, s.run P w = .ok u w ∧ VV w (Imm E O β w) β x u) : Does P E N S O a s w ⟨p, x, [], []⟩ := by
  obtain ⟨u, h1, h2⟩ := hr
  exact ⟨u, w, β, h1, h, h2⟩

/-- A new variable that may be written. -/
theorem does_newObj (h : R E β N S O a w) {s : Sem Value} {e : TypeId} {cells : Array Value} {j : Nat} {ob : Obj} (hj : j ∉ N)
    (hrun : s.run P w = .ok (.pointer (some ⟨w.heap.size, 0, none⟩)) (w.alloc (.cells cells e)))
    (hor : OR (w.alloc (.cells cells e)) (Imm E O β w) β w.heap.size cells.size ob) {p : Prop} : Does P E N S O a s w ⟨p, .ref j 0, [(j, some ob)], [j]⟩ := by
  obtain ⟨h1, h2⟩ := h.allocObj j cells.size hj _ ob hor
  exact ⟨_, _, _, hrun, h1, by simp only [VV]; exact ⟨_, _, upd_same _ _ _, rfl⟩⟩
/-- A new row that may be written. -/
theorem does_newRow (h : R E β N S O a w) {s : Sem Value} {e : TypeId} {cells : Array Value} {j n cap sz : Nat} {ob : Obj} (hj : j ∉ N)
    (hrun : s.run P w = .ok (.slice (some ⟨w.heap.size, 0, none⟩) n cap) (w.alloc (.cells cells e))) (hz : cells.size = cap * sz) (hn : n ≤ cap) (hc : cap ≤ maxLen)
    (hor : OR (w.alloc (.cells cells e)) (Imm E O β w) β w.heap.size cells.size ob) {p : Prop} : Does P E N S O a s w ⟨p, .own j sz n, [(j, some ob)], [j]⟩ := by
  obtain ⟨h1, h2⟩ := h.allocObj j cells.size hj _ ob hor
  exact ⟨_, _, _, hrun, h1, by simp only [VV]; exact .inl ⟨_, _, cap, upd_same _ _ _, rfl, hz, hn, hc⟩⟩
/-- A new variable that nobody writes. -/
theorem does_newPtr (h : R E β N S O a w) {s : Sem Value} {e : TypeId} {cells : Array Value} {cs : List T}
    (hrun : s.run P w = .ok (.pointer (some ⟨w.heap.size, 0, none⟩)) (w.alloc (.cells cells e)))
    (hl : VL w (Imm E O β w) cs cells.toList) (h1 : ∀ u ∈ cells.toList, u.oneCell' = true) {p : Prop} : Does P E N S O a s w ⟨p, .t (.ptr cs), [], []⟩ := by
  obtain ⟨k1, k2, k3⟩ := h.allocImm (.cells cells e)
  refine ⟨_, _, _, hrun, k1, ?_⟩
  simp only [VV, VR]
  refine ⟨_, 0, rfl, k3, VA.of_cells (VL.lasts k2 _ _ hl) h1 fun i u hi => ?_⟩
  have : cells[i]? = some u := by simpa using hi
  unfold World.cell?
  rw [heap_push_new]
  simp [this]
/-- A new row that nobody writes. -/
theorem does_newList (h : R E β N S O a w) {s : Sem Value} {e : TypeId} {cells : Array Value} {cs : List T} {n cap sz : Nat}
    (hrun : s.run P w = .ok (.slice (some ⟨w.heap.size, 0, none⟩) n cap) (w.alloc (.cells cells e))) (hn : n ≤ cap) (hc : cap ≤ maxLen)
    {us rest : List Value} (hus : cells.toList = us ++ rest) (hlen : cs.length = n * sz)
    (hl : VL w (Imm E O β w) cs us) (h1 : ∀ u ∈ us, u.oneCell' = true) {p : Prop} : Does P E N S O a s w ⟨p, .t (.list n sz cs), [], []⟩ := by
  obtain ⟨k1, k2, k3⟩ := h.allocImm (.cells cells e)
  refine ⟨_, _, _, hrun, k1, ?_⟩
  simp only [VV, VR]
  refine ⟨hlen, _, cap, rfl, hn, hc, .inr ⟨_, 0, rfl, k3, VA.of_cells (VL.lasts k2 _ _ hl) h1 fun i u hi => ?_⟩⟩
  have : cells[i]? = some u := by
    rw [← Array.getElem?_toList, hus, List.getElem?_append_left (List.getElem?_eq_some_iff.1 hi).1]; exact hi
  unfold World.cell?
  rw [heap_push_new]
  simp [this]

/-! ### variables -/
theorem does_alloc (h : R E β N S O a w) {t : TypeId} {y : Ty} (hy : chkTy P t y = true) {j : Nat} (hj : j ∉ N) {p : Prop} :
    Does P E N S O a (Instr.alloc t true (.tuple #[])) w ⟨p, .ref j 0, [(j, some (.cells t y.zero))], [j]⟩ := by
  obtain ⟨i, z, hi, his, _, hz, hzs, hzz, _⟩ := chkTy_info hy
  refine does_newObj (cells := z.cells) (e := t) h hj ?_ ?_
  · simp [Instr.alloc, zeroValue, typeInfo, hi, hz, newVar, newRow]
  · simp only [OR]
    exact ⟨_, z.cells.toList, [], heap_push_new _ _, rfl, by simp, chkVs_ones hzs, chkVs_reads hzs⟩
theorem does_allocF (h : R E β N S O a w) {t : TypeId} {y : Ty} (hy : chkTy P t y = true) {p : Prop} :
    Does P E N S O a (Instr.alloc t true (.tuple #[])) w ⟨p, .t (.ptr y.zero), [], []⟩ := by
  obtain ⟨i, z, hi, his, _, hz, hzs, hzz, _⟩ := chkTy_info hy
  refine does_newPtr (cells := z.cells) (e := t) h ?_ (chkVs_reads hzs) (chkVs_ones hzs)
  simp [Instr.alloc, zeroValue, typeInfo, hi, hz, newVar, newRow]

def mkObj (e : TypeId) (x : V) : Option Obj :=
  match x with
  | .t (.agg cs) => some (.cells e cs)
  | .t x => if x.one then some (.cells e [x]) else none
  | .agg vs => some (.vars e vs)
  | .tup _ => none
  | x => some (.vars e [x])
theorem mkObj_spec {e : TypeId} {x : V} {ob : Obj} (h : mkObj e x = some ob) : ob.isMap = false ∧ ob.e = e ∧ cellsV x = some ob.vs := by
  unfold mkObj at h
  split at h
  · cases h; exact ⟨rfl, rfl, rfl⟩
  · rename_i t _
    simp only [Option.ite_none_right_eq_some, Option.some.injEq] at h
    obtain ⟨h1, rfl⟩ := h
    refine ⟨rfl, rfl, ?_⟩
    cases t <;> first | rfl | cases h1
  · cases h; exact ⟨rfl, rfl, rfl⟩
  · cases h
  · cases h
    refine ⟨rfl, rfl, ?_⟩
    rename_i h1 h2 h3 h4
    cases x <;> first | rfl | exact (h2 _ rfl).elim | exact (h3 _ rfl).elim | exact (h4 _ rfl).elim | exact (h1 _ rfl).elim
theorem run_box (e : TypeId) (v : Value) (w : World) : (Instr.box e v).run P w = .ok (.pointer (some ⟨w.heap.size, 0, none⟩)) (w.alloc (.cells v.cells e)) := by
  simp [Instr.box, newVar, newRow]
theorem does_box (h : R E β N S O a w) {e : TypeId} {x : V} {v : Value} (hv : VV w (Imm E O β w) β x v) {ob : Obj} (hm : mkObj e x = some ob) {j : Nat} (hj : j ∉ N) {p : Prop} :
    Does P E N S O a (Instr.box e v) w ⟨p, .ref j 0, [(j, some ob)], [j]⟩ := by
  obtain ⟨k1, k2, k3⟩ := mkObj_spec hm
  obtain ⟨g1, g2⟩ := VV.cells k3 hv
  have hl := (h.allocImm (.cells v.cells e)).2.1
  refine does_newObj (e := e) h hj (run_box e v w) ?_
  have hl' : Lasts w (Imm E O β w) (w.alloc (.cells v.cells e)) (Imm E O β w) := ⟨fun _ h => h, hl.same⟩
  exact (OR_iff k1).2 ⟨_, v.cells.toList, [], by rw [k2]; exact heap_push_new _ _, rfl, by simp, g2, VVL.lasts hl' (fun _ _ h => h) _ _ g1⟩
theorem does_boxF (h : R E β N S O a w) {e : TypeId} {x : V} {v : Value} (hv : VV w (Imm E O β w) β x v) {cs : List T} (hm : cellsT x = some cs) {p : Prop} :
    Does P E N S O a (Instr.box e v) w ⟨p, .t (.ptr cs), [], []⟩ := by
  obtain ⟨g1, g2⟩ := VV.cells (cellsT_V hm) hv
  exact does_newPtr h (run_box e v w) (VVL.of_map_t g1) g2

/-! ### stores -/
theorem does_store (h : R E β N S O a w) {t : TypeId} {y : Ty} (hy : chkTy P t y = true) {i o : Nat} {ob ob' : Obj} (hi : O i = some ob) {x : V} {v va : Value} {p : Prop} (hs : setObj ob o x y.size = some (p, ob')) (hp : p)
    (hv : VV w (Imm E O β w) β x v) (ha : VV w (Imm E O β w) β (.ref i o) va) :
    ∃ w', (Instr.storeAt t va v).run P w = .ok () w' ∧ R E β N S (upd O i (some ob')) a w' := by
  obtain ⟨k1, k2, k3, cs, k4, k5, k6, k7⟩ := setObj_spec hs hp
  obtain ⟨g1, g2⟩ := VV.cells k4 hv
  obtain ⟨it, z, hit, his, _⟩ := chkTy_info hy
  simp only [VV] at ha
  obtain ⟨b, z', hb, rfl⟩ := ha
  obtain ⟨b2, z2, hb2, hlt, hx, hor⟩ := h.objS hi hb
  rw [hb] at hb2; cases hb2
  obtain ⟨arr, us, rest, q1, q2, q3, q4, q5⟩ := (OR_iff k1).1 hor
  have hvs : v.cells.size = y.size := by rw [← k5, ← VVL.length g1]; simp
  have hus : us.length = ob.vs.length := VVL.length q5
  have harr : arr.toList.length = us.length + rest.length := by rw [q3]; simp
  have hst := run_storeCells_at P b o ob.e v.cells.toList 0 arr w q1 (by simp [hvs]; simp at harr; omega) g2
  simp only [Nat.add_zero] at hst
  refine ⟨w.setRow b (arr.toList.take o ++ v.cells.toList ++ arr.toList.drop (o + v.cells.toList.length)).toArray, ?_, ?_⟩
  · simpa [Instr.storeAt, Instr.sureAddr, storeVar, sizeOf, typeInfo, hit, hvs, his] using hst
  have hlen : v.cells.toList.length = y.size := by simpa using hvs
  refine (h.write i b z' ob ob' hi hb (setRow_os ..) (setRow_tape ..) (setRow_output ..) (setRow_size ..) (fun c hc => setRow_other _ _ _ _ hc) ?_).1
  have hl : Lasts w (Imm E O β w) (w.setRow b (arr.toList.take o ++ v.cells.toList ++ arr.toList.drop (o + v.cells.toList.length)).toArray) (Imm E O β w) :=
    ⟨fun _ h => h, fun c hc => setRow_other _ _ _ _ (fun e => hc.2.2 i ob _ hi hb (by simp [e]))⟩
  refine (OR_iff k2).2 ⟨_, us.take o ++ v.cells.toList ++ us.drop (o + y.size), rest, by rw [k3]; exact setRow_heap _ _ _ _ _ _ q1, ?_, ?_, ?_, ?_⟩
  · simp only [List.size_toArray, List.length_append, List.length_take, List.length_drop, hlen]
    simp at harr ⊢
    omega
  · simp only [q3, hlen]
    rw [List.take_append_of_le_length (by omega), List.drop_append_of_le_length (by omega)]
    simp
  · intro u hu
    simp only [List.mem_append] at hu
    rcases hu with (hu | hu) | hu
    · exact q4 u (List.mem_of_mem_take hu)
    · exact g2 u hu
    · exact q4 u (List.mem_of_mem_drop hu)
  · rw [k7]
    exact VVL.append (VVL.append (VVL.take _ (VVL.lasts hl (fun _ _ h => h) _ _ q5)) (VVL.lasts hl (fun _ _ h => h) _ _ g1)) (VVL.drop _ (VVL.lasts hl (fun _ _ h => h) _ _ q5))

/-! ### rows -/
theorem zeros_list (z : Array Value) (zs : List T) {w : World} {ok : Nat → Prop} (hl : VL w ok zs z.toList) (h1 : ∀ u ∈ z.toList, u.oneCell' = true) :
    ∀ c, VL w ok (List.replicate c zs).flatten (madeCells z (c * z.size)).toList ∧ ∀ u ∈ (madeCells z (c * z.size)).toList, u.oneCell' = true := by
  intro c
  have key : (madeCells z (c * z.size)).toList = (List.replicate c z.toList).flatten := by
    apply List.ext_getElem?
    intro i
    by_cases hz : z.size = 0
    · have : z.toList = [] := by simpa using hz
      simp [madeCells, hz, this]
    · have hz' : 0 < z.size := Nat.pos_of_ne_zero hz
      induction c generalizing i with
      | zero => simp [madeCells]
      | succ c ih =>
        rw [List.replicate_succ, List.flatten_cons]
        by_cases hi : i < z.toList.length
        · rw [List.getElem?_append_left hi]
          have hi' : i < z.size := by simpa using hi
          have hlt : i < (c + 1) * z.size := by rw [Nat.succ_mul]; omega
          simp [madeCells, hlt, Nat.mod_eq_of_lt hi', hi']
        · rw [List.getElem?_append_right (by omega), ← ih]
          have hi' : z.size ≤ i := by simpa using hi
          by_cases hlt : i < (c + 1) * z.size
          · have hlt' : i - z.size < c * z.size := by rw [Nat.succ_mul] at hlt; omega
            have hm : i % z.size = (i - z.size) % z.size := by rw [Nat.mod_eq_sub_mod hi']
            simp [madeCells, hlt, hlt', hm]
          · have hlt' : ¬ (i - z.size < c * z.size) := by rw [Nat.succ_mul] at hlt; omega
            simp [madeCells, hlt, hlt']
  rw [key]
  clear key
  induction c with
  | zero => simp [VL]
  | succ c ih =>
    rw [List.replicate_succ, List.replicate_succ, List.flatten_cons, List.flatten_cons]
    refine ⟨VL.append hl ih.1, fun u hu => ?_⟩
    rcases List.mem_append.1 hu with hu | hu
    · exact h1 u hu
    · exact ih.2 u hu
end
end Go.Tl
