/-
  Rows: making, building, appending, copying. No statement of the seat is proved here.
-/
import Derived.Test.YtfbkhpfhnimnfaaTlI
namespace Go.Tl
set_option linter.unusedVariables false
set_option linter.unusedSimpArgs false

section
variable {P : Program} {E : Env} {β : Names} {N : List Nat} {S : Nat → Option V} {O : Nat → Option Obj} {a : Act} {w : World}

def zerosT (y : Ty) (n : Nat) : List T :=
  match y.zero with
  | [z] => List.replicate n z
  | zs => (List.replicate n zs).flatten
theorem zerosT_eq (y : Ty) (n : Nat) : zerosT y n = (List.replicate n y.zero).flatten := by
  unfold zerosT
  split
  · rename_i z hz
    rw [hz]
    induction n with
    | zero => rfl
    | succ n ih => rw [List.replicate_succ, List.replicate_succ, List.flatten_cons, ih]; rfl
  · rfl
theorem does_make (h : R E β N S O a w) {t e : TypeId} {y ye : Ty} {sz bytes : Nat} (hy : chkTy P t y = true) (hk : y.k = .slice e sz bytes) (hye : chkTy P e ye = true)
    {kl kc : IntKind} {l c : Int} {j : Nat} (hj : j ∉ N) {p : Prop} (hp : 0 ≤ l ∧ l ≤ c ∧ (bytes : Int) * c ≤ 281474976710656 ∧ c ≤ maxLen) :
    Does P E N S O a (Instr.makeSlice t (.int kl l) (.int kc c)) w ⟨p, .own j sz l.toNat, [(j, some (.cells e (zerosT ye l.toNat)))], [j]⟩ := by
  have hc := chkTy_kind hy
  rw [hk] at hc
  obtain ⟨hu, i, hi, his, hib⟩ := chkK_slice hc
  obtain ⟨i', z, hi', his', _, hz, hzs, hzz, _⟩ := chkTy_info hye
  rw [hi] at hi'; cases hi'
  obtain ⟨h1, h2, h3, h4⟩ := hp
  have hm : maxLen ≤ 9223372036854775807 := by decide
  have hrun := run_make (P := P) w t e i z hu hi hz kl kc l c h1 h2 (by rw [hib]; exact h3) (by omega)
  have hzz' : z.cells.size = i.size := by omega
  have hms : (madeCells z.cells (c.toNat * i.size)).size = c.toNat * sz := by rw [size_madeCells, his]
  refine does_newRow h hj hrun hms (by omega) (by omega) ?_
  have hal := (h.allocImm (.cells (madeCells z.cells (c.toNat * i.size)) e)).2.1
  obtain ⟨g1, g2⟩ := zeros_list (w := w.alloc (.cells (madeCells z.cells (c.toNat * i.size)) e)) (ok := Imm E O β w) z.cells ye.zero (chkVs_reads hzs) (chkVs_ones hzs) c.toNat
  obtain ⟨m1, m2⟩ := zeros_list (w := w.alloc (.cells (madeCells z.cells (c.toNat * i.size)) e)) (ok := Imm E O β w) z.cells ye.zero (chkVs_reads hzs) (chkVs_ones hzs) l.toNat
  rw [zerosT_eq]
  simp only [OR]
  rw [hzz'] at g1 g2 m1 m2
  refine ⟨_, (madeCells z.cells (l.toNat * i.size)).toList, (madeCells z.cells (c.toNat * i.size)).toList.drop (l.toNat * i.size), heap_push_new _ _, rfl, ?_, m2, m1⟩
  have hle : l.toNat * i.size ≤ c.toNat * i.size := Nat.mul_le_mul_right _ (by omega)
  rw [← List.take_append_drop (l.toNat * i.size) (madeCells z.cells (c.toNat * i.size)).toList]
  congr 1
  · apply List.ext_getElem?
    intro k
    rw [List.getElem?_take]
    by_cases hk : k < l.toNat * i.size
    · rw [if_pos hk]
      simp [madeCells, hk, Nat.lt_of_lt_of_le hk hle]
    · rw [if_neg hk]
      simp [madeCells, hk]
  · simp

/-- A row with given cells. -/
theorem run_rowV (h : R E β N S O a w) {t e : TypeId} {y ye : Ty} {sz bytes : Nat} (hy : chkTy P t y = true) (hk : y.k = .slice e sz bytes) (hye : chkTy P e ye = true)
    {len : Nat} {parts : Array (Nat × Operand)} {ps : List (Nat × V)} (he : evp S parts.toList = some ps) {p : Prop} {out : List V}
    (hf : fillV (fun i => some (i * sz, sz)) ((zerosT ye len).map V.t) ps = some (p, out)) (hp : p) (hs : len * sz ≤ 16777216) :
    ∃ us, (Instr.buildSlice t len (parts.map fun (i, x) => (i, a.eval x))).run P w = .ok (.slice (some ⟨w.heap.size, 0, none⟩) len len) (w.alloc (.cells us e)) ∧
      VVL w (Imm E O β w) β out us.toList ∧ ∀ u ∈ us.toList, u.oneCell' = true := by
  have hc := chkTy_kind hy
  rw [hk] at hc
  obtain ⟨hu, i, hi, his, hib⟩ := chkK_slice hc
  obtain ⟨i', z, hi', his', _, hz, hzs, hzz, _⟩ := chkTy_info hye
  rw [hi] at hi'; cases hi'
  have hzz' : z.cells.size = i.size := by omega
  obtain ⟨g1, g2⟩ := zeros_list (w := w) (ok := Imm E O β w) z.cells ye.zero (chkVs_reads hzs) (chkVs_ones hzs) len
  rw [← zerosT_eq, hzz'] at g1
  rw [hzz'] at g2
  obtain ⟨us, q1, q2, q3⟩ := h.fill he hf hp (VVL.map_t g1) g2
  refine ⟨us, ?_, q2, q3⟩
  have hsmall : ¬ (2 ^ 24 < len * i.size) := by rw [his]; omega
  by_cases h0 : len * i.size = 0
  · have hr0 : ∀ f : Nat → Value, (Array.range (len * i.size)).map f = #[] := fun f => by rw [h0]; simp
    have q1' : Instr.fill (fun k => some (k * i.size, i.size)) #[] (parts.map fun (i, x) => (i, a.eval x)).toList = some us := by
      have : madeCells z.cells (len * i.size) = #[] := hr0 _
      rw [this, ← his] at q1
      simpa using q1
    have h0' : len = 0 ∨ i.size = 0 := Nat.mul_eq_zero.1 h0
    simp only [Instr.buildSlice, Sem.run_bind, run_underlying hu, Result.andThen_ok, sizeOf, typeInfo, run_program, hi, Sem.run_pure, hr0]
    simp only [h0, Nat.not_lt_zero, Nat.reducePow, gt_iff_lt, if_false, if_true, Sem.run_pure, Result.andThen_ok, Sem.run_ite, Sem.run_bind, q1', newRow, run_newObj]
    rfl
  · exact run_buildSlice (P := P) w t e len _ us i z hu hi hz (by omega) h0 (by rw [his]; rw [← his]; simpa [his, madeCells] using q1)
theorem does_rowO (h : R E β N S O a w) {t e : TypeId} {y ye : Ty} {sz bytes : Nat} (hy : chkTy P t y = true) (hk : y.k = .slice e sz bytes) (hye : chkTy P e ye = true)
    {len : Nat} {parts : Array (Nat × Operand)} {ps : List (Nat × V)} (he : evp S parts.toList = some ps) {p q : Prop} {out : List T}
    (hf : fillT (fun i => some (i * sz, sz)) (zerosT ye len) ps = some (p, out)) (hp : p) (hs : len * sz ≤ 16777216) (hsz : 0 < sz) (hl : out.length = len * sz) {j : Nat} (hj : j ∉ N) :
    Does P E N S O a (Instr.buildSlice t len (parts.map fun (i, x) => (i, a.eval x))) w ⟨q, .own j sz len, [(j, some (.cells e out))], [j]⟩ := by
  obtain ⟨p', g1, g2⟩ := fillT_V hf
  obtain ⟨us, k1, k2, k3⟩ := run_rowV h hy hk hye he g1 (g2 hp) hs
  have hl2 := VVL.of_map_t k2
  have hlu : us.size = len * sz := by rw [← hl, ← VL.length hl2]; simp
  have hm : len ≤ maxLen := by
    have : len ≤ len * sz := Nat.le_mul_of_pos_right _ hsz
    have : (16777216 : Nat) ≤ maxLen := by decide
    omega
  refine does_newRow h hj k1 hlu (Nat.le_refl _) hm ?_
  have hal := (h.allocImm (.cells us e)).2.1
  have hl' : Lasts w (Imm E O β w) (w.alloc (.cells us e)) (Imm E O β w) := ⟨fun _ h => h, hal.same⟩
  simp only [OR]
  exact ⟨_, us.toList, [], heap_push_new _ _, rfl, by simp, k3, VL.lasts hl' _ _ hl2⟩
theorem does_rowF (h : R E β N S O a w) {t e : TypeId} {y ye : Ty} {sz bytes : Nat} (hy : chkTy P t y = true) (hk : y.k = .slice e sz bytes) (hye : chkTy P e ye = true)
    {len : Nat} {parts : Array (Nat × Operand)} {ps : List (Nat × V)} (he : evp S parts.toList = some ps) {p q : Prop} {out : List T}
    (hf : fillT (fun i => some (i * sz, sz)) (zerosT ye len) ps = some (p, out)) (hp : p) (hs : len * sz ≤ 16777216) (hsz : 0 < sz) (hl : out.length = len * sz) :
    Does P E N S O a (Instr.buildSlice t len (parts.map fun (i, x) => (i, a.eval x))) w ⟨q, .t (.list len sz out), [], []⟩ := by
  obtain ⟨p', g1, g2⟩ := fillT_V hf
  obtain ⟨us, k1, k2, k3⟩ := run_rowV h hy hk hye he g1 (g2 hp) hs
  have hl2 := VVL.of_map_t k2
  have hm : len ≤ maxLen := by
    have : len ≤ len * sz := Nat.le_mul_of_pos_right _ hsz
    have : (16777216 : Nat) ≤ maxLen := by decide
    omega
  exact does_newList h k1 (Nat.le_refl _) hm (us := us.toList) (rest := []) (by simp) hl hl2 k3

/-! ### sources -/
def Src (w : World) (v : Value) (m : Nat) (news : List Value) : Prop :=
  ∃ A c, v = .slice A m c ∧ m ≤ c ∧ c ≤ maxLen ∧ ((m = 0 ∧ news = []) ∨ ∃ b o, A = some ⟨b, o, none⟩ ∧ ∀ j u, news[j]? = some u → w.cell? ⟨b, o + j, none⟩ = some u)
def srcV (O : Nat → Option Obj) (x : V) (sz : Nat) : Option (Prop × Nat × List T) :=
  match x with
  | .t (.list m sz' cs) => if sz' = sz then some (True, m, cs) else none
  | .t .nils => some (True, 0, [])
  | .t (.rows m sz' cs) => if sz' = sz then some (True, m, cs) else none
  | .own i sz' m => if sz' = sz then match O i with
    | some (.cells _ cs) => some (cs.length = m * sz, m, cs)
    | _ => none
    else none
  | .view i o sz' m => if sz' = sz then match O i with
    | some (.cells _ cs) => some (o + m * sz ≤ cs.length, m, (cs.drop o).take (m * sz))
    | _ => none
    else none
  | _ => none
theorem R.cell (h : R E β N S O a w) {i b z : Nat} {e : TypeId} {cs : List T} (hi : O i = some (.cells e cs)) (hb : β i = some (b, z)) :
    ∃ arr us rest, w.heap[b]? = some (.cells arr e (0, 0)) ∧ arr.size = z ∧ arr.toList = us ++ rest ∧ (∀ u ∈ us, u.oneCell' = true) ∧ VL w (Imm E O β w) cs us ∧ ∀ j u, us[j]? = some u → w.cell? ⟨b, j, none⟩ = some u := by
  obtain ⟨b2, z2, hb2, hlt, hx, hor⟩ := h.objS hi hb
  rw [hb] at hb2; cases hb2
  simp only [OR] at hor
  obtain ⟨arr, us, rest, h1, h2, h3, h4, h5⟩ := hor
  refine ⟨arr, us, rest, h1, h2, h3, h4, h5, fun j u hj => ?_⟩
  have : arr[j]? = some u := by
    rw [← Array.getElem?_toList, h3, List.getElem?_append_left (List.getElem?_eq_some_iff.1 hj).1]; exact hj
  simp [World.cell?, h1, this]
theorem R.src (h : R E β N S O a w) {x : V} {sz m : Nat} {cs : List T} {p : Prop} (hs : srcV O x sz = some (p, m, cs)) (hp : p) {v : Value} (hv : VV w (Imm E O β w) β x v) :
    ∃ news, Src w v m news ∧ VL w (Imm E O β w) cs news ∧ (∀ u ∈ news, u.oneCell' = true) ∧ cs.length = m * sz := by
  unfold srcV at hs
  split at hs
  · simp only [Option.ite_none_right_eq_some, Option.some.injEq, Prod.mk.injEq] at hs
    obtain ⟨rfl, rfl, rfl, rfl⟩ := hs
    simp only [VV, VR] at hv
    obtain ⟨hl, A, cap, rfl, h1, h2, h3⟩ := hv
    rcases h3 with h3 | ⟨b, o, rfl, hb, hc⟩
    · subst h3
      rename_i _ cs'
      have : cs' = [] := List.eq_nil_of_length_eq_zero (by simpa using hl)
      subst this
      exact ⟨[], ⟨A, cap, rfl, h1, h2, .inl ⟨rfl, rfl⟩⟩, by simp only [VL], by simp, hl⟩
    · obtain ⟨vs, g1, g2, g3⟩ := VA.cells hc
      exact ⟨vs, ⟨_, cap, rfl, h1, h2, .inr ⟨b, o, rfl, g3⟩⟩, g1, g2, hl⟩
  · simp only [Option.some.injEq, Prod.mk.injEq] at hs
    obtain ⟨rfl, rfl, rfl⟩ := hs
    simp only [VV, VR] at hv
    subst hv
    exact ⟨[], ⟨none, 0, rfl, Nat.le_refl _, Nat.zero_le _, .inl ⟨rfl, rfl⟩⟩, by simp only [VL], by simp, by simp⟩
  · simp only [Option.ite_none_right_eq_some, Option.some.injEq, Prod.mk.injEq] at hs
    obtain ⟨rfl, rfl, rfl, rfl⟩ := hs
    simp only [VV, VR] at hv
    obtain ⟨hl, A, cap, rfl, h1, h2, h3⟩ := hv
    rcases h3 with h3 | ⟨b, o, rfl, hb, hc⟩
    · subst h3
      rename_i _ cs'
      have : cs' = [] := List.eq_nil_of_length_eq_zero (by simpa using hl)
      subst this
      exact ⟨[], ⟨_, cap, rfl, h1, h2, .inl ⟨rfl, rfl⟩⟩, by simp only [VL], by simp, hl⟩
    · obtain ⟨vs, g1, g2, g3⟩ := VA.cells hc
      exact ⟨vs, ⟨_, cap, rfl, h1, h2, .inr ⟨b, o, rfl, g3⟩⟩, g1, g2, hl⟩
  · split at hs
    · rename_i hsz
      split at hs
      · rename_i e cs' ho
        simp only [Option.some.injEq, Prod.mk.injEq] at hs
        obtain ⟨rfl, rfl, rfl⟩ := hs
        simp only [VV] at hv
        rcases hv with ⟨b, z, cap, hb, rfl, hz, h1, h2⟩ | ⟨h0, rfl⟩
        · obtain ⟨arr, us, rest, q1, q2, q3, q4, q5, q6⟩ := h.cell ho hb
          exact ⟨us, ⟨_, cap, rfl, h1, h2, .inr ⟨b, 0, rfl, fun j u hj => by rw [Nat.zero_add]; exact q6 j u hj⟩⟩, q5, q4, hp⟩
        · subst h0
          have : cs' = [] := List.eq_nil_of_length_eq_zero (by simpa using hp)
          subst this
          exact ⟨[], ⟨none, 0, rfl, Nat.le_refl _, Nat.zero_le _, .inl ⟨rfl, rfl⟩⟩, by simp only [VL], by simp, by simp⟩
      · cases hs
    · cases hs
  · rename_i io oo sz' m'
    split at hs
    · rename_i hsz
      split at hs
      · rename_i e cs' ho
        simp only [Option.some.injEq, Prod.mk.injEq] at hs
        obtain ⟨rfl, rfl, rfl⟩ := hs
        simp only [VV] at hv
        rcases hv with ⟨b, z, cap, hb, o', rfl, h1, h2, h3⟩ | ⟨h0, rfl⟩
        rotate_right
        · subst h0
          exact ⟨[], ⟨none, 0, rfl, Nat.le_refl _, Nat.zero_le _, .inl ⟨rfl, rfl⟩⟩, by simp [VL], by simp, by simp⟩
        obtain ⟨arr, us, rest, q1, q2, q3, q4, q5, q6⟩ := h.cell ho hb
        rcases h3 with h3 | rfl
        · subst h3
          exact ⟨[], ⟨_, cap, rfl, h1, h2, .inl ⟨rfl, rfl⟩⟩, by simp [VL], by simp, by simp⟩
        · refine ⟨(us.drop o').take (m' * sz), ⟨_, cap, rfl, h1, h2, .inr ⟨b, o', rfl, fun j u hj => q6 _ _ (take_drop_get us o' _ j u hj)⟩⟩, VL.take _ (VL.drop _ q5), fun u hu => q4 u (List.mem_of_mem_drop (List.mem_of_mem_take hu)), ?_⟩
          simp; omega
      · cases hs
    · cases hs
  · cases hs

/-! ### append -/
theorem run_append_src {t ty e : TypeId} {i : TypeInfo} {z : Value} {size bytes : Nat} (ht : P.underlying t = some (.slice e)) (hi : P.info? e = some i) (hz : i.zero = some z)
    (hsize : i.size = size) (hby : i.bytes = bytes) (hzs : z.cells.size = size) (hsz : 0 < size)
    {v : Value} {n : Nat} {xs : List Value} (hown : w.ownsRow 0 e size v n xs) {vx : Value} {m : Nat} {news : List Value} (hsrc : Src w vx m news) (hl : news.length = m * size) (h1 : ∀ u ∈ news, u.oneCell' = true)
    (h63 : n + m ≤ maxLen) (hbytes : (n + m) * bytes ≤ 140737488355328) :
    ∃ v' w', (Builtin.append_ #[t, t] ty #[v, vx]).run P w = .ok v' w' ∧ w'.ownsRow 0 e size v' (n + m) (xs ++ news) ∧ w.grownBy w' v.ownBlock ∧
      (v' = .slice none 0 0 ↔ v = .slice none 0 0 ∧ m = 0) ∧ (v'.ownBlock = v.ownBlock ∨ v'.ownBlock = some w.heap.size) := by
  obtain ⟨A, c, rfl, _, _, hA⟩ := hsrc
  cases A with
  | some ad =>
    rcases hA with ⟨rfl, rfl⟩ | ⟨b, o, hbo, hc⟩
    · exact run_append_own_at w 0 t ty e i z size bytes ht hi hz hsize hby hzs hsz v n xs hown ad 0 c [] hl (fun j u h => by simp at h) (by simp) h63 hbytes (Nat.zero_le _)
    · cases hbo
      exact run_append_own_at w 0 t ty e i z size bytes ht hi hz hsize hby hzs hsz v n xs hown _ m c news hl (fun j u h => by rw [Addr.add_mid]; exact hc j u h) h1 h63 hbytes (Nat.zero_le _)
  | none =>
    rcases hA with ⟨rfl, rfl⟩ | ⟨b, o, hbo, hc⟩
    · have hown' := hown
      obtain ⟨hxl, ⟨rfl, rfl⟩ | ⟨g, cap, cur, rfl, _, hg, hnc, hcm, hcs, htake⟩⟩ := hown
      · refine ⟨.slice none 0 0, w, ?_, by simpa using hown', ⟨rfl, rfl, rfl, Nat.le_refl _, fun _ _ _ => rfl⟩, by simp, .inl rfl⟩
        simp [Builtin.append_, run_underlying ht, sizeOf, typeInfo, hi, Builtin.lenOf, Builtin.firstCells]
      · refine ⟨.slice (some ⟨g, 0, none⟩) n cap, w, ?_, by simpa using hown', ⟨rfl, rfl, rfl, Nat.le_refl _, fun _ _ _ => rfl⟩, by simp, .inl rfl⟩
        simp [Builtin.append_, run_underlying ht, sizeOf, typeInfo, hi, Builtin.lenOf, Builtin.firstCells, hnc, storeCells]
    · cases hbo
theorem does_append (h : R E β N S O a w) {t e ty : TypeId} {y ye : Ty} {sz bytes : Nat} (hy : chkTy P t y = true) (hk : y.k = .slice e sz bytes) (hye : chkTy P e ye = true) (hsz : 0 < sz)
    {i n : Nat} {cs ts : List T} (hO : O i = some (.cells e cs)) (hcs : cs.length = n * sz) {v vx : Value} (hv : VV w (Imm E O β w) β (.own i sz n) v)
    {m : Nat} {news : List Value} (hsrc : Src w vx m news) (hl : VL w (Imm E O β w) ts news) (h1 : ∀ u ∈ news, u.oneCell' = true) (hlen : ts.length = m * sz)
    (hb : (n + m) * bytes ≤ 140737488355328 ∧ n + m ≤ maxLen) {j : Nat} (hj : j ∉ N) (hnew : 2000 ≤ j → 2000 ≤ i) {p : Prop} :
    Does P E N S O a (Builtin.append_ #[t, t] ty #[v, vx]) w ⟨p, .own j sz (n + m), [(i, none), (j, some (.cells e (cs ++ ts)))], [j]⟩ := by
  have hc := chkTy_kind hy
  rw [hk] at hc
  obtain ⟨hu, ii, hi, his, hib⟩ := chkK_slice hc
  obtain ⟨i', z, hi', his', _, hz, hzs, hzz, _⟩ := chkTy_info hye
  rw [hi] at hi'; cases hi'
  simp only [VV] at hv
  have hβj := h.dom j hj
  -- what stands in the object's cells
  obtain ⟨us, hown, q4, q5, hnil⟩ : ∃ us, w.ownsRow 0 e sz v n us ∧ (∀ u ∈ us, u.oneCell' = true) ∧ VL w (Imm E O β w) cs us ∧ ((v.ownBlock = none ∧ n = 0) ∨ ∃ b zb, v.ownBlock = some b ∧ β i = some (b, zb) ∧ b < w.heap.size ∧ (E.w0.heap.size ≤ b ∨ E.X b)) := by
    rcases hv with ⟨b, zb, cap, hbi, rfl, hzc, hn, hcap⟩ | ⟨rfl, rfl⟩
    · obtain ⟨arr, us, rest, q1, q2, q3, q4, q5, q6⟩ := h.cell hO hbi
      obtain ⟨_, _, hbi2, hblt, hbx, _⟩ := h.objS hO hbi
      rw [hbi] at hbi2; cases hbi2
      have hul : us.length = n * sz := by rw [VL.length q5, hcs]
      exact ⟨us, ⟨hul, .inr ⟨b, cap, arr, rfl, Nat.zero_le _, q1, hn, hcap, by rw [q2, hzc], by rw [q3, ← hul]; simp⟩⟩, q4, q5, .inr ⟨b, zb, rfl, hbi, hblt, hbx⟩⟩
    · have : cs = [] := List.eq_nil_of_length_eq_zero (by simpa using hcs)
      subst this
      exact ⟨[], ⟨by simp, .inl ⟨rfl, rfl⟩⟩, by simp, by simp only [VL], .inl ⟨rfl, rfl⟩⟩
  have hnl : news.length = m * sz := by rw [VL.length hl, hlen]
  obtain ⟨v', w', r1, ⟨r2, r3⟩, r4, r5, r6⟩ := run_append_src (P := P) (ty := ty) hu hi hz his hib (by omega) hsz hown hsrc hnl h1 hb.2 hb.1
  have hij : i ≠ j := fun e => by
    rcases h.objs i _ hO with ⟨_, _, hb', _⟩ | ⟨hm, _⟩
    · rw [e, hβj] at hb'; cases hb'
    · exact hj (e ▸ hm)
  have hOj : O j = none := by
    cases ho : O j with
    | none => rfl
    | some o' =>
      rcases h.objs j o' ho with ⟨_, _, hb', _⟩ | ⟨hm, _⟩
      · rw [hβj] at hb'; cases hb'
      · exact absurd hm hj
  have hO' : ∀ k o, effs [(i, none), (j, some (.cells e (cs ++ ts)))] O k = some o → (k = j ∧ o = .cells e (cs ++ ts)) ∨ (k ≠ j ∧ k ≠ i ∧ O k = some o) := fun k o hk => by
    simp only [effs] at hk
    by_cases e1 : k = j
    · subst e1; rw [upd_same] at hk; cases hk; exact .inl ⟨rfl, rfl⟩
    · rw [upd_other _ _ _ _ e1] at hk
      by_cases e2 : k = i
      · subst e2; rw [upd_same] at hk; cases hk
      · rw [upd_other _ _ _ _ e2] at hk; exact .inr ⟨e1, e2, hk⟩
  have hold : ∀ k o x, O k = some o → β k = some x → x.1 < w.heap.size := fun k o x ho hx => by
    obtain ⟨_, _, hb', hl', _⟩ := h.objS ho hx
    rw [hx] at hb'; cases hb'; exact hl'
  have hblk : ∀ k, k < w.heap.size → (∀ x, β i = some x → x.1 ≠ k) → w'.heap[k]? = w.heap[k]? := fun k hk hne => r4.block k hk (by
    rcases hnil with ⟨e1, _⟩ | ⟨b, zb, e1, e2, _⟩
    · rw [e1]; simp
    · rw [e1]; exact fun h' => hne _ e2 (Option.some.inj h').symm)
  -- the block of the outcome, if it has one
  rcases r3 with ⟨rfl, hn0⟩ | ⟨g, cap', cur, rfl, _, hg, hnc, hcm, hcsz, htk⟩
  · -- still nil
    have hm0 : n = 0 ∧ m = 0 := by omega
    obtain ⟨rfl, rfl⟩ := hm0
    have e1 : cs = [] := List.eq_nil_of_length_eq_zero (by simpa using hcs)
    have e2 : ts = [] := List.eq_nil_of_length_eq_zero (by simpa using hlen)
    subst e1; subst e2
    have hvn : v = .slice none 0 0 := (r5.1 rfl).1
    have hall : ∀ k, k < w.heap.size → w'.heap[k]? = w.heap[k]? := fun k hk => r4.block k hk (by rw [hvn]; simp [Value.ownBlock])
    have himm : ∀ c, Imm E O β w c → Imm E (effs [(i, none), (j, some (.cells e ([] ++ [])))] O) β w' c ∧ w'.heap[c]? = w.heap[c]? := fun c hc =>
      ⟨⟨hc.1, Nat.lt_of_lt_of_le hc.2.1 r4.size, fun k o x ho hx => by
        rcases hO' k o ho with ⟨rfl, rfl⟩ | ⟨_, _, h3'⟩
        · rw [hβj] at hx; cases hx
        · exact hc.2.2 k o x h3' hx⟩, hall c hc.2.1⟩
    have hR := h.next (w' := w') (N' := j :: N) (O' := effs [(i, none), (j, some (.cells e ([] ++ [])))] O) (β' := β) r4.os r4.tape r4.output r4.size
      (fun c hc _ => hall c (Nat.lt_of_lt_of_le hc h.size)) (fun _ _ => rfl) (fun _ hm => List.mem_cons_of_mem _ hm) (fun k x hn _ hx => absurd (h.inN hx) hn)
      (fun k hk => h.dom k (fun hm => hk (List.mem_cons_of_mem _ hm))) himm
      (fun k o ho => by
        rcases hO' k o ho with ⟨rfl, rfl⟩ | ⟨_, _, h3'⟩
        · exact .inr (.inr ⟨List.mem_cons_self, hβj, e, rfl⟩)
        · exact .inl ⟨h3', fun x hx => hall _ (hold k o x h3' hx)⟩)
      (fun k l o o' x x' ho ho' hx hx' hne => by
        rcases hO' k o ho with ⟨rfl, rfl⟩ | ⟨_, _, a3⟩
        · rw [hβj] at hx; cases hx
        · rcases hO' l o' ho' with ⟨rfl, rfl⟩ | ⟨_, _, b3⟩
          · rw [hβj] at hx'; cases hx'
          · exact h.apart k l o o' x x' a3 b3 hx hx' hne)
    exact ⟨_, w', _, r1, hR.1, by simp [VV]⟩
  have hgb : (∃ zb, β i = some (g, zb) ∧ g < w.heap.size ∧ (E.w0.heap.size ≤ g ∨ E.X g)) ∨ g = w.heap.size := by
    rcases r6 with r6 | r6
    · rcases hnil with ⟨e1, _⟩ | ⟨b, zb, e1, e2, e3⟩
      · rw [e1] at r6; simp [Value.ownBlock] at r6
      · rw [e1] at r6
        simp only [Value.ownBlock, Option.some.injEq] at r6
        subst r6
        exact .inl ⟨zb, e2, e3⟩
    · simp only [Value.ownBlock, Option.some.injEq] at r6
      exact .inr r6
  have hglt : g < w'.heap.size := (Array.getElem?_eq_some_iff.1 hg).1
  have hnames : ∀ k, k ∈ N → upd β j (some (g, cur.size)) k = β k := fun k hk => by
    rw [upd_other]
    rintro rfl; exact hj hk
  have himm : ∀ c, Imm E O β w c → Imm E (effs [(i, none), (j, some (.cells e (cs ++ ts)))] O) (upd β j (some (g, cur.size))) w' c ∧ w'.heap[c]? = w.heap[c]? := fun c hc => by
    refine ⟨⟨hc.1, Nat.lt_of_lt_of_le hc.2.1 r4.size, fun k o x ho hx => ?_⟩, hblk c hc.2.1 (fun x hx => hc.2.2 i _ x hO hx)⟩
    rcases hO' k o ho with ⟨rfl, rfl⟩ | ⟨h1', h2', h3'⟩
    · rw [upd_same] at hx; cases hx
      rcases hgb with ⟨zb, e1, _⟩ | rfl
      · exact hc.2.2 i _ (g, zb) hO e1
      · exact Ne.symm (Nat.ne_of_lt hc.2.1)
    · rw [upd_other _ _ _ _ h1'] at hx
      exact hc.2.2 k o x h3' hx
  have hl2 : Lasts w (Imm E O β w) w' (Imm E (effs [(i, none), (j, some (.cells e (cs ++ ts)))] O) (upd β j (some (g, cur.size))) w') := ⟨fun c hc => (himm c hc).1, fun c hc => (himm c hc).2⟩
  have hR := h.next (w' := w') (N' := j :: N) (O' := effs [(i, none), (j, some (.cells e (cs ++ ts)))] O) (β' := upd β j (some (g, cur.size))) r4.os r4.tape r4.output r4.size
    (fun c hc hx => hblk c (Nat.lt_of_lt_of_le hc h.size) (fun x hbx e => by
      obtain ⟨_, _, g1, _, g2, _⟩ := h.objS hO hbx
      rw [hbx] at g1; cases g1
      rcases g2 with h' | h'
      · simp only at e; omega
      · exact hx (e ▸ h'))) hnames (fun _ hm => List.mem_cons_of_mem _ hm)
    (fun k x hn h2 hx => by
      by_cases e1 : k = j
      · subst e1
        rw [upd_same] at hx; cases hx
        rcases hgb with ⟨zb, e2, _⟩ | rfl
        · exact h.news i (g, zb) (hnew h2) e2
        · exact h.size
      · rw [upd_other _ _ _ _ e1] at hx; exact absurd (h.inN hx) hn)
    (fun k hk => by
      rw [upd_other _ _ _ _ (fun e => hk (by rw [e]; exact List.mem_cons_self))]
      exact h.dom k (fun hm => hk (List.mem_cons_of_mem _ hm))) himm
    (fun k o ho => by
      rcases hO' k o ho with ⟨rfl, rfl⟩ | ⟨h1', h2', h3'⟩
      · refine .inr (.inl ⟨g, cur.size, upd_same _ _ _, hglt, ?_, ?_⟩)
        · rcases hgb with ⟨_, _, _, hbx⟩ | rfl
          · exact hbx
          · exact .inl h.size
        · simp only [OR]
          refine ⟨cur, us ++ news, cur.toList.drop ((n + m) * sz), hg, rfl, by rw [← htk, List.take_append_drop], fun u hu => ?_, VL.lasts hl2 _ _ (VL.append q5 hl)⟩
          rcases List.mem_append.1 hu with hu | hu
          · exact q4 u hu
          · exact h1 u hu
      · refine .inl ⟨h3', fun x hx => hblk _ (hold k o x h3' hx) (fun x' hx' => ?_)⟩
        exact Ne.symm (h.apart k i o _ x _ h3' hO hx hx' h2'))
    (fun k l o o' x x' ho ho' hx hx' hne => by
      rcases hO' k o ho with ⟨rfl, rfl⟩ | ⟨a1, a2, a3⟩
      · rw [upd_same] at hx; cases hx
        rcases hO' l o' ho' with ⟨rfl, rfl⟩ | ⟨b1, b2, b3⟩
        · exact absurd rfl hne
        · rw [upd_other _ _ _ _ b1] at hx'
          rcases hgb with ⟨zb, e1, _⟩ | rfl
          · exact h.apart i l _ o' (g, zb) x' hO b3 e1 hx' (Ne.symm b2)
          · exact Nat.ne_of_gt (hold l o' x' b3 hx')
      · rw [upd_other _ _ _ _ a1] at hx
        rcases hO' l o' ho' with ⟨rfl, rfl⟩ | ⟨b1, b2, b3⟩
        · rw [upd_same] at hx'; cases hx'
          rcases hgb with ⟨zb, e1, _⟩ | rfl
          · exact h.apart k i o _ x (g, zb) a3 hO hx e1 a2
          · exact Nat.ne_of_lt (hold k o x a3 hx)
        · rw [upd_other _ _ _ _ b1] at hx'
          exact h.apart k l o o' x x' a3 b3 hx hx' hne)
  refine ⟨_, w', _, r1, hR.1, ?_⟩
  simp only [VV]
  exact .inl ⟨g, cur.size, cap', upd_same _ _ _, rfl, hcsz, hnc, hcm⟩
end
end Go.Tl
