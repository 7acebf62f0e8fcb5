/-
  The step of one operation is what the machine does, all operations. No statement of the seat is proved here.
-/
import Derived.Test.YtfbkhpfhnimnfaaTlO
import Derived.Test.YtfbkhpfhnimnfaaTlCS
namespace Go.Tl
set_option linter.unusedVariables false
set_option linter.unusedSimpArgs false
section
variable {P : Program} {E : Env} {β : Names} {N : List Nat} {S : Nat → Option V} {O : Nat → Option Obj} {a : Act} {w : World}

theorem does_wp {s : Sem Value} {p : Prop} {v : V} {eff : List (Nat × Option Obj)} {new : List Nat} (hd : Does P E N S O a s w ⟨p, v, eff, new⟩) {o : Oper}
    (hrun : execOp a.eval o = (do pure (Next.value (← s)) : Sem Next)) {K : Act → World → Prop} {Q : Exit → Act → World → Prop}
    (hK : ∀ β' v' w', R E β' (new ++ N) S (effs eff O) a w' → VV w' (Imm E (effs eff O) β' w') β' v v' → K (a.put o.dst v') w') : o.wp P a w K Q := by
  obtain ⟨u, w', β', h1, h2, h3⟩ := hd
  unfold Oper.wp
  rw [hrun]
  simp only [Sem.run_bind, h1, Result.andThen_ok, Sem.run_pure]
  exact hK β' u w' h2 h3
theorem run_wp (h : R E β N S O a w) {s : Sem Value} {x : V} (hr : ∃ u, s.run P w = .ok u w ∧ VV w (Imm E O β w) β x u) {o : Oper}
    (hrun : execOp a.eval o = (do pure (Next.value (← s)) : Sem Next)) {K : Act → World → Prop} {Q : Exit → Act → World → Prop}
    (hK : ∀ β' v' w', R E β' ([] ++ N) S (effs [] O) a w' → VV w' (Imm E (effs [] O) β' w') β' x v' → K (a.put o.dst v') w') : o.wp P a w K Q :=
  does_wp (Does.pure (p := True) h hr) hrun hK
theorem pure_wp (h : R E β N S O a w) {v : Value} {x : V} (hv : VV w (Imm E O β w) β x v) {o : Oper}
    (hrun : (execOp a.eval o).run P w = .ok (.value v) w) {K : Act → World → Prop} {Q : Exit → Act → World → Prop}
    (hK : ∀ β' v' w', R E β' ([] ++ N) S (effs [] O) a w' → VV w' (Imm E (effs [] O) β' w') β' x v' → K (a.put o.dst v') w') : o.wp P a w K Q := by
  unfold Oper.wp
  rw [hrun]
  exact hK β v w h hv

theorem ev_mono {S1 : Nat → Option V} (hS : ∀ t x, S1 t = some x → S t = some x) {x : Operand} {v : V} (h : ev S1 x = some v) : ev S x = some v := by
  cases x with
  | tmp t => exact hS t v h
  | _ => exact h
theorem evs_mono {S1 : Nat → Option V} (hS : ∀ t x, S1 t = some x → S t = some x) : ∀ {xs : List Operand} {vs : List V}, evs S1 xs = some vs → evs S xs = some vs
  | [], vs, h => h
  | x :: xs, vs, h => by
    simp only [evs] at h ⊢
    cases hx : ev S1 x with
    | none => simp [hx] at h
    | some v => cases hr : evs S1 xs with
      | none => simp [hx, hr] at h
      | some us => simp only [hx, hr] at h; simp only [ev_mono hS hx, evs_mono hS hr]; exact h
theorem evp_mono {S1 : Nat → Option V} (hS : ∀ t x, S1 t = some x → S t = some x) : ∀ {xs : List (Nat × Operand)} {vs : List (Nat × V)}, evp S1 xs = some vs → evp S xs = some vs
  | [], vs, h => h
  | (i, x) :: xs, vs, h => by
    simp only [evp] at h ⊢
    cases hx : ev S1 x with
    | none => simp [hx] at h
    | some v => cases hr : evp S1 xs with
      | none => simp [hx, hr] at h
      | some us => simp only [hx, hr] at h; simp only [ev_mono hS hx, evp_mono hS hr]; exact h
theorem optV_mono {S1 : Nat → Option V} (hS : ∀ t x, S1 t = some x → S t = some x) {x : Option Operand} {n : Option Int} (h : optV S1 x = some n) : optV S x = some n := by
  cases x with
  | none => exact h
  | some x =>
    simp only [optV] at h ⊢
    cases hx : ev S1 x with
    | none => simp [hx] at h
    | some v => simp only [hx] at h; simp only [ev_mono hS hx]; exact h
theorem srcV_mono {O1 : Nat → Option Obj} (hO : ∀ i x, O1 i = some x → O i = some x) {x : V} {sz : Nat} {r : Prop × Nat × List T} (h : srcV O1 x sz = some r) : srcV O x sz = some r := by
  unfold srcV at h ⊢
  split at h
  · exact h
  · exact h
  · exact h
  · split at h
    · rename_i hsz
      simp only [hsz, if_true] at h ⊢
      split at h
      · rename_i e cs ho; rw [hO _ _ ho]; exact h
      · cases h
    · cases h
  · split at h
    · rename_i hsz
      simp only [hsz, if_true] at h ⊢
      split at h
      · rename_i e cs ho; rw [hO _ _ ho]; exact h
      · cases h
    · cases h
  · cases h
mutual
theorem snapV_mono {O1 : Nat → Option Obj} (hO : ∀ i x, O1 i = some x → O i = some x) : ∀ (x : V) (r : List Prop × T), snapV O1 x = some r → snapV O x = some r
  | .t x, r, h => h
  | .ref i o, r, h => by
    simp only [snapV] at h ⊢
    cases hi : O1 i with
    | none => simp [hi] at h
    | some ob => simp only [hi] at h; simp only [hO _ _ hi]; exact h
  | .own i sz n, r, h => by
    simp only [snapV] at h ⊢
    cases hi : O1 i with
    | none => simp [hi] at h
    | some ob => simp only [hi] at h; simp only [hO _ _ hi]; exact h
  | .view i o sz n, r, h => by
    simp only [snapV] at h ⊢
    cases hi : O1 i with
    | none => simp [hi] at h
    | some ob => simp only [hi] at h; simp only [hO _ _ hi]; exact h
  | .mapr i, r, h => by simp [snapV] at h
  | .agg vs, r, h | .tup vs, r, h | .fn _ vs, r, h => by
    simp only [snapV] at h ⊢
    cases hi : snapL O1 vs with
    | none => simp [hi] at h
    | some ob => simp only [hi] at h; simp only [snapL_mono hO vs _ hi]; exact h
theorem snapL_mono {O1 : Nat → Option Obj} (hO : ∀ i x, O1 i = some x → O i = some x) : ∀ (xs : List V) (r : List Prop × List T), snapL O1 xs = some r → snapL O xs = some r
  | [], r, h => h
  | x :: xs, r, h => by
    simp only [snapL] at h ⊢
    cases hi : snapV O1 x with
    | none => simp [hi] at h
    | some pt =>
      cases hl : snapL O1 xs with
      | none => simp [hi, hl] at h
      | some ob => simp only [hi, hl] at h; simp only [snapV_mono hO x _ hi, snapL_mono hO xs _ hl]; exact h
end

theorem stepOp_sound {tab : Tab} (htab : chkTab P tab = true) {an : An} (h : R E β N S O a w) {S1 : Nat → Option V} {O1 : Nat → Option Obj} (hS : ∀ t x, S1 t = some x → S t = some x) (hO1 : ∀ i x, O1 i = some x → O i = some x)
    {o : Oper} {rs : Rs} (hs : stepOp P tab an S1 O1 o = some rs) (ho : Obs rs.obs) (hnew : ∀ j ∈ rs.new, j ∉ N)
    {K : Act → World → Prop} {Q : Exit → Act → World → Prop} (hK : ∀ β' v w', R E β' (rs.new ++ N) S (effs rs.eff O) a w' → VV w' (Imm E (effs rs.eff O) β' w') β' rs.v v → K (a.put o.dst v) w') : o.wp P a w K Q := by
  have hev : ∀ {x : Operand} {v : V}, ev S1 x = some v → VV w (Imm E O β w) β v (a.eval x) := fun hx => h.ev (ev_mono hS hx)
  obtain ⟨dst, op, ty, pos, after, guard⟩ := o
  cases op <;> simp only [stepOp] at hs <;> try (cases hs; done)
  case move x =>
    simp only [Option.map_eq_some_iff] at hs
    obtain ⟨v, hx, rfl⟩ := hs
    exact pure_wp h (hev hx) rfl hK
  case assign x =>
    simp only [Option.map_eq_some_iff] at hs
    obtain ⟨v, hx, rfl⟩ := hs
    exact pure_wp h (hev hx) rfl hK
  case pick c x y =>
    split at hs
    · rename_i hc
      have hcv := hev hc
      simp only [VV, VR] at hcv
      simp only [Option.map_eq_some_iff] at hs
      obtain ⟨v, hx, rfl⟩ := hs
      exact pure_wp h (hev hx) (by simp [execOp, hcv, asBool]) hK
    · rename_i hc
      have hcv := hev hc
      simp only [VV, VR] at hcv
      simp only [Option.map_eq_some_iff] at hs
      obtain ⟨v, hx, rfl⟩ := hs
      exact pure_wp h (hev hx) (by simp [execOp, hcv, asBool]) hK
    · cases hs
  case alloc t =>
    split at hs
    · rename_i y j hy
      cases hs
      exact does_wp (does_alloc (p := True) h (chkTab_look htab hy) (hnew j (by simp))) rfl hK
    · rename_i y hy
      cases hs
      exact does_wp (does_allocF (p := True) h (chkTab_look htab hy)) rfl hK
    · cases hs
  case box t x =>
    split at hs
    · rename_i v j hx
      simp only [Option.map_eq_some_iff] at hs
      obtain ⟨ob, hm, rfl⟩ := hs
      exact does_wp (does_box (p := True) h (hev hx) hm (hnew j (by simp))) rfl hK
    · rename_i v hx
      simp only [Option.map_eq_some_iff] at hs
      obtain ⟨cs, hm, rfl⟩ := hs
      exact does_wp (does_boxF (p := True) h (hev hx) hm) rfl hK
    · cases hs
  case build t parts =>
    split at hs
    · rename_i y ps hy hp
      simp only [Option.map_eq_some_iff] at hs
      obtain ⟨⟨p, v⟩, hb, rfl⟩ := hs
      exact run_wp h (run_buildV h (chkTab_look htab hy) (evp_mono hS hp) hb ho.1) rfl hK
    · cases hs
  case buildSlice t len parts =>
    split at hs
    · rename_i y ps hy hp
      split at hs
      · rename_i e sz bytes hk
        split at hs
        · rename_i ye hye
          split at hs
          · cases hs
          · rename_i hsz
            have hsz1 : 0 < sz := Nat.pos_of_ne_zero fun e => hsz (.inl e)
            have hsz2 : len * sz ≤ 16777216 := Nat.not_lt.1 fun e => hsz (.inr e)
            split at hs
            · rename_i p out j hf
              cases hs
              exact does_wp (does_rowO (q := True) h (chkTab_look htab hy) hk (chkTab_look htab hye) (evp_mono hS hp) hf ho.1 hsz2 hsz1 ho.2.1 (hnew j (by simp))) rfl hK
            · rename_i p out hf
              cases hs
              exact does_wp (does_rowF (q := True) h (chkTab_look htab hy) hk (chkTab_look htab hye) (evp_mono hS hp) hf ho.1 hsz2 hsz1 ho.2.1) rfl hK
            · cases hs
        · cases hs
      · cases hs
    · cases hs
  case load t x =>
    split at hs
    · rename_i y i off hy hx
      split at hs
      · rename_i ob hob
        simp only [Option.map_eq_some_iff] at hs
        obtain ⟨⟨p, v⟩, hg, rfl⟩ := hs
        have hxv := hev hx
        simp only [VV] at hxv
        obtain ⟨b, z, hb, hxv⟩ := hxv
        obtain ⟨b', z', hb', _, _, hor⟩ := h.objS (hO1 _ _ hob) hb
        rw [hb] at hb'; cases hb'
        exact run_wp h (s := Instr.loadAt t (a.eval x)) (by rw [hxv]; exact run_getObj (chkTab_look htab hy) hg ho.1 hor) rfl hK
      · cases hs
    · rename_i y cs hy hx
      simp only [Option.map_eq_some_iff] at hs
      obtain ⟨⟨p, v⟩, hg, rfl⟩ := hs
      have hxv := hev hx
      simp only [VV, VR] at hxv
      obtain ⟨b, o, hxv, _, hva⟩ := hxv
      exact run_wp h (s := Instr.loadAt t (a.eval x)) (by rw [hxv]; exact run_getPtr (chkTab_look htab hy) hg ho.1 hva) rfl hK
    · cases hs
  case store t x v =>
    split at hs
    · rename_i y i off vv hy hx hv
      split at hs
      · rename_i ob hob
        split at hs
        · rename_i p e cs cs' hg
          cases hs
          obtain ⟨w', h1, h2⟩ := does_store h (chkTab_look htab hy) (hO1 _ _ hob) hg ho.1 (hev hv) (hev hx)
          have e1 := ho.2.1
          subst e1
          unfold Oper.wp
          simp only [execOp, Sem.run_bind, h1, Result.andThen_ok, Sem.run_pure]
          exact hK β undef w' h2 (by simp only [VV, VR])
        · rename_i p ob' hg _
          cases hs
          obtain ⟨w', h1, h2⟩ := does_store h (chkTab_look htab hy) (hO1 _ _ hob) hg ho.1 (hev hv) (hev hx)
          unfold Oper.wp
          simp only [execOp, Sem.run_bind, h1, Result.andThen_ok, Sem.run_pure]
          exact hK β undef w' h2 (by simp only [VV, VR])
        · cases hs
      · cases hs
    · cases hs
  case binOp op t x y yt =>
    split at hs
    · rename_i xs ys hx hy
      split at hs
      · split at hs
        · rename_i r hr
          cases hs
          obtain ⟨uu, h1, h2⟩ := run_aggSame (P := P) (xo := x) (yo := y) ho.1 ho.2.1 ho.2.2.1 (hev hx) (hev hy) (p := r.1) (r := r.2) hr
          exact run_wp h ⟨uu, h1, by simpa only [VV] using h2⟩ rfl hK
        · cases hs
      split at hs
      · rename_i b hb
        split at hs
        · rename_i r hr
          cases hs
          obtain ⟨uu, h1, h2⟩ := run_aggEq (P := P) (xo := x) (yo := y) ho.1 hb (hev hx) (hev hy) (p := r.1) (r := r.2) hr
          exact run_wp h ⟨uu, h1, by simpa only [VV] using h2⟩ rfl hK
        · cases hs
      · cases hs
    · rename_i v u hx hy
      simp only [Option.map_eq_some_iff] at hs
      obtain ⟨⟨p, r⟩, hb, rfl⟩ := hs
      obtain ⟨uu, h1, h2⟩ := run_binV (P := P) (fun y hy => chkTab_look htab hy) hb ho.1 (hev hx) (hev hy)
      exact run_wp h ⟨uu, h1, by simpa only [mk1, VV] using h2⟩ rfl hK
    · cases hs
  case unOp op t x =>
    split at hs
    · rename_i v hx
      simp only [Option.map_eq_some_iff] at hs
      obtain ⟨r, hb, rfl⟩ := hs
      exact run_wp h (run_unT hb (hev hx)) rfl hK
    · cases hs
  case convert s d x =>
    split at hs
    · rename_i ys yd v hys hyd hx
      simp only [Option.map_eq_some_iff] at hs
      obtain ⟨r, hb, rfl⟩ := hs
      exact run_wp h (run_convV (chkTab_look htab hys) (chkTab_look htab hyd) hb (hev hx)) rfl hK
    · cases hs
  case makeFunc fn first captured =>
    cases fn with
    | func f =>
      simp only at hs
      split at hs
      · rename_i vs hfst hcap
        cases hs
        have hfst' : first = #[] := by simpa using hfst
        exact pure_wp h (v := .func (.func f) #[] (captured.map a.eval)) (x := mkFn f vs) (mkFn_reads (by simpa using h.evs (evs_mono hS hcap))) (by simp [execOp, Instr.makeFunc, hfst']) hK
      · rename_i x xs vs hfst hcap
        split at hs
        · rename_i us hus
          split at hs
          · rename_i pre ts hp hq
            cases hs
            refine pure_wp h (v := .func (.func f) (first.map a.eval) (captured.map a.eval)) (x := .t (.fn f pre ts)) ?_ (by simp [execOp, Instr.makeFunc]) hK
            simp only [VV, VR]
            exact ⟨_, _, rfl, by simpa [hfst] using VVL.pures hp (h.evs (evs_mono hS hus)), by simpa using VVL.pures hq (h.evs (evs_mono hS hcap))⟩
          · cases hs
        · cases hs
      · cases hs
    | _ => simp at hs
  case nilCheck x =>
    split at hs
    · rename_i i o hx
      cases hs
      have hv := hev hx
      simp only [VV] at hv
      obtain ⟨b, z, hb, hv⟩ := hv
      exact pure_wp h (v := a.eval x) (x := .ref i o) (by simp only [VV]; exact ⟨b, z, hb, hv⟩) (by simp [execOp, hv]) hK
    · rename_i cs hx
      cases hs
      have hv := hev hx
      have hv' := hv
      simp only [VV, VR] at hv'
      obtain ⟨b, o, e, _⟩ := hv'
      exact pure_wp h (v := a.eval x) hv (by simp [execOp, e]) hK
    · rename_i f pre cs hx
      cases hs
      have hv := hev hx
      have hv' := hv
      simp only [VV] at hv'
      rw [VR] at hv'
      obtain ⟨pb, b, e, _⟩ := hv'
      exact pure_wp h (v := a.eval x) hv (by simp [execOp, e]) hK
    · rename_i f cs hx
      cases hs
      have hv := hev hx
      have hv' := hv
      simp only [VV] at hv'
      obtain ⟨b, e, _⟩ := hv'
      exact pure_wp h (v := a.eval x) hv (by simp [execOp, e]) hK
    · cases hs
  case makeSlice t l c =>
    split at hs
    · rename_i y vl vc j hy hl hc
      split at hs
      · rename_i e sz bytes kl nl kc nc hk hil hic
        split at hs
        · rename_i ye hye
          cases hs
          have h1 := intOf_reads hil (hev hl)
          have h2 := intOf_reads hic (hev hc)
          exact does_wp (s := Instr.makeSlice t (a.eval l) (a.eval c)) (p := True) (by rw [h1, h2]; exact does_make h (chkTab_look htab hy) hk (chkTab_look htab hye) (hnew j (by simp)) ho.1) rfl hK
        · cases hs
      · cases hs
    · cases hs
  case slice t x lo hi mx =>
    cases mx with
    | some m => simp at hs
    | none =>
      simp only at hs
      split at hs
      · rename_i y v l hh hy hx hl hh'
        simp only [Option.map_eq_some_iff] at hs
        obtain ⟨⟨p, r⟩, hb, rfl⟩ := hs
        exact run_wp h (run_sliceV (chkTab_look htab hy) (h.optV (optV_mono hS hl)) (h.optV (optV_mono hS hh')) hb ho.1 (hev hx)) rfl hK
      · cases hs
  case fieldAddr t x f =>
    split at hs
    · rename_i y v hy hx
      split at hs
      · rename_i fs hk
        simp only [Option.map_eq_some_iff] at hs
        obtain ⟨r, hb, rfl⟩ := hs
        exact run_wp h (run_fieldV (chkTab_look htab hy) hk hb (hev hx)) rfl hK
      · cases hs
    · cases hs
  case field t x f =>
    split at hs
    · rename_i hh
      split at hs
      · rename_i y v hy hx
        split at hs
        · rename_i fs hk
          simp only [Option.map_eq_some_iff] at hs
          obtain ⟨r, hb, rfl⟩ := hs
          exact run_wp h (run_pickFieldV (chkTab_look htab hy) hk hh hb (hev hx)) rfl hK
        · cases hs
      · cases hs
    · cases hs
  case indexAddr t x ix =>
    split at hs
    · rename_i y v i hy hx hi
      split at hs
      · rename_i k n hn
        simp only [Option.map_eq_some_iff] at hs
        obtain ⟨⟨p, r⟩, hb, rfl⟩ := hs
        have h1 := intOf_reads hn (hev hi)
        exact run_wp h (s := Instr.indexAt t (a.eval x) (a.eval ix)) (by rw [h1]; exact run_indexAddrV (chkTab_look htab hy) hb ho.1 (hev hx)) rfl hK
      · cases hs
    · cases hs
  case index t x ix =>
    split at hs
    · rename_i y v i hy hx hi
      split at hs
      · rename_i k n hn
        have h1 := intOf_reads hn (hev hi)
        split at hs
        · rename_i r hb
          cases hs
          exact run_wp h (s := Instr.index t (a.eval x) (a.eval ix)) (by rw [h1]; exact run_indexV (chkTab_look htab hy) (p := r.1) (r := r.2) hb ho.1 (hev hx)) rfl hK
        · split at hs
          · rename_i hk0 len e cs hk hx'
            split at hs
            · rename_i ye hye
              split at hs
              · rename_i q hq
                cases hs
                have hxv := hev hx
                simp only [VV] at hxv
                obtain ⟨u, g1, g2⟩ := run_index1 (P := P) (chkTab_look htab hy) hk (chkTab_look htab hye) hq (kx := k) ho.1 hxv
                exact run_wp h (s := Instr.index t (a.eval x) (a.eval ix)) ⟨u, by rw [h1]; exact g1, by simpa only [mk1, VV] using g2⟩ rfl hK
              · cases hs
            · cases hs
          · cases hs
      · cases hs
    · cases hs
  case makeMap t r =>
    cases r with
    | some r => simp at hs
    | none =>
      simp only at hs
      split at hs
      · rename_i j
        cases hs
        exact does_wp (does_makeMap (p := True) h (hnew j (by simp))) rfl hK
      · cases hs
  case lookup t x kx c =>
    split at hs
    · rename_i y i kt hy hx hkx
      split at hs
      · rename_i k e es hk hO
        split at hs
        · rename_i ye hye
          cases hs
          obtain ⟨G, K, g1, g2⟩ := ho.1
          have hkv := hev hkx
          simp only [VV] at hkv
          obtain ⟨u, q1, q2⟩ := run_lookup h (chkTab_look htab hy) hk (chkTab_look htab hye) K (hO1 _ _ hO) g2 g1 (hev hx) hkv c
          exact run_wp h (s := Instr.lookup t (a.eval x) (a.eval kx) c) ⟨u, q1, by simpa only [VV] using q2⟩ rfl hK
        · cases hs
      · cases hs
    · cases hs
  case mapUpdate t m kx vx =>
    split at hs
    · rename_i y i kt vt es' hy hx hkx hvx
      split at hs
      · rename_i k e es hk hO
        cases hs
        obtain ⟨⟨G, K, g1, g2⟩, g3, _⟩ := ho
        have hkv := hev hkx
        have hvv := hev hvx
        simp only [VV] at hkv hvv
        obtain ⟨w', q1, q2⟩ := does_mapUpdate h (chkTab_look htab hy) hk K (hO1 _ _ hO) g2 g1 (hev hx) hkv hvv
        rw [g3] at q2
        unfold Oper.wp
        simp only [execOp, Sem.run_bind, q1, Result.andThen_ok, Sem.run_pure]
        exact hK β undef w' q2 (by simp only [VV, VR])
      · cases hs
    · cases hs
  case extract x i =>
    split at hs
    · rename_i v hx
      simp only [Option.map_eq_some_iff] at hs
      obtain ⟨r, hb, rfl⟩ := hs
      exact run_wp h (run_extractV hb (hev hx)) rfl hK
    · cases hs
  case call c =>
    obtain ⟨callee, args, argTypes⟩ := c
    split at hs
    · rename_i hcal
      simp only at hcal
      subst hcal
      split at hs
      · rename_i x t rest hargs htys
        simp only at hargs htys
        split at hs
        · rename_i y v hy hx
          simp only [Option.map_eq_some_iff] at hs
          obtain ⟨r, hb, rfl⟩ := hs
          have e1 : args = #[x] := by simpa using congrArg List.toArray hargs
          have e2 : argTypes = (t :: rest).toArray := by simpa using congrArg List.toArray htys
          subst e1; subst e2
          exact run_wp h (run_lenV (chkTab_look htab hy) hb (hev hx) ty rest) (by simp [execOp, resolve, invoke, builtin]) hK
        · cases hs
      · cases hs
    · rename_i hcal
      simp only at hcal
      subst hcal
      split at hs
      · rename_i x z t t' hargs htys
        simp only at hargs htys
        split at hs
        · rename_i ht; subst ht
          split at hs
          · rename_i y i sz n v hy hx hz
            split at hs
            · rename_i e sz' bytes hk
              split at hs
              · rename_i hsz
                obtain ⟨rfl, hsz0⟩ := hsz
                split at hs
                · rename_i e' cs p m ts ye j hO hsrc hye
                  split at hs
                  · rename_i he; obtain ⟨he, hnn⟩ := he; subst he
                    cases hs
                    obtain ⟨o1, o2, o3, _⟩ := ho
                    obtain ⟨news, k1, k2, k3, k4⟩ := h.src (srcV_mono hO1 hsrc) o1 (hev hz)
                    have e1 : args = #[x, z] := by simpa using congrArg List.toArray hargs
                    have e2 : argTypes = #[t, t] := by simpa using congrArg List.toArray htys
                    subst e1; subst e2
                    exact does_wp (does_append (P := P) (ty := ty) (p := True) h (chkTab_look htab hy) hk (chkTab_look htab hye) (Nat.pos_of_ne_zero hsz0) (hO1 _ _ hO) o2 (hev hx) k1 k2 k3 k4 o3 (hnew j (by simp)) hnn) (by simp [execOp, resolve, invoke, builtin]) hK
                  · cases hs
                · cases hs
              · cases hs
            · cases hs
          · cases hs
        · cases hs
      · cases hs
    · rename_i hcal
      simp only at hcal
      subst hcal
      split at hs
      · rename_i x y hargs
        simp only at hargs
        split at hs
        · rename_i k p k' q hx hy
          cases hs
          have e1 : args = #[x, y] := by simpa using congrArg List.toArray hargs
          subst e1
          have h1 := hev hx
          have h2 := hev hy
          simp only [VV, VR] at h1 h2
          refine pure_wp h (v := .int k (max p q)) (x := .t (.int k (max p q))) (by simp only [VV, VR]) ?_ hK
          simp only [execOp, resolve, invoke, builtin]
          simp [Builtin.max_, Builtin.max2, h1, h2, resolve, invoke, builtin]
          rw [Int.max_def]; split <;> split <;> omega
        · cases hs
      · cases hs
    · rename_i hcal
      simp only at hcal
      subst hcal
      split at hs
      · rename_i x y hargs
        simp only at hargs
        split at hs
        · rename_i k p k' q hx hy
          cases hs
          have e1 : args = #[x, y] := by simpa using congrArg List.toArray hargs
          subst e1
          have h1 := hev hx
          have h2 := hev hy
          simp only [VV, VR] at h1 h2
          refine pure_wp h (v := .int k (min p q)) (x := .t (.int k (min p q))) (by simp only [VV, VR]) ?_ hK
          simp only [execOp, resolve, invoke, builtin]
          simp [Builtin.min_, Builtin.min2, h1, h2, resolve, invoke, builtin]
          rw [Int.min_def]; split <;> split <;> omega
        · cases hs
      · cases hs
    · rename_i hcal
      simp only at hcal
      subst hcal
      split at hs
      · rename_i x z t t' hargs htys
        simp only at hargs htys
        split at hs
        · rename_i y d v hy hx hz
          split at hs
          · rename_i e bytes hk
            split at hs
            · rename_i i off n p m ts hd hsrc
              split at hs
              · rename_i e' cs hO
                have e1 : args = #[x, z] := by simpa using congrArg List.toArray hargs
                have e2 : argTypes = #[t, t'] := by simpa using congrArg List.toArray htys
                subst e1; subst e2
                split at hs
                · cases hs
                  obtain ⟨o1, o2, o3, _⟩ := ho
                  subst o3
                  obtain ⟨news, k1, k2, k3, k4⟩ := h.src (srcV_mono hO1 hsrc) o1 (hev hz)
                  exact does_wp (does_copy (P := P) (ty := ty) (t2 := t') (p := True) h (chkTab_look htab hy) hk hd (hO1 _ _ hO) (hev hx) k1 k2 k3 k4 o2) (by simp [execOp, resolve, invoke, builtin]) hK
                · cases hs
                  obtain ⟨o1, o2, _⟩ := ho
                  obtain ⟨news, k1, k2, k3, k4⟩ := h.src (srcV_mono hO1 hsrc) o1 (hev hz)
                  exact does_wp (does_copy (P := P) (ty := ty) (t2 := t') (p := True) h (chkTab_look htab hy) hk hd (hO1 _ _ hO) (hev hx) k1 k2 k3 k4 o2) (by simp [execOp, resolve, invoke, builtin]) hK
              · cases hs
            · cases hs
          · cases hs
        · cases hs
      · cases hs
    · rename_i f hcal
      simp only at hcal
      subst hcal
      have harr : args.map a.eval = (args.toList.map a.eval).toArray := by
        apply Array.ext'; rw [Array.toList_map]
      -- a call of a function value
      have pure_fn : ∀ {g : FuncId} {pre caps : List T}, ev S1 f = some (.t (.fn g pre caps)) → VR w (Imm E O β w) (.fn g pre caps) (a.eval f) ∧ ∃ pv cv, a.eval f = .func (.func g) pv cv ∧ VL w (Imm E O β w) pre pv.toList ∧ VL w (Imm E O β w) caps cv.toList ∧
          (Deferred.ofValue (a.eval f) (args.toList.map a.eval).toArray).run P w = .ok { target := .fn (.func g) cv, args := pv ++ (args.toList.map a.eval).toArray } w := fun {g pre caps} hf => by
        have hfv := hev hf
        simp only [VV] at hfv
        have hfv' := hfv
        rw [VR] at hfv'
        obtain ⟨pv, cv, hfe, hpv, hcv⟩ := hfv'
        exact ⟨hfv, pv, cv, hfe, hpv, hcv, by rw [hfe]; rfl⟩
      -- a call with objects
      have objs_fn : ∀ {g : FuncId} {pvs cvs : List V} {pv cv : Array Value} {vs : List V} {rn : List (Nat × Nat)} {fa : List V} {Oi : List (Nat × Obj)} {r : V} {Oo : List (Nat × Obj)}, a.eval f = .func (.func g) pv cv → VVL w (Imm E O β w) β pvs pv.toList → VVL w (Imm E O β w) β cvs cv.toList →
          evs S1 args.toList = some vs → callG P O1 g (pvs ++ (vs ++ cvs)) rn fa Oi r Oo = some rs → ({ dst := dst, op := .call ⟨.value f, args, argTypes⟩, type := ty, pos := pos, after := after, guard := guard } : Oper).wp P a w K Q := fun {g pvs cvs pv cv vs rn fa Oi r Oo} hfe hpv hcv hvs hG => by
        have hd : (Deferred.ofValue (a.eval f) (args.map a.eval)).run P w = .ok { target := .fn (.func g) cv, args := pv ++ args.map a.eval } w := by
          rw [hfe]; rfl
        have hal : ((pv ++ args.map a.eval) ++ cv : Array Value).toList = pv.toList ++ (args.toList.map a.eval ++ cv.toList) := by simp
        obtain ⟨k1, k2⟩ := h.callG_step (Q := fun v w' => K (a.put dst v) w') hO1 hG ho hnew (xs := pv ++ args.map a.eval ++ cv) (by rw [hal]; exact VVL.append hpv (VVL.append (h.evs (evs_mono hS hvs)) hcv)) (fun β' v w' q1 q2 => hK β' v w' q1 q2)
        unfold Oper.wp
        have hrun : (execOp a.eval { dst := dst, op := .call ⟨.value f, args, argTypes⟩, type := ty, pos := pos, after := after, guard := guard }).run P w = .ok (.enter g (pv ++ args.map a.eval ++ cv)) w := by
          simp only [execOp, resolve, Sem.run_bind, hd, Result.andThen_ok, invoke]
          simpa using k1
        rw [hrun]
        refine Calls.mono k2 fun e w' he => ?_
        obtain ⟨v, rfl, hq⟩ := he
        exact hq
      split at hs
      · rename_i g pre caps vs r hf hvs
        obtain ⟨hfv, pv, cv, hfe, hpv, hcv, hd⟩ := pure_fn hf
        split at hs
        · rename_i ts hp
          cases hs
          refine h.call (ps := []) hfv (h.evs (evs_mono hS hvs)) (.inl hp) (WkL.refl _) ho.1 (K := K) (dst := dst) (fun v w' k1 k2 => hK β v w' k1 (by simp only [VV]; exact k2)) rfl hd ?_
          simp only [execOp, resolve, Sem.run_bind, harr, hd, Result.andThen_ok]
        · split at hs
          · rename_i hfl
            split at hs
            · rename_i ps ts hsn
              cases hs
              refine h.call hfv (h.evs (evs_mono hS hvs)) (.inr ⟨hfl, snapL_mono hO1 _ _ hsn, ho.2⟩) (WkL.refl _) ho.1 (K := K) (dst := dst) (fun v w' k1 k2 => hK β v w' k1 (by simp only [VV]; exact k2)) rfl hd ?_
              simp only [execOp, resolve, Sem.run_bind, harr, hd, Result.andThen_ok]
            · cases hs
          · cases hs
      · rename_i g pre caps vs ts' r hf hvs
        obtain ⟨hfv, pv, cv, hfe, hpv, hcv, hd⟩ := pure_fn hf
        split at hs
        · rename_i ts hp
          cases hs
          refine h.call (ps := []) hfv (h.evs (evs_mono hS hvs)) (.inl hp) ho.2.1 ho.1 (K := K) (dst := dst) (fun v w' k1 k2 => hK β v w' k1 (by simp only [VV]; exact k2)) rfl hd ?_
          simp only [execOp, resolve, Sem.run_bind, harr, hd, Result.andThen_ok]
        · split at hs
          · rename_i hfl
            split at hs
            · rename_i ps ts hsn
              cases hs
              refine h.call hfv (h.evs (evs_mono hS hvs)) (.inr ⟨hfl, snapL_mono hO1 _ _ hsn, ho.2.2⟩) ho.2.1 ho.1 (K := K) (dst := dst) (fun v w' k1 k2 => hK β v w' k1 (by simp only [VV]; exact k2)) rfl hd ?_
              simp only [execOp, resolve, Sem.run_bind, harr, hd, Result.andThen_ok]
            · cases hs
          · cases hs
      · rename_i g pre caps vs rn fa Oi r Oo hf hvs
        obtain ⟨hfv, pv, cv, hfe, hpv, hcv, hd⟩ := pure_fn hf
        exact objs_fn hfe (VVL.map_t hpv) (VVL.map_t hcv) hvs hs
      · rename_i g caps vs rn fa Oi r Oo hf hvs
        have hfv := hev hf
        simp only [VV] at hfv
        obtain ⟨cv, hfe, hcv⟩ := hfv
        exact objs_fn (pvs := []) hfe (by simp only [VVL]) hcv hvs hs
      · cases hs
    · cases hs
end
end Go.Tl
