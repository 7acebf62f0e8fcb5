/-
  Maps: what is kept under which key, told by a list; making, looking up, writing. No statement of the seat is proved here.
-/
import Derived.Test.YtfbkhpfhnimnfaaTlI
import Derived.MapKept
namespace Go.Tl
set_option linter.unusedVariables false
set_option linter.unusedSimpArgs false

/-- The value that a key's tree is of. -/
def valT : T → Option Value
  | .int k n => some (.int k n)
  | .bool b => some (.bool b)
  | .str s => some (.string s)
  | _ => none
theorem valT_reads {w : World} {ok : Nat → Prop} {t : T} {v u : Value} (h : VR w ok t v) (hv : valT t = some u) : v = u := by
  cases t <;> simp only [valT, Option.some.injEq] at hv <;> first | (subst hv; simpa only [VR] using h) | cases hv
theorem valT_inj {t t' : T} {u : Value} (h : valT t = some u) (h' : valT t' = some u) : t = t' := by
  cases t <;> simp [valT] at h <;> cases t' <;> simp [valT] at h' <;> subst h <;> simp_all
mutual
def keyEq : T → T → Bool
  | .int k a, .int k' b => decide (k = k') && decide (a = b)
  | .bool a, .bool b => decide (a = b)
  | .str a, .str b => decide (a = b)
  | .agg xs, .agg ys => keyEqs xs ys
  | _, _ => false
def keyEqs : List T → List T → Bool
  | [], [] => true
  | x :: xs, y :: ys => keyEq x y && keyEqs xs ys
  | _, _ => false
end
/-- A key's type of which the machine can look up and write the keys that G lets through. -/
structure KeyRun (P : Program) (k : TypeId) (G : T → Prop) : Prop where
  eq : ∀ t t', G t → G t' → (keyEq t t' = true ↔ t = t')
  val : ∀ t, G t → ∃ v, valT t = some v
  check : ∀ (w : World) (em : Bool) (t : T) (v : Value), G t → valT t = some v → (Instr.checkKey em 10000 k v).run P w = .ok () w
  find : ∀ (w : World) (t : T) (v : Value) (ms : List MapEntry), G t → valT t = some v → (∀ m ∈ ms, ∃ x, G x ∧ valT x = some m.key) →
    ((Instr.findKey k v ms).run P w = .ok none w ∧ ∀ m ∈ ms, m.key ≠ v) ∨ ∃ j m, (Instr.findKey k v ms).run P w = .ok (some (j, m.val)) w ∧ ms[j]? = some m ∧ m.key = v ∧ ∀ i, i < j → ∀ m', ms[i]? = some m' → m'.key ≠ v
  stays : ∀ (w : World) (t : T) (v : Value), G t → valT t = some v → (Instr.keyThatStays v v).run P w = .ok v w
theorem findNow_first {d : TypeDesc} {k : Value} (hk : MapKept.IsKey d k) : ∀ (l : List MapEntry) (i : Nat), (∀ x ∈ l, MapKept.IsKey d x.key) →
    (Instr.findNow d k l i = some none ∧ ∀ x ∈ l, x.key ≠ k) ∨ ∃ j e, Instr.findNow d k l i = some (some (i + j, e.val)) ∧ l[j]? = some e ∧ e.key = k ∧ ∀ i', i' < j → ∀ m', l[i']? = some m' → m'.key ≠ k
  | [], _, _ => .inl ⟨rfl, by simp⟩
  | e :: es, i, h => by
    obtain ⟨r, hr, hiff⟩ := MapKept.sameNow_of_keys hk (h e (.head _))
    cases r with
    | true => exact .inr ⟨0, e, by simp [Instr.findNow, hr], rfl, (hiff.1 rfl).symm, fun i' hi => by omega⟩
    | false =>
      have hne : e.key ≠ k := fun q => by have := hiff.2 q.symm; cases this
      rcases findNow_first hk es (i + 1) (fun x hx => h x (.tail _ hx)) with ⟨h1, h2⟩ | ⟨j, e', h1, h2, h3, h4⟩
      · exact .inl ⟨by simp [Instr.findNow, hr, h1], fun x hx => by
          cases hx with
          | head => exact hne
          | tail _ hx => exact h2 x hx⟩
      · refine .inr ⟨j + 1, e', by simp [Instr.findNow, hr, h1]; omega, h2, h3, fun i' hi m' hm => ?_⟩
        cases i' with
        | zero => simp at hm; subst hm; exact hne
        | succ i' => exact h4 i' (by omega) m' (by simpa using hm)
def IntKey (q : IntKind) (t : T) : Prop := ∃ n, t = .int q n
theorem keyRun_int {P : Program} {k : TypeId} {q : IntKind} (hk : P.underlying k = some (.int q)) : KeyRun P k (IntKey q) where
  eq t t' ht ht' := by
    obtain ⟨n, rfl⟩ := ht
    obtain ⟨n', rfl⟩ := ht'
    simp [keyEq]
  val t ht := by obtain ⟨n, rfl⟩ := ht; exact ⟨_, rfl⟩
  check w em t v ht hv := by
    obtain ⟨n, rfl⟩ := ht
    simp only [valT, Option.some.injEq] at hv
    subst hv
    exact MapKept.run_checkKey hk (show MapKept.IsKey (.int q) (.int q n) from rfl) em 9999
  find w t v ms ht hv hms := by
    obtain ⟨n, rfl⟩ := ht
    simp only [valT, Option.some.injEq] at hv
    subst hv
    have hks : ∀ m ∈ ms, MapKept.IsKey (.int q) m.key := fun m hm => by
      obtain ⟨x, ⟨n', rfl⟩, hx⟩ := hms m hm
      simp only [valT, Option.some.injEq] at hx
      rw [← hx]; exact rfl
    rcases findNow_first (show MapKept.IsKey (.int q) (.int q n) from rfl) ms 0 hks with ⟨h1, h2⟩ | ⟨j, e, h1, h2, h3, h4⟩
    · exact .inl ⟨MapKept.run_findKey hk h1, h2⟩
    · exact .inr ⟨j, e, by simpa using MapKept.run_findKey hk h1, h2, h3, h4⟩
  stays w t v ht hv := by
    obtain ⟨n, rfl⟩ := ht
    simp only [valT, Option.some.injEq] at hv
    subst hv
    exact MapKept.run_keyThatStays (d := .int q) rfl

/-- What stands under a key. -/
def lookT : List (T × T) → T → Option T
  | [], _ => none
  | (a, b) :: r, k => if keyEq a k = true then some b else lookT r k
/-- A key's value, written. -/
def putT : List (T × T) → T → T → List (T × T)
  | [], k, v => [(k, v)]
  | (a, b) :: r, k, v => if keyEq a k = true then (k, v) :: r else (a, b) :: putT r k v
/-- What a look-up yields. -/
def lookR (ok : Bool) (z : T) : Option T → T
  | some x => if ok then .tup [x, .bool true] else x
  | none => if ok then .tup [z, .bool false] else z

section
variable {P : Program} {E : Env} {β : Names} {N : List Nat} {S : Nat → Option V} {O : Nat → Option Obj} {a : Act} {w : World} {ok : Nat → Prop}

theorem VLP.keys {G : T → Prop} (hG : ∀ t, G t → ∃ v, valT t = some v) : ∀ {es : List (T × T)} {ms : List MapEntry}, VLP w ok es ms → (∀ e ∈ es, G e.1) → ∀ m ∈ ms, ∃ x, G x ∧ valT x = some m.key
  | [], ms, h, _, m, hm => by simp only [VLP] at h; subst h; cases hm
  | (k, x) :: es, ms, h, hg, m, hm => by
    simp only [VLP] at h
    obtain ⟨m0, r, rfl, h1, h2, h3⟩ := h
    rcases List.mem_cons.1 hm with rfl | hm
    · have hk : G k := hg (k, x) List.mem_cons_self
      obtain ⟨v, hv⟩ := hG k hk
      exact ⟨k, hk, by rw [valT_reads h1 hv]; exact hv⟩
    · exact VLP.keys hG h3 (fun e he => hg e (List.mem_cons_of_mem _ he)) m hm
theorem VLP.key_ne {G : T → Prop} (hG : ∀ t, G t → ∃ v, valT t = some v) {k t : T} {u v : Value} (h : VR w ok k u) (hk : G k) (ht : valT t = some v) : u = v ↔ k = t := by
  obtain ⟨v', hv'⟩ := hG k hk
  have e := valT_reads h hv'
  subst e
  constructor
  · rintro rfl; exact valT_inj hv' ht
  · rintro rfl; rw [hv'] at ht; exact Option.some.inj ht
/-- No entry has the key: none is told. -/
theorem lookT_none {G : T → Prop} (hG : ∀ t, G t → ∃ v, valT t = some v) (hE : ∀ t t', G t → G t' → (keyEq t t' = true ↔ t = t')) {t : T} {v : Value} (ht : valT t = some v) (hgt : G t) : ∀ {es : List (T × T)} {ms : List MapEntry}, VLP w ok es ms → (∀ e ∈ es, G e.1) → (∀ m ∈ ms, m.key ≠ v) → lookT es t = none ∧ ∀ y, putT es t y = es ++ [(t, y)]
  | [], ms, h, _, _ => ⟨rfl, fun y => rfl⟩
  | (k, x) :: es, ms, h, hg, hn => by
    simp only [VLP] at h
    obtain ⟨m0, r, rfl, h1, h2, h3⟩ := h
    have hk : G k := hg (k, x) List.mem_cons_self
    have hne : ¬ keyEq k t = true := fun e => hn m0 List.mem_cons_self ((VLP.key_ne hG h1 hk ht).2 ((hE _ _ hk hgt).1 e))
    obtain ⟨i1, i2⟩ := lookT_none hG hE ht hgt h3 (fun e he => hg e (List.mem_cons_of_mem _ he)) (fun m hm => hn m (List.mem_cons_of_mem _ hm))
    exact ⟨by rw [lookT, if_neg hne]; exact i1, fun y => by rw [putT, if_neg hne, i2]; rfl⟩
/-- The first entry with the key is what is told. -/
theorem lookT_some {G : T → Prop} (hG : ∀ t, G t → ∃ v, valT t = some v) (hE : ∀ t t', G t → G t' → (keyEq t t' = true ↔ t = t')) {t : T} {v : Value} (ht : valT t = some v) (hgt : G t) : ∀ {es : List (T × T)} {ms : List MapEntry} {j : Nat} {m : MapEntry}, VLP w ok es ms → (∀ e ∈ es, G e.1) → ms[j]? = some m → m.key = v → (∀ i, i < j → ∀ m', ms[i]? = some m' → m'.key ≠ v) →
    ∃ x, lookT es t = some x ∧ VR w ok x m.val ∧ (∀ y, putT es t y = es.set j (t, y)) ∧ j < es.length
  | [], ms, j, m, h, _, hj, _, _ => by simp only [VLP] at h; subst h; simp at hj
  | (k, x) :: es, ms, j, m, h, hg, hj, hm, hf => by
    simp only [VLP] at h
    obtain ⟨m0, r, rfl, h1, h2, h3⟩ := h
    have hk : G k := hg (k, x) List.mem_cons_self
    cases j with
    | zero =>
      simp at hj
      subst hj
      have he : keyEq k t = true := (hE _ _ hk hgt).2 ((VLP.key_ne hG h1 hk ht).1 hm)
      exact ⟨x, by rw [lookT, if_pos he], h2, fun y => by rw [putT, if_pos he]; rfl, by simp⟩
    | succ j =>
      have hne : ¬ keyEq k t = true := fun e => hf 0 (by omega) m0 rfl ((VLP.key_ne hG h1 hk ht).2 ((hE _ _ hk hgt).1 e))
      obtain ⟨y, i1, i2, i3, i4⟩ := lookT_some hG hE ht hgt h3 (fun e he => hg e (List.mem_cons_of_mem _ he)) (j := j) (m := m) (by simpa using hj) hm (fun i hi m' hm' => hf (i + 1) (by omega) m' (by simpa using hm'))
      exact ⟨y, by rw [lookT, if_neg hne]; exact i1, i2, fun z => by rw [putT, if_neg hne, i3]; rfl, by simpa using i4⟩
theorem VLP.append : ∀ {es es' : List (T × T)} {ms ms' : List MapEntry}, VLP w ok es ms → VLP w ok es' ms' → VLP w ok (es ++ es') (ms ++ ms')
  | [], es', ms, ms', h, h' => by simp only [VLP] at h; subst h; simpa using h'
  | (k, x) :: es, es', ms, ms', h, h' => by
    simp only [VLP, List.cons_append] at h ⊢
    obtain ⟨m, r, rfl, h1, h2, h3⟩ := h
    exact ⟨m, r ++ ms', rfl, h1, h2, VLP.append h3 h'⟩
theorem VLP.set : ∀ {es : List (T × T)} {ms : List MapEntry} {j : Nat} {e : T × T} {m : MapEntry}, VLP w ok es ms → VR w ok e.1 m.key → VR w ok e.2 m.val → VLP w ok (es.set j e) (ms.set j m)
  | [], ms, j, e, m, h, _, _ => by simp only [VLP] at h; subst h; simp [VLP]
  | (k, x) :: es, ms, j, e, m, h, h1, h2 => by
    simp only [VLP] at h
    obtain ⟨m0, r, rfl, g1, g2, g3⟩ := h
    cases j with
    | zero => simp only [List.set_cons_zero, VLP]; exact ⟨m, r, rfl, h1, h2, g3⟩
    | succ j => simp only [List.set_cons_succ, VLP]; exact ⟨m0, r.set j m, rfl, g1, g2, VLP.set g3 h1 h2⟩

/-- A new map. -/
theorem does_makeMap (h : R E β N S O a w) {t : TypeId} {j : Nat} (hj : j ∉ N) {p : Prop} : Does P E N S O a (Instr.makeMap t none) w ⟨p, .mapr j, [(j, some (.map []))], [j]⟩ := by
  obtain ⟨h1, h2⟩ := h.allocObj j 0 hj (.map #[] 0) (.map []) (by
    simp only [OR]
    exact ⟨#[], 0, heap_push_new _ _, by simp only [VLP], by simp⟩)
  refine ⟨.map (some w.heap.size), _, _, ?_, h1, by simp only [VV]; exact ⟨_, _, upd_same _ _ _, rfl⟩⟩
  rfl
/-- The tree of a type's zero value. -/
def zeroT (y : Ty) : T := if y.k.agg then .agg y.zero else y.zero.headD .undef
theorem run_zero {e : TypeId} {y : Ty} (hy : chkTy P e y = true) (w : World) (ok : Nat → Prop) : ∃ z, (zeroValue e).run P w = .ok z w ∧ VR w ok (zeroT y) z := by
  obtain ⟨i, z, hi, _, _, hz, hzs, _, h1, h2⟩ := chkTy_info hy
  refine ⟨z, by simp [zeroValue, typeInfo, hi, hz], ?_⟩
  unfold zeroT
  have hr := chkVs_reads (w := w) (ok := ok) hzs
  cases ha : y.k.agg with
  | true =>
    obtain ⟨cs, rfl⟩ := h1 ha
    rw [if_pos rfl]
    simp only [VR]
    exact ⟨cs, rfl, chkVs_ones hzs, hr⟩
  | false =>
    rw [h2 ha] at hr
    rw [if_neg (by decide)]
    cases hzz : y.zero with
    | nil => rw [hzz] at hr; simp [VL] at hr
    | cons t r =>
      rw [hzz] at hr
      simp only [VL] at hr
      obtain ⟨u, us, he, hu, _⟩ := hr
      have : z = u := by simpa using (List.cons.inj (by simpa using he)).1
      subst this
      exact hu
/-- A look-up. -/
theorem run_lookup (h : R E β N S O a w) {t k e : TypeId} {y ye : Ty} (hy : chkTy P t y = true) (hk : y.k = .map k e) (hye : chkTy P e ye = true) {G : T → Prop} (K : KeyRun P k G)
    {i : Nat} {es : List (T × T)} (hO : O i = some (.map es)) (hG : ∀ x ∈ es, G x.1) {kt : T} (hkt : G kt) {xv kv : Value} (hx : VV w (Imm E O β w) β (.mapr i) xv) (hkv : VR w (Imm E O β w) kt kv) (c : Bool) :
    ∃ u, (Instr.lookup t xv kv c).run P w = .ok u w ∧ VR w (Imm E O β w) (lookR c (zeroT ye) (lookT es kt)) u := by
  have hc := chkTy_kind hy
  rw [hk] at hc
  have hu := chkK_map hc
  simp only [VV] at hx
  obtain ⟨b, z0, hb, rfl⟩ := hx
  obtain ⟨b2, z2, hb2, hlt, _, hor⟩ := h.objS hO hb
  rw [hb] at hb2; cases hb2
  simp only [OR] at hor
  obtain ⟨ms, clock, hm, hv, hborn⟩ := hor
  obtain ⟨v, hval⟩ := K.val kt hkt
  have := valT_reads hkv hval
  subst this
  have hkeys := VLP.keys K.val hv hG
  have hck := fun em => K.check w em kt kv hkt hval
  obtain ⟨zv, hz1, hz2⟩ := run_zero (P := P) hye w (Imm E O β w)
  rcases K.find w kt kv ms.toList hkt hval hkeys with ⟨f1, f2⟩ | ⟨j, m, f1, f2, f3, f4⟩
  · refine ⟨if c then .tuple #[zv, .bool false] else zv, ?_, ?_⟩
    · simp [Instr.lookup, run_underlying hu, MapKept.run_getObj_map hm, hck, f1, hz1, Result.andThen]
    · rw [(lookT_none K.val K.eq hval hkt hv hG f2).1, lookR]
      cases c with
      | false => exact hz2
      | true =>
        simp only [if_true, VR, VL]
        exact ⟨_, rfl, zv, [.bool false], rfl, hz2, .bool false, [], rfl, rfl, rfl⟩
  · obtain ⟨x, g1, g2, g3, g4⟩ := lookT_some K.val K.eq hval hkt hv hG f2 f3 f4
    refine ⟨if c then .tuple #[m.val, .bool true] else m.val, ?_, ?_⟩
    · simp [Instr.lookup, run_underlying hu, MapKept.run_getObj_map hm, hck, f1, Result.andThen]
    · rw [g1, lookR]
      cases c with
      | false => exact g2
      | true =>
        simp only [if_true, VR, VL]
        exact ⟨_, rfl, m.val, [.bool true], rfl, g2, .bool true, [], rfl, rfl, rfl⟩
/-- A key's value is written. -/
theorem does_mapUpdate (h : R E β N S O a w) {t k e : TypeId} {y : Ty} (hy : chkTy P t y = true) (hk : y.k = .map k e) {G : T → Prop} (K : KeyRun P k G)
    {i : Nat} {es : List (T × T)} (hO : O i = some (.map es)) (hG : ∀ x ∈ es, G x.1) {kt vt : T} (hkt : G kt) {xv kv vv : Value} (hx : VV w (Imm E O β w) β (.mapr i) xv) (hkv : VR w (Imm E O β w) kt kv) (hvv : VR w (Imm E O β w) vt vv) :
    ∃ w', (Instr.mapUpdate t xv kv vv).run P w = .ok () w' ∧ R E β N S (upd O i (some (.map (putT es kt vt)))) a w' := by
  have hc := chkTy_kind hy
  rw [hk] at hc
  have hu := chkK_map hc
  simp only [VV] at hx
  obtain ⟨b, z0, hb, rfl⟩ := hx
  obtain ⟨b2, z2, hb2, hlt, hbx, hor⟩ := h.objS hO hb
  rw [hb] at hb2; cases hb2
  simp only [OR] at hor
  obtain ⟨ms, clock, hm, hv, hborn⟩ := hor
  obtain ⟨v, hval⟩ := K.val kt hkt
  have := valT_reads hkv hval
  subst this
  have hkeys := VLP.keys K.val hv hG
  have hck := fun em => K.check w em kt kv hkt hval
  have hst := K.stays w kt kv hkt hval
  have fin : ∀ (ms' : Array MapEntry) (clock' : Nat), (Instr.mapUpdate t (.map (some b)) kv vv).run P w = .ok () { w with heap := w.heap.setIfInBounds b (.map ms' clock') } →
      VLP w (Imm E O β w) (putT es kt vt) ms'.toList → (∀ m ∈ ms'.toList, m.born < clock') →
      ∃ w', (Instr.mapUpdate t (.map (some b)) kv vv).run P w = .ok () w' ∧ R E β N S (upd O i (some (.map (putT es kt vt)))) a w' := by
    intro ms' clock' hrun hvl hbo
    obtain ⟨q1, q2⟩ := MapKept.heap_set (o' := .map ms' clock') hm
    have hl : Lasts w (Imm E O β w) { w with heap := w.heap.setIfInBounds b (.map ms' clock') } (Imm E O β w) := ⟨fun _ h => h, fun c hc => q2 c (fun e => hc.2.2 i _ _ hO hb (by simp [e]))⟩
    refine ⟨_, hrun, (h.write (w' := { w with heap := w.heap.setIfInBounds b (.map ms' clock') }) i b z0 _ (.map (putT es kt vt)) hO hb rfl rfl rfl (by simp) q2 ?_).1⟩
    simp only [OR]
    exact ⟨ms', clock', q1, VLP.lasts hl _ _ hvl, hbo⟩
  rcases K.find w kt kv ms.toList hkt hval hkeys with ⟨f1, f2⟩ | ⟨j, m, f1, f2, f3, f4⟩
  · refine fin (ms.push ⟨kv, vv, clock⟩) (clock + 1) ?_ ?_ ?_
    · simp [Instr.mapUpdate, run_underlying hu, MapKept.run_getObj_map hm, hck, f1, MapKept.run_setObj_map _ hm, Result.andThen]
    · rw [(lookT_none K.val K.eq hval hkt hv hG f2).2, Array.toList_push]
      exact VLP.append hv (by simp only [VLP]; exact ⟨_, [], rfl, hkv, hvv, rfl⟩)
    · intro m hm'
      rw [Array.toList_push] at hm'
      rcases List.mem_append.1 hm' with h1 | h1
      · exact Nat.lt_succ_of_lt (hborn m h1)
      · simp at h1; subst h1; exact Nat.lt_succ_self _
  · obtain ⟨x, g1, g2, g3, g4⟩ := lookT_some K.val K.eq hval hkt hv hG f2 f3 f4
    have hj : ms[j]? = some m := by simpa using f2
    have hmod : (ms.modify j fun e => { e with key := kv, val := vv }).toList = ms.toList.set j { m with key := kv, val := vv } := by
      rw [Array.toList_modify]
      have hlt : j < ms.toList.length := (List.getElem?_eq_some_iff.1 f2).1
      exact ChangeMaps.modify_eq_set _ _ _ _ f2
    refine fin (ms.modify j fun e => { e with key := kv, val := vv }) clock ?_ ?_ ?_
    · simp [Instr.mapUpdate, run_underlying hu, MapKept.run_getObj_map hm, hck, f1, hj, f3, hst, MapKept.run_setObj_map _ hm, Result.andThen]
    · rw [hmod, g3]
      exact VLP.set hv hkv hvv
    · intro m' hm'
      rw [hmod] at hm'
      rcases List.mem_or_eq_of_mem_set hm' with h1 | h1
      · exact hborn m' h1
      · subst h1; exact hborn m (List.mem_of_getElem? f2)
/-- A number out of an array of numbers. -/
theorem run_index1 {t e : TypeId} {y ye : Ty} (hy : chkTy P t y = true) {len : Nat} (hk : y.k = .array len e 1 false) (hye : chkTy P e ye = true) {q : IntKind} (hq : ye.k = .int q) {kx : IntKind} {n : Int} {cs : List T} (hp : 0 ≤ n ∧ n < len ∧ n.toNat < cs.length)
    {v : Value} (hv : VR w ok (.agg cs) v) : ∃ u, (Instr.index t v (.int kx n)).run P w = .ok u w ∧ VR w ok (cs.getD n.toNat .undef) u := by
  have hc := chkTy_kind hy
  rw [hk] at hc
  have hce := chkTy_kind hye
  rw [hq] at hce
  have hue := chkK_int hce
  obtain ⟨hu, h3, hg⟩ := chkK_array hc
  obtain ⟨ifo, hi, his⟩ : ∃ i, P.info? e = some i ∧ i.size = 1 := by
    unfold sizeP at h3
    cases hi : P.info? e with
    | none => simp [hi] at h3
    | some i => exact ⟨i, rfl, by simpa [hi] using h3⟩
  simp only [VR] at hv
  obtain ⟨vs, rfl, h1, h2⟩ := hv
  have hag : (isAgg e).run P w = .ok false w := by simp [isAgg, run_underlying hue]
  obtain ⟨u, g1, g2⟩ := VL.get h2 n.toNat (cs.getD n.toNat .undef) (by rw [List.getD_eq_getElem?_getD, List.getElem?_eq_getElem hp.2.2]; rfl)
  refine ⟨u, ?_, g2⟩
  have g3 : vs[n.toNat]? = some u := by simpa using g1
  simp [Instr.index, asIntOf, run_underlying hu, hp.1, hp.2.1, part, hag, sizeOf, typeInfo, hi, his, g3]
end
end Go.Tl
