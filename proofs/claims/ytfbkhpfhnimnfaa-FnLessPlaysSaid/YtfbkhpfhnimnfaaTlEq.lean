/-
  Structs compared: of integers, bools and strings. No statement of the seat is proved here.
-/
import Derived.Test.YtfbkhpfhnimnfaaTlM
import Derived.ChangeKeysEq
import Derived.Laws.StructEq
namespace Go.Tl
set_option linter.unusedVariables false
set_option linter.unusedSimpArgs false

def eqCells : List T → List T → Option Bool
  | [], [] => some true
  | .int k a :: r, .int k' b :: r' => if k = k' then (eqCells r r').map fun c => (a == b) && c else none
  | .str a :: r, .str b :: r' => (eqCells r r').map fun c => (a.toList == b.toList) && c
  | .bool a :: r, .bool b :: r' => (eqCells r r').map fun c => (a == b) && c
  | _, _ => none
def chkEqF (P : Program) : List Field → Nat → List T → Bool
  | [], _, [] => true
  | f :: fs, i, x :: xs => f.name != "_" && f.offset == i && (match P.underlying f.type, x with
    | some (.int k), .int k' _ => decide (k = k')
    | some .string, .str _ => true
    | some .bool, .bool _ => true
    | _, _ => false) && chkEqF P fs (i + 1) xs
  | _, _, _ => false
def chkInts : List T → Bool
  | [] => true
  | .int .i64 _ :: xs => chkInts xs
  | _ :: _ => false
def chkEq (P : Program) (t : TypeId) (xs : List T) : Bool :=
  !P.stoodInHeld t && !P.eqGuardType P.depth t && (match P.underlying t with
  | some (.struct fs) => chkEqF P fs.toList 0 xs
  | some (.array n e) => (match P.underlying e, P.info? e with
    | some (.int .i64), some i => P.plainKey e && P.cellsOf e == 1 && decide (n = xs.length) && chkInts xs
    | _, _ => false)
  | _ => false)
def isRowD : TypeDesc → Bool
  | .struct _ | .array _ _ => true
  | _ => false
theorem run_part_one {P : Program} {t : TypeId} {d : TypeDesc} (ht : P.underlying t = some d) (hd : isRowD d = false) {cs : Array Value} {i : Nat} {v : Value} (hv : cs[i]? = some v) (w : World) : (part t cs i).run P w = .ok v w := by
  cases d <;> simp [isRowD] at hd <;> simp [part, isAgg, run_underlying ht, hv]
theorem run_eqFields {P : Program} {w : World} {ok : Nat → Prop} {A B : Array Value} (d : Nat) : ∀ (fs : List Field) (i : Nat) (xs ys : List T) (us vs : List Value) (b : Bool), chkEqF P fs i xs = true → A.toList.drop i = us → B.toList.drop i = vs → VL w ok xs us → VL w ok ys vs → eqCells xs ys = some b →
    (Op.eqFields (d + 1) A B fs).run P w = .ok b w
  | [], i, xs, ys, us, vs, b, hc, ha, hb, hx, hy, he => by
    cases xs with
    | cons x xs => simp [chkEqF] at hc
    | nil =>
      cases ys with
      | cons y ys => simp [eqCells] at he
      | nil =>
        simp only [eqCells, Option.some.injEq] at he
        subst he
        simp [Op.eqFields]
  | f :: fs, i, [], ys, us, vs, b, hc, ha, hb, hx, hy, he => by simp [chkEqF] at hc
  | f :: fs, i, x :: xs, [], us, vs, b, hc, ha, hb, hx, hy, he => by cases x <;> simp [eqCells] at he
  | f :: fs, i, x :: xs, y :: ys, us, vs, b, hc, ha, hb, hx, hy, he => by
    simp only [chkEqF, Bool.and_eq_true, bne_iff_ne, ne_eq, beq_iff_eq] at hc
    obtain ⟨⟨⟨hn, ho⟩, hk⟩, hr⟩ := hc
    simp only [VL] at hx hy
    obtain ⟨u, us', rfl, hu, hxs⟩ := hx
    obtain ⟨v, vs', rfl, hv, hys⟩ := hy
    have ga : A[i]? = some u := by
      have := congrArg (·[0]?) ha
      simpa [List.getElem?_drop] using this
    have gb : B[i]? = some v := by
      have := congrArg (·[0]?) hb
      simpa [List.getElem?_drop] using this
    have ta : A.toList.drop (i + 1) = us' := by rw [← List.drop_drop, ha]; rfl
    have tb : B.toList.drop (i + 1) = vs' := by rw [← List.drop_drop, hb]; rfl
    have rest : ∀ c, eqCells xs ys = some c → (Op.eqFields (d + 1) A B fs).run P w = .ok c w := fun c hcc => run_eqFields d fs (i + 1) xs ys us' vs' c hr ta tb hxs hys hcc
    have step : ∀ (d' : TypeDesc), P.underlying f.type = some d' → isRowD d' = false → ∀ (e c : Bool), (Op.equalIn (d + 1) f.type u v).run P w = .ok e w → eqCells xs ys = some c → (Op.eqFields (d + 1) A B (f :: fs)).run P w = .ok (e && c) w := by
      intro d' hd' ha' e c he' hc'
      simp only [Op.eqFields, ne_eq, hn, not_false_eq_true, if_true, Sem.run_bind, ho, run_part_one hd' ha' ga, run_part_one hd' ha' gb, Result.andThen_ok, he']
      cases e
      · simp
      · simp [rest c hc']
    split at hk
    · rename_i k k' a hu'
      simp only [decide_eq_true_eq] at hk
      subst hk
      cases y <;> simp only [eqCells, reduceCtorEq] at he
      rename_i k2 b2
      simp only [Option.ite_none_right_eq_some, Option.map_eq_some_iff] at he
      obtain ⟨rfl, c, hcc, rfl⟩ := he
      simp only [VR] at hu hv
      subst hu; subst hv
      exact step _ hu' rfl _ _ (by simp [Op.equalIn, run_underlying hu']) hcc
    · rename_i s hu'
      cases y <;> simp only [eqCells, reduceCtorEq] at he
      rename_i s2
      simp only [Option.map_eq_some_iff] at he
      obtain ⟨c, hcc, rfl⟩ := he
      simp only [VR] at hu hv
      subst hu; subst hv
      exact step _ hu' rfl _ _ (by simp [Op.equalIn, run_underlying hu', beq_toListBytes]) hcc
    · rename_i s hu'
      cases y <;> simp only [eqCells, reduceCtorEq] at he
      rename_i s2
      simp only [Option.map_eq_some_iff] at he
      obtain ⟨c, hcc, rfl⟩ := he
      simp only [VR] at hu hv
      subst hu; subst hv
      exact step _ hu' rfl _ _ (by simp [Op.equalIn, run_underlying hu']) hcc
    · cases hk
theorem run_eqItems {P : Program} {w : World} {ok : Nat → Prop} {A B : Array Value} {d : Nat} {e : TypeId} (he : P.underlying e = some (.int .i64)) (pe : P.plainKey e = true) : ∀ (xs ys : List T) (i : Nat) (us vs : List Value) (b : Bool), chkInts xs = true → A.toList.drop i = us → B.toList.drop i = vs → VL w ok xs us → VL w ok ys vs → eqCells xs ys = some b →
    (Op.eqItems (d + 1) e 1 A B (List.range' i xs.length)).run P w = .ok b w
  | [], ys, i, us, vs, b, hc, ha, hb, hx, hy, hq => by
    cases ys with
    | cons y ys => simp [eqCells] at hq
    | nil =>
      simp only [eqCells, Option.some.injEq] at hq
      subst hq
      simp [Op.eqItems]
  | x :: xs, [], i, us, vs, b, hc, ha, hb, hx, hy, hq => by cases x <;> simp [eqCells] at hq
  | x :: xs, y :: ys, i, us, vs, b, hc, ha, hb, hx, hy, hq => by
    cases x with
    | int k n =>
      cases k <;> simp only [chkInts, Bool.false_eq_true] at hc
      cases y with
      | int k' m =>
        simp only [eqCells, Option.ite_none_right_eq_some, Option.map_eq_some_iff] at hq
        obtain ⟨rfl, c, hcc, rfl⟩ := hq
        simp only [VL] at hx hy
        obtain ⟨u, us', rfl, hu, hxs⟩ := hx
        obtain ⟨v, vs', rfl, hv, hys⟩ := hy
        simp only [VR] at hu hv
        subst hu; subst hv
        have ga : A[i]? = some (Value.int .i64 n) := by
          have h1 := congrArg (·[0]?) ha
          simpa [List.getElem?_drop] using h1
        have gb : B[i]? = some (Value.int .i64 m) := by
          have h1 := congrArg (·[0]?) hb
          simpa [List.getElem?_drop] using h1
        have ta : A.toList.drop (i + 1) = us' := by rw [← List.drop_drop, ha]; rfl
        have tb : B.toList.drop (i + 1) = vs' := by rw [← List.drop_drop, hb]; rfl
        have pa : (part e A (i * 1)).run P w = .ok (Value.int .i64 n) w := run_part_plain w pe (by rw [Nat.mul_one]; exact ga)
        have pb : (part e B (i * 1)).run P w = .ok (Value.int .i64 m) w := run_part_plain w pe (by rw [Nat.mul_one]; exact gb)
        have ih := run_eqItems (d := d) he pe xs ys (i + 1) us' vs' c hc ta tb hxs hys hcc
        rw [List.length_cons, List.range'_succ]
        simp only [Op.eqItems, Sem.run_bind, pa, pb, Result.andThen_ok, run_equalIn_int w d e .i64 .i64 n m he]
        cases hnm : (n == m) with
        | true => simp [ih]
        | false => simp
      | _ => simp [eqCells] at hq
    | _ => simp [chkInts] at hc
theorem run_aggEq {P : Program} {w : World} {ok : Nat → Prop} {β : Names} {t : TypeId} {xs ys : List T} {b : Bool} (hc : chkEq P t xs = true) (he : eqCells xs ys = some b) {v v' : Value} (hv : VV w ok β (.t (.agg xs)) v) (hv' : VV w ok β (.t (.agg ys)) v') {op : BinOp} {r : T} {p : Prop} (hop : eqT op b = some (p, r)) {xo yo : Operand} :
    ∃ u, (do eqGuard op t xo yo v v'; binOp op t v v' : Sem Value).run P w = .ok u w ∧ VR w ok r u := by
  simp only [chkEq, Bool.and_eq_true, Bool.not_eq_true'] at hc
  obtain ⟨⟨h1, h2⟩, h3⟩ := hc
  cases hu : P.underlying t with
  | none => simp [hu] at h3
  | some d =>
    cases d with
    | struct fs =>
      simp only [hu] at h3
      simp only [VV, VR] at hv hv'
      obtain ⟨A, rfl, _, hA⟩ := hv
      obtain ⟨B, rfl, _, hB⟩ := hv'
      have hfs : P.fieldsOf t = fs := by simp [Program.fieldsOf, hu]
      have heq : (Op.equal t (.agg A) (.agg B)).run P w = .ok b w := by
        show (Op.equalIn (9999 + 1) t (.agg A) (.agg B)).run P w = _
        rw [run_equalIn_struct w 9999 t A B (by rw [hfs]; exact hu) h1, hfs]
        exact run_eqFields 9998 fs.toList 0 xs ys A.toList B.toList b h3 rfl rfl hA hB he
      have guard : (eqGuard op t xo yo (.agg A) (.agg B)).run P w = .ok () w := by
        cases op <;> simp [eqGuard, h2]
      simp only [Sem.run_bind, guard, Result.andThen_ok]
      cases op <;> simp only [eqT, Option.some.injEq, Prod.mk.injEq, reduceCtorEq] at hop
      · obtain ⟨_, rfl⟩ := hop
        exact ⟨.bool b, by simp [binOp, heq], by simp only [VR]⟩
      · obtain ⟨_, rfl⟩ := hop
        exact ⟨.bool (!b), by simp [binOp, heq], by simp only [VR]⟩
    | array n e =>
      simp only [hu] at h3
      cases he0 : P.underlying e with
      | none => simp [he0] at h3
      | some de =>
        cases hi0 : P.info? e with
        | none => cases de <;> simp [he0, hi0] at h3
        | some ie =>
          cases de with
          | int k =>
            cases k with
            | i64 =>
              simp only [he0, hi0, Bool.and_eq_true, beq_iff_eq, decide_eq_true_eq] at h3
              obtain ⟨⟨⟨g1, g2⟩, g3⟩, g4⟩ := h3
              simp only [VV, VR] at hv hv'
              obtain ⟨A, rfl, _, hA⟩ := hv
              obtain ⟨B, rfl, _, hB⟩ := hv'
              have heq : (Op.equal t (.agg A) (.agg B)).run P w = .ok b w := by
                show (Op.equalIn (9999 + 1) t (.agg A) (.agg B)).run P w = _
                rw [run_equalIn_array w 9999 A B hu hi0, g2, g3, List.range_eq_range']
                exact run_eqItems (d := 9998) he0 g1 xs ys 0 A.toList B.toList b g4 rfl rfl hA hB he
              have guard : (eqGuard op t xo yo (.agg A) (.agg B)).run P w = .ok () w := by
                cases op <;> simp [eqGuard, h2]
              simp only [Sem.run_bind, guard, Result.andThen_ok]
              cases op <;> simp only [eqT, Option.some.injEq, Prod.mk.injEq, reduceCtorEq] at hop
              · obtain ⟨_, rfl⟩ := hop
                exact ⟨.bool b, by simp [binOp, heq], by simp only [VR]⟩
              · obtain ⟨_, rfl⟩ := hop
                exact ⟨.bool (!b), by simp [binOp, heq], by simp only [VR]⟩
            | _ => simp [he0, hi0] at h3
          | _ => simp [he0, hi0] at h3
    | _ => simp [hu] at h3
/-- Two values of a type whose cells are the same integers are equal: to be shown of a type once. -/
def EqSame (P : Program) (t : TypeId) (n : Nat) : Prop := ∀ (as : List Int) (op : BinOp) (xo yo : Operand) (w : World) (p : Prop) (r : T), as.length = n → eqT op true = some (p, r) →
  ∃ c, r = .bool c ∧ (do eqGuard op t xo yo (.agg (as.map (Value.int .i64)).toArray) (.agg (as.map (Value.int .i64)).toArray); binOp op t (.agg (as.map (Value.int .i64)).toArray) (.agg (as.map (Value.int .i64)).toArray) : Sem Value).run P w = .ok (.bool c) w
theorem VL_ints_inv {w : World} {ok : Nat → Prop} {k : IntKind} : ∀ (as : List Int) (us : List Value), VL w ok (as.map (T.int k)) us → us = as.map (Value.int k)
  | [], us, h => by simpa only [List.map_nil, VL] using h
  | a :: as, us, h => by
    simp only [List.map_cons, VL] at h
    obtain ⟨u, us', rfl, h1, h2⟩ := h
    simp only [VR] at h1
    rw [h1, VL_ints_inv as us' h2]; rfl
theorem agg_ints {w : World} {ok : Nat → Prop} {β : Names} {as : List Int} {v : Value} (h : VV w ok β (.t (.agg (as.map (T.int .i64)))) v) : v = .agg (as.map (Value.int .i64)).toArray := by
  simp only [VV, VR] at h
  obtain ⟨A, rfl, _, hA⟩ := h
  have := VL_ints_inv as A.toList hA
  rw [← this]
theorem run_aggSame {P : Program} {w : World} {ok : Nat → Prop} {β : Names} {t : TypeId} {xs ys : List T} {as : List Int} (h1 : xs = as.map (T.int .i64)) (h2 : ys = as.map (T.int .i64)) (hs : EqSame P t as.length) {v v' : Value} (hv : VV w ok β (.t (.agg xs)) v) (hv' : VV w ok β (.t (.agg ys)) v') {op : BinOp} {r : T} {p : Prop} (hop : eqT op true = some (p, r)) {xo yo : Operand} :
    ∃ u, (do eqGuard op t xo yo v v'; binOp op t v v' : Sem Value).run P w = .ok u w ∧ VR w ok r u := by
  subst h1; subst h2
  rw [agg_ints hv, agg_ints hv']
  obtain ⟨c, rfl, hr⟩ := hs as op xo yo w p r rfl hop
  exact ⟨_, hr, by simp only [VR]⟩
end Go.Tl
