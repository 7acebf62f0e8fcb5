/-
  What a tree that a law takes reads as. No statement of the seat is proved here.
-/
import Derived.Test.YtpmifocfmoekdaaTlY
import Derived.Test.YtpmifocfmoekdaaTlTree
namespace Go.Tl
open Go.RowKit Go.WideShapes Go.ChangeShapes Go.ChangeAt
set_option linter.unusedVariables false
set_option linter.unusedSimpArgs false
section
variable {H : Type} {enc : TypeId × Value → H} {P : Program} {w : World} {sp : Nat → Bool} {held : Bool}
theorem getD_nodes (xs : List Nd) (i : Nat) (j : Nat) (hj : j < 3) (hi : i < xs.length) : (List.flatMap nodeC xs)[i * 3 + j]? = (nodeC (xs.getD i (0, 0, 0)))[j]? := by
  have h1 : (List.flatMap nodeC xs)[i * 3 + j]? = (List.drop (i * 3) (List.flatMap nodeC xs))[j]? := by rw [List.getElem?_drop]
  rw [h1, drop_node, List.drop_eq_getElem_cons hi, List.flatMap_cons, List.getElem?_append_left (by simpa [nodeC] using hj), List.getD_eq_getElem?_getD, List.getElem?_eq_getElem hi]
  rfl
theorem rd_nodes {t e k : TypeId} {f0 f1 f2 : Field} {fuel : Nat} {cs : List Value} {x : DataW H × List MemPlace} (ht : P.underlying t = some (.slice e)) (he : P.underlying e = some (.struct #[f0, f1, f2])) (hk : P.underlying k = some (.int .i64))
    (h0 : f0.type = k ∧ f0.offset = 0) (h1 : f1.type = k ∧ f1.offset = 1) (h2 : f2.type = k ∧ f2.offset = 2) (ce : P.cellsOf e = 3) (ck : P.cellsOf k = 1)
    (h : DataW.trod enc P w 0 sp held fuel t cs = some x) : ∃ (v : Value) (xs : List Nd), cs = [v] ∧ v.oneCell' = true ∧ VR w (Old w) (.list xs.length 3 (List.flatMap nodeC xs)) v ∧ xs.length ≤ maxLen := by
  rcases DataW.trod_slice ht h with ⟨rfl, _⟩ | ⟨a, len, cap, elems, rest, n, _, rfl, _, _, hl, hm, hlen, hel, _, _⟩
  · exact ⟨_, [], rfl, rfl, by simp only [VR]; exact ⟨rfl, none, 0, rfl, Nat.le_refl _, Nat.zero_le _, .inl rfl⟩, Nat.zero_le _⟩
  · have each : ∀ i, i < len → ∃ p : Nd, w.cell? (a.add (i * 3)) = some (.int .i64 p.1) ∧ w.cell? ((a.add (i * 3)).add 1) = some (.int .i64 p.2.1) ∧ w.cell? ((a.add (i * 3)).add 2) = some (.int .i64 p.2.2) := fun i hi => by
      have := hel i hi
      rw [ce] at this
      obtain ⟨y, hy⟩ : ∃ y, elems[i]? = some y := ⟨_, List.getElem?_eq_getElem (by omega)⟩
      rw [hy] at this
      obtain ⟨cs', g1, g2⟩ := Option.bind_eq_some_iff.1 this
      obtain ⟨hl', n', hf⟩ := rd_struct he g2
      obtain ⟨y0, k0⟩ := hf 0 f0 rfl
      obtain ⟨y1, k1⟩ := hf 1 f1 rfl
      obtain ⟨y2, k2⟩ := hf 2 f2 rfl
      rw [h0.1, h0.2, ck] at k0
      rw [h1.1, h1.2, ck] at k1
      rw [h2.1, h2.2, ck] at k2
      obtain ⟨q0, e0, _⟩ := DataW.trod_int hk k0
      obtain ⟨q1, e1, _⟩ := DataW.trod_int hk k1
      obtain ⟨q2, e2, _⟩ := DataW.trod_int hk k2
      have cell : ∀ j, j < 3 → w.cell? ((a.add (i * 3)).add j) = cs'[j]? := fun j hj => (World.cells?_some g1).2.2 j hj
      have g : ∀ (j : Nat) (q : Int), (cs'.drop j).take 1 = [.int .i64 q] → cs'[j]? = some (.int .i64 q) := fun j q hh => by
        have := congrArg (·[0]?) hh
        simpa [List.getElem?_take, List.getElem?_drop] using this
      refine ⟨(q0, q1, q2), ?_, ?_, ?_⟩
      · have := cell 0 (by omega)
        rw [g 0 q0 e0] at this
        simpa [Addr.add] using this
      · rw [cell 1 (by omega), g 1 q1 e1]
      · rw [cell 2 (by omega), g 2 q2 e2]
    let p : Nat → Nd := fun i => (match w.cell? (a.add (i * 3)) with | some (.int _ m) => m | _ => 0, match w.cell? ((a.add (i * 3)).add 1) with | some (.int _ m) => m | _ => 0, match w.cell? ((a.add (i * 3)).add 2) with | some (.int _ m) => m | _ => 0)
    have hp : ∀ i, i < len → w.cell? (a.add (i * 3)) = some (.int .i64 (p i).1) ∧ w.cell? ((a.add (i * 3)).add 1) = some (.int .i64 (p i).2.1) ∧ w.cell? ((a.add (i * 3)).add 2) = some (.int .i64 (p i).2.2) := fun i hi => by
      obtain ⟨q, g1, g2, g3⟩ := each i hi
      simp only [p, g1, g2, g3, and_self]
    refine ⟨_, (List.range len).map p, rfl, rfl, ?_, by simpa using Nat.le_trans hl hm⟩
    simp only [VR]
    refine ⟨by rw [len_node], some a, cap, by simp, by simpa using hl, hm, ?_⟩
    by_cases hz : len = 0
    · left; simp [hz]
    · right
      obtain ⟨hm0, _⟩ := hp 0 (by omega)
      have hsp : a.spot = none := by
        cases hs : a.spot with
        | none => rfl
        | some s =>
          exfalso
          unfold World.cell? Addr.add at hm0
          simp only [hs] at hm0
          split at hm0 <;> simp_all
      obtain ⟨b, o, s⟩ := a
      simp only at hsp
      subst hsp
      refine ⟨b, o, rfl, ?_, VA.of fun i t hi => ?_⟩
      · rw [Addr.add_mid] at hm0
        exact World.block_lt_of_cell? w ⟨b, o + 0 * 3, none⟩ hm0
      · have hil : i < len * 3 := by
          have := (List.getElem?_eq_some_iff.1 hi).1
          rw [len_node] at this
          simpa using this
        have hq : i / 3 < len := Nat.div_lt_of_lt_mul (by omega)
        have hi2 : i = i / 3 * 3 + i % 3 := by omega
        have hr : i % 3 < 3 := Nat.mod_lt _ (by omega)
        rw [hi2, getD_nodes _ _ _ hr (by simpa using hq)] at hi
        have hgd : ((List.range len).map p).getD (i / 3) (0, 0, 0) = p (i / 3) := by
          rw [List.getD_eq_getElem?_getD, List.getElem?_map, List.getElem?_range hq]; rfl
        rw [hgd] at hi
        obtain ⟨c0, c1, c2⟩ := hp (i / 3) hq
        simp only [Addr.add_mid] at c0 c1 c2
        rw [hi2]
        match hrr : i % 3, hr with
        | 0, _ =>
          rw [hrr] at hi
          simp only [nodeC, List.getElem?_cons_zero, Option.some.injEq] at hi
          subst hi
          exact ⟨_, by simpa using c0, rfl, by simp only [VR]⟩
        | 1, _ =>
          rw [hrr] at hi
          simp only [nodeC, List.getElem?_cons_succ, List.getElem?_cons_zero, Option.some.injEq] at hi
          subst hi
          exact ⟨_, by simpa [Nat.add_assoc] using c1, rfl, by simp only [VR]⟩
        | 2, _ =>
          rw [hrr] at hi
          simp only [nodeC, List.getElem?_cons_succ, List.getElem?_cons_zero, Option.some.injEq] at hi
          subst hi
          exact ⟨_, by simpa [Nat.add_assoc] using c2, rfl, by simp only [VR]⟩
/-- A tree: a struct of one slice of nodes. -/
theorem rd_tree {t s e k : TypeId} {f f0 f1 f2 : Field} {v : Value} {d : DataW H} {ps : List MemPlace} {r : Reach} {b0 : Nat} (htt : P.underlying t = some (.struct #[f])) (hv : Value.okWide P w r b0 t v) (h : DataW.Trod enc P w 0 sp held t v d ps)
    (hf : f.type = s ∧ f.offset = 0) (ct : P.cellsOf t = 1) (cs : P.cellsOf s = 1)
    (ht : P.underlying s = some (.slice e)) (he : P.underlying e = some (.struct #[f0, f1, f2])) (hk : P.underlying k = some (.int .i64))
    (h0 : f0.type = k ∧ f0.offset = 0) (h1 : f1.type = k ∧ f1.offset = 1) (h2 : f2.type = k ∧ f2.offset = 2) (ce : P.cellsOf e = 3) (ck : P.cellsOf k = 1) :
    ∃ xs : List Nd, VR w (Old w) (.agg [.list xs.length 3 (List.flatMap nodeC xs)]) v ∧ xs.length ≤ maxLen := by
  obtain ⟨cl, rfl, hsz⟩ := okWide_struct htt hv
  obtain ⟨fuel, hx⟩ := h
  obtain ⟨hlen, n, hff⟩ := rd_struct htt hx
  obtain ⟨y, hy⟩ := hff 0 f rfl
  rw [hf.1, hf.2, cs] at hy
  obtain ⟨u, xs, hu, hone, hvr, hxl⟩ := rd_nodes ht he hk h0 h1 h2 ce ck hy
  have hcl : cl = #[u] := by
    have e1 : (Value.agg cl).cells = cl := rfl
    rw [e1] at hu
    have : cl.toList.length = 1 := by rw [Array.length_toList, hsz, ct]
    obtain ⟨l⟩ := cl
    simp only at this hu
    match l, this with
    | [z], _ => simpa using hu
  subst hcl
  refine ⟨xs, ?_, hxl⟩
  rw [VR]
  refine ⟨_, rfl, fun z hz => ?_, ?_⟩
  · simp only [List.mem_cons, List.not_mem_nil, or_false] at hz
    subst hz; exact hone
  · simp only [VL]
    exact ⟨_, _, rfl, hvr, rfl⟩
end
end Go.Tl
