/-
  Regions whose order the edges leave open in part: the theorem. No statement of the seat is proved here.
-/
import Derived.Test.YtfbkhpfhnimnfaaTlS
namespace Go.Tl
set_option linter.unusedVariables false
set_option linter.unusedSimpArgs false

theorem R.moreN {E : Env} {β : Names} {N N' : List Nat} {S : Nat → Option V} {O : Nat → Option Obj} {a : Act} {w : World} (h : R E β N S O a w) (hn : ∀ i, i ∈ N → i ∈ N') : R E β N' S O a w :=
  ⟨h.defers, h.os, h.tape, h.output, h.size, h.old, h.okb, h.glob, fun i hi => h.dom i (fun hm => hi (hn i hm)), h.slots, fun i hp => ⟨(h.pins i hp).1, hn i (h.pins i hp).2.1, (h.pins i hp).2.2⟩, h.news, fun i o ho => (h.objs i o ho).imp (fun x => x) (fun x => ⟨hn i x.1, x.2⟩), h.apart⟩

section
variable {P : Program} {tab : Tab} {n : Nat} {ans : List (Nat × An)} {ops : Array Oper} {A W : List (List Nat)} {es : List Ent} {σ : St} {E : Env}
def AtL (E : Env) (n : Nat) (es : List Ent) (σ : St) (L : Nat → Bool) (a : Act) (w : World) : Prop :=
  (∃ β, R E β (foldN L 0 es σ.N) (foldS L 0 es (lk σ.S)) (foldO L 0 es (lk σ.O)) a w) ∧ a.tmps.size = n

structure DrawOK (P : Program) (tab : Tab) (n : Nat) (ans : List (Nat × An)) (ops : Array Oper) (A W : List (List Nat)) (es : List Ent) (σ : St) : Prop where
  len : es.length = ops.toList.length
  ent : ∀ k o, ops.toList[k]? = some o → ∃ e, es[k]? = some e ∧ e.dst = o.dst ∧ okDst n o.dst = true ∧ (∀ i ∈ ids e.rs, (ancAt W k).contains i = true) ∧
      out1 P tab (anOf ans o) ops.toList (visS ops.toList A (es.take k) (lk σ.S) k) (visO ops.toList.length A W (es.take k) (lk σ.O) k) o = some e.rs
  anc : chkAnc ops.toList A = true
  prs : chkPairs ops.toList A W es σ.N = true
  obs : Obs (obsE es)

theorem DrawOK.anc_lt (h : DrawOK P tab n ans ops A W es σ) {k m : Nat} (hk : k < ops.toList.length) (hm : m ∈ ancAt A k) : m < k := by
  have := h.anc
  simp only [chkAnc, List.all_eq_true, List.mem_range] at this
  have := this k hk
  split at this
  · simp only [Bool.and_eq_true, List.all_eq_true, decide_eq_true_eq] at this
    exact (this.2 m hm).1
  · cases this
theorem DrawOK.anc_pred (h : DrawOK P tab n ans ops A W es σ) {k m : Nat} {o : Oper} (ho : ops.toList[k]? = some o) (hm : m ∈ ancAt A k) : m ∈ predsOf o ∨ ∃ j ∈ predsOf o, m ∈ ancAt A j := by
  have hk : k < ops.toList.length := (List.getElem?_eq_some_iff.1 ho).1
  have := h.anc
  simp only [chkAnc, List.all_eq_true, List.mem_range] at this
  have := this k hk
  rw [ho] at this
  simp only [Bool.and_eq_true, List.all_eq_true, decide_eq_true_eq, Bool.or_eq_true, List.contains_eq_mem, List.any_eq_true] at this
  exact (this.2 m hm).2
theorem DrawOK.pred_lt (h : DrawOK P tab n ans ops A W es σ) {k j : Nat} {o : Oper} (ho : ops.toList[k]? = some o) (hj : j ∈ predsOf o) : j < k := by
  have hk : k < ops.toList.length := (List.getElem?_eq_some_iff.1 ho).1
  have := h.anc
  simp only [chkAnc, List.all_eq_true, List.mem_range] at this
  have := this k hk
  rw [ho] at this
  simp only [Bool.and_eq_true, List.all_eq_true, decide_eq_true_eq] at this
  exact (this.1 j hj).1.1
theorem DrawOK.ent' (h : DrawOK P tab n ans ops A W es σ) {k : Nat} {e : Ent} (he : es[k]? = some e) : ∃ o, ops.toList[k]? = some o ∧ e.dst = o.dst ∧ (∀ i ∈ ids e.rs, (ancAt W k).contains i = true) := by
  have hk : k < ops.toList.length := by rw [← h.len]; exact (List.getElem?_eq_some_iff.1 he).1
  obtain ⟨e', h1, h2, _, h4, _⟩ := h.ent k _ (List.getElem?_eq_getElem hk)
  rw [he] at h1; cases h1
  exact ⟨_, List.getElem?_eq_getElem hk, h2, h4⟩
theorem DrawOK.pair (h : DrawOK P tab n ans ops A W es σ) {k m : Nat} (hk : k < ops.toList.length) (hm : m < ops.toList.length) (hne : m ≠ k) :
    (cmpA A k m = true ∨ ((∀ d, dstOf ops.toList k = some d → dstOf ops.toList m ≠ some d) ∧ ∀ i, (ancAt W k).contains i = true → (ancAt W m).contains i = false)) ∧ (∀ j ∈ newsAt es k, j ∉ newsAt es m) := by
  have := h.prs
  simp only [chkPairs, List.all_eq_true, List.mem_range, Bool.and_eq_true] at this
  have := (this k hk).2 m hm
  simp only [Bool.or_eq_true, Bool.and_eq_true, beq_iff_eq, hne, false_or, List.all_eq_true, Bool.not_eq_true'] at this
  obtain ⟨h1, h2⟩ := this
  refine ⟨?_, fun j hj hjm => ?_⟩
  · rcases h1 with h1 | ⟨h1, h3⟩
    · exact .inl h1
    · refine .inr ⟨fun d hd => ?_, fun i hi => h3 i (by simpa using hi)⟩
      rw [hd] at h1
      simpa using h1
  · have := h2 j hj
    simp at this
    exact this hjm
theorem DrawOK.newN (h : DrawOK P tab n ans ops A W es σ) {k : Nat} (hk : k < ops.toList.length) : ∀ j ∈ newsAt es k, j ∉ σ.N := by
  have := h.prs
  simp only [chkPairs, List.all_eq_true, List.mem_range, Bool.and_eq_true] at this
  have := (this k hk).1
  intro j hj hjn
  have := this j hj
  simp at this
  exact this hjn

theorem DrawOK.step (h : DrawOK P tab n ans ops A W es σ) (htab : chkTab P tab = true) {L : Nat → Bool} {k : Nat} {o : Oper} (ho : ops.toList[k]? = some o) (hk : L k = false)
    (hup : ∀ m ∈ ancAt A k, L m = true) (hdown : ∀ m, m < ops.toList.length → k ∈ ancAt A m → L m = false) {a : Act} {w : World} (hr : AtL E n es σ L a w)
    {K : Act → World → Prop} {Q : Exit → Act → World → Prop} (hK : ∀ a' w', AtL E n es σ (with1 L k) a' w' → K a' w') : wpOp P ops Q k K a w := by
  obtain ⟨⟨β, hr⟩, hn⟩ := hr
  have hkl : k < ops.toList.length := (List.getElem?_eq_some_iff.1 ho).1
  obtain ⟨e, he, hde, hok, hW, hout⟩ := h.ent k o ho
  have hancF : ∀ m, k ≤ m → (ancAt A k).contains m = false := fun m hm => by
    simp only [List.contains_eq_mem, decide_eq_false_iff_not]
    exact fun hmem => Nat.not_le.2 (h.anc_lt hkl hmem) hm
  have agree : ∀ m, m < ops.toList.length → (m = k ∨ cmpA A k m = true) → (ancAt A k).contains m = L m := fun m hml hc => by
    rcases hc with rfl | hc
    · rw [hancF m (Nat.le_refl _), hk]
    · simp only [cmpA, Bool.or_eq_true, List.contains_eq_mem, decide_eq_true_eq] at hc
      rcases hc with hc | hc
      · rw [hup m hc]; simpa using hc
      · rw [hdown m hml hc]
        have : k < m := h.anc_lt hml hc
        exact hancF m (Nat.le_of_lt this)
  have hS : ∀ t x, visS ops.toList A (es.take k) (lk σ.S) k t = some x → foldS L 0 es (lk σ.S) t = some x := fun t x hx => by
    unfold visS at hx
    split at hx
    · rename_i hc
      rw [foldS_take (k := k) es 0 k (lk σ.S) (by omega) hancF] at hx
      rw [← hx]
      symm
      refine foldS_congr es 0 _ _ rfl fun m e' he' hd => ?_
      obtain ⟨o', ho', hd', _⟩ := h.ent' he'
      have hml : m < ops.toList.length := (List.getElem?_eq_some_iff.1 ho').1
      simp only [List.all_eq_true, List.mem_range, Bool.or_eq_true, beq_iff_eq, decide_eq_true_eq] at hc
      have hdm : dstOf ops.toList m = some t := by simp [dstOf, ho', ← hd', hd]
      rw [Nat.zero_add]
      refine agree m hml ?_
      rcases hc m hml with (hc | hc) | hc
      · exact .inl hc
      · exact absurd hdm hc
      · exact .inr hc
    · cases hx
  have hO : ∀ i x, visO ops.toList.length A W (es.take k) (lk σ.O) k i = some x → foldO L 0 es (lk σ.O) i = some x := fun i x hx => by
    unfold visO at hx
    split at hx
    · rename_i hc
      rw [foldO_take (k := k) es 0 k (lk σ.O) (by omega) hancF] at hx
      rw [← hx]
      symm
      refine foldO_congr es 0 _ _ rfl fun m e' he' hd => ?_
      obtain ⟨o', ho', _, hW'⟩ := h.ent' he'
      have hml : m < ops.toList.length := (List.getElem?_eq_some_iff.1 ho').1
      simp only [List.all_eq_true, List.mem_range, Bool.or_eq_true, beq_iff_eq, Bool.not_eq_true'] at hc
      rw [Nat.zero_add]
      refine agree m hml ?_
      rcases hc m hml with (hc | hc) | hc
      · exact .inl hc
      · rw [hW' i hd] at hc; cases hc
      · exact .inr hc
    · cases hx
  have hnews : newsAt es k = e.rs.new := by simp [newsAt, he]
  have apart : ∀ m e', es[m]? = some e' → k < m → L m = true → (∀ d, e.dst = some d → e'.dst ≠ some d) ∧ ∀ d, d ∈ ids e.rs → d ∉ ids e'.rs := fun m e' he' hkm hlm => by
    obtain ⟨o', ho', hd', hW'⟩ := h.ent' he'
    have hml : m < ops.toList.length := (List.getElem?_eq_some_iff.1 ho').1
    rcases (h.pair hkl hml (Nat.ne_of_gt hkm)).1 with hc | ⟨hc1, hc2⟩
    · exfalso
      simp only [cmpA, Bool.or_eq_true, List.contains_eq_mem, decide_eq_true_eq] at hc
      rcases hc with hc | hc
      · have := h.anc_lt hkl hc; omega
      · rw [hdown m hml hc] at hlm; cases hlm
    · refine ⟨fun d hd hd2 => hc1 d (by simp [dstOf, ho, ← hde, hd]) (by simp [dstOf, ho', ← hd', hd2]), fun d hd hd2 => ?_⟩
      have h1 := hc2 d (hW d hd)
      rw [hW' d hd2] at h1; cases h1
  refine out1_sound (i := k) htab hr hn hS hO (by simpa using ho) hout (obsE_get h.obs he) (fun j hj hjn => ?_) hok (fun β' a' w' k1 k2 => hK a' w' ⟨⟨β', ?_⟩, k2⟩)
  · rw [mem_foldN] at hjn
    rcases hjn with hjn | ⟨m, e', he', hlm, hj'⟩
    · exact h.newN hkl j (by rw [hnews]; exact hj) hjn
    · rw [Nat.zero_add] at hlm
      have hml : m < ops.toList.length := by rw [← h.len]; exact (List.getElem?_eq_some_iff.1 he').1
      have hne : m ≠ k := fun e => by rw [e, hk] at hlm; cases hlm
      exact (h.pair hkl hml hne).2 j (by rw [hnews]; exact hj) (by simp [newsAt, he', hj'])
  · rw [foldS_add (ek := e) es 0 k (lk σ.S) (by omega) he hk (fun m e' he' hm hl => (apart m e' he' hm (by simpa using hl)).1),
      foldO_add (ek := e) es 0 k (lk σ.O) (by omega) he hk (fun m e' he' hm hl => (apart m e' he' hm (by simpa using hl)).2), hde]
    refine k1.moreN fun i hi => ?_
    rw [mem_foldN]
    rcases List.mem_append.1 hi with hi | hi
    · exact .inr ⟨k, e, he, by simp [with1], hi⟩
    · rw [mem_foldN] at hi
      rcases hi with hi | ⟨m, e', h1, h2, h3⟩
      · exact .inl hi
      · exact .inr ⟨m, e', h1, by rw [Nat.zero_add] at h2 ⊢; simp [with1, h2], h3⟩

def Lof (listed : Array Bool) : Nat → Bool := fun m => listed.getD m false
def open' (len : Nat) (listed : Array Bool) : Nat := ((List.range len).filter fun m => !Lof listed m).length
theorem Lof_set {listed : Array Bool} {k : Nat} (hk : k < listed.size) : Lof (listed.setIfInBounds k true) = with1 (Lof listed) k := by
  funext m
  simp only [Lof, with1]
  by_cases h : m = k
  · subst h; simp [hk]
  · have : (m == k) = false := by simpa using h
    rw [this, Bool.false_or]
    simp [Array.getElem?_setIfInBounds_ne (Ne.symm h)]
theorem filter_drop1 {L : Nat → Bool} {k : Nat} : ∀ (l : List Nat), l.Nodup → k ∈ l → L k = false → (l.filter fun m => !(with1 L k m)).length + 1 = (l.filter fun m => !(L m)).length
  | [], _, h, _ => by simp at h
  | x :: l, hnd, hm, hk => by
    rw [List.nodup_cons] at hnd
    by_cases hx : x = k
    · subst hx
      have : ∀ y ∈ l, (!(with1 L x y)) = !(L y) := fun y hy => by
        have : y ≠ x := fun e => hnd.1 (e ▸ hy)
        simp [with1, this]
      rw [List.filter_cons_of_neg (by simp [with1]), List.filter_cons_of_pos (by simp [hk]), List.length_cons, List.filter_congr this]
    · have hm' : k ∈ l := by
        rcases List.mem_cons.1 hm with h | h
        · exact absurd h.symm hx
        · exact h
      have ih := filter_drop1 l hnd.2 hm' hk
      have hxx : with1 L k x = L x := by simp [with1, hx]
      cases hl : L x
      · rw [List.filter_cons_of_pos (by simp [hxx, hl]), List.filter_cons_of_pos (by simp [hl]), List.length_cons, List.length_cons, ih]
      · rw [List.filter_cons_of_neg (by simp [hxx, hl]), List.filter_cons_of_neg (by simp [hl])]; exact ih
theorem DrawOK.any (h : DrawOK P tab n ans ops A W es σ) (htab : chkTab P tab = true) {Q : Exit → Act → World → Prop} (hQ : ∀ a w, AtL E n es σ (fun _ => true) a w → Q .normal a w) :
    ∀ (fuel : Nat) (listed : Array Bool) (a : Act) (w : World), listed.size = ops.size → open' ops.toList.length listed = fuel → (∀ m, m < ops.toList.length → Lof listed m = true → ∀ j ∈ ancAt A m, Lof listed j = true) →
      AtL E n es σ (Lof listed) a w → wpAny P .any ops Q fuel listed a w := by
  have ready_iff : ∀ (listed : Array Bool), listed.size = ops.size → ∀ k, k ∈ Region.ready .any ops listed ↔ ∃ o, ops.toList[k]? = some o ∧ Lof listed k = false ∧ ∀ j ∈ predsOf o, Lof listed j = true := by
    intro listed hsz k
    rw [mem_ready]
    constructor
    · rintro ⟨h1, o, h2, h3⟩
      have hlt : k < listed.size := by rw [hsz]; exact (Array.getElem?_eq_some_iff.1 h2).1
      refine ⟨o, by simpa using h2, ?_, fun j hj => ?_⟩
      · simp [Lof, hlt] at h1 ⊢; exact h1
      · simp only [predsOf, List.mem_map, List.mem_filter] at hj
        obtain ⟨ed, ⟨h4, h5⟩, rfl⟩ := hj
        exact h3 ed (by simpa using h4) h5
    · rintro ⟨o, h1, h2, h3⟩
      have ho : ops[k]? = some o := by simpa using h1
      have hlt : k < listed.size := by rw [hsz]; exact (Array.getElem?_eq_some_iff.1 ho).1
      refine ⟨?_, o, ho, fun ed h4 h5 => h3 ed.on ?_⟩
      · simp [Lof, hlt] at h2 ⊢; exact h2
      · simp only [predsOf, List.mem_map, List.mem_filter]
        exact ⟨ed, ⟨by simpa using h4, h5⟩, rfl⟩
  have stepK : ∀ (listed : Array Bool) (a : Act) (w : World), listed.size = ops.size → (∀ m, m < ops.toList.length → Lof listed m = true → ∀ j ∈ ancAt A m, Lof listed j = true) → AtL E n es σ (Lof listed) a w →
      ∀ k ∈ Region.ready .any ops listed, ∀ {K : Act → World → Prop}, (∀ a' w', AtL E n es σ (Lof (listed.setIfInBounds k true)) a' w' → K a' w') → wpOp P ops Q k K a w := by
    intro listed a w hsz hcl hr k hk K hK
    obtain ⟨o, ho, hkf, hpr⟩ := (ready_iff listed hsz k).1 hk
    have hkl : k < ops.toList.length := (List.getElem?_eq_some_iff.1 ho).1
    refine h.step htab ho hkf (fun m hm => ?_) (fun m hml hm => ?_) hr (fun a' w' hh => hK a' w' (by rw [Lof_set (by rw [hsz]; simpa using hkl)]; exact hh))
    · rcases h.anc_pred ho hm with hp | ⟨j, hp, hj⟩
      · exact hpr m hp
      · exact hcl j (Nat.lt_trans (h.pred_lt ho hp) hkl) (hpr j hp) m hj
    · cases hl : Lof listed m with
      | false => rfl
      | true => have := hcl m hml hl k hm; rw [hkf] at this; cases this
  intro fuel
  induction fuel with
  | zero =>
    intro listed a w hsz hop hcl hr
    have hall : ∀ m, m < ops.toList.length → Lof listed m = true := fun m hm => by
      cases hl : Lof listed m with
      | true => rfl
      | false =>
        have : m ∈ (List.range ops.toList.length).filter fun m => !Lof listed m := by simp [hm, hl]; simpa using hm
        rw [List.eq_nil_of_length_eq_zero hop] at this
        cases this
    have hAll : AtL E n es σ (fun _ => true) a w := by
      have hlen := h.len
      obtain ⟨⟨β, hr⟩, hn⟩ := hr
      have e1 : foldS (Lof listed) 0 es (lk σ.S) = foldS (fun _ => true) 0 es (lk σ.S) := funext fun t => foldS_congr es 0 _ _ rfl fun m e he _ => by
        rw [Nat.zero_add]; exact hall m (by rw [← hlen]; exact (List.getElem?_eq_some_iff.1 he).1)
      have e2 : foldO (Lof listed) 0 es (lk σ.O) = foldO (fun _ => true) 0 es (lk σ.O) := funext fun t => foldO_congr es 0 _ _ rfl fun m e he _ => by
        rw [Nat.zero_add]; exact hall m (by rw [← hlen]; exact (List.getElem?_eq_some_iff.1 he).1)
      rw [e1, e2] at hr
      exact ⟨⟨β, hr.moreN fun i hi => by
        rw [mem_foldN] at hi ⊢
        rcases hi with hi | ⟨m, e, g1, g2, g3⟩
        · exact .inl hi
        · exact .inr ⟨m, e, g1, rfl, g3⟩⟩, hn⟩
    refine ⟨?_, hQ a w hAll⟩
    cases hre : Region.ready .any ops listed with
    | nil => rfl
    | cons k r =>
      obtain ⟨o, ho, hkf, _⟩ := (ready_iff listed hsz k).1 (by rw [hre]; exact List.mem_cons_self)
      rw [hall k (List.getElem?_eq_some_iff.1 ho).1] at hkf; cases hkf
  | succ fuel ih =>
    intro listed a w hsz hop hcl hr
    refine ⟨fun hre => ?_, fun k hk => ?_⟩
    · exfalso
      have hex : ∃ m, m < ops.toList.length ∧ Lof listed m = false := by
        cases hf : (List.range ops.toList.length).filter fun m => !Lof listed m with
        | nil => unfold open' at hop; rw [hf] at hop; simp at hop
        | cons m r =>
          have : m ∈ (List.range ops.toList.length).filter fun m => !Lof listed m := by rw [hf]; exact List.mem_cons_self
          simp only [List.mem_filter, List.mem_range, Bool.not_eq_true'] at this
          exact ⟨m, this⟩
      have least : ∀ m, m < ops.toList.length → Lof listed m = false → False := by
        intro m
        induction m using Nat.strongRecOn with
        | _ m ihm =>
          intro hml hmf
          have : m ∈ Region.ready .any ops listed := (ready_iff listed hsz m).2 ⟨_, List.getElem?_eq_getElem hml, hmf, fun j hj => by
            have hjm := h.pred_lt (List.getElem?_eq_getElem hml) hj
            cases hl : Lof listed j with
            | true => rfl
            | false => exact (ihm j hjm (Nat.lt_trans hjm hml) hl).elim⟩
          rw [hre] at this; cases this
      obtain ⟨m, h1, h2⟩ := hex
      exact least m h1 h2
    · obtain ⟨o, ho, hkf, hpr⟩ := (ready_iff listed hsz k).1 hk
      have hkl : k < ops.toList.length := (List.getElem?_eq_some_iff.1 ho).1
      have hkz : k < listed.size := by rw [hsz]; simpa using hkl
      refine stepK listed a w hsz hcl hr k hk fun a' w' hh => ih _ a' w' (by simpa using hsz) ?_ (fun m hml hlm j hj => ?_) hh
      · have := filter_drop1 (L := Lof listed) (k := k) (List.range ops.toList.length) List.nodup_range (List.mem_range.2 hkl) hkf
        unfold open' at hop ⊢
        rw [Lof_set hkz]
        omega
      · rw [Lof_set hkz] at hlm ⊢
        simp only [with1, Bool.or_eq_true, beq_iff_eq] at hlm ⊢
        right
        rcases hlm with rfl | hlm
        · rcases h.anc_pred ho hj with hp | ⟨i, hp, hi⟩
          · exact hpr j hp
          · exact hcl i (Nat.lt_trans (h.pred_lt ho hp) hkl) (hpr i hp) j hi
        · exact hcl m hml hlm j hj

theorem draw_sound (htab : chkTab P tab = true) (hm : P.follows .mixedOrders = true) {σ' : St} {ps : List Prop} (hd : drawOps P tab n ans ops.toList σ = some (ps, σ')) (ho : Obs ps) {a : Act} {w : World} (hr : Rel E σ a w) (hn : a.tmps.size = n)
    {Q : Exit → Act → World → Prop} (hQ : ∀ a' w', Rel E σ' a' w' → a'.tmps.size = n → Q .normal a' w') {id : Nat} : (Code.region id ops true).wp P Q a w := by
  unfold drawOps at hd
  simp only at hd
  split at hd
  · rename_i es hg
    simp only [Option.ite_none_right_eq_some, Bool.and_eq_true, Option.some.injEq, Prod.mk.injEq] at hd
    obtain ⟨⟨h1, h2⟩, rfl, rfl⟩ := hd
    obtain ⟨p1, p2, p3⟩ := goD_spec ops.toList [] es rfl hg
    have hok : DrawOK P tab n ans ops (ancsL ops.toList []) (textIds P tab ans ops.toList ops.toList σ) es σ :=
      ⟨by simpa using p2, fun k o hk => p3 k o (Nat.zero_le _) hk, h1, h2, ho⟩
    refine wp_region_any hm (hok.any htab (E := E) (fun a w hh => ?_) _ _ _ _ (by simp) ?_ (fun m _ hlm => ?_) ?_)
    · obtain ⟨⟨β, hh⟩, hn'⟩ := hh
      obtain ⟨q1, q2, q3⟩ := lk_putsE es σ 0
      exact hQ a w ⟨β, by rw [q1, q2, q3]; exact hh⟩ hn'
    · have : ∀ m, Lof (Array.replicate ops.size false) m = false := fun m => by
        simp only [Lof]
        by_cases hm : m < ops.size <;> simp [hm]
      unfold open'
      rw [List.filter_eq_self.2 (fun m _ => by rw [this]; rfl)]
      simp
    · have : ∀ m, Lof (Array.replicate ops.size false) m = false := fun m => by
        simp only [Lof]
        by_cases hm : m < ops.size <;> simp [hm]
      rw [this] at hlm; cases hlm
    · obtain ⟨β, hr⟩ := hr
      have hL : ∀ m, Lof (Array.replicate ops.size false) m = false := fun m => by
        simp only [Lof]
        by_cases hm : m < ops.size <;> simp [hm]
      have e1 : foldS (Lof (Array.replicate ops.size false)) 0 es (lk σ.S) = lk σ.S := by rw [← foldS_take (k := 0) es 0 0 _ rfl (fun m _ => hL m)]; rfl
      have e2 : foldO (Lof (Array.replicate ops.size false)) 0 es (lk σ.O) = lk σ.O := by rw [← foldO_take (k := 0) es 0 0 _ rfl (fun m _ => hL m)]; rfl
      refine ⟨⟨β, ?_⟩, hn⟩
      rw [e1, e2]
      exact (hr.drawn _).moreN fun i hi => by rw [mem_foldN]; exact .inl hi
  · cases hd
end
end Go.Tl
