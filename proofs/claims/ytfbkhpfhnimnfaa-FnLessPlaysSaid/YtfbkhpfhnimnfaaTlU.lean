/-
  Code without loops, evaluated along one path. No statement of the seat is proved here.
-/
import Derived.Test.YtfbkhpfhnimnfaaTlR
import Derived.Test.YtfbkhpfhnimnfaaTlT
namespace Go.Tl
set_option linter.unusedVariables false
set_option linter.unusedSimpArgs false

def evalC (P : Program) (tab : Tab) (n : Nat) (ans : List (Nat × An)) : Code → St → Option (List Prop × Exit × St)
  | .skip, σ => some ([], .normal, σ)
  | .ret, σ => some ([], .ret, σ)
  | .exit id, σ => some ([], .exit id, σ)
  | .region _ ops false, σ => match runOps P tab n ans ops.toList ops.toList σ with
    | some (ps, σ') => some (ps, .normal, σ')
    | none => none
  | .region _ ops true, σ => match drawOps P tab n ans ops.toList σ with
    | some (ps, σ') => some (ps, .normal, σ')
    | none => none
  | .seq x y, σ => match evalC P tab n ans x σ with
    | some (ps, .normal, σ1) => match evalC P tab n ans y σ1 with
      | some (qs, e, σ2) => some (ps ++ qs, e, σ2)
      | none => none
    | r => r
  | .cond c x y, σ => match ev (lk σ.S) c with
    | some (.t (.bool true)) => evalC P tab n ans x σ
    | some (.t (.bool false)) => evalC P tab n ans y σ
    | _ => none
  | .block id c, σ => match evalC P tab n ans c σ with
    | some (ps, .exit id', σ1) => if id' = id then some (ps, .normal, σ1) else some (ps, .exit id', σ1)
    | r => r
  | _, _ => none

section
variable {P : Program} {cl : Bool} {n : Nat} {tab : Tab} {ans : List (Nat × An)}
theorem evalC_sound (htab : chkTab P tab = true) (hm : P.follows .mixedOrders = true) : ∀ (c : Code) (σ σ' : St) (ps : List Prop) (e : Exit) (Q : Post), evalC P tab n ans c σ = some (ps, e, σ') → Obs ps → Q e σ' → WP P cl n c Q σ
  | .skip, σ, σ', ps, e, Q, h, ho, hQ => by
    simp only [evalC, Option.some.injEq, Prod.mk.injEq] at h
    obtain ⟨_, rfl, rfl⟩ := h
    exact WP.skip hQ
  | .ret, σ, σ', ps, e, Q, h, ho, hQ => by
    simp only [evalC, Option.some.injEq, Prod.mk.injEq] at h
    obtain ⟨_, rfl, rfl⟩ := h
    exact WP.ret hQ
  | .exit id, σ, σ', ps, e, Q, h, ho, hQ => by
    simp only [evalC, Option.some.injEq, Prod.mk.injEq] at h
    obtain ⟨_, rfl, rfl⟩ := h
    exact WP.exit hQ
  | .region id ops false, σ, σ', ps, e, Q, h, ho, hQ => by
    simp only [evalC] at h
    split at h
    · rename_i ps1 σ1 h1
      cases h
      intro E a w hX hr hn
      refine wp_region ?_
      rw [List.range_eq_range', show ops.size = ops.toList.length from by simp]
      exact runOps_sound htab ops.toList 0 σ _ _ a w rfl h1 ho hr hn fun a' w' k1 k2 => ⟨_, k1, k2, hQ⟩
    · cases h
  | .region id ops true, σ, σ', ps, e, Q, h, ho, hQ => by
    simp only [evalC] at h
    split at h
    · rename_i ps1 σ1 h1
      cases h
      intro E a w hX hr hn
      exact draw_sound htab hm h1 ho hr hn fun a' w' k1 k2 => ⟨_, k1, k2, hQ⟩
    · cases h
  | .seq x y, σ, σ', ps, e, Q, h, ho, hQ => by
    simp only [evalC] at h
    split at h
    · rename_i ps1 σ1 h1
      split at h
      · rename_i qs e2 σ2 h2
        cases h
        rw [Obs_append] at ho
        exact WP.seq (evalC_sound htab hm x σ σ1 ps1 .normal _ h1 ho.1 (evalC_sound htab hm y σ1 _ qs _ Q h2 ho.2 hQ))
      · cases h
    · rename_i hne
      refine WP.seq (evalC_sound htab hm x σ σ' ps e _ h ho ?_)
      cases e with
      | normal => exact (hne ps σ' h).elim
      | _ => exact hQ
  | .cond c x y, σ, σ', ps, e, Q, h, ho, hQ => by
    simp only [evalC] at h
    split at h
    · rename_i hc
      exact WP.cond hc (fun _ => evalC_sound htab hm x σ σ' ps e Q h ho hQ) (fun hf => by cases hf)
    · rename_i hc
      exact WP.cond hc (fun hf => by cases hf) (fun _ => evalC_sound htab hm y σ σ' ps e Q h ho hQ)
    · cases h
  | .block id c, σ, σ', ps, e, Q, h, ho, hQ => by
    simp only [evalC] at h
    split at h
    · rename_i ps1 id' σ1 h1
      split at h
      · rename_i hid
        cases h
        exact WP.block (evalC_sound htab hm c σ _ _ _ _ h1 ho (by simp only [blockQ, hid, if_true]; exact hQ))
      · rename_i hid
        cases h
        exact WP.block (evalC_sound htab hm c σ _ _ _ _ h1 ho (by simp only [blockQ, hid, if_false]; exact hQ))
    · rename_i hne
      refine WP.block (evalC_sound htab hm c σ σ' ps e _ h ho ?_)
      cases e with
      | exit id' => exact (hne ps id' σ' h).elim
      | _ => exact hQ
  | .loop _, σ, σ', ps, e, Q, h, ho, hQ => by simp [evalC] at h
  | .goto _, σ, σ', ps, e, Q, h, ho, hQ => by simp [evalC] at h
  | .label _, σ, σ', ps, e, Q, h, ho, hQ => by simp [evalC] at h
  | .rangeFunc .., σ, σ', ps, e, Q, h, ho, hQ => by simp [evalC] at h
  | .scope .., σ, σ', ps, e, Q, h, ho, hQ => by simp [evalC] at h
  | .refuse _, σ, σ', ps, e, Q, h, ho, hQ => by simp [evalC] at h

/-- A path, and what is forgotten at its end. -/
def evalK (P : Program) (tab : Tab) (cl : Bool) (n : Nat) (ans : List (Nat × An)) (ks : List Wk) (c : Code) (σ : St) : Option (List Prop × Exit × St) :=
  match evalC P tab n ans c σ with
  | some (ps, e, σ1) => match wks cl ks σ1 with
    | some (qs, σ2) => some (ps ++ qs, e, σ2)
    | none => none
  | none => none
theorem WP.weak {c : Code} {Q Q' : Post} {σ : St} (h : WP P cl n c Q' σ) (hq : ∀ e σ, Q' e σ → ∃ ks ps σ', wks cl ks σ = some (ps, σ') ∧ Obs ps ∧ Q e σ') : WP P cl n c Q σ := fun E a w hX hr hn =>
  wp_mono (h E a w hX hr hn) fun e a' w' ⟨σ', k1, k2, k3⟩ => by
    obtain ⟨ks, ps, σ2, g1, g2, g3⟩ := hq e σ' k3
    exact ⟨σ2, k1.wks hX g1 g2, k2, g3⟩
theorem WP.path (htab : chkTab P tab = true) (hm : P.follows .mixedOrders = true) (ans : List (Nat × An)) (ks : List Wk) {c : Code} {σ σ' : St} {ps : List Prop} {e : Exit} {Q : Post} (h : evalK P tab cl n ans ks c σ = some (ps, e, σ')) (ho : Obs ps) (hQ : Q e σ') : WP P cl n c Q σ := by
  unfold evalK at h
  split at h
  · rename_i ps1 e1 σ1 h1
    split at h
    · rename_i qs σ2 h2
      cases h
      rw [Obs_append] at ho
      refine WP.weak (Q' := fun e' σ' => e' = e ∧ σ' = σ1) (evalC_sound htab hm c σ σ1 ps1 e _ h1 ho.1 ⟨rfl, rfl⟩) fun e' σ' hh => ?_
      obtain ⟨rfl, rfl⟩ := hh
      exact ⟨ks, qs, _, h2, ho.2, hQ⟩
    · cases h
  · cases h
/-- A path that returns. -/
def evalR (P : Program) (tab : Tab) (n : Nat) (ans : List (Nat × An)) (vs : List ResultVar) (c : Code) (σ : St) : Option (List Prop × T) :=
  match evalC P tab n ans c σ with
  | some (ps, .ret, σ1) => match retT tab vs σ1 with
    | some (qs, r) => some (ps ++ qs, r)
    | none => none
  | _ => none
theorem WP.pathW (htab : chkTab P tab = true) (hm : P.follows .mixedOrders = true) (ans : List (Nat × An)) (vs : List ResultVar) {c : Code} {σ : St} {ps : List Prop} {r r' : T} {Q : Post} (h : evalR P tab n ans vs c σ = some (ps, r)) (ho : Obs ps) (he : WkT r r')
    (hQ : ∀ σ', RetQ tab vs r' .ret σ' → Q .ret σ') : WP P cl n c Q σ := by
  unfold evalR at h
  split at h
  · rename_i ps1 σ1 h1
    split at h
    · rename_i qs r1 h2
      cases h
      rw [Obs_append] at ho
      exact evalC_sound htab hm c σ σ1 ps1 .ret Q h1 ho.1 (hQ σ1 ⟨qs, r, h2, ho.2, he⟩)
    · cases h
  · cases h
theorem WP.pathR (htab : chkTab P tab = true) (hm : P.follows .mixedOrders = true) (ans : List (Nat × An)) (vs : List ResultVar) {c : Code} {σ : St} {ps : List Prop} {r r' : T} {Q : Post} (h : evalR P tab n ans vs c σ = some (ps, r)) (ho : Obs ps) (he : r = r')
    (hQ : ∀ σ', RetQ tab vs r' .ret σ' → Q .ret σ') : WP P cl n c Q σ := WP.pathW htab hm ans vs h ho (he ▸ WkT.refl r) hQ
end
theorem C.toB {P : Program} {f : FuncId} {args : List T} {e b : Bool} (h : e = b) (p : C P f args (T.bool e)) : C P f args (T.bool b) := h ▸ p
end Go.Tl
