/-
  Comparisons and what an operation does to the relation: the frame for all operations. No statement of the seat is proved here.
-/
import Derived.Test.YtfbkhpfhnimnfaaTlD
namespace Go.Tl
set_option linter.unusedVariables false
set_option linter.unusedSimpArgs false

theorem run_guardInt {P : Program} {op : BinOp} {t : TypeId} {x y : Operand} {k k' : IntKind} {a b : Int} (w : World) : (eqGuard op t x y (.int k a) (.int k' b)).run P w = .ok () w := by
  cases op <;> simp [eqGuard]
theorem run_guardStr {P : Program} {op : BinOp} {t : TypeId} {x y : Operand} {a b : ByteArray} (w : World) : (eqGuard op t x y (.string a) (.string b)).run P w = .ok () w := by
  cases op <;> simp [eqGuard]

theorem run_binV {P : Program} {op : BinOp} {t : TypeId} {ty : Option Ty} (hty : ∀ y, ty = some y → chkTy P t y = true) {xo yo : Operand} {x y : V} {p : Prop} {r : T}
    (h : binV op (ty.map (·.k)) x y (isConst xo || isConst yo) = some (p, r)) (hp : p) {w : World} {ok : Nat → Prop} {β : Names} {v v' : Value} (hv : VV w ok β x v) (hv' : VV w ok β y v') :
    ∃ u, (do eqGuard op t xo yo v v'; binOp op t v v' : Sem Value).run P w = .ok u w ∧ VR w ok r u := by
  unfold binV at h
  split at h
  · rename_i k a k' b
    simp only [VV, VR] at hv hv'
    subst hv; subst hv'
    simp only [Sem.run_bind, run_guardInt, Result.andThen_ok]
    split at h
    · simp only [Option.some.injEq, Prod.mk.injEq] at h
      obtain ⟨rfl, rfl⟩ := h
      exact ⟨_, by simp only [binOp, Op.shift]; rw [if_neg (Int.not_lt.2 hp)]; rfl, by simp only [VR]⟩
    · simp only [Option.some.injEq, Prod.mk.injEq] at h
      obtain ⟨rfl, rfl⟩ := h
      exact ⟨_, by simp only [binOp, Op.shift]; rw [if_neg (Int.not_lt.2 hp)]; rfl, by simp only [VR]⟩
    · split at h
      · rename_i hk; subst hk; exact run_intT h hp w ok
      · cases h
  · simp only [VV, VR] at hv hv'
    subst hv; subst hv'
    simp only [Sem.run_bind, run_guardStr, Result.andThen_ok]
    exact run_strT h hp w ok
  · rename_i hn1 hn2
    cases hty' : ty with
    | none => simp [hty'] at h
    | some yt =>
      simp only [hty', Option.map_some] at h
      cases he : eqV yt.k x y (isConst xo || isConst yo) with
      | none => simp [he] at h
      | some b =>
        simp only [he] at h
        have hc := hty yt hty'
        have hrun := run_eqV hc he hv hv'
        have hg : (op = .eql ∨ op = .neq) := by
          cases op <;> simp [eqT] at h <;> simp
        have guard : (eqGuard op t xo yo v v').run P w = .ok () w := by
          unfold eqV at he
          split at he <;> (try cases he) <;> simp only [VV, VR] at hv hv'
          case h_7 =>
            subst hv; subst hv'
            simp only [Option.ite_none_right_eq_some] at he
            obtain ⟨hcc, _⟩ := he
            rcases hg with rfl | rfl <;> cases xo <;> cases yo <;> simp [isConst] at hcc <;> simp [eqGuard]
          all_goals rcases hg with rfl | rfl
          all_goals first
            | (subst hv; subst hv'; simp [eqGuard]; done)
            | (subst hv; obtain ⟨_, _, rfl, _⟩ := hv'; simp [eqGuard]; done)
            | (subst hv'; obtain ⟨_, _, rfl, _⟩ := hv; simp [eqGuard]; done)
            | (subst hv; obtain ⟨_, _, _, rfl⟩ := hv'; simp [eqGuard]; done)
            | (subst hv'; obtain ⟨_, _, _, rfl⟩ := hv; simp [eqGuard]; done)
            | (subst hv; obtain ⟨_, rfl, _⟩ := hv'; simp [eqGuard]; done)
            | (subst hv'; obtain ⟨_, rfl, _⟩ := hv; simp [eqGuard]; done)
            | (subst hv'; obtain ⟨_, rfl⟩ := hv; simp [eqGuard]; done)
            | (subst hv'; obtain ⟨_, _, _, rfl, _⟩ := hv; simp [eqGuard]; done)
        have hbin : ∀ f : Bool → Value, (∀ b, (op = .eql → f b = .bool b) ∧ (op = .neq → f b = .bool (!b))) → (binOp op t v v').run P w = .ok (f b) w := by
          intro f hf
          unfold eqV at he
          split at he <;> (try cases he) <;> simp only [VV, VR] at hv hv'
          all_goals rcases hg with rfl | rfl
          all_goals first
            | (subst hv; subst hv'; simp only [binOp, Sem.run_bind, hrun, Result.andThen_ok, Sem.run_pure]; simp [hf]; done)
            | (subst hv; obtain ⟨_, _, rfl, _⟩ := hv'; simp only [binOp, Sem.run_bind, hrun, Result.andThen_ok, Sem.run_pure]; simp [hf]; done)
            | (subst hv'; obtain ⟨_, _, rfl, _⟩ := hv; simp only [binOp, Sem.run_bind, hrun, Result.andThen_ok, Sem.run_pure]; simp [hf]; done)
            | (subst hv; obtain ⟨_, _, _, rfl⟩ := hv'; simp only [binOp, Sem.run_bind, hrun, Result.andThen_ok, Sem.run_pure]; simp [hf]; done)
            | (subst hv'; obtain ⟨_, _, _, rfl⟩ := hv; simp only [binOp, Sem.run_bind, hrun, Result.andThen_ok, Sem.run_pure]; simp [hf]; done)
            | (subst hv; obtain ⟨_, rfl, _⟩ := hv'; simp only [binOp, Sem.run_bind, hrun, Result.andThen_ok, Sem.run_pure]; simp [hf]; done)
            | (subst hv'; obtain ⟨_, rfl, _⟩ := hv; simp only [binOp, Sem.run_bind, hrun, Result.andThen_ok, Sem.run_pure]; simp [hf]; done)
            | (subst hv'; obtain ⟨_, rfl⟩ := hv; simp only [binOp, Sem.run_bind, hrun, Result.andThen_ok, Sem.run_pure]; simp [hf]; done)
            | (subst hv'; obtain ⟨_, _, _, rfl, _⟩ := hv; simp only [binOp, Sem.run_bind, hrun, Result.andThen_ok, Sem.run_pure]; simp [hf]; done)
        rcases hg with rfl | rfl
        · simp only [eqT, Option.some.injEq, Prod.mk.injEq] at h
          obtain ⟨rfl, rfl⟩ := h
          exact ⟨.bool b, by simp only [Sem.run_bind, guard, Result.andThen_ok]; exact hbin .bool (fun b => ⟨fun _ => rfl, fun e => by cases e⟩), by simp only [VR]⟩
        · simp only [eqT, Option.some.injEq, Prod.mk.injEq] at h
          obtain ⟨rfl, rfl⟩ := h
          exact ⟨.bool (!b), by simp only [Sem.run_bind, guard, Result.andThen_ok]; exact hbin (fun b => .bool (!b)) (fun b => ⟨(fun e => by cases e), fun _ => rfl⟩), by simp only [VR]⟩
end Go.Tl
