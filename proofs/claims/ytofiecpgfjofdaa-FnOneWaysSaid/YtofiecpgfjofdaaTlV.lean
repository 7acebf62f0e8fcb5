/-
  Small facts for the walks: integers that fit, bytes of strings, elements of lists, tests of all. No statement of the seat is proved here.
-/
import Derived.Test.YtofiecpgfjofdaaTlU
import Derived.Laws.Externs
namespace Go.Tl
set_option linter.unusedVariables false
set_option linter.unusedSimpArgs false

theorem wrap_i64_id {e : Int} (h1 : -9223372036854775808 ≤ e) (h2 : e ≤ 9223372036854775807) : IntKind.wrap .i64 e = e := by
  rw [IntKind.wrap_i64]; omega
theorem wrapT_i64 {e : Int} (h1 : -9223372036854775808 ≤ e) (h2 : e ≤ 9223372036854775807) : T.int .i64 (IntKind.wrap .i64 e) = T.int .i64 e := by
  rw [wrap_i64_id h1 h2]
theorem wrapT_u8 {e : Int} (h1 : 0 ≤ e) (h2 : e ≤ 255) : T.int .u8 (IntKind.wrap .u8 e) = T.int .u8 e := by
  rw [IntKind.wrap_u8]; congr 1; omega
theorem byteAt_nonneg (s : ByteArray) (i : Nat) : 0 ≤ byteAt s i := by unfold byteAt; omega
theorem byteAt_le (s : ByteArray) (i : Nat) : byteAt s i ≤ 255 := by
  unfold byteAt
  have := ((s.data.toList[i]?).getD 0).toNat_lt
  omega
theorem byteAt_lo (s : ByteArray) (i : Nat) : -9223372036854775808 ≤ byteAt s i := by have := byteAt_nonneg s i; omega
theorem byteAt_hi (s : ByteArray) (i : Nat) : byteAt s i ≤ 9223372036854775807 := by have := byteAt_le s i; omega
theorem at1 {α : Type} {f : α → T} {xs : List α} {d : α} {j i : Nat} (hj : j = i) (h : i < xs.length) : ((List.drop j (List.map f xs)) : List T)[0]? = some (f (List.getD xs i d)) := by
  subst hj
  rw [← List.map_drop]
  simp [List.getElem?_drop, List.getD_eq_getElem?_getD, h]
theorem ne_of_bne {a b : Int} (h : (a != b) = true) : ¬ a = b := by simpa using h
theorem eq_of_bne_false {a b : Int} (h : (a != b) = false) : a = b := by simpa using h
theorem toList_inj {a b : ByteArray} (h : a.toList = b.toList) : a = b := by
  have e1 := (ByteArray.toList_eq a).symm
  rw [h, ByteArray.toList_eq b] at e1
  obtain ⟨⟨a⟩⟩ := a
  obtain ⟨⟨b⟩⟩ := b
  simp only at e1
  rw [e1]
theorem bytes_eq {a b : ByteArray} (h : (a.toList == b.toList) = true) : a = b := toList_inj (by simpa using h)
theorem bytes_ne {a b : ByteArray} (h : (a.toList == b.toList) = false) : ¬ a = b := by rintro rfl; simp at h
theorem bytes_nne {a b : ByteArray} (h : (!(a.toList == b.toList)) = true) : ¬ a = b := by rintro rfl; simp at h
theorem bytes_neq {a b : ByteArray} (h : (!(a.toList == b.toList)) = false) : a = b := toList_inj (by simpa using h)

def allB (n : Nat) (p : Nat → Bool) : Bool := (List.range n).all p
def anyB (n : Nat) (p : Nat → Bool) : Bool := (List.range n).any p
theorem allB_iff {n : Nat} {p : Nat → Bool} : allB n p = true ↔ ∀ j, j < n → p j = true := by simp [allB]
theorem anyB_iff {n : Nat} {p : Nat → Bool} : anyB n p = true ↔ ∃ j, j < n ∧ p j = true := by simp [anyB]
theorem allB_true {n i : Nat} {p : Nat → Bool} (h : ∀ j, j < i → p j = true) (hi : n ≤ i) : allB n p = true := allB_iff.2 fun j hj => h j (by omega)
theorem allB_false {n i : Nat} {p : Nat → Bool} (hi : i < n) (h : p i = false) : allB n p = false := by
  cases hc : allB n p with
  | false => rfl
  | true => rw [allB_iff.1 hc i hi] at h; cases h
theorem anyB_true {n i : Nat} {p : Nat → Bool} (hi : i < n) (h : p i = true) : anyB n p = true := anyB_iff.2 ⟨i, hi, h⟩
theorem anyB_false {n i : Nat} {p : Nat → Bool} (h : ∀ j, j < i → p j = false) (hi : n ≤ i) : anyB n p = false := by
  cases hc : anyB n p with
  | false => rfl
  | true => obtain ⟨j, hj, hp⟩ := anyB_iff.1 hc; rw [h j (by omega)] at hp; cases hp
theorem all_step {i : Nat} {q : Nat → Prop} (h : ∀ j, j < i → q j) (hi : q i) : ∀ j, j < i + 1 → q j := fun j hj => by
  by_cases e : j = i
  · rw [e]; exact hi
  · exact h j (by omega)

/-- A function without a body that a table of the model answers. -/
theorem C.extern {P : Program} {f : FuncId} {fn : Func} {args : List T} {r : T} {e : Array Value → Sem Value} (hf : P.funcs[f]? = some fn) (hname : (fn.name == "runtime.NumGoroutine") = false) (hb : fn.body.isNone = true) (hn : Extern.findNext fn = none)
    (he : Extern.find fn = some e) (hrun : ∀ (w : World) (ok : Nat → Prop) (vs : Array Value), VL w ok args vs.toList → ∃ v, (e vs).run P w = .ok v w ∧ VR w ok r v) : C P f args r := by
  intro ok w vs hok hl
  right
  obtain ⟨v, h1, h2⟩ := hrun w ok vs hl
  exact ⟨v, by rw [run_callFunc_extern hf hname hb hn he, h1]; rfl, h2⟩
theorem C.indexByteString {P : Program} {f : FuncId} {fn : Func} (s : ByteArray) (c : Int) (hf : P.funcs[f]? = some fn) (hname : (fn.name == "runtime.NumGoroutine") = false) (hb : fn.body.isNone = true) (hn : Extern.findNext fn = none)
    (he : Extern.find fn = some Extern.BytealgIndexByte.indexByte) : C P f [.str s, .int .u8 c] (.int .i64 (firstIdx s c.toNat.toUInt8)) := by
  refine C.extern hf hname hb hn he fun w ok vs hl => ?_
  simp only [VL, VR] at hl
  obtain ⟨u, us, e1, rfl, u2, us2, rfl, rfl, rfl⟩ := hl
  have : vs = #[.string s, .int .u8 c] := by simpa using congrArg List.toArray e1
  subst this
  exact ⟨_, run_indexByte_string s c w, by simp only [VR]⟩
end Go.Tl
