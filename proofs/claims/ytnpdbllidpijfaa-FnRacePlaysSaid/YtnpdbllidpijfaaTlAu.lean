/-
  Functions that are printed beside the program's functions: what is checked, what is called, where branches meet, loops with fuel. No statement of the seat is proved here.
-/
import Derived.Test.YtnpdbllidpijfaaTlCI
import Derived.Test.YtnpdbllidpijfaaTlCur
namespace Go.Tl
set_option linter.unusedVariables false
set_option linter.unusedSimpArgs false

open Classical in
noncomputable def chk {α : Type} (p : Prop) (x : Option α) : Option α := if p then x else none
theorem chk_some {α : Type} {p : Prop} {x : Option α} {r : α} (h : chk p x = some r) : p ∧ x = some r := by
  unfold chk at h; split at h
  · exact ⟨by assumption, h⟩
  · cases h
theorem chk_pos {α : Type} {p : Prop} {x : Option α} (hp : p) : chk p x = x := by unfold chk; rw [if_pos hp]
theorem ite_some {α : Type} {c : Bool} {x y : Option α} {r : α} (h : (bif c then x else y) = some r) : (c = true ∧ x = some r) ∨ (c = false ∧ y = some r) := by
  cases c
  · exact .inr ⟨rfl, h⟩
  · exact .inl ⟨rfl, h⟩
def bnd1 {α γ : Type} (x : Option α) (f : α → Option γ) : Option γ := x.bind f
def bnd2 {α β γ : Type} (x : Option (α × β)) (f : α → β → Option γ) : Option γ := x.bind fun r => f r.1 r.2
def bnd3 {α β δ γ : Type} (x : Option (α × β × δ)) (f : α → β → δ → Option γ) : Option γ := x.bind fun r => f r.1 r.2.1 r.2.2
def bnd4 {α β δ ε γ : Type} (x : Option (α × β × δ × ε)) (f : α → β → δ → ε → Option γ) : Option γ := x.bind fun r => f r.1 r.2.1 r.2.2.1 r.2.2.2
def bnd5 {α β δ ε ζ γ : Type} (x : Option (α × β × δ × ε × ζ)) (f : α → β → δ → ε → ζ → Option γ) : Option γ := x.bind fun r => f r.1 r.2.1 r.2.2.1 r.2.2.2.1 r.2.2.2.2
def bnd6 {α β δ ε ζ η γ : Type} (x : Option (α × β × δ × ε × ζ × η)) (f : α → β → δ → ε → ζ → η → Option γ) : Option γ := x.bind fun r => f r.1 r.2.1 r.2.2.1 r.2.2.2.1 r.2.2.2.2.1 r.2.2.2.2.2
section
variable {α β δ ε ζ η θ ι κ γ : Type} {r : γ}
theorem bnd1_some {x : Option α} {f : α → Option γ} (h : bnd1 x f = some r) : ∃ a, x = some a ∧ f a = some r := by
  unfold bnd1 at h; cases x with
  | none => cases h
  | some a => exact ⟨a, rfl, h⟩
theorem bnd2_some {x : Option (α × β)} {f : α → β → Option γ} (h : bnd2 x f = some r) : ∃ a b, x = some (a, b) ∧ f a b = some r := by
  obtain ⟨y, h1, h2⟩ := bnd1_some h; exact ⟨_, _, h1, h2⟩
theorem bnd3_some {x : Option (α × β × δ)} {f : α → β → δ → Option γ} (h : bnd3 x f = some r) : ∃ a b c, x = some (a, b, c) ∧ f a b c = some r := by
  obtain ⟨y, h1, h2⟩ := bnd1_some h; exact ⟨_, _, _, h1, h2⟩
theorem bnd4_some {x : Option (α × β × δ × ε)} {f : α → β → δ → ε → Option γ} (h : bnd4 x f = some r) : ∃ a b c d, x = some (a, b, c, d) ∧ f a b c d = some r := by
  obtain ⟨y, h1, h2⟩ := bnd1_some h; exact ⟨_, _, _, _, h1, h2⟩
theorem bnd5_some {x : Option (α × β × δ × ε × ζ)} {f : α → β → δ → ε → ζ → Option γ} (h : bnd5 x f = some r) : ∃ a b c d e, x = some (a, b, c, d, e) ∧ f a b c d e = some r := by
  obtain ⟨y, h1, h2⟩ := bnd1_some h; exact ⟨_, _, _, _, _, h1, h2⟩
theorem bnd6_some {x : Option (α × β × δ × ε × ζ × η)} {f : α → β → δ → ε → ζ → η → Option γ} (h : bnd6 x f = some r) : ∃ a b c d e g, x = some (a, b, c, d, e, g) ∧ f a b c d e g = some r := by
  obtain ⟨y, h1, h2⟩ := bnd1_some h; exact ⟨_, _, _, _, _, _, h1, h2⟩
end
section
variable {α β δ ε ζ η θ ι κ γ : Type}
theorem bnd1_eq {x : Option α} {a : α} (h : x = some a) (f : α → Option γ) : bnd1 x f = f a := by rw [h]; rfl
theorem bnd2_eq {x : Option (α × β)} {a : α} {b : β} (h : x = some (a, b)) (f : α → β → Option γ) : bnd2 x f = f a b := by rw [h]; rfl
theorem bnd3_eq {x : Option (α × β × δ)} {a : α} {b : β} {c : δ} (h : x = some (a, b, c)) (f : α → β → δ → Option γ) : bnd3 x f = f a b c := by rw [h]; rfl
theorem bnd4_eq {x : Option (α × β × δ × ε)} {a : α} {b : β} {c : δ} {d : ε} (h : x = some (a, b, c, d)) (f : α → β → δ → ε → Option γ) : bnd4 x f = f a b c d := by rw [h]; rfl
theorem bnd5_eq {x : Option (α × β × δ × ε × ζ)} {a : α} {b : β} {c : δ} {d : ε} {e : ζ} (h : x = some (a, b, c, d, e)) (f : α → β → δ → ε → ζ → Option γ) : bnd5 x f = f a b c d e := by rw [h]; rfl
theorem bnd6_eq {x : Option (α × β × δ × ε × ζ × η)} {a : α} {b : β} {c : δ} {d : ε} {e : ζ} {g : η} (h : x = some (a, b, c, d, e, g)) (f : α → β → δ → ε → ζ → η → Option γ) : bnd6 x f = f a b c d e g := by rw [h]; rfl
end
theorem tlS : (∀ (α β : Type) (f : α → β) (a b : List α), List.map f (a ++ b) = List.map f a ++ List.map f b) ∧ (∀ (α β : Type) (f : α → β) (a : α) (b : List α), List.map f (a :: b) = f a :: List.map f b) ∧ (∀ (α β : Type) (f : α → β), List.map f [] = []) ∧
    (∀ (α β : Type) (f : α → β) (n : Nat) (a : List α), List.map f (List.take n a) = List.take n (List.map f a)) ∧ (∀ (α β : Type) (f : α → β) (n : Nat) (a : List α), List.map f (List.drop n a) = List.drop n (List.map f a)) ∧
    (∀ (α β : Type) (f : α → β) (n : Nat) (x : α) (a : List α), List.map f (List.set a n x) = List.set (List.map f a) n (f x)) ∧ (∀ (α β : Type) (f : α → β) (n : Nat) (x : α), List.map f (List.replicate n x) = List.replicate n (f x)) ∧
    (∀ (α : Type) (a b : List α), List.length (a ++ b) = List.length a + List.length b) ∧ (∀ (α : Type) (a : α) (b : List α), List.length (a :: b) = List.length b + 1) ∧ (∀ (α : Type), List.length ([] : List α) = 0) ∧ (∀ (α : Type) (n : Nat) (x : α) (a : List α), List.length (List.set a n x) = List.length a) ∧
    (∀ (α : Type) (n : Nat) (x : α), List.length (List.replicate n x) = n) ∧ (∀ (α β : Type) (f : α → β) (a : List α), List.length (List.map f a) = List.length a) ∧ (∀ (α : Type) (a : List α), [] ++ a = a) ∧ (∀ (α : Type) (a : List α), a ++ [] = a) ∧ (∀ (n : Nat), n * 1 = n) ∧ (∀ (n : Nat), 0 + n = n) ∧ (∀ (n : Nat), n + 0 = n) ∧ (∀ n : Nat, n - 0 = n) ∧
    (∀ (α β : Type) (f : α → List β) (a b : List α), List.flatMap f (a ++ b) = List.flatMap f a ++ List.flatMap f b) ∧ (∀ (α β : Type) (f : α → List β) (a : α) (b : List α), List.flatMap f (a :: b) = f a ++ List.flatMap f b) ∧ (∀ (α β : Type) (f : α → List β), List.flatMap f [] = []) ∧ (∀ (α : Type) (a : List α), List.drop 0 a = a) ∧
    (∀ (α : Type) (a : α) (b c : List α), (a :: b) ++ c = a :: (b ++ c)) ∧ (∀ (α : Type) (a b c : List α), (a ++ b) ++ c = a ++ (b ++ c)) ∧ (∀ (α β : Type) (f : α → List β) (n : Nat) (x : α), List.flatMap f (List.replicate n x) = List.flatten (List.replicate n (f x))) := by
  refine ⟨?_, ?_, ?_, ?_, ?_, ?_, ?_, ?_, ?_, ?_, ?_, ?_, ?_, ?_, ?_, ?_, ?_, ?_, ?_, ?_, ?_, ?_, ?_, ?_, ?_, ?_⟩ <;> intros <;> first | (simp; done) | rw [List.flatMap, List.map_replicate]
/-! ### elements of several cells -/
section
variable {α : Type} {f : α → List T} {c : Nat}
theorem lenF (hf : ∀ p, (f p).length = c) (xs : List α) : (List.flatMap f xs).length = xs.length * c := by
  induction xs with
  | nil => simp
  | cons x xs ih => rw [List.flatMap_cons, List.length_append, ih, hf, List.length_cons, Nat.succ_mul, Nat.add_comm]
theorem dropF (hf : ∀ p, (f p).length = c) : ∀ (xs : List α) (i : Nat), List.drop (i * c) (List.flatMap f xs) = List.flatMap f (List.drop i xs)
  | xs, 0 => by simp
  | [], i + 1 => by simp
  | x :: xs, i + 1 => by
    rw [List.flatMap_cons, List.drop_succ_cons, ← dropF hf xs i, Nat.succ_mul, Nat.add_comm, ← List.drop_drop, ← hf x, List.drop_left']
    rfl
theorem atF (hf : ∀ p, (f p).length = c) {xs : List α} {d : α} {j i : Nat} (hj : j = i * c) (h : i < xs.length) : List.take c (List.drop j (List.flatMap f xs)) = f (List.getD xs i d) := by
  subst hj
  rw [dropF hf, List.drop_eq_getElem_cons h, List.flatMap_cons, List.getD_eq_getElem?_getD, List.getElem?_eq_getElem h]
  rw [List.take_append_of_le_length (by rw [hf]; exact Nat.le_refl _), List.take_of_length_le (by rw [hf]; exact Nat.le_refl _)]
  rfl
theorem fldF (hf : ∀ p, (f p).length = c) {xs : List α} {d : α} {j i k : Nat} {x : T} (hj : j = i * c) (h : i < xs.length) (hx : (f (List.getD xs i d))[k]? = some x) : ((List.drop k (List.drop j (List.flatMap f xs))) : List T)[0]? = some x := by
  subst hj
  rw [dropF hf, List.drop_eq_getElem_cons h, List.flatMap_cons]
  have hg : List.getD xs i d = xs[i] := by rw [List.getD_eq_getElem?_getD, List.getElem?_eq_getElem h]; rfl
  rw [hg] at hx
  have hk : k < (f xs[i]).length := (List.getElem?_eq_some_iff.1 hx).1
  rw [List.getElem?_drop]
  simp only [Nat.add_zero]
  rw [List.getElem?_append_left hk, hx]
theorem putF (hf : ∀ p, (f p).length = c) : ∀ {xs : List α} {j m i : Nat} {y : α} (hj : j = i * c) (hm : m = j + c) (hi : i < xs.length), List.take j (List.flatMap f xs) ++ (f y ++ List.drop m (List.flatMap f xs)) = List.flatMap f (List.set xs i y)
  | a :: xs, j, m, 0, y, hj, hm, hi => by
    have hj' : j = 0 := by omega
    subst hj'
    have hm' : m = (f a).length := by rw [hf]; omega
    rw [hm', List.take_zero, List.nil_append, List.flatMap_cons, List.set_cons_zero, List.flatMap_cons, List.drop_left']
    rfl
  | a :: xs, j, m, i + 1, y, hj, hm, hi => by
    have hj' : j = (f a).length + i * c := by rw [hj, Nat.succ_mul, hf]; omega
    have hm' : m = (f a).length + (i * c + c) := by rw [hm, hj']; omega
    rw [hj', hm', List.flatMap_cons, List.set_cons_succ, List.flatMap_cons, List.take_length_add_append, List.drop_length_add_append, List.append_assoc]
    congr 1
    exact putF hf rfl rfl (by simpa using hi)
end
def pairC (x : Int × Int) : List T := [T.int .i64 x.1, T.int .i64 x.2]
theorem len_pair (xs : List (Int × Int)) : (List.flatMap pairC xs).length = xs.length * 2 := lenF (f := pairC) (fun _ => rfl) xs
theorem flats_pair (xs : List (Int × Int)) : T.flats (List.flatMap pairC xs) = true := by induction xs <;> simp_all [T.flats, T.flat, pairC]
def recsC (x : ByteArray × ByteArray) : List T := [T.str x.1, T.str x.2]
theorem len_recs (xs : List (ByteArray × ByteArray)) : (List.flatMap recsC xs).length = xs.length * 2 := lenF (f := recsC) (fun _ => rfl) xs
theorem flats_recs (xs : List (ByteArray × ByteArray)) : T.flats (List.flatMap recsC xs) = true := by induction xs <;> simp_all [T.flats, T.flat, recsC]
theorem getF {α : Type} {f : α → List T} {c : Nat} (hf : ∀ p, (f p).length = c) {xs : List α} {d : α} {j i k : Nat} {x : T} (hj : j = i * c + k) (h : i < xs.length) (hx : (f (List.getD xs i d))[k]? = some x) : (List.flatMap f xs)[j]? = some x := by
  have := fldF hf rfl h hx
  rw [List.getElem?_drop, List.getElem?_drop] at this
  rw [hj]; exact this
def factC (x : Bool × Bool × Int × Int × Int) : List T := [T.bool x.1, T.bool x.2.1, T.int .i64 x.2.2.1, T.int .i64 x.2.2.2.1, T.int .i64 x.2.2.2.2]
theorem len_fact (xs : List (Bool × Bool × Int × Int × Int)) : (List.flatMap factC xs).length = xs.length * 5 := lenF (f := factC) (fun _ => rfl) xs
theorem at_fact {xs : List (Bool × Bool × Int × Int × Int)} {j i : Nat} (hj : j = i * 5) (h : i < xs.length) : T.agg (List.take 5 (List.drop j (List.flatMap factC xs))) = T.agg [T.bool (List.getD xs i (false, false, 0, 0, 0)).1, T.bool (List.getD xs i (false, false, 0, 0, 0)).2.1, T.int .i64 (List.getD xs i (false, false, 0, 0, 0)).2.2.1, T.int .i64 (List.getD xs i (false, false, 0, 0, 0)).2.2.2.1, T.int .i64 (List.getD xs i (false, false, 0, 0, 0)).2.2.2.2] := congrArg T.agg (atF (f := factC) (fun _ => rfl) hj h)
theorem fld_fact {xs : List (Bool × Bool × Int × Int × Int)} {j i k : Nat} {x : T} (hj : j = i * 5) (h : i < xs.length) (hx : (factC (List.getD xs i (false, false, 0, 0, 0)))[k]? = some x) : ((List.drop k (List.drop j (List.flatMap factC xs))) : List T)[0]? = some x := fldF (f := factC) (fun _ => rfl) hj h hx
theorem flats_fact (xs : List (Bool × Bool × Int × Int × Int)) : T.flats (List.flatMap factC xs) = true := by induction xs <;> simp_all [T.flats, T.flat, factC]
theorem sl1 {α : Type} {f : α → T} {xs : List α} {l h : Int} {a b c : Nat} (e : 0 ≤ l ∧ l ≤ h ∧ h ≤ ((List.length xs : Nat) : Int)) (ha : a = h.toNat - l.toNat) (hb : b = a) (hc : c = l.toNat) :
    T.list a 1 (List.take b (List.drop c (List.map f xs))) = T.list (List.length (List.take (h.toNat - l.toNat) (List.drop l.toNat xs))) 1 (List.map f (List.take (h.toNat - l.toNat) (List.drop l.toNat xs))) := by
  subst ha hb hc
  rw [List.map_take, List.map_drop, List.length_take, List.length_drop, Nat.min_eq_left (by omega)]
theorem sl1z {α : Type} {f : α → T} {xs : List α} {l h : Int} {a b : Nat} (e : 0 ≤ l ∧ l ≤ h ∧ h ≤ ((List.length xs : Nat) : Int)) (ha : a = h.toNat - l.toNat) (hb : b = a) (hc : 0 = l.toNat) :
    T.list a 1 (List.take b (List.map f xs)) = T.list (List.length (List.take (h.toNat - l.toNat) (List.drop l.toNat xs))) 1 (List.map f (List.take (h.toNat - l.toNat) (List.drop l.toNat xs))) := by
  rw [← sl1 e ha hb hc, List.drop_zero]
theorem tlL : (∀ (α β : Type) (f : α → β) (a : List α), List.length (List.map f a) = List.length a) ∧ (∀ (α : Type) (n : Nat) (x : α) (a : List α), List.length (List.set a n x) = List.length a) ∧ (∀ (α : Type) (a b : List α), List.length (a ++ b) = List.length a + List.length b) ∧
    (∀ (α : Type) (a : α) (b : List α), List.length (a :: b) = List.length b + 1) ∧ (∀ (α : Type), List.length ([] : List α) = 0) ∧ (∀ (α : Type) (n : Nat) (x : α), List.length (List.replicate n x) = n) ∧ (∀ (n : Nat), n * 1 = n) ∧
    (∀ xs : List Nd, List.length (List.flatMap nodeC xs) = List.length xs * 3) ∧ (∀ xs : List (Int × Bool), List.length (List.flatMap askedC xs) = List.length xs * 2) ∧ (∀ xs : List (Int × Int), List.length (List.flatMap pairC xs) = List.length xs * 2) ∧ (∀ xs : List (ByteArray × ByteArray), List.length (List.flatMap recsC xs) = List.length xs * 2) ∧ (∀ xs : List (Bool × Bool × Int × Int × Int), List.length (List.flatMap factC xs) = List.length xs * 5) := by
  refine ⟨?_, ?_, ?_, ?_, ?_, ?_, ?_, len_node, len_asked, len_pair, len_recs, len_fact⟩ <;> intros <;> simp
/-! ### short names of what is read most -/
abbrev ti (n : Int) : T := .int .i64 n
abbrev tb (b : Bool) : T := .bool b
abbrev tl (xs : List Int) : T := .list xs.length 1 (xs.map (T.int .i64))
abbrev ty (xs : List Int) : T := .list xs.length 1 (xs.map (T.int .u8))
abbrev tbl (xs : List Bool) : T := .list xs.length 1 (xs.map T.bool)
abbrev vi (n : Int) : V := .t (.int .i64 n)
abbrev vb (b : Bool) : V := .t (.bool b)
abbrev vl (xs : List Int) : V := .t (tl xs)
abbrev vy (xs : List Int) : V := .t (ty xs)
abbrev vbl (xs : List Bool) : V := .t (tbl xs)
abbrev oc (t : TypeId) (cs : List T) : Obj := .cells t cs
abbrev ov (t : TypeId) (vs : List V) : Obj := .vars t vs
abbrev vo (i n : Nat) : V := .own i 1 n
/-! ### branches of trees -/
inductive Br
  | nil
  | nd (q : Int) (y n : Br)
/-! ### maps -/
def mget {β : Type} : List (Int × β) → Int → Option β
  | [], _ => none
  | (a, b) :: r, k => if a = k then some b else mget r k
def mput {β : Type} : List (Int × β) → Int → β → List (Int × β)
  | [], k, v => [(k, v)]
  | (a, b) :: r, k, v => if a = k then (k, v) :: r else (a, b) :: mput r k v
theorem mget_put {β : Type} (l : List (Int × β)) (k j : Int) (v : β) : mget (mput l k v) j = if j = k then some v else mget l j := by
  induction l with
  | nil => simp only [mput, mget]; split <;> split <;> first | rfl | omega
  | cons e r ih =>
    obtain ⟨a, b⟩ := e
    simp only [mput]
    by_cases h : a = k
    · rw [if_pos h]
      simp only [mget]
      by_cases h2 : k = j
      · rw [if_pos h2, if_pos h2.symm]
      · rw [if_neg h2, if_neg (fun e => h2 e.symm), if_neg (fun e => h2 (h.symm.trans e))]
    · rw [if_neg h]
      simp only [mget]
      by_cases h2 : a = j
      · rw [if_pos h2, if_pos h2, if_neg (fun e => h (h2.trans e))]
      · rw [if_neg h2, if_neg h2, ih]
abbrev mpB (l : List (Int × Bool)) : List (T × T) := l.map fun e => (T.int .i64 e.1, T.bool e.2)
abbrev mpI (l : List (Int × Int)) : List (T × T) := l.map fun e => (T.int .i64 e.1, T.int .i64 e.2)
abbrev mp3 (l : List (Int × Int × Int × Int)) : List (T × T) := l.map fun e => (T.int .i64 e.1, T.agg [T.int .i64 e.2.1, T.int .i64 e.2.2.1, T.int .i64 e.2.2.2])
theorem look_map {β : Type} {g : β → T} (l : List (Int × β)) (k : Int) : lookT (l.map fun e => (T.int .i64 e.1, g e.2)) (T.int .i64 k) = (mget l k).map g := by
  induction l with
  | nil => rfl
  | cons e r ih =>
    obtain ⟨a, b⟩ := e
    simp only [List.map_cons, lookT, mget]
    by_cases h : a = k
    · rw [if_pos (by simp [keyEq, h]), if_pos h]; rfl
    · rw [if_neg (by simp [keyEq, h]), if_neg h, ih]
theorem put_map {β : Type} {g : β → T} (l : List (Int × β)) (k : Int) (v : β) : putT (l.map fun e => (T.int .i64 e.1, g e.2)) (T.int .i64 k) (g v) = (mput l k v).map fun e => (T.int .i64 e.1, g e.2) := by
  induction l with
  | nil => rfl
  | cons e r ih =>
    obtain ⟨a, b⟩ := e
    simp only [List.map_cons, putT, mput]
    by_cases h : a = k
    · rw [if_pos (by simp [keyEq, h]), if_pos h]; rfl
    · rw [if_neg (by simp [keyEq, h]), if_neg h, ih]; rfl
theorem lookR_ok {β : Type} {g : β → T} {z : T} {d : β} (hz : z = g d) (o : Option β) : lookR true z (o.map g) = T.tup [g (o.getD d), T.bool o.isSome] := by
  cases o
  · rw [hz]; rfl
  · rfl
theorem look_mpB_ok {l : List (Int × Bool)} {k : Int} {o : Option Bool} (h : mget l k = o) : lookR true (T.bool false) (lookT (mpB l) (T.int .i64 k)) = T.tup [T.bool (o.getD false), T.bool o.isSome] := by
  rw [← h]; show lookR true (T.bool false) (lookT (l.map fun e => (T.int .i64 e.1, T.bool e.2)) (T.int .i64 k)) = _
  rw [look_map (g := T.bool)]; exact lookR_ok rfl _
theorem look_mp3_ok {l : List (Int × Int × Int × Int)} {k : Int} {o : Option (Int × Int × Int)} (h : mget l k = o) : lookR true (T.agg [T.int .i64 0, T.int .i64 0, T.int .i64 0]) (lookT (mp3 l) (T.int .i64 k)) = T.tup [T.agg [T.int .i64 (o.getD (0, 0, 0)).1, T.int .i64 (o.getD (0, 0, 0)).2.1, T.int .i64 (o.getD (0, 0, 0)).2.2], T.bool o.isSome] := by
  rw [← h]
  have := look_map (g := fun e : Int × Int × Int => T.agg [T.int .i64 e.1, T.int .i64 e.2.1, T.int .i64 e.2.2]) l k
  exact (congrArg (lookR true _) this).trans (lookR_ok (g := fun e : Int × Int × Int => T.agg [T.int .i64 e.1, T.int .i64 e.2.1, T.int .i64 e.2.2]) (d := (0, 0, 0)) rfl _)
theorem flatEs_map {β : Type} {f : β → T × T} (hf : ∀ e, (f e).1.flat = true ∧ (f e).2.flat = true) (l : List β) : flatEs (l.map f) = true := by
  induction l with
  | nil => rfl
  | cons e r ih => simp only [List.map_cons, flatEs, (hf e).1, (hf e).2, ih, Bool.and_self]
theorem flatEs_mpB (l : List (Int × Bool)) : flatEs (mpB l) = true := flatEs_map (fun _ => ⟨rfl, rfl⟩) l
theorem flatEs_mpI (l : List (Int × Int)) : flatEs (mpI l) = true := flatEs_map (fun _ => ⟨rfl, rfl⟩) l
theorem flatEs_mp3 (l : List (Int × Int × Int × Int)) : flatEs (mp3 l) = true := flatEs_map (fun _ => ⟨rfl, rfl⟩) l
def idx3 (a b c i : Int) : Int := if i = 0 then a else if i = 1 then b else c
theorem idx3_told {a b c i : Int} (h : 0 ≤ i ∧ i < 3) : List.getD [T.int .i64 a, T.int .i64 b, T.int .i64 c] i.toNat T.undef = T.int .i64 (idx3 a b c i) := by
  have : i = 0 ∨ i = 1 ∨ i = 2 := by omega
  rcases this with rfl | rfl | rfl <;> rfl
theorem atApp {α : Type} {f : α → T} {a b : List α} {d : α} {j i : Nat} (hj : j = i) (h : i < a.length + b.length) : (List.map f a ++ List.map f b)[j]? = some (f (List.getD (a ++ b) i d)) := by
  rw [← List.map_append]; exact atM hj (by rw [List.length_append]; exact h)
theorem keys_map {P : Program} {k : TypeId} (hk : P.underlying k = some (.int .i64)) {β : Type} {g : β → T} (l : List (Int × β)) (n : Int) : ∃ G, KeyRun P k G ∧ G (T.int .i64 n) ∧ ∀ x ∈ l.map fun e => (T.int .i64 e.1, g e.2), G x.1 :=
  ⟨_, keyRun_int hk, ⟨n, rfl⟩, fun x hx => by
    obtain ⟨e, _, rfl⟩ := List.mem_map.1 hx
    exact ⟨e.1, rfl⟩⟩
def nam {α γ : Type} (e : α) (f : α → Option γ) : Option γ := f e
theorem nam_some {α γ : Type} {e : α} {f : α → Option γ} {r : γ} (h : nam e f = some r) : ∃ v, e = v ∧ f v = some r := ⟨e, rfl, h⟩
def jn {γ δ : Type} (f : γ) (g : γ → Option δ) : Option δ := g f
theorem jn_some {γ δ : Type} {f : γ} {g : γ → Option δ} {r : δ} (h : jn f g = some r) : ∃ J, J = f ∧ g J = some r := ⟨f, rfl, h⟩
theorem fuel_ex : ∃ n : Nat, 1099511627776 ≤ n := ⟨_, Nat.le_refl _⟩
noncomputable def fuel : Nat := Classical.choose fuel_ex
theorem fuel_ge : 1099511627776 ≤ fuel := Classical.choose_spec fuel_ex
def I64 (n : Int) : Prop := -9223372036854775808 ≤ n ∧ n ≤ 9223372036854775807
theorem wrapI {n : Int} (h : I64 n) : T.int .i64 (IntKind.wrap .i64 n) = T.int .i64 n := wrapT_i64 h.1 h.2
theorem okY_wf {bs : List Int} (h : ∀ n ∈ bs, (Lit.int .u8 n).wf = true) : okY bs := by
  intro i
  by_cases hi : i < bs.length
  · have := h (bs.getD i 0) (by rw [List.getD_eq_getElem?_getD, List.getElem?_eq_getElem hi]; exact List.getElem_mem hi)
    simp only [Lit.wf, Bool.and_eq_true, decide_eq_true_eq] at this
    have e1 : IntKind.u8.min = 0 := by decide
    have e2 : IntKind.u8.max = 255 := by decide
    rw [e1, e2] at this
    exact this
  · rw [List.getD_eq_getElem?_getD, List.getElem?_eq_none (by omega)]; simp
theorem shl_told {a b : Int} (h0 : 0 ≤ b ∧ b < 64 ∧ I64 (a * 2 ^ b.toNat)) : T.int .i64 (IntKind.wrap .i64 (a * 2 ^ (min (Int.toNat b) 64))) = T.int .i64 (a * 2 ^ b.toNat) := by
  rw [Nat.min_eq_left (by omega)]; exact wrapI h0.2.2
theorem shr_told {k : IntKind} {a b : Int} (h0 : 0 ≤ b ∧ b < 64) : T.int k (Int.fdiv a (2 ^ (min (Int.toNat b) 64))) = T.int k (a / 2 ^ b.toNat) := by
  rw [Nat.min_eq_left (by omega), Int.fdiv_eq_ediv_of_nonneg _ (by exact Int.le_of_lt (Int.pow_pos (by decide)))]
theorem quo_told {a b : Int} (h : I64 (Int.tdiv a b)) : T.int .i64 (IntKind.wrap .i64 (Int.tdiv a b)) = T.int .i64 (Int.tdiv a b) := wrapI h
section
variable {P : Program} {cl : Bool} {n : Nat} {Q : Post}
theorem WP.joinA {α : Type} {x y : Code} {σ : St} (mk : α → St) (K : α → Prop) (h1 : WP P cl n x (thenQ (fun σ' => ∃ a, K a ∧ σ' = mk a) Q) σ) (h2 : ∀ a, K a → WP P cl n y Q (mk a)) : WP P cl n (.seq x y) Q σ :=
  WP.seq (WP.mono h1 fun e σ' h => by
    cases e with
    | normal => obtain ⟨a, k1, rfl⟩ := h; exact h2 a k1
    | _ => exact h)
theorem WP.st {c : Code} {σ σ' : St} (e : σ = σ') (h : WP P cl n c Q σ') : WP P cl n c Q σ := e ▸ h
end
end Go.Tl
