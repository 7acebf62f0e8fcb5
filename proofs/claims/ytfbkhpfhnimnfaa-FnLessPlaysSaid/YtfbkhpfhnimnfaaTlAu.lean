/-
  Functions that are printed beside the program's functions: what is checked, what is called, where branches meet, loops with fuel. No statement of the seat is proved here.
-/
import Derived.Test.YtfbkhpfhnimnfaaTlCI
import Derived.Test.YtfbkhpfhnimnfaaTlCur
namespace Go.Tl
set_option linter.unusedVariables false
set_option linter.unusedSimpArgs false

open Classical in
/-- The rest, if p holds. -/
noncomputable def chk {α : Type} (p : Prop) (x : Option α) : Option α := if p then x else none
theorem chk_some {α : Type} {p : Prop} {x : Option α} {r : α} (h : chk p x = some r) : p ∧ x = some r := by
  unfold chk at h; split at h
  · exact ⟨by assumption, h⟩
  · cases h
theorem chk_pos {α : Type} {p : Prop} {x : Option α} (hp : p) : chk p x = x := by unfold chk; rw [if_pos hp]
theorem ite_some {α : Type} {c : Bool} {x y : Option α} {r : α} (h : (bif c then x else y) = some r) : (c = true ∧ x = some r) ∨ (c = false ∧ y = some r) := by
  cases c
  · exact .inr ⟨rfl, h⟩
  · exact .inl ⟨rfl, h⟩
def bnd1 {α γ : Type} (x : Option α) (f : α → Option γ) : Option γ := x.bind f
def bnd2 {α β γ : Type} (x : Option (α × β)) (f : α → β → Option γ) : Option γ := x.bind fun r => f r.1 r.2
def bnd3 {α β δ γ : Type} (x : Option (α × β × δ)) (f : α → β → δ → Option γ) : Option γ := x.bind fun r => f r.1 r.2.1 r.2.2
def bnd4 {α β δ ε γ : Type} (x : Option (α × β × δ × ε)) (f : α → β → δ → ε → Option γ) : Option γ := x.bind fun r => f r.1 r.2.1 r.2.2.1 r.2.2.2
def bnd5 {α β δ ε ζ γ : Type} (x : Option (α × β × δ × ε × ζ)) (f : α → β → δ → ε → ζ → Option γ) : Option γ := x.bind fun r => f r.1 r.2.1 r.2.2.1 r.2.2.2.1 r.2.2.2.2
section
variable {α β δ ε ζ η θ ι κ γ : Type} {r : γ}
theorem bnd1_some {x : Option α} {f : α → Option γ} (h : bnd1 x f = some r) : ∃ a, x = some a ∧ f a = some r := by
  unfold bnd1 at h; cases x with
  | none => cases h
  | some a => exact ⟨a, rfl, h⟩
theorem bnd2_some {x : Option (α × β)} {f : α → β → Option γ} (h : bnd2 x f = some r) : ∃ a b, x = some (a, b) ∧ f a b = some r := by
  obtain ⟨y, h1, h2⟩ := bnd1_some h; exact ⟨_, _, h1, h2⟩
theorem bnd3_some {x : Option (α × β × δ)} {f : α → β → δ → Option γ} (h : bnd3 x f = some r) : ∃ a b c, x = some (a, b, c) ∧ f a b c = some r := by
  obtain ⟨y, h1, h2⟩ := bnd1_some h; exact ⟨_, _, _, h1, h2⟩
theorem bnd4_some {x : Option (α × β × δ × ε)} {f : α → β → δ → ε → Option γ} (h : bnd4 x f = some r) : ∃ a b c d, x = some (a, b, c, d) ∧ f a b c d = some r := by
  obtain ⟨y, h1, h2⟩ := bnd1_some h; exact ⟨_, _, _, _, h1, h2⟩
theorem bnd5_some {x : Option (α × β × δ × ε × ζ)} {f : α → β → δ → ε → ζ → Option γ} (h : bnd5 x f = some r) : ∃ a b c d e, x = some (a, b, c, d, e) ∧ f a b c d e = some r := by
  obtain ⟨y, h1, h2⟩ := bnd1_some h; exact ⟨_, _, _, _, _, h1, h2⟩
end
section
variable {α β δ ε ζ η θ ι κ γ : Type}
theorem bnd1_eq {x : Option α} {a : α} (h : x = some a) (f : α → Option γ) : bnd1 x f = f a := by rw [h]; rfl
theorem bnd2_eq {x : Option (α × β)} {a : α} {b : β} (h : x = some (a, b)) (f : α → β → Option γ) : bnd2 x f = f a b := by rw [h]; rfl
theorem bnd3_eq {x : Option (α × β × δ)} {a : α} {b : β} {c : δ} (h : x = some (a, b, c)) (f : α → β → δ → Option γ) : bnd3 x f = f a b c := by rw [h]; rfl
theorem bnd4_eq {x : Option (α × β × δ × ε)} {a : α} {b : β} {c : δ} {d : ε} (h : x = some (a, b, c, d)) (f : α → β → δ → ε → Option γ) : bnd4 x f = f a b c d := by rw [h]; rfl
theorem bnd5_eq {x : Option (α × β × δ × ε × ζ)} {a : α} {b : β} {c : δ} {d : ε} {e : ζ} (h : x = some (a, b, c, d, e)) (f : α → β → δ → ε → ζ → Option γ) : bnd5 x f = f a b c d e := by rw [h]; rfl
end
/-- How lists of trees are told alike. -/
theorem tlS : (∀ (α β : Type) (f : α → β) (a b : List α), List.map f (a ++ b) = List.map f a ++ List.map f b) ∧ (∀ (α β : Type) (f : α → β) (a : α) (b : List α), List.map f (a :: b) = f a :: List.map f b) ∧ (∀ (α β : Type) (f : α → β), List.map f [] = []) ∧
    (∀ (α β : Type) (f : α → β) (n : Nat) (a : List α), List.map f (List.take n a) = List.take n (List.map f a)) ∧ (∀ (α β : Type) (f : α → β) (n : Nat) (a : List α), List.map f (List.drop n a) = List.drop n (List.map f a)) ∧
    (∀ (α β : Type) (f : α → β) (n : Nat) (x : α) (a : List α), List.map f (List.set a n x) = List.set (List.map f a) n (f x)) ∧ (∀ (α β : Type) (f : α → β) (n : Nat) (x : α), List.map f (List.replicate n x) = List.replicate n (f x)) ∧
    (∀ (α : Type) (a b : List α), List.length (a ++ b) = List.length a + List.length b) ∧ (∀ (α : Type) (a : α) (b : List α), List.length (a :: b) = List.length b + 1) ∧ (∀ (α : Type), List.length ([] : List α) = 0) ∧ (∀ (α : Type) (n : Nat) (x : α) (a : List α), List.length (List.set a n x) = List.length a) ∧
    (∀ (α : Type) (n : Nat) (x : α), List.length (List.replicate n x) = n) ∧ (∀ (α β : Type) (f : α → β) (a : List α), List.length (List.map f a) = List.length a) ∧ (∀ (α : Type) (a : List α), [] ++ a = a) ∧ (∀ (α : Type) (a : List α), a ++ [] = a) ∧ (∀ (n : Nat), n * 1 = n) ∧ (∀ (n : Nat), 0 + n = n) ∧ (∀ (n : Nat), n + 0 = n) ∧ (∀ n : Nat, n - 0 = n) ∧
    (∀ (α β : Type) (f : α → List β) (a b : List α), List.flatMap f (a ++ b) = List.flatMap f a ++ List.flatMap f b) ∧ (∀ (α β : Type) (f : α → List β) (a : α) (b : List α), List.flatMap f (a :: b) = f a ++ List.flatMap f b) ∧ (∀ (α β : Type) (f : α → List β), List.flatMap f [] = []) ∧ (∀ (α : Type) (a : List α), List.drop 0 a = a) ∧
    (∀ (α : Type) (a : α) (b c : List α), (a :: b) ++ c = a :: (b ++ c)) ∧ (∀ (α : Type) (a b c : List α), (a ++ b) ++ c = a ++ (b ++ c)) ∧ (∀ (α β : Type) (f : α → List β) (n : Nat) (x : α), List.flatMap f (List.replicate n x) = List.flatten (List.replicate n (f x))) := by
  refine ⟨?_, ?_, ?_, ?_, ?_, ?_, ?_, ?_, ?_, ?_, ?_, ?_, ?_, ?_, ?_, ?_, ?_, ?_, ?_, ?_, ?_, ?_, ?_, ?_, ?_, ?_⟩ <;> intros <;> first | (simp; done) | rw [List.flatMap, List.map_replicate]
/-! ### elements of several cells -/
section
variable {α : Type} {f : α → List T} {c : Nat}
theorem lenF (hf : ∀ p, (f p).length = c) (xs : List α) : (List.flatMap f xs).length = xs.length * c := by
  induction xs with
  | nil => simp
  | cons x xs ih => rw [List.flatMap_cons, List.length_append, ih, hf, List.length_cons, Nat.succ_mul, Nat.add_comm]
end
def pairC (x : Int × Int) : List T := [T.int .i64 x.1, T.int .i64 x.2]
theorem len_pair (xs : List (Int × Int)) : (List.flatMap pairC xs).length = xs.length * 2 := lenF (f := pairC) (fun _ => rfl) xs
theorem flats_pair (xs : List (Int × Int)) : T.flats (List.flatMap pairC xs) = true := by induction xs <;> simp_all [T.flats, T.flat, pairC]
def recsC (x : ByteArray × ByteArray) : List T := [T.str x.1, T.str x.2]
theorem len_recs (xs : List (ByteArray × ByteArray)) : (List.flatMap recsC xs).length = xs.length * 2 := lenF (f := recsC) (fun _ => rfl) xs
theorem flats_recs (xs : List (ByteArray × ByteArray)) : T.flats (List.flatMap recsC xs) = true := by induction xs <;> simp_all [T.flats, T.flat, recsC]
def factC (x : Bool × Bool × Int × Int × Int) : List T := [T.bool x.1, T.bool x.2.1, T.int .i64 x.2.2.1, T.int .i64 x.2.2.2.1, T.int .i64 x.2.2.2.2]
theorem len_fact (xs : List (Bool × Bool × Int × Int × Int)) : (List.flatMap factC xs).length = xs.length * 5 := lenF (f := factC) (fun _ => rfl) xs
theorem flats_fact (xs : List (Bool × Bool × Int × Int × Int)) : T.flats (List.flatMap factC xs) = true := by induction xs <;> simp_all [T.flats, T.flat, factC]
/-- Lengths. -/
theorem tlL : (∀ (α β : Type) (f : α → β) (a : List α), List.length (List.map f a) = List.length a) ∧ (∀ (α : Type) (n : Nat) (x : α) (a : List α), List.length (List.set a n x) = List.length a) ∧ (∀ (α : Type) (a b : List α), List.length (a ++ b) = List.length a + List.length b) ∧
    (∀ (α : Type) (a : α) (b : List α), List.length (a :: b) = List.length b + 1) ∧ (∀ (α : Type), List.length ([] : List α) = 0) ∧ (∀ (α : Type) (n : Nat) (x : α), List.length (List.replicate n x) = n) ∧ (∀ (n : Nat), n * 1 = n) ∧
    (∀ xs : List Nd, List.length (List.flatMap nodeC xs) = List.length xs * 3) ∧ (∀ xs : List (Int × Bool), List.length (List.flatMap askedC xs) = List.length xs * 2) ∧ (∀ xs : List (Int × Int), List.length (List.flatMap pairC xs) = List.length xs * 2) ∧ (∀ xs : List (ByteArray × ByteArray), List.length (List.flatMap recsC xs) = List.length xs * 2) ∧ (∀ xs : List (Bool × Bool × Int × Int × Int), List.length (List.flatMap factC xs) = List.length xs * 5) := by
  refine ⟨?_, ?_, ?_, ?_, ?_, ?_, ?_, len_node, len_asked, len_pair, len_recs, len_fact⟩ <;> intros <;> simp
/-! ### short names of what is read most -/
abbrev ti (n : Int) : T := .int .i64 n
abbrev tb (b : Bool) : T := .bool b
abbrev tl (xs : List Int) : T := .list xs.length 1 (xs.map (T.int .i64))
abbrev ty (xs : List Int) : T := .list xs.length 1 (xs.map (T.int .u8))
abbrev tbl (xs : List Bool) : T := .list xs.length 1 (xs.map T.bool)
abbrev vi (n : Int) : V := .t (.int .i64 n)
abbrev vb (b : Bool) : V := .t (.bool b)
abbrev vl (xs : List Int) : V := .t (tl xs)
abbrev vy (xs : List Int) : V := .t (ty xs)
abbrev vbl (xs : List Bool) : V := .t (tbl xs)
abbrev oc (t : TypeId) (cs : List T) : Obj := .cells t cs
abbrev ov (t : TypeId) (vs : List V) : Obj := .vars t vs
abbrev vo (i n : Nat) : V := .own i 1 n
/-! ### branches of trees -/
inductive Br
  | nil
  | nd (q : Int) (y n : Br)
/-! ### maps -/
def mget {β : Type} : List (Int × β) → Int → Option β
  | [], _ => none
  | (a, b) :: r, k => if a = k then some b else mget r k
def mput {β : Type} : List (Int × β) → Int → β → List (Int × β)
  | [], k, v => [(k, v)]
  | (a, b) :: r, k, v => if a = k then (k, v) :: r else (a, b) :: mput r k v
theorem mget_put {β : Type} (l : List (Int × β)) (k j : Int) (v : β) : mget (mput l k v) j = if j = k then some v else mget l j := by
  induction l with
  | nil => simp only [mput, mget]; split <;> split <;> first | rfl | omega
  | cons e r ih =>
    obtain ⟨a, b⟩ := e
    simp only [mput]
    by_cases h : a = k
    · rw [if_pos h]
      simp only [mget]
      by_cases h2 : k = j
      · rw [if_pos h2, if_pos h2.symm]
      · rw [if_neg h2, if_neg (fun e => h2 e.symm), if_neg (fun e => h2 (h.symm.trans e))]
    · rw [if_neg h]
      simp only [mget]
      by_cases h2 : a = j
      · rw [if_pos h2, if_pos h2, if_neg (fun e => h (h2.trans e))]
      · rw [if_neg h2, if_neg h2, ih]
/-- The values of a map, told. -/
abbrev mpB (l : List (Int × Bool)) : List (T × T) := l.map fun e => (T.int .i64 e.1, T.bool e.2)
abbrev mpI (l : List (Int × Int)) : List (T × T) := l.map fun e => (T.int .i64 e.1, T.int .i64 e.2)
abbrev mp3 (l : List (Int × Int × Int × Int)) : List (T × T) := l.map fun e => (T.int .i64 e.1, T.agg [T.int .i64 e.2.1, T.int .i64 e.2.2.1, T.int .i64 e.2.2.2])
theorem look_map {β : Type} {g : β → T} (l : List (Int × β)) (k : Int) : lookT (l.map fun e => (T.int .i64 e.1, g e.2)) (T.int .i64 k) = (mget l k).map g := by
  induction l with
  | nil => rfl
  | cons e r ih =>
    obtain ⟨a, b⟩ := e
    simp only [List.map_cons, lookT, mget]
    by_cases h : a = k
    · rw [if_pos (by simp [keyEq, h]), if_pos h]; rfl
    · rw [if_neg (by simp [keyEq, h]), if_neg h, ih]
theorem put_map {β : Type} {g : β → T} (l : List (Int × β)) (k : Int) (v : β) : putT (l.map fun e => (T.int .i64 e.1, g e.2)) (T.int .i64 k) (g v) = (mput l k v).map fun e => (T.int .i64 e.1, g e.2) := by
  induction l with
  | nil => rfl
  | cons e r ih =>
    obtain ⟨a, b⟩ := e
    simp only [List.map_cons, putT, mput]
    by_cases h : a = k
    · rw [if_pos (by simp [keyEq, h]), if_pos h]; rfl
    · rw [if_neg (by simp [keyEq, h]), if_neg h, ih]; rfl
theorem lookR_ok {β : Type} {g : β → T} {z : T} {d : β} (hz : z = g d) (o : Option β) : lookR true z (o.map g) = T.tup [g (o.getD d), T.bool o.isSome] := by
  cases o
  · rw [hz]; rfl
  · rfl
theorem look_mpI_ok {l : List (Int × Int)} {k : Int} {o : Option Int} (h : mget l k = o) : lookR true (T.int .i64 0) (lookT (mpI l) (T.int .i64 k)) = T.tup [T.int .i64 (o.getD 0), T.bool o.isSome] := by
  rw [← h]; show lookR true (T.int .i64 0) (lookT (l.map fun e => (T.int .i64 e.1, T.int .i64 e.2)) (T.int .i64 k)) = _
  rw [look_map (g := T.int .i64)]; exact lookR_ok rfl _
theorem flatEs_map {β : Type} {f : β → T × T} (hf : ∀ e, (f e).1.flat = true ∧ (f e).2.flat = true) (l : List β) : flatEs (l.map f) = true := by
  induction l with
  | nil => rfl
  | cons e r ih => simp only [List.map_cons, flatEs, (hf e).1, (hf e).2, ih, Bool.and_self]
theorem flatEs_mpB (l : List (Int × Bool)) : flatEs (mpB l) = true := flatEs_map (fun _ => ⟨rfl, rfl⟩) l
theorem flatEs_mpI (l : List (Int × Int)) : flatEs (mpI l) = true := flatEs_map (fun _ => ⟨rfl, rfl⟩) l
theorem flatEs_mp3 (l : List (Int × Int × Int × Int)) : flatEs (mp3 l) = true := flatEs_map (fun _ => ⟨rfl, rfl⟩) l
theorem keys_map {P : Program} {k : TypeId} (hk : P.underlying k = some (.int .i64)) {β : Type} {g : β → T} (l : List (Int × β)) (n : Int) : ∃ G, KeyRun P k G ∧ G (T.int .i64 n) ∧ ∀ x ∈ l.map fun e => (T.int .i64 e.1, g e.2), G x.1 :=
  ⟨_, keyRun_int hk, ⟨n, rfl⟩, fun x hx => by
    obtain ⟨e, _, rfl⟩ := List.mem_map.1 hx
    exact ⟨e.1, rfl⟩⟩
/-- A value named. -/
def nam {α γ : Type} (e : α) (f : α → Option γ) : Option γ := f e
theorem nam_some {α γ : Type} {e : α} {f : α → Option γ} {r : γ} (h : nam e f = some r) : ∃ v, e = v ∧ f v = some r := ⟨e, rfl, h⟩
/-- Where branches meet: what follows is f, the branches are g. -/
def jn {γ δ : Type} (f : γ) (g : γ → Option δ) : Option δ := g f
theorem jn_some {γ δ : Type} {f : γ} {g : γ → Option δ} {r : δ} (h : jn f g = some r) : ∃ J, J = f ∧ g J = some r := ⟨f, rfl, h⟩
/-- Rounds enough for any loop here. -/
theorem fuel_ex : ∃ n : Nat, 1099511627776 ≤ n := ⟨_, Nat.le_refl _⟩
noncomputable def fuel : Nat := Classical.choose fuel_ex
theorem fuel_ge : 1099511627776 ≤ fuel := Classical.choose_spec fuel_ex
def I64 (n : Int) : Prop := -9223372036854775808 ≤ n ∧ n ≤ 9223372036854775807
theorem wrapI {n : Int} (h : I64 n) : T.int .i64 (IntKind.wrap .i64 n) = T.int .i64 n := wrapT_i64 h.1 h.2
theorem okY_wf {bs : List Int} (h : ∀ n ∈ bs, (Lit.int .u8 n).wf = true) : okY bs := by
  intro i
  by_cases hi : i < bs.length
  · have := h (bs.getD i 0) (by rw [List.getD_eq_getElem?_getD, List.getElem?_eq_getElem hi]; exact List.getElem_mem hi)
    simp only [Lit.wf, Bool.and_eq_true, decide_eq_true_eq] at this
    have e1 : IntKind.u8.min = 0 := by decide
    have e2 : IntKind.u8.max = 255 := by decide
    rw [e1, e2] at this
    exact this
  · rw [List.getD_eq_getElem?_getD, List.getElem?_eq_none (by omega)]; simp
/-- Shifts. -/
theorem shl_told {a b : Int} (h0 : 0 ≤ b ∧ b < 64 ∧ I64 (a * 2 ^ b.toNat)) : T.int .i64 (IntKind.wrap .i64 (a * 2 ^ (min (Int.toNat b) 64))) = T.int .i64 (a * 2 ^ b.toNat) := by
  rw [Nat.min_eq_left (by omega)]; exact wrapI h0.2.2
theorem shr_told {k : IntKind} {a b : Int} (h0 : 0 ≤ b ∧ b < 64) : T.int k (Int.fdiv a (2 ^ (min (Int.toNat b) 64))) = T.int k (a / 2 ^ b.toNat) := by
  rw [Nat.min_eq_left (by omega), Int.fdiv_eq_ediv_of_nonneg _ (by exact Int.le_of_lt (Int.pow_pos (by decide)))]
theorem quo_told {a b : Int} (h : I64 (Int.tdiv a b)) : T.int .i64 (IntKind.wrap .i64 (Int.tdiv a b)) = T.int .i64 (Int.tdiv a b) := wrapI h
section
variable {P : Program} {cl : Bool} {n : Nat} {Q : Post}
theorem WP.joinA {α : Type} {x y : Code} {σ : St} (mk : α → St) (K : α → Prop) (h1 : WP P cl n x (thenQ (fun σ' => ∃ a, K a ∧ σ' = mk a) Q) σ) (h2 : ∀ a, K a → WP P cl n y Q (mk a)) : WP P cl n (.seq x y) Q σ :=
  WP.seq (WP.mono h1 fun e σ' h => by
    cases e with
    | normal => obtain ⟨a, k1, rfl⟩ := h; exact h2 a k1
    | _ => exact h)
theorem WP.st {c : Code} {σ σ' : St} (e : σ = σ') (h : WP P cl n c Q σ') : WP P cl n c Q σ := e ▸ h
end
end Go.Tl
