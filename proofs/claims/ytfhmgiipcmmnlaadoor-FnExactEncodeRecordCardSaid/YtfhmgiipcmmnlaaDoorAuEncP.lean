/-
  Plain laws of the printed functions: no program here.
-/
import Derived.Test.YtfhmgiipcmmnlaaDoorAuEncF
namespace Go.Tl
set_option linter.unusedVariables false
set_option linter.unusedSimpArgs false
/-- A loop, told by what its rounds keep. -/
theorem loop_m {σ R : Type} (L : Nat → σ → Option R) (I : σ → Prop) (μ : σ → Nat) (Q : Option R → Prop)
    (step : ∀ n s, I s → (∃ s', I s' ∧ μ s' < μ s ∧ L (n + 1) s = L n s') ∨ Q (L (n + 1) s)) : ∀ n s, I s → μ s < n → Q (L n s) := by
  intro n
  induction n with
  | zero => intro s _ h; omega
  | succ n ih =>
    intro s hI hm
    rcases step n s hI with ⟨s', h1, h2, h3⟩ | h
    · rw [h3]; exact ih s' h1 (by omega)
    · exact h
/-- A loop that counts up to N; st is its state by the count. -/
theorem loop_up {σ R : Type} (L : Nat → Int → σ → Option R) (N : Int) (st : Int → σ) (r : Option R)
    (step : ∀ n i, 0 ≤ i → i < N → L (n + 1) i (st i) = L n (i + 1) (st (i + 1))) (fin : ∀ n, L (n + 1) N (st N) = r) (h0 : 0 ≤ N) (n : Nat) (hn : N.toNat < n) : L n 0 (st 0) = r := by
  have key : ∀ (k : Nat) (n : Nat) (i : Int), 0 ≤ i → i + k = N → k < n → L n i (st i) = r := by
    intro k
    induction k with
    | zero =>
      intro n i h1 h2 h3; obtain ⟨n, rfl⟩ : ∃ m, n = m + 1 := ⟨n - 1, by omega⟩; have e : i = N := by omega
      subst e; exact fin n
    | succ k ih =>
      intro n i h1 h2 h3
      obtain ⟨n, rfl⟩ : ∃ m, n = m + 1 := ⟨n - 1, by omega⟩
      rw [step n i h1 (by omega)]
      exact ih n (i + 1) (by omega) (by omega) (by omega)
  exact key N.toNat n 0 (Int.le_refl _) (by omega) hn
/-- A loop that counts up to N and may end early: with what p tells. -/
theorem loop_all {R : Type} (L : Nat → Int → Option R) (N : Int) (p : Int → Bool) (no yes : Option R)
    (step : ∀ n i, 0 ≤ i → i < N → p i = true → L (n + 1) i = L n (i + 1)) (stop : ∀ n i, 0 ≤ i → i < N → p i = false → L (n + 1) i = no) (fin : ∀ n, L (n + 1) N = yes) (h0 : 0 ≤ N) (n : Nat) (hn : N.toNat < n) :
    (L n 0 = yes ∧ ∀ i, 0 ≤ i → i < N → p i = true) ∨ (L n 0 = no ∧ ∃ i, 0 ≤ i ∧ i < N ∧ p i = false ∧ ∀ j, 0 ≤ j → j < i → p j = true) := by
  have key : ∀ (k : Nat) (n : Nat) (i : Int), 0 ≤ i → i + k = N → k < n → (∀ j, 0 ≤ j → j < i → p j = true) → (L n i = yes ∧ ∀ i, 0 ≤ i → i < N → p i = true) ∨ (L n i = no ∧ ∃ i, 0 ≤ i ∧ i < N ∧ p i = false ∧ ∀ j, 0 ≤ j → j < i → p j = true) := by
    intro k
    induction k with
    | zero =>
      intro n i h1 h2 h3 h4; obtain ⟨n, rfl⟩ : ∃ m, n = m + 1 := ⟨n - 1, by omega⟩; have e : i = N := by omega
      subst e; exact .inl ⟨fin n, h4⟩
    | succ k ih =>
      intro n i h1 h2 h3 h4
      obtain ⟨n, rfl⟩ : ∃ m, n = m + 1 := ⟨n - 1, by omega⟩
      cases hp : p i with
      | false => exact .inr ⟨stop n i h1 (by omega) hp, i, h1, by omega, hp, h4⟩
      | true =>
        rw [step n i h1 (by omega) hp]
        refine ih n (i + 1) (by omega) (by omega) (by omega) fun j k1 k2 => ?_
        by_cases e : j = i
        · rw [e]; exact hp
        · exact h4 j k1 (by omega)
  exact key N.toNat n 0 (Int.le_refl _) (by omega) hn fun j h1 h2 => by omega
theorem ite_t {α : Type} {c : Bool} (h : c = true) (x y : α) : (bif c then x else y) = x := by rw [h]; rfl
theorem ite_f {α : Type} {c : Bool} (h : c = false) (x y : α) : (bif c then x else y) = y := by rw [h]; rfl
theorem ite_c {α : Type} {P : α → Prop} {c : Bool} {x y : α} (h1 : c = true → P x) (h2 : c = false → P y) : P (bif c then x else y) := by
  cases c
  · exact h2 rfl
  · exact h1 rfl
theorem getD_in {xs : List Int} {i : Nat} {P : Int → Prop} (h : i < xs.length) (hP : ∀ x ∈ xs, P x) : P (xs.getD i 0) := by
  rw [List.getD_eq_getElem?_getD, List.getElem?_eq_getElem h]; exact hP _ (List.getElem_mem h)
theorem maxN_in {a b : Int} : a ≤ maxN a b ∧ b ≤ maxN a b ∧ (maxN a b = a ∨ maxN a b = b) := by unfold maxN; split <;> omega
theorem minN_in {a b : Int} : minN a b ≤ a ∧ minN a b ≤ b ∧ (minN a b = a ∨ minN a b = b) := by unfold minN; split <;> omega
/-- The bytes of a string. -/
def bl (s : ByteArray) : List UInt8 := s.data.toList
theorem bl_len (s : ByteArray) : (bl s).length = s.size := Array.length_toList
theorem bl_app (a b : ByteArray) : bl (a ++ b) = bl a ++ bl b := by
  unfold bl; rw [ByteArray.data_append, Array.toList_append]
theorem bl_ext (s : ByteArray) (i j : Nat) : bl (ByteArray.extract s i j) = ((bl s).drop i).take (j - i) := by
  unfold bl; rw [ByteArray.data_extract, Array.toList_extract, List.extract_eq_take_drop]
theorem bl_inj {a b : ByteArray} (h : bl a = bl b) : a = b := by
  cases a; cases b; congr 1; exact Array.ext' h
theorem sz_app (a b : ByteArray) : (a ++ b).size = a.size + b.size := by rw [← bl_len, bl_app, List.length_append, bl_len, bl_len]
theorem sz_mk (l : List UInt8) : (ByteArray.mk ⟨l⟩).size = l.length := rfl
theorem bl_mk (l : List UInt8) : bl (ByteArray.mk ⟨l⟩) = l := rfl
theorem str_eq (a b : ByteArray) : (a.toList == b.toList) = decide (bl a = bl b) := by
  apply Bool.eq_iff_iff.2
  rw [decide_eq_true_eq, beq_iff_eq]
  exact ⟨fun h => by rw [toList_inj h], fun h => by rw [bl_inj h]⟩
theorem str_same (a : ByteArray) : (a.toList == a.toList) = true := by simp
theorem byteAt_bl (s : ByteArray) (i : Nat) : byteAt s i = (((bl s).getD i 0).toNat : Int) := by
  unfold byteAt bl; rw [List.getD_eq_getElem?_getD]
theorem digit_ext : ∀ k : Fin 10, ((bl (ByteArray.mk #[48, 49, 50, 51, 52, 53, 54, 55, 56, 57])).drop k.val).take (k.val + 1 - k.val) = [UInt8.ofNat (48 + k.val)] := by decide
theorem digit_bl {n : Int} (h0 : 0 ≤ n) (h1 : n < 10) : bl (ByteArray.extract (ByteArray.mk #[48, 49, 50, 51, 52, 53, 54, 55, 56, 57]) (Int.toNat n) (Int.toNat (n + 1))) = [UInt8.ofNat (48 + n.toNat)] := by
  rw [bl_ext, show (n + 1).toNat = n.toNat + 1 by omega]
  exact digit_ext ⟨n.toNat, by omega⟩
theorem itoa_bl {n : Int} (h : 0 ≤ n) : bl (itoaB n) = Lib.decDigits n.toNat := by
  unfold itoaB Lib.itoa
  rw [if_neg (by omega)]
  rfl
theorem itoa_sz {n : Int} (h0 : 0 ≤ n) (h1 : n < 1000000) : (itoaB n).size ≤ 6 := by
  rw [← bl_len, itoa_bl h0, Lib.decDigits_length]
  have h : ∀ u : Nat, u < 10 → Lib.nDigits u ≤ 1 := fun u hu => by rw [Lib.nDigits_small hu]; exact Nat.le_refl _
  have step : ∀ k u : Nat, (∀ v, v < 10 ^ k → Lib.nDigits v ≤ k) → 1 ≤ k → u < 10 ^ (k + 1) → Lib.nDigits u ≤ k + 1 := fun k u ih hk hu => by
    by_cases h10 : u < 10
    · have := h u h10; omega
    · rw [Lib.nDigits_big h10]
      have := ih (u / 10) (by rw [Nat.pow_succ] at hu; omega)
      omega
  have h6 : ∀ k : Nat, 1 ≤ k → ∀ v, v < 10 ^ k → Lib.nDigits v ≤ k := by
    intro k
    induction k with
    | zero => intro h; omega
    | succ k ih =>
      intro _ v hv
      by_cases hk : k = 0
      · subst hk; exact h v (by simpa using hv)
      · exact step k v (ih (by omega)) (by omega) hv
  exact h6 6 (by omega) n.toNat (by omega)
theorem itoa_sz1 {n : Int} (h0 : 0 ≤ n) : 1 ≤ (itoaB n).size := by
  rw [← bl_len, itoa_bl h0, Lib.decDigits_length]
  exact Lib.nDigits_pos _
theorem sNum_eq : ∀ (m : Nat) (n : Int), 0 ≤ n → n < 1000000000000 → n.toNat < m → F_spec_l1Num m n = some (itoaB n) ∧ (itoaB n).size ≤ n.toNat + 1 := by
  intro m
  induction m with
  | zero => intro n _ _ h; omega
  | succ m ih =>
    intro n h0 h1 hm
    rw [F_spec_l1Num, F_spec_l1Num_B, ite_f (decide_eq_false (by omega))]
    by_cases h : n < 10
    · have e : bl (itoaB n) = [UInt8.ofNat (48 + n.toNat)] := by rw [itoa_bl h0, Lib.decDigits_one (by omega)]
      have e2 := digit_bl h0 h
      rw [ite_t (decide_eq_true h), chk_pos (by unfold I64; omega), chk_pos ⟨h0, by omega, by rw [show ByteArray.size (ByteArray.mk #[48, 49, 50, 51, 52, 53, 54, 55, 56, 57]) = 10 from rfl]; omega⟩]
      exact ⟨by rw [bl_inj (e2.trans e.symm)], by rw [← bl_len, e]; simp⟩
    · have hd : Int.tdiv n 10 = n / 10 := Int.tdiv_eq_ediv_of_nonneg h0
      have hm' : Int.tmod n 10 = n % 10 := Int.tmod_eq_emod_of_nonneg h0
      rw [ite_f (decide_eq_false h)]
      obtain ⟨i1, i2⟩ := ih (n / 10) (by omega) (by omega) (by omega)
      have e2 := digit_bl (n := n % 10) (by omega) (by omega)
      have e3 : (ByteArray.extract (ByteArray.mk #[48, 49, 50, 51, 52, 53, 54, 55, 56, 57]) (Int.toNat (n % 10)) (Int.toNat (n % 10 + 1))).size = 1 := by rw [← bl_len, e2]; rfl
      have e4 : itoaB (n / 10) ++ ByteArray.extract (ByteArray.mk #[48, 49, 50, 51, 52, 53, 54, 55, 56, 57]) (Int.toNat (n % 10)) (Int.toNat (n % 10 + 1)) = itoaB n := by
        apply bl_inj
        rw [bl_app, e2, itoa_bl (by omega), itoa_bl h0]
        rw [show (n / 10).toNat = n.toNat / 10 by omega, show (n % 10).toNat = n.toNat % 10 by omega]
        conv => rhs; rw [Lib.decDigits, dif_neg (by omega)]
      rw [hd, hm', chk_pos (by unfold I64; omega), bnd1_eq i1, chk_pos (by unfold I64; omega), chk_pos ⟨by omega, by omega, by rw [show ByteArray.size (ByteArray.mk #[48, 49, 50, 51, 52, 53, 54, 55, 56, 57]) = 10 from rfl]; omega⟩,
        chk_pos (by rw [e3]; omega), e4]
      refine ⟨rfl, ?_⟩
      rw [← e4, sz_app, e3]; omega
theorem sNum {n : Int} (h0 : 0 ≤ n) (h1 : n < 1000000) : F_spec_l1Num fuel n = some (itoaB n) := (sNum_eq fuel n h0 (by omega) (by have := fuel_ge; omega)).1
/-- The checksum behind i bytes. -/
def sumI (s : ByteArray) : Nat → Int
  | 0 => 7
  | i + 1 => (41 * sumI s i + byteAt s i + 1) % 999979
def sumB (s : ByteArray) : Int := sumI s s.size
theorem sumI_in (s : ByteArray) : ∀ i, 0 ≤ sumI s i ∧ sumI s i < 999979
  | 0 => by simp only [sumI]; omega
  | i + 1 => by simp only [sumI]; omega
theorem iSum_eq (s : ByteArray) (h : s.size ≤ 1000000) : F_impl_checksum s = some (sumB s) := by
  unfold F_impl_checksum
  simp only [jn]
  refine loop_up (fun n i (z : Int) => F_impl_checksum_L1 s (fun v3 => some v3) n i z) (s.size : Int) (fun i => sumI s i.toNat) _ (fun n i h0 h1 => ?_) (fun n => ?_) (by omega) fuel (by have := fuel_ge; omega)
  · have a1 := sumI_in s i.toNat
    have a2 := byteAt_nonneg s i.toNat
    have a3 := byteAt_le s i.toNat
    show _ = _
    rw [F_impl_checksum_L1, ite_t (decide_eq_true h1), chk_pos (by unfold I64; omega), chk_pos ⟨h0, h1⟩, chk_pos (by unfold I64; omega), chk_pos (by unfold I64; omega)]
    simp only [nam]
    rw [chk_pos (by unfold I64; omega), chk_pos (by unfold I64; omega), show (i + 1).toNat = i.toNat + 1 by omega, sumI, Int.tmod_eq_emod_of_nonneg (by omega)]
  · show F_impl_checksum_L1 s (fun v3 => some v3) (n + 1) _ _ = _
    rw [F_impl_checksum_L1, ite_f (decide_eq_false (by omega))]
    rfl
theorem sSum_eq (s : ByteArray) (h : s.size ≤ 1000000) : F_spec_l1Sum s = some (sumB s) := by
  unfold F_spec_l1Sum
  simp only [jn]
  refine loop_up (fun n i (z : Int) => F_spec_l1Sum_L1 s (fun v3 => some v3) n i z) (s.size : Int) (fun i => sumI s i.toNat) _ (fun n i h0 h1 => ?_) (fun n => ?_) (by omega) fuel (by have := fuel_ge; omega)
  · have a1 := sumI_in s i.toNat
    have a2 := byteAt_nonneg s i.toNat
    have a3 := byteAt_le s i.toNat
    show _ = _
    rw [F_spec_l1Sum_L1, ite_t (decide_eq_true h1), chk_pos (by unfold I64; omega), chk_pos ⟨h0, h1⟩, chk_pos (by unfold I64; omega), chk_pos (by unfold I64; omega)]
    simp only [nam]
    rw [chk_pos (by unfold I64; omega), chk_pos (by unfold I64; omega), show (i + 1).toNat = i.toNat + 1 by omega, sumI, Int.tmod_eq_emod_of_nonneg (by omega)]
  · show F_spec_l1Sum_L1 s (fun v3 => some v3) (n + 1) _ _ = _
    rw [F_spec_l1Sum_L1, ite_f (decide_eq_false (by omega))]
    rfl
/-- Bytes of a record's reply, and of its command. -/
def okR (r : List UInt8) : Prop := r.length ≤ 250 ∧ ∀ b ∈ r, 32 ≤ b.toNat ∧ b.toNat ≤ 126 ∧ b ≠ 35
def okC (c : List UInt8) : Prop := 1 ≤ c.length ∧ c.length ≤ 160 ∧ ∀ b ∈ c, 32 ≤ b.toNat ∧ b.toNat ≤ 126 ∧ b ≠ 35 ∧ b ≠ 64
theorem allB_bl {s : ByteArray} {p : Nat → Bool} {q : UInt8 → Prop} (h : ∀ i, i < s.size → (p i = true ↔ q ((bl s).getD i 0))) : allB s.size p = true ↔ ∀ b ∈ bl s, q b := by
  rw [allB_iff]
  constructor
  · intro k b hb
    obtain ⟨i, hi, rfl⟩ := List.mem_iff_getElem.1 hb
    rw [bl_len] at hi
    have := (h i hi).1 (k i hi)
    rwa [List.getD_eq_getElem?_getD, List.getElem?_eq_getElem (by rw [bl_len]; exact hi)] at this
  · intro k i hi
    refine (h i hi).2 (k _ ?_)
    rw [List.getD_eq_getElem?_getD, List.getElem?_eq_getElem (by rw [bl_len]; exact hi)]
    exact List.getElem_mem _
theorem u8_eq (b : UInt8) (k : Nat) (hk : k < 256) : ((b.toNat : Int) = k) ↔ b = k.toUInt8 := by
  constructor
  · intro h
    apply UInt8.toNat_inj.1
    simp only [Nat.toUInt8, UInt8.toNat_ofNat']
    omega
  · intro h; rw [h]; simp only [Nat.toUInt8, UInt8.toNat_ofNat']; omega
theorem goodB_iff (s : ByteArray) (i : Nat) : goodB s i = true ↔ (32 ≤ ((bl s).getD i 0).toNat ∧ ((bl s).getD i 0).toNat ≤ 126 ∧ (bl s).getD i 0 ≠ 35) := by
  unfold goodB
  rw [byteAt_bl]
  have := u8_eq ((bl s).getD i 0) 35 (by decide)
  rw [show (35 : Nat).toUInt8 = 35 from rfl] at this
  simp only [Bool.and_eq_true, decide_eq_true_eq, Bool.not_eq_true', beq_eq_false_iff_ne, ne_eq]
  rw [← this]
  omega
theorem rec_iff (c r : ByteArray) : l12RecordN c r = true ↔ okC (bl c) ∧ okR (bl r) := by
  unfold l12RecordN okC okR
  rw [empty_iff]
  have h1 : allB r.size (goodB r) = true ↔ ∀ b ∈ bl r, 32 ≤ b.toNat ∧ b.toNat ≤ 126 ∧ b ≠ 35 := allB_bl fun i _ => goodB_iff r i
  have h2 : allB c.size (fun i => goodB c i && !(byteAt c i == 64)) = true ↔ ∀ b ∈ bl c, 32 ≤ b.toNat ∧ b.toNat ≤ 126 ∧ b ≠ 35 ∧ b ≠ 64 := allB_bl fun i _ => by
    rw [Bool.and_eq_true, goodB_iff, byteAt_bl, Bool.not_eq_true', beq_eq_false_iff_ne]
    have := u8_eq ((bl c).getD i 0) 64 (by decide)
    rw [show (64 : Nat).toUInt8 = 64 from rfl] at this
    have this : ((((bl c).getD i 0).toNat : Int) ≠ 64) ↔ ((bl c).getD i 0 ≠ 64) := not_congr this
    exact ⟨fun h => ⟨h.1.1, h.1.2.1, h.1.2.2, this.1 h.2⟩, fun h => ⟨⟨h.1, h.2.1, h.2.2.1⟩, this.2 h.2.2.2⟩⟩
  rw [allB_and, Bool.and_eq_true, Bool.not_eq_true'] at h2
  rw [← h1, ← h2, bl_len, bl_len]
  simp only [Bool.and_eq_true, Bool.not_eq_true', decide_eq_true_eq, decide_eq_false_iff_not]
  constructor
  · rintro ⟨⟨⟨a1, a2, a3⟩, a4⟩, a5, a6⟩
    exact ⟨⟨by omega, by omega, a2, a4⟩, by omega, a5⟩
  · rintro ⟨⟨a1, a2, a3, a4⟩, a5, a6⟩
    exact ⟨⟨⟨by omega, a3, by omega⟩, a4⟩, a6, by omega⟩
theorem firstIdx_bl (s : ByteArray) (c : UInt8) : firstIdx s c = match (List.range (bl s).length).find? (fun i => (bl s).getD i 0 == c) with | some i => (i : Int) | none => -1 := by
  unfold firstIdx
  rw [bl_len]
  have : ∀ l : List Nat, (∀ i ∈ l, i < s.size) → l.find? (fun i => s[i]! == c) = l.find? (fun i => (bl s).getD i 0 == c) := by
    intro l
    induction l with
    | nil => intro _; rfl
    | cons a l ih =>
      intro h
      have ha := h a List.mem_cons_self
      have e : s[a]! = (bl s).getD a 0 := by
        rw [List.getD_eq_getElem?_getD, bl, Array.getElem?_toList]
        have h' : a < s.data.size := ha
        rw [Array.getElem?_eq_getElem h', getElem!_pos s a ha]
        rfl
      rw [List.find?_cons, List.find?_cons, e, ih fun i hi => h i (List.mem_cons_of_mem _ hi)]
  rw [this _ fun i hi => List.mem_range.1 hi]
  rfl
/-- Where a byte stands first: at the end of what lies before it. -/
theorem firstIdx_app {s : ByteArray} {c : UInt8} {a b : List UInt8} (h : bl s = a ++ c :: b) (ha : c ∉ a) : firstIdx s c = a.length := by
  rw [firstIdx_bl, h]
  have : (List.range (a ++ c :: b).length).find? (fun i => (a ++ c :: b).getD i 0 == c) = some a.length := by
    rw [List.find?_range_eq_some]
    refine ⟨by simp, by simp, fun j hj => ?_⟩
    rw [List.getD_eq_getElem?_getD, List.getElem?_append_left hj, List.getElem?_eq_getElem hj]
    simp only [Option.getD_some, Bool.not_eq_true', beq_eq_false_iff_ne]
    exact fun e => ha (e ▸ List.getElem_mem hj)
  rw [this]
theorem firstIdx_none {s : ByteArray} {c : UInt8} (h : c ∉ bl s) : firstIdx s c = -1 := by
  rw [firstIdx_bl]
  have : (List.range (bl s).length).find? (fun i => (bl s).getD i 0 == c) = none := by
    rw [List.find?_eq_none]
    intro i hi
    rw [List.mem_range] at hi
    rw [List.getD_eq_getElem?_getD, List.getElem?_eq_getElem hi]
    simp only [Option.getD_some, beq_iff_eq]
    exact fun e => h (e ▸ List.getElem_mem hi)
  rw [this]
theorem split_at {c : UInt8} : ∀ {l : List UInt8}, c ∈ l → ∃ a b, l = a ++ c :: b ∧ c ∉ a
  | x :: l, h => by
    by_cases e : x = c
    · exact ⟨[], l, by rw [e]; rfl, by simp⟩
    · obtain ⟨a, b, e1, e2⟩ := split_at (l := l) (by rcases List.mem_cons.1 h with h | h; exact absurd h.symm e; exact h)
      exact ⟨x :: a, b, by rw [e1]; rfl, by simp [e2, Ne.symm e]⟩
theorem split_unique {c : UInt8} : ∀ {a a' b b' : List UInt8}, a ++ c :: b = a' ++ c :: b' → c ∉ a → c ∉ a' → a = a' ∧ b = b'
  | [], [], b, b', h, _, _ => ⟨rfl, by simpa using h⟩
  | [], x :: a', b, b', h, _, h2 => by simp at h; exact absurd (by simp [h.1]) h2
  | x :: a, [], b, b', h, h1, _ => by simp at h; exact absurd (by simp [h.1]) h1
  | x :: a, y :: a', b, b', h, h1, h2 => by
    simp only [List.cons_append, List.cons.injEq] at h
    obtain ⟨e1, e2⟩ := split_unique h.2 (fun h => h1 (List.mem_cons_of_mem _ h)) (fun h => h2 (List.mem_cons_of_mem _ h))
    exact ⟨by rw [h.1, e1], e2⟩
theorem iContains {s : ByteArray} {c : UInt8} : F_strings_Contains s (ByteArray.mk #[c]) = some (decide (c ∈ bl s)) := by
  unfold F_strings_Contains F_strings_Index
  rw [chk_pos (show ByteArray.size (ByteArray.mk #[c]) = 1 from rfl), bnd1_eq rfl]
  congr 1
  show decide (firstIdx s c ≥ 0) = _
  by_cases h : c ∈ bl s
  · obtain ⟨a, b, e1, e2⟩ := split_at h
    rw [firstIdx_app e1 e2, decide_eq_true h]
    exact decide_eq_true (by omega)
  · rw [firstIdx_none h, decide_eq_false h]; rfl
/-- A record's line but for its checksum; the line. -/
def headB (k : Int) (c r : ByteArray) : ByteArray := (((itoaB k ++ ByteArray.mk #[32]) ++ c) ++ ByteArray.mk #[64]) ++ r
def lineB (k : Int) (c r : ByteArray) : ByteArray := ((headB k c r ++ ByteArray.mk #[35]) ++ itoaB (sumB (headB k c r))) ++ ByteArray.mk #[10]
theorem headB_sz (k : Int) (c r : ByteArray) : (headB k c r).size = (itoaB k).size + 1 + c.size + 1 + r.size := by
  unfold headB; rw [sz_app, sz_app, sz_app, sz_app]; rfl
theorem sumB_in (s : ByteArray) : 0 ≤ sumB s ∧ sumB s < 999979 := sumI_in s s.size
theorem dig_bytes : ∀ (u : Nat), ∀ b ∈ Lib.decDigits u, 48 ≤ b.toNat ∧ b.toNat ≤ 57 := by
  intro u
  induction u using Nat.strongRecOn with
  | _ u ih =>
    intro b hb
    have one : ∀ k : Nat, k < 10 → 48 ≤ (UInt8.ofNat (48 + k)).toNat ∧ (UInt8.ofNat (48 + k)).toNat ≤ 57 := fun k hk => by
      rw [UInt8.toNat_ofNat']; omega
    by_cases h : u < 10
    · rw [Lib.decDigits_one h, List.mem_singleton] at hb
      subst hb; exact one u h
    · rw [Lib.decDigits, dif_neg h, List.mem_append, List.mem_singleton] at hb
      rcases hb with hb | rfl
      · exact ih _ (by omega) b hb
      · exact one _ (by omega)
theorem itoa_bytes {n : Int} (h : 0 ≤ n) : ∀ b ∈ bl (itoaB n), 48 ≤ b.toNat ∧ b.toNat ≤ 57 := by rw [itoa_bl h]; exact dig_bytes _
theorem head_bytes {k : Int} (hk : 0 ≤ k) {c r : ByteArray} (hc : okC (bl c)) (hr : okR (bl r)) : ∀ b ∈ bl (headB k c r), 32 ≤ b.toNat ∧ b.toNat ≤ 126 ∧ b ≠ 35 := by
  intro b hb
  unfold headB at hb
  rw [bl_app, bl_app, bl_app, bl_app] at hb
  simp only [List.mem_append] at hb
  rcases hb with (((hb | hb) | hb) | hb) | hb
  · have := itoa_bytes hk b hb
    exact ⟨by omega, by omega, fun e => by subst e; simp at this⟩
  · have : b = 32 := by simpa [bl] using hb
    subst this; decide
  · have := hc.2.2 b hb; exact ⟨this.1, this.2.1, this.2.2.1⟩
  · have : b = 64 := by simpa [bl] using hb
    subst this; decide
  · exact hr.2 b hb
theorem sSeal_eq {s : ByteArray} (h : s.size ≤ 900000) : F_spec_l1Seal s = some ((s ++ ByteArray.mk #[35]) ++ itoaB (sumB s)) := by
  have a := sumB_in s
  have b := itoa_sz a.1 (by omega)
  have e1 : (ByteArray.mk #[35]).size = 1 := rfl
  unfold F_spec_l1Seal
  rw [chk_pos (by rw [e1]; omega), bnd1_eq (sSum_eq s (by omega)), bnd1_eq (sNum a.1 (by omega)), chk_pos (by rw [sz_app, e1]; omega)]
theorem sLine_eq {k : Int} (h0 : 0 ≤ k) (h1 : k < 1000000) {c r : ByteArray} (hc : c.size ≤ 400000) (hr : r.size ≤ 400000) : F_spec_l12Line k c r = some (lineB k c r) := by
  have a := itoa_sz h0 h1
  have e1 : (ByteArray.mk #[32]).size = 1 := rfl
  have e2 : (ByteArray.mk #[64]).size = 1 := rfl
  have e3 : (ByteArray.mk #[10]).size = 1 := rfl
  have e4 : (ByteArray.mk #[35]).size = 1 := rfl
  have hs := headB_sz k c r
  have b := sumB_in (headB k c r)
  have b' := itoa_sz b.1 (by omega)
  unfold F_spec_l12Line
  rw [bnd1_eq (sNum h0 h1), chk_pos (by rw [e1]; omega), chk_pos (by rw [sz_app, e1]; omega), chk_pos (by rw [sz_app, sz_app, e1, e2]; omega), chk_pos (by rw [sz_app, sz_app, sz_app, e1, e2]; omega)]
  rw [show (((itoaB k ++ ByteArray.mk #[32]) ++ c) ++ ByteArray.mk #[64]) ++ r = headB k c r from rfl, bnd1_eq (sSeal_eq (s := headB k c r) (by omega)), chk_pos (by rw [sz_app, sz_app, e3, e4]; omega)]
  rfl
theorem iSeal_eq {s : ByteArray} (h : s.size ≤ 3990) (hn : (35 : UInt8) ∉ bl s) : F_impl_AppendChecksum s = some ((s ++ ByteArray.mk #[35]) ++ itoaB (sumB s), true) := by
  have a := sumB_in s
  have b := itoa_sz a.1 (by omega)
  have e1 : (ByteArray.mk #[35]).size = 1 := rfl
  unfold F_impl_AppendChecksum
  simp only [jn]
  rw [ite_f (decide_eq_false (by omega)), bnd1_eq iContains, decide_eq_false hn, ite_f rfl, chk_pos (by rw [e1]; omega), bnd1_eq (iSum_eq s (by omega)), chk_pos ⟨by omega, by omega⟩, chk_pos (by rw [sz_app, e1]; omega),
    ite_f (decide_eq_false (by rw [sz_app, sz_app, e1]; omega))]
theorem iEnc_eq {k : Int} {c r : ByteArray} (hc : c.size ≤ 4611686018427387904) (hr : r.size ≤ 4611686018427387904) :
    (0 ≤ k ∧ k ≤ 59 ∧ l12RecordN c r = true ∧ F_impl_EncodeRecord k c r = some (lineB k c r, true)) ∨ (¬ (0 ≤ k ∧ k ≤ 59 ∧ l12RecordN c r = true) ∧ F_impl_EncodeRecord k c r = some (ByteArray.mk #[], false)) := by
  unfold F_impl_EncodeRecord
  simp only [jn]
  by_cases hk : 0 ≤ k ∧ k ≤ 59
  · rw [show (!(decide ((0 : Int) ≤ k) && decide (k ≤ 59))) = false by simp [hk.1, hk.2], ite_f rfl, chk_pos (by omega), chk_pos (by omega), record_same]
    cases hrec : l12RecordN c r with
    | false => exact .inr ⟨fun h => by simp at h, by rw [Bool.not_false, ite_t rfl]⟩
    | true =>
      obtain ⟨q1, q2⟩ := (rec_iff c r).1 hrec
      have g1 := q1.2.1; have g2 := q2.1
      rw [bl_len] at g1 g2
      have a := itoa_sz hk.1 (by omega)
      have e1 : (ByteArray.mk #[32]).size = 1 := rfl
      have e2 : (ByteArray.mk #[64]).size = 1 := rfl
      have e3 : (ByteArray.mk #[10]).size = 1 := rfl
      have e4 : (ByteArray.mk #[35]).size = 1 := rfl
      have hs := headB_sz k c r
      have b := sumB_in (headB k c r)
      have b' := itoa_sz b.1 (by omega)
      refine .inl ⟨hk.1, hk.2, rfl, ?_⟩
      rw [Bool.not_true, ite_f rfl, chk_pos ⟨by omega, by omega⟩, chk_pos (by rw [e1]; omega), chk_pos (by rw [sz_app, e1]; omega), chk_pos (by rw [sz_app, sz_app, e1, e2]; omega), chk_pos (by rw [sz_app, sz_app, sz_app, e1, e2]; omega)]
      rw [show (((itoaB k ++ ByteArray.mk #[32]) ++ c) ++ ByteArray.mk #[64]) ++ r = headB k c r from rfl, bnd2_eq (iSeal_eq (s := headB k c r) (by omega) (fun h => (head_bytes hk.1 q1 q2 _ h).2.2 rfl)), Bool.not_true, ite_f rfl, chk_pos (by rw [sz_app, sz_app, e3, e4]; omega)]
      rfl
  · rw [show (!(decide ((0 : Int) ≤ k) && decide (k ≤ 59))) = true by by_cases h : 0 ≤ k <;> simp [h] <;> omega, ite_t rfl, ite_t rfl]
    exact .inr ⟨fun h => hk ⟨h.1, h.2.1⟩, rfl⟩
theorem sEnc_eq {k : Int} {c r : ByteArray} (hc : c.size ≤ 4611686018427387904) (hr : r.size ≤ 4611686018427387904) :
    (0 ≤ k ∧ k ≤ 59 ∧ l12RecordN c r = true ∧ F_spec_EncodeRecord k c r = some (lineB k c r, true)) ∨ (¬ (0 ≤ k ∧ k ≤ 59 ∧ l12RecordN c r = true) ∧ F_spec_EncodeRecord k c r = some (ByteArray.mk #[], false)) := by
  unfold F_spec_EncodeRecord
  simp only [jn]
  by_cases hk : 0 ≤ k ∧ k ≤ 59
  · rw [show (!(decide (k ≥ (0 : Int)) && decide (k ≤ 59))) = false by simp [hk.1, hk.2], ite_f rfl, chk_pos (by omega), chk_pos (by omega)]
    cases hrec : l12RecordN c r with
    | false => exact .inr ⟨fun h => by simp at h, by rw [Bool.not_false, ite_t rfl]⟩
    | true =>
      obtain ⟨q1, q2⟩ := (rec_iff c r).1 hrec
      have g1 := q1.2.1; have g2 := q2.1
      rw [bl_len] at g1 g2
      exact .inl ⟨hk.1, hk.2, rfl, by rw [Bool.not_true, ite_f rfl, bnd1_eq (sLine_eq hk.1 (by omega) (by omega) (by omega))]⟩
  · rw [show (!(decide (k ≥ (0 : Int)) && decide (k ≤ 59))) = true by by_cases h : 0 ≤ k <;> simp [h] <;> omega, ite_t rfl, ite_t rfl]
    exact .inr ⟨fun h => hk ⟨h.1, h.2.1⟩, rfl⟩
theorem rec_room {l c r : Int} (h0 : 0 ≤ c) (h1 : 0 ≤ r) (h : decide ((if l - c < 0 then -1 else if l - c - r < 0 then -1 else l - c - r) < (0 : Int)) = false) : c + r ≤ l := by
  have h := of_decide_eq_false h
  split at h
  · omega
  · split at h <;> omega
theorem law_EncodeRecord (k : Int) (c r : ByteArray) (hc : c.size ≤ 9223372036854775807) (hr : r.size ≤ 9223372036854775807) : F_laws_FnExactEncodeRecord k c r = some true := by
  unfold F_laws_FnExactEncodeRecord
  rw [chk_pos (by omega), chk_pos (by omega)]
  simp only [nam]
  refine ite_c (P := fun o => o = some true) (fun _ => rfl) (fun h => ?_)
  have hroom := rec_room (by omega) (by omega) h
  rcases iEnc_eq (k := k) (c := c) (r := r) (by omega) (by omega) with ⟨a1, a2, a3, a4⟩ | ⟨a1, a2⟩ <;> rcases sEnc_eq (k := k) (c := c) (r := r) (by omega) (by omega) with ⟨b1, b2, b3, b4⟩ | ⟨b1, b2⟩
  · rw [bnd2_eq b4, bnd2_eq a4]; simp [jn]
  · exact absurd ⟨a1, a2, a3⟩ b1
  · exact absurd ⟨b1, b2, b3⟩ a1
  · rw [bnd2_eq b2, bnd2_eq a2]; simp [jn]
end Go.Tl
