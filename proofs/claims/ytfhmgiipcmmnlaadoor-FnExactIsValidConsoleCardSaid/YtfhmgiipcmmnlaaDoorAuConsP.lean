/-
  Plain laws of the printed functions: no program here.
-/
import Derived.Test.YtfhmgiipcmmnlaaDoorAuConsF
namespace Go.Tl
set_option linter.unusedVariables false
set_option linter.unusedSimpArgs false
/-- A loop, told by what its rounds keep. -/
theorem loop_m {σ R : Type} (L : Nat → σ → Option R) (I : σ → Prop) (μ : σ → Nat) (Q : Option R → Prop)
    (step : ∀ n s, I s → (∃ s', I s' ∧ μ s' < μ s ∧ L (n + 1) s = L n s') ∨ Q (L (n + 1) s)) : ∀ n s, I s → μ s < n → Q (L n s) := by
  intro n
  induction n with
  | zero => intro s _ h; omega
  | succ n ih =>
    intro s hI hm
    rcases step n s hI with ⟨s', h1, h2, h3⟩ | h
    · rw [h3]; exact ih s' h1 (by omega)
    · exact h
/-- A loop that counts up to N; st is its state by the count. -/
theorem loop_up {σ R : Type} (L : Nat → Int → σ → Option R) (N : Int) (st : Int → σ) (r : Option R)
    (step : ∀ n i, 0 ≤ i → i < N → L (n + 1) i (st i) = L n (i + 1) (st (i + 1))) (fin : ∀ n, L (n + 1) N (st N) = r) (h0 : 0 ≤ N) (n : Nat) (hn : N.toNat < n) : L n 0 (st 0) = r := by
  have key : ∀ (k : Nat) (n : Nat) (i : Int), 0 ≤ i → i + k = N → k < n → L n i (st i) = r := by
    intro k
    induction k with
    | zero =>
      intro n i h1 h2 h3; obtain ⟨n, rfl⟩ : ∃ m, n = m + 1 := ⟨n - 1, by omega⟩; have e : i = N := by omega
      subst e; exact fin n
    | succ k ih =>
      intro n i h1 h2 h3
      obtain ⟨n, rfl⟩ : ∃ m, n = m + 1 := ⟨n - 1, by omega⟩
      rw [step n i h1 (by omega)]
      exact ih n (i + 1) (by omega) (by omega) (by omega)
  exact key N.toNat n 0 (Int.le_refl _) (by omega) hn
/-- A loop that counts up to N and may end early: with what p tells. -/
theorem loop_all {R : Type} (L : Nat → Int → Option R) (N : Int) (p : Int → Bool) (no yes : Option R)
    (step : ∀ n i, 0 ≤ i → i < N → p i = true → L (n + 1) i = L n (i + 1)) (stop : ∀ n i, 0 ≤ i → i < N → p i = false → L (n + 1) i = no) (fin : ∀ n, L (n + 1) N = yes) (h0 : 0 ≤ N) (n : Nat) (hn : N.toNat < n) :
    (L n 0 = yes ∧ ∀ i, 0 ≤ i → i < N → p i = true) ∨ (L n 0 = no ∧ ∃ i, 0 ≤ i ∧ i < N ∧ p i = false ∧ ∀ j, 0 ≤ j → j < i → p j = true) := by
  have key : ∀ (k : Nat) (n : Nat) (i : Int), 0 ≤ i → i + k = N → k < n → (∀ j, 0 ≤ j → j < i → p j = true) → (L n i = yes ∧ ∀ i, 0 ≤ i → i < N → p i = true) ∨ (L n i = no ∧ ∃ i, 0 ≤ i ∧ i < N ∧ p i = false ∧ ∀ j, 0 ≤ j → j < i → p j = true) := by
    intro k
    induction k with
    | zero =>
      intro n i h1 h2 h3 h4; obtain ⟨n, rfl⟩ : ∃ m, n = m + 1 := ⟨n - 1, by omega⟩; have e : i = N := by omega
      subst e; exact .inl ⟨fin n, h4⟩
    | succ k ih =>
      intro n i h1 h2 h3 h4
      obtain ⟨n, rfl⟩ : ∃ m, n = m + 1 := ⟨n - 1, by omega⟩
      cases hp : p i with
      | false => exact .inr ⟨stop n i h1 (by omega) hp, i, h1, by omega, hp, h4⟩
      | true =>
        rw [step n i h1 (by omega) hp]
        refine ih n (i + 1) (by omega) (by omega) (by omega) fun j k1 k2 => ?_
        by_cases e : j = i
        · rw [e]; exact hp
        · exact h4 j k1 (by omega)
  exact key N.toNat n 0 (Int.le_refl _) (by omega) hn fun j h1 h2 => by omega
theorem ite_t {α : Type} {c : Bool} (h : c = true) (x y : α) : (bif c then x else y) = x := by rw [h]; rfl
theorem ite_f {α : Type} {c : Bool} (h : c = false) (x y : α) : (bif c then x else y) = y := by rw [h]; rfl
theorem ite_c {α : Type} {P : α → Prop} {c : Bool} {x y : α} (h1 : c = true → P x) (h2 : c = false → P y) : P (bif c then x else y) := by
  cases c
  · exact h2 rfl
  · exact h1 rfl
theorem getD_in {xs : List Int} {i : Nat} {P : Int → Prop} (h : i < xs.length) (hP : ∀ x ∈ xs, P x) : P (xs.getD i 0) := by
  rw [List.getD_eq_getElem?_getD, List.getElem?_eq_getElem h]; exact hP _ (List.getElem_mem h)
theorem maxN_in {a b : Int} : a ≤ maxN a b ∧ b ≤ maxN a b ∧ (maxN a b = a ∨ maxN a b = b) := by unfold maxN; split <;> omega
theorem minN_in {a b : Int} : minN a b ≤ a ∧ minN a b ≤ b ∧ (minN a b = a ∨ minN a b = b) := by unfold minN; split <;> omega
/-- The bytes of a string. -/
def bl (s : ByteArray) : List UInt8 := s.data.toList
theorem bl_len (s : ByteArray) : (bl s).length = s.size := Array.length_toList
theorem bl_app (a b : ByteArray) : bl (a ++ b) = bl a ++ bl b := by
  unfold bl; rw [ByteArray.data_append, Array.toList_append]
theorem bl_ext (s : ByteArray) (i j : Nat) : bl (ByteArray.extract s i j) = ((bl s).drop i).take (j - i) := by
  unfold bl; rw [ByteArray.data_extract, Array.toList_extract, List.extract_eq_take_drop]
theorem bl_inj {a b : ByteArray} (h : bl a = bl b) : a = b := by
  cases a; cases b; congr 1; exact Array.ext' h
theorem sz_app (a b : ByteArray) : (a ++ b).size = a.size + b.size := by rw [← bl_len, bl_app, List.length_append, bl_len, bl_len]
theorem sz_mk (l : List UInt8) : (ByteArray.mk ⟨l⟩).size = l.length := rfl
theorem bl_mk (l : List UInt8) : bl (ByteArray.mk ⟨l⟩) = l := rfl
theorem str_eq (a b : ByteArray) : (a.toList == b.toList) = decide (bl a = bl b) := by
  apply Bool.eq_iff_iff.2
  rw [decide_eq_true_eq, beq_iff_eq]
  exact ⟨fun h => by rw [toList_inj h], fun h => by rw [bl_inj h]⟩
theorem str_same (a : ByteArray) : (a.toList == a.toList) = true := by simp
theorem byteAt_bl (s : ByteArray) (i : Nat) : byteAt s i = (((bl s).getD i 0).toNat : Int) := by
  unfold byteAt bl; rw [List.getD_eq_getElem?_getD]
theorem digit_ext : ∀ k : Fin 10, ((bl (ByteArray.mk #[48, 49, 50, 51, 52, 53, 54, 55, 56, 57])).drop k.val).take (k.val + 1 - k.val) = [UInt8.ofNat (48 + k.val)] := by decide
theorem digit_bl {n : Int} (h0 : 0 ≤ n) (h1 : n < 10) : bl (ByteArray.extract (ByteArray.mk #[48, 49, 50, 51, 52, 53, 54, 55, 56, 57]) (Int.toNat n) (Int.toNat (n + 1))) = [UInt8.ofNat (48 + n.toNat)] := by
  rw [bl_ext, show (n + 1).toNat = n.toNat + 1 by omega]
  exact digit_ext ⟨n.toNat, by omega⟩
theorem itoa_bl {n : Int} (h : 0 ≤ n) : bl (itoaB n) = Lib.decDigits n.toNat := by
  unfold itoaB Lib.itoa
  rw [if_neg (by omega)]
  rfl
theorem itoa_sz {n : Int} (h0 : 0 ≤ n) (h1 : n < 1000000) : (itoaB n).size ≤ 6 := by
  rw [← bl_len, itoa_bl h0, Lib.decDigits_length]
  have h : ∀ u : Nat, u < 10 → Lib.nDigits u ≤ 1 := fun u hu => by rw [Lib.nDigits_small hu]; exact Nat.le_refl _
  have step : ∀ k u : Nat, (∀ v, v < 10 ^ k → Lib.nDigits v ≤ k) → 1 ≤ k → u < 10 ^ (k + 1) → Lib.nDigits u ≤ k + 1 := fun k u ih hk hu => by
    by_cases h10 : u < 10
    · have := h u h10; omega
    · rw [Lib.nDigits_big h10]
      have := ih (u / 10) (by rw [Nat.pow_succ] at hu; omega)
      omega
  have h6 : ∀ k : Nat, 1 ≤ k → ∀ v, v < 10 ^ k → Lib.nDigits v ≤ k := by
    intro k
    induction k with
    | zero => intro h; omega
    | succ k ih =>
      intro _ v hv
      by_cases hk : k = 0
      · subst hk; exact h v (by simpa using hv)
      · exact step k v (ih (by omega)) (by omega) hv
  exact h6 6 (by omega) n.toNat (by omega)
theorem itoa_sz1 {n : Int} (h0 : 0 ≤ n) : 1 ≤ (itoaB n).size := by
  rw [← bl_len, itoa_bl h0, Lib.decDigits_length]
  exact Lib.nDigits_pos _
theorem sNum_eq : ∀ (m : Nat) (n : Int), 0 ≤ n → n < 1000000000000 → n.toNat < m → F_spec_l1Num m n = some (itoaB n) ∧ (itoaB n).size ≤ n.toNat + 1 := by
  intro m
  induction m with
  | zero => intro n _ _ h; omega
  | succ m ih =>
    intro n h0 h1 hm
    rw [F_spec_l1Num, F_spec_l1Num_B, ite_f (decide_eq_false (by omega))]
    by_cases h : n < 10
    · have e : bl (itoaB n) = [UInt8.ofNat (48 + n.toNat)] := by rw [itoa_bl h0, Lib.decDigits_one (by omega)]
      have e2 := digit_bl h0 h
      rw [ite_t (decide_eq_true h), chk_pos (by unfold I64; omega), chk_pos ⟨h0, by omega, by rw [show ByteArray.size (ByteArray.mk #[48, 49, 50, 51, 52, 53, 54, 55, 56, 57]) = 10 from rfl]; omega⟩]
      exact ⟨by rw [bl_inj (e2.trans e.symm)], by rw [← bl_len, e]; simp⟩
    · have hd : Int.tdiv n 10 = n / 10 := Int.tdiv_eq_ediv_of_nonneg h0
      have hm' : Int.tmod n 10 = n % 10 := Int.tmod_eq_emod_of_nonneg h0
      rw [ite_f (decide_eq_false h)]
      obtain ⟨i1, i2⟩ := ih (n / 10) (by omega) (by omega) (by omega)
      have e2 := digit_bl (n := n % 10) (by omega) (by omega)
      have e3 : (ByteArray.extract (ByteArray.mk #[48, 49, 50, 51, 52, 53, 54, 55, 56, 57]) (Int.toNat (n % 10)) (Int.toNat (n % 10 + 1))).size = 1 := by rw [← bl_len, e2]; rfl
      have e4 : itoaB (n / 10) ++ ByteArray.extract (ByteArray.mk #[48, 49, 50, 51, 52, 53, 54, 55, 56, 57]) (Int.toNat (n % 10)) (Int.toNat (n % 10 + 1)) = itoaB n := by
        apply bl_inj
        rw [bl_app, e2, itoa_bl (by omega), itoa_bl h0]
        rw [show (n / 10).toNat = n.toNat / 10 by omega, show (n % 10).toNat = n.toNat % 10 by omega]
        conv => rhs; rw [Lib.decDigits, dif_neg (by omega)]
      rw [hd, hm', chk_pos (by unfold I64; omega), bnd1_eq i1, chk_pos (by unfold I64; omega), chk_pos ⟨by omega, by omega, by rw [show ByteArray.size (ByteArray.mk #[48, 49, 50, 51, 52, 53, 54, 55, 56, 57]) = 10 from rfl]; omega⟩,
        chk_pos (by rw [e3]; omega), e4]
      refine ⟨rfl, ?_⟩
      rw [← e4, sz_app, e3]; omega
theorem sNum {n : Int} (h0 : 0 ≤ n) (h1 : n < 1000000) : F_spec_l1Num fuel n = some (itoaB n) := (sNum_eq fuel n h0 (by omega) (by have := fuel_ge; omega)).1
/-- The checksum behind i bytes. -/
def sumI (s : ByteArray) : Nat → Int
  | 0 => 7
  | i + 1 => (41 * sumI s i + byteAt s i + 1) % 999979
def sumB (s : ByteArray) : Int := sumI s s.size
theorem sumI_in (s : ByteArray) : ∀ i, 0 ≤ sumI s i ∧ sumI s i < 999979
  | 0 => by simp only [sumI]; omega
  | i + 1 => by simp only [sumI]; omega
theorem iSum_eq (s : ByteArray) (h : s.size ≤ 1000000) : F_impl_checksum s = some (sumB s) := by
  unfold F_impl_checksum
  simp only [jn]
  refine loop_up (fun n i (z : Int) => F_impl_checksum_L1 s (fun v3 => some v3) n i z) (s.size : Int) (fun i => sumI s i.toNat) _ (fun n i h0 h1 => ?_) (fun n => ?_) (by omega) fuel (by have := fuel_ge; omega)
  · have a1 := sumI_in s i.toNat
    have a2 := byteAt_nonneg s i.toNat
    have a3 := byteAt_le s i.toNat
    show _ = _
    rw [F_impl_checksum_L1, ite_t (decide_eq_true h1), chk_pos (by unfold I64; omega), chk_pos ⟨h0, h1⟩, chk_pos (by unfold I64; omega), chk_pos (by unfold I64; omega)]
    simp only [nam]
    rw [chk_pos (by unfold I64; omega), chk_pos (by unfold I64; omega), show (i + 1).toNat = i.toNat + 1 by omega, sumI, Int.tmod_eq_emod_of_nonneg (by omega)]
  · show F_impl_checksum_L1 s (fun v3 => some v3) (n + 1) _ _ = _
    rw [F_impl_checksum_L1, ite_f (decide_eq_false (by omega))]
    rfl
theorem sSum_eq (s : ByteArray) (h : s.size ≤ 1000000) : F_spec_l1Sum s = some (sumB s) := by
  unfold F_spec_l1Sum
  simp only [jn]
  refine loop_up (fun n i (z : Int) => F_spec_l1Sum_L1 s (fun v3 => some v3) n i z) (s.size : Int) (fun i => sumI s i.toNat) _ (fun n i h0 h1 => ?_) (fun n => ?_) (by omega) fuel (by have := fuel_ge; omega)
  · have a1 := sumI_in s i.toNat
    have a2 := byteAt_nonneg s i.toNat
    have a3 := byteAt_le s i.toNat
    show _ = _
    rw [F_spec_l1Sum_L1, ite_t (decide_eq_true h1), chk_pos (by unfold I64; omega), chk_pos ⟨h0, h1⟩, chk_pos (by unfold I64; omega), chk_pos (by unfold I64; omega)]
    simp only [nam]
    rw [chk_pos (by unfold I64; omega), chk_pos (by unfold I64; omega), show (i + 1).toNat = i.toNat + 1 by omega, sumI, Int.tmod_eq_emod_of_nonneg (by omega)]
  · show F_spec_l1Sum_L1 s (fun v3 => some v3) (n + 1) _ _ = _
    rw [F_spec_l1Sum_L1, ite_f (decide_eq_false (by omega))]
    rfl
/-- Bytes of a record's reply, and of its command. -/
def okR (r : List UInt8) : Prop := r.length ≤ 250 ∧ ∀ b ∈ r, 32 ≤ b.toNat ∧ b.toNat ≤ 126 ∧ b ≠ 35
def okC (c : List UInt8) : Prop := 1 ≤ c.length ∧ c.length ≤ 160 ∧ ∀ b ∈ c, 32 ≤ b.toNat ∧ b.toNat ≤ 126 ∧ b ≠ 35 ∧ b ≠ 64
theorem allB_bl {s : ByteArray} {p : Nat → Bool} {q : UInt8 → Prop} (h : ∀ i, i < s.size → (p i = true ↔ q ((bl s).getD i 0))) : allB s.size p = true ↔ ∀ b ∈ bl s, q b := by
  rw [allB_iff]
  constructor
  · intro k b hb
    obtain ⟨i, hi, rfl⟩ := List.mem_iff_getElem.1 hb
    rw [bl_len] at hi
    have := (h i hi).1 (k i hi)
    rwa [List.getD_eq_getElem?_getD, List.getElem?_eq_getElem (by rw [bl_len]; exact hi)] at this
  · intro k i hi
    refine (h i hi).2 (k _ ?_)
    rw [List.getD_eq_getElem?_getD, List.getElem?_eq_getElem (by rw [bl_len]; exact hi)]
    exact List.getElem_mem _
theorem u8_eq (b : UInt8) (k : Nat) (hk : k < 256) : ((b.toNat : Int) = k) ↔ b = k.toUInt8 := by
  constructor
  · intro h
    apply UInt8.toNat_inj.1
    simp only [Nat.toUInt8, UInt8.toNat_ofNat']
    omega
  · intro h; rw [h]; simp only [Nat.toUInt8, UInt8.toNat_ofNat']; omega
theorem goodB_iff (s : ByteArray) (i : Nat) : goodB s i = true ↔ (32 ≤ ((bl s).getD i 0).toNat ∧ ((bl s).getD i 0).toNat ≤ 126 ∧ (bl s).getD i 0 ≠ 35) := by
  unfold goodB
  rw [byteAt_bl]
  have := u8_eq ((bl s).getD i 0) 35 (by decide)
  rw [show (35 : Nat).toUInt8 = 35 from rfl] at this
  simp only [Bool.and_eq_true, decide_eq_true_eq, Bool.not_eq_true', beq_eq_false_iff_ne, ne_eq]
  rw [← this]
  omega
theorem rec_iff (c r : ByteArray) : l12RecordN c r = true ↔ okC (bl c) ∧ okR (bl r) := by
  unfold l12RecordN okC okR
  rw [empty_iff]
  have h1 : allB r.size (goodB r) = true ↔ ∀ b ∈ bl r, 32 ≤ b.toNat ∧ b.toNat ≤ 126 ∧ b ≠ 35 := allB_bl fun i _ => goodB_iff r i
  have h2 : allB c.size (fun i => goodB c i && !(byteAt c i == 64)) = true ↔ ∀ b ∈ bl c, 32 ≤ b.toNat ∧ b.toNat ≤ 126 ∧ b ≠ 35 ∧ b ≠ 64 := allB_bl fun i _ => by
    rw [Bool.and_eq_true, goodB_iff, byteAt_bl, Bool.not_eq_true', beq_eq_false_iff_ne]
    have := u8_eq ((bl c).getD i 0) 64 (by decide)
    rw [show (64 : Nat).toUInt8 = 64 from rfl] at this
    have this : ((((bl c).getD i 0).toNat : Int) ≠ 64) ↔ ((bl c).getD i 0 ≠ 64) := not_congr this
    exact ⟨fun h => ⟨h.1.1, h.1.2.1, h.1.2.2, this.1 h.2⟩, fun h => ⟨⟨h.1, h.2.1, h.2.2.1⟩, this.2 h.2.2.2⟩⟩
  rw [allB_and, Bool.and_eq_true, Bool.not_eq_true'] at h2
  rw [← h1, ← h2, bl_len, bl_len]
  simp only [Bool.and_eq_true, Bool.not_eq_true', decide_eq_true_eq, decide_eq_false_iff_not]
  constructor
  · rintro ⟨⟨⟨a1, a2, a3⟩, a4⟩, a5, a6⟩
    exact ⟨⟨by omega, by omega, a2, a4⟩, by omega, a5⟩
  · rintro ⟨⟨a1, a2, a3, a4⟩, a5, a6⟩
    exact ⟨⟨⟨by omega, a3, by omega⟩, a4⟩, a6, by omega⟩
theorem firstIdx_bl (s : ByteArray) (c : UInt8) : firstIdx s c = match (List.range (bl s).length).find? (fun i => (bl s).getD i 0 == c) with | some i => (i : Int) | none => -1 := by
  unfold firstIdx
  rw [bl_len]
  have : ∀ l : List Nat, (∀ i ∈ l, i < s.size) → l.find? (fun i => s[i]! == c) = l.find? (fun i => (bl s).getD i 0 == c) := by
    intro l
    induction l with
    | nil => intro _; rfl
    | cons a l ih =>
      intro h
      have ha := h a List.mem_cons_self
      have e : s[a]! = (bl s).getD a 0 := by
        rw [List.getD_eq_getElem?_getD, bl, Array.getElem?_toList]
        have h' : a < s.data.size := ha
        rw [Array.getElem?_eq_getElem h', getElem!_pos s a ha]
        rfl
      rw [List.find?_cons, List.find?_cons, e, ih fun i hi => h i (List.mem_cons_of_mem _ hi)]
  rw [this _ fun i hi => List.mem_range.1 hi]
  rfl
/-- Where a byte stands first: at the end of what lies before it. -/
theorem firstIdx_app {s : ByteArray} {c : UInt8} {a b : List UInt8} (h : bl s = a ++ c :: b) (ha : c ∉ a) : firstIdx s c = a.length := by
  rw [firstIdx_bl, h]
  have : (List.range (a ++ c :: b).length).find? (fun i => (a ++ c :: b).getD i 0 == c) = some a.length := by
    rw [List.find?_range_eq_some]
    refine ⟨by simp, by simp, fun j hj => ?_⟩
    rw [List.getD_eq_getElem?_getD, List.getElem?_append_left hj, List.getElem?_eq_getElem hj]
    simp only [Option.getD_some, Bool.not_eq_true', beq_eq_false_iff_ne]
    exact fun e => ha (e ▸ List.getElem_mem hj)
  rw [this]
theorem firstIdx_none {s : ByteArray} {c : UInt8} (h : c ∉ bl s) : firstIdx s c = -1 := by
  rw [firstIdx_bl]
  have : (List.range (bl s).length).find? (fun i => (bl s).getD i 0 == c) = none := by
    rw [List.find?_eq_none]
    intro i hi
    rw [List.mem_range] at hi
    rw [List.getD_eq_getElem?_getD, List.getElem?_eq_getElem hi]
    simp only [Option.getD_some, beq_iff_eq]
    exact fun e => h (e ▸ List.getElem_mem hi)
  rw [this]
theorem split_at {c : UInt8} : ∀ {l : List UInt8}, c ∈ l → ∃ a b, l = a ++ c :: b ∧ c ∉ a
  | x :: l, h => by
    by_cases e : x = c
    · exact ⟨[], l, by rw [e]; rfl, by simp⟩
    · obtain ⟨a, b, e1, e2⟩ := split_at (l := l) (by rcases List.mem_cons.1 h with h | h; exact absurd h.symm e; exact h)
      exact ⟨x :: a, b, by rw [e1]; rfl, by simp [e2, Ne.symm e]⟩
theorem split_unique {c : UInt8} : ∀ {a a' b b' : List UInt8}, a ++ c :: b = a' ++ c :: b' → c ∉ a → c ∉ a' → a = a' ∧ b = b'
  | [], [], b, b', h, _, _ => ⟨rfl, by simpa using h⟩
  | [], x :: a', b, b', h, _, h2 => by simp at h; exact absurd (by simp [h.1]) h2
  | x :: a, [], b, b', h, h1, _ => by simp at h; exact absurd (by simp [h.1]) h1
  | x :: a, y :: a', b, b', h, h1, h2 => by
    simp only [List.cons_append, List.cons.injEq] at h
    obtain ⟨e1, e2⟩ := split_unique h.2 (fun h => h1 (List.mem_cons_of_mem _ h)) (fun h => h2 (List.mem_cons_of_mem _ h))
    exact ⟨by rw [h.1, e1], e2⟩
theorem iContains {s : ByteArray} {c : UInt8} : F_strings_Contains s (ByteArray.mk #[c]) = some (decide (c ∈ bl s)) := by
  unfold F_strings_Contains F_strings_Index
  rw [chk_pos (show ByteArray.size (ByteArray.mk #[c]) = 1 from rfl), bnd1_eq rfl]
  congr 1
  show decide (firstIdx s c ≥ 0) = _
  by_cases h : c ∈ bl s
  · obtain ⟨a, b, e1, e2⟩ := split_at h
    rw [firstIdx_app e1 e2, decide_eq_true h]
    exact decide_eq_true (by omega)
  · rw [firstIdx_none h, decide_eq_false h]; rfl
/-- A record's line but for its checksum; the line. -/
def headB (k : Int) (c r : ByteArray) : ByteArray := (((itoaB k ++ ByteArray.mk #[32]) ++ c) ++ ByteArray.mk #[64]) ++ r
def lineB (k : Int) (c r : ByteArray) : ByteArray := ((headB k c r ++ ByteArray.mk #[35]) ++ itoaB (sumB (headB k c r))) ++ ByteArray.mk #[10]
theorem headB_sz (k : Int) (c r : ByteArray) : (headB k c r).size = (itoaB k).size + 1 + c.size + 1 + r.size := by
  unfold headB; rw [sz_app, sz_app, sz_app, sz_app]; rfl
theorem sumB_in (s : ByteArray) : 0 ≤ sumB s ∧ sumB s < 999979 := sumI_in s s.size
theorem dig_bytes : ∀ (u : Nat), ∀ b ∈ Lib.decDigits u, 48 ≤ b.toNat ∧ b.toNat ≤ 57 := by
  intro u
  induction u using Nat.strongRecOn with
  | _ u ih =>
    intro b hb
    have one : ∀ k : Nat, k < 10 → 48 ≤ (UInt8.ofNat (48 + k)).toNat ∧ (UInt8.ofNat (48 + k)).toNat ≤ 57 := fun k hk => by
      rw [UInt8.toNat_ofNat']; omega
    by_cases h : u < 10
    · rw [Lib.decDigits_one h, List.mem_singleton] at hb
      subst hb; exact one u h
    · rw [Lib.decDigits, dif_neg h, List.mem_append, List.mem_singleton] at hb
      rcases hb with hb | rfl
      · exact ih _ (by omega) b hb
      · exact one _ (by omega)
theorem itoa_bytes {n : Int} (h : 0 ≤ n) : ∀ b ∈ bl (itoaB n), 48 ≤ b.toNat ∧ b.toNat ≤ 57 := by rw [itoa_bl h]; exact dig_bytes _
theorem head_bytes {k : Int} (hk : 0 ≤ k) {c r : ByteArray} (hc : okC (bl c)) (hr : okR (bl r)) : ∀ b ∈ bl (headB k c r), 32 ≤ b.toNat ∧ b.toNat ≤ 126 ∧ b ≠ 35 := by
  intro b hb
  unfold headB at hb
  rw [bl_app, bl_app, bl_app, bl_app] at hb
  simp only [List.mem_append] at hb
  rcases hb with (((hb | hb) | hb) | hb) | hb
  · have := itoa_bytes hk b hb
    exact ⟨by omega, by omega, fun e => by subst e; simp at this⟩
  · have : b = 32 := by simpa [bl] using hb
    subst this; decide
  · have := hc.2.2 b hb; exact ⟨this.1, this.2.1, this.2.2.1⟩
  · have : b = 64 := by simpa [bl] using hb
    subst this; decide
  · exact hr.2 b hb
theorem sSeal_eq {s : ByteArray} (h : s.size ≤ 900000) : F_spec_l1Seal s = some ((s ++ ByteArray.mk #[35]) ++ itoaB (sumB s)) := by
  have a := sumB_in s
  have b := itoa_sz a.1 (by omega)
  have e1 : (ByteArray.mk #[35]).size = 1 := rfl
  unfold F_spec_l1Seal
  rw [chk_pos (by rw [e1]; omega), bnd1_eq (sSum_eq s (by omega)), bnd1_eq (sNum a.1 (by omega)), chk_pos (by rw [sz_app, e1]; omega)]
theorem sLine_eq {k : Int} (h0 : 0 ≤ k) (h1 : k < 1000000) {c r : ByteArray} (hc : c.size ≤ 400000) (hr : r.size ≤ 400000) : F_spec_l12Line k c r = some (lineB k c r) := by
  have a := itoa_sz h0 h1
  have e1 : (ByteArray.mk #[32]).size = 1 := rfl
  have e2 : (ByteArray.mk #[64]).size = 1 := rfl
  have e3 : (ByteArray.mk #[10]).size = 1 := rfl
  have e4 : (ByteArray.mk #[35]).size = 1 := rfl
  have hs := headB_sz k c r
  have b := sumB_in (headB k c r)
  have b' := itoa_sz b.1 (by omega)
  unfold F_spec_l12Line
  rw [bnd1_eq (sNum h0 h1), chk_pos (by rw [e1]; omega), chk_pos (by rw [sz_app, e1]; omega), chk_pos (by rw [sz_app, sz_app, e1, e2]; omega), chk_pos (by rw [sz_app, sz_app, sz_app, e1, e2]; omega)]
  rw [show (((itoaB k ++ ByteArray.mk #[32]) ++ c) ++ ByteArray.mk #[64]) ++ r = headB k c r from rfl, bnd1_eq (sSeal_eq (s := headB k c r) (by omega)), chk_pos (by rw [sz_app, sz_app, e3, e4]; omega)]
  rfl
theorem iSeal_eq {s : ByteArray} (h : s.size ≤ 3990) (hn : (35 : UInt8) ∉ bl s) : F_impl_AppendChecksum s = some ((s ++ ByteArray.mk #[35]) ++ itoaB (sumB s), true) := by
  have a := sumB_in s
  have b := itoa_sz a.1 (by omega)
  have e1 : (ByteArray.mk #[35]).size = 1 := rfl
  unfold F_impl_AppendChecksum
  simp only [jn]
  rw [ite_f (decide_eq_false (by omega)), bnd1_eq iContains, decide_eq_false hn, ite_f rfl, chk_pos (by rw [e1]; omega), bnd1_eq (iSum_eq s (by omega)), chk_pos ⟨by omega, by omega⟩, chk_pos (by rw [sz_app, e1]; omega),
    ite_f (decide_eq_false (by rw [sz_app, sz_app, e1]; omega))]
theorem iEnc_eq {k : Int} {c r : ByteArray} (hc : c.size ≤ 4611686018427387904) (hr : r.size ≤ 4611686018427387904) :
    (0 ≤ k ∧ k ≤ 59 ∧ l12RecordN c r = true ∧ F_impl_EncodeRecord k c r = some (lineB k c r, true)) ∨ (¬ (0 ≤ k ∧ k ≤ 59 ∧ l12RecordN c r = true) ∧ F_impl_EncodeRecord k c r = some (ByteArray.mk #[], false)) := by
  unfold F_impl_EncodeRecord
  simp only [jn]
  by_cases hk : 0 ≤ k ∧ k ≤ 59
  · rw [show (!(decide ((0 : Int) ≤ k) && decide (k ≤ 59))) = false by simp [hk.1, hk.2], ite_f rfl, chk_pos (by omega), chk_pos (by omega), record_same]
    cases hrec : l12RecordN c r with
    | false => exact .inr ⟨fun h => by simp at h, by rw [Bool.not_false, ite_t rfl]⟩
    | true =>
      obtain ⟨q1, q2⟩ := (rec_iff c r).1 hrec
      have g1 := q1.2.1; have g2 := q2.1
      rw [bl_len] at g1 g2
      have a := itoa_sz hk.1 (by omega)
      have e1 : (ByteArray.mk #[32]).size = 1 := rfl
      have e2 : (ByteArray.mk #[64]).size = 1 := rfl
      have e3 : (ByteArray.mk #[10]).size = 1 := rfl
      have e4 : (ByteArray.mk #[35]).size = 1 := rfl
      have hs := headB_sz k c r
      have b := sumB_in (headB k c r)
      have b' := itoa_sz b.1 (by omega)
      refine .inl ⟨hk.1, hk.2, rfl, ?_⟩
      rw [Bool.not_true, ite_f rfl, chk_pos ⟨by omega, by omega⟩, chk_pos (by rw [e1]; omega), chk_pos (by rw [sz_app, e1]; omega), chk_pos (by rw [sz_app, sz_app, e1, e2]; omega), chk_pos (by rw [sz_app, sz_app, sz_app, e1, e2]; omega)]
      rw [show (((itoaB k ++ ByteArray.mk #[32]) ++ c) ++ ByteArray.mk #[64]) ++ r = headB k c r from rfl, bnd2_eq (iSeal_eq (s := headB k c r) (by omega) (fun h => (head_bytes hk.1 q1 q2 _ h).2.2 rfl)), Bool.not_true, ite_f rfl, chk_pos (by rw [sz_app, sz_app, e3, e4]; omega)]
      rfl
  · rw [show (!(decide ((0 : Int) ≤ k) && decide (k ≤ 59))) = true by by_cases h : 0 ≤ k <;> simp [h] <;> omega, ite_t rfl, ite_t rfl]
    exact .inr ⟨fun h => hk ⟨h.1, h.2.1⟩, rfl⟩
/-- A text cut at a byte. -/
theorem iCut {s : ByteArray} (c : UInt8) (hs : s.size ≤ 4611686018427387904) : ∃ x y z, F_strings_Cut s (ByteArray.mk #[c]) = some (x, y, z) ∧ x.size ≤ s.size ∧ y.size ≤ s.size ∧ ((c ∈ bl s ∧ bl s = bl x ++ c :: bl y ∧ c ∉ bl x) ∨ (c ∉ bl s ∧ bl x = bl s ∧ bl y = [])) := by
  have e1 : (ByteArray.mk #[c]).size = 1 := rfl
  have e2 : hd1 (ByteArray.mk #[c]) = c := rfl
  unfold F_strings_Cut F_internal_stringslite_Cut
  rw [e1, e2, chk_pos rfl]
  by_cases h : c ∈ bl s
  · obtain ⟨a, b, h1, h2⟩ := split_at h
    have hl : s.size = a.length + 1 + b.length := by rw [← bl_len, h1]; simp; omega
    rw [firstIdx_app h1 h2, ite_t (decide_eq_true (by omega)), chk_pos ⟨by omega, by omega, by omega⟩, chk_pos (by unfold I64; omega)]
    simp only [nam]
    rw [chk_pos ⟨by omega, by omega, by omega⟩, bnd3_eq rfl]
    have x1 : bl (ByteArray.extract s 0 (Int.toNat ((a.length : Nat) : Int))) = a := by
      rw [bl_ext, h1]; simp
    have x2 : bl (ByteArray.extract s (Int.toNat (((a.length : Nat) : Int) + ((1 : Nat) : Int))) (Int.toNat ((s.size : Nat) : Int))) = b := by
      rw [bl_ext, h1, show (((a.length : Nat) : Int) + ((1 : Nat) : Int)).toNat = a.length + 1 by omega, show a ++ c :: b = (a ++ [c]) ++ b by simp, List.drop_left' (by simp), List.take_of_length_le (by omega)]
    refine ⟨_, _, _, rfl, ?_, ?_, .inl ⟨h, by rw [x1, x2, h1], by rw [x1]; exact h2⟩⟩
    · rw [← bl_len, x1]; omega
    · rw [← bl_len, x2]; omega
  · rw [firstIdx_none h, ite_f (decide_eq_false (by omega)), bnd3_eq rfl]
    exact ⟨_, _, _, rfl, Nat.le_refl _, Nat.zero_le _, .inr ⟨h, rfl, rfl⟩⟩
/-- A text's parts between bytes: the first one, and whether there is another. -/
theorem sSplit {s : ByteArray} (c : UInt8) (hs : s.size ≤ 1000000000) : ∃ ps, F_spec_l1Split s (c.toNat : Int) = some ps ∧ 1 ≤ ps.length ∧ (2 ≤ ps.length ↔ c ∈ bl s) ∧ (ps.getD 0 ByteArray.empty).size ≤ s.size ∧ ((c ∈ bl s ∧ ∃ y, bl s = bl (ps.getD 0 ByteArray.empty) ++ c :: y ∧ c ∉ bl (ps.getD 0 ByteArray.empty)) ∨ (c ∉ bl s ∧ bl (ps.getD 0 ByteArray.empty) = bl s)) := by
  unfold F_spec_l1Split
  simp only [jn]
  generalize hJ : (fun (o8 : List ByteArray) (v6 : Int) => chk (0 ≤ v6 ∧ v6 ≤ ((ByteArray.size s : Nat) : Int) ∧ ((ByteArray.size s : Nat) : Int) ≤ ((ByteArray.size s : Nat) : Int)) <| chk (((List.length o8) + 1) * 16 ≤ 140737488355328 ∧ (List.length o8) + 1 ≤ maxLen) <| some (o8 ++ [ByteArray.extract s (Int.toNat v6) (Int.toNat ((ByteArray.size s : Nat) : Int))])) = J
  have first : ∀ i : Nat, i ≤ s.size → c ∉ (bl s).take i → bl (ByteArray.extract s (Int.toNat 0) i) = (bl s).take i := fun i hi _ => by
    rw [bl_ext]; simp
  refine loop_m (fun n (z : List ByteArray × Int × Int) => F_spec_l1Split_L1 s (c.toNat : Int) J n z.1 z.2.1 z.2.2)
    (fun z => 0 ≤ z.2.1 ∧ z.2.1 ≤ s.size ∧ 0 ≤ z.2.2 ∧ z.2.2 ≤ z.2.1 ∧ (z.1.length : Int) ≤ z.2.1 ∧ ((z.1 = [] ∧ z.2.2 = 0 ∧ c ∉ (bl s).take z.2.1.toNat) ∨ (1 ≤ z.1.length ∧ c ∈ bl s ∧ ∃ y, bl s = bl (z.1.getD 0 ByteArray.empty) ++ c :: y ∧ c ∉ bl (z.1.getD 0 ByteArray.empty))))
    (fun z => (s.size - z.2.1).toNat) (fun o => ∃ ps, o = some ps ∧ 1 ≤ ps.length ∧ (2 ≤ ps.length ↔ c ∈ bl s) ∧ (ps.getD 0 ByteArray.empty).size ≤ s.size ∧ ((c ∈ bl s ∧ ∃ y, bl s = bl (ps.getD 0 ByteArray.empty) ++ c :: y ∧ c ∉ bl (ps.getD 0 ByteArray.empty)) ∨ (c ∉ bl s ∧ bl (ps.getD 0 ByteArray.empty) = bl s))) ?_ fuel ([], 0, 0) ⟨by simp, by simp, by simp, by simp, by simp, .inl ⟨rfl, rfl, by simp⟩⟩ (by have := fuel_ge; simp only; omega)
  rintro n ⟨o, i, f⟩ ⟨h0, h1, h2, h3, h4, h5⟩
  simp only at h0 h1 h2 h3 h4 h5 ⊢
  rw [F_spec_l1Split_L1]
  have hbyte : i < s.size → (byteAt s (Int.toNat i) == (c.toNat : Int)) = decide ((bl s)[i.toNat]? = some c) := fun hi => by
    have hlt : i.toNat < (bl s).length := by rw [bl_len]; omega
    rw [byteAt_bl, List.getD_eq_getElem?_getD, List.getElem?_eq_getElem hlt]
    apply Bool.eq_iff_iff.2
    simp only [Option.getD_some, beq_iff_eq, decide_eq_true_eq, Option.some.injEq]
    constructor
    · intro h; exact UInt8.toNat_inj.1 (by omega)
    · intro h; rw [h]
  by_cases hi : i < s.size
  · have hlt : i.toNat < (bl s).length := by rw [bl_len]; omega
    rw [ite_t (decide_eq_true hi), chk_pos ⟨h0, hi⟩, hbyte hi]
    by_cases hc : (bl s)[i.toNat]? = some c
    · rw [ite_t (decide_eq_true hc), chk_pos ⟨h2, h3, by omega⟩, chk_pos ⟨by omega, by simp only [maxLen]; omega⟩, chk_pos (by unfold I64; omega)]
      have hmem : c ∈ bl s := List.mem_of_getElem? hc
      refine .inl ⟨(o ++ [ByteArray.extract s (Int.toNat f) (Int.toNat i)], i + 1, i + 1), ⟨by simp only; omega, by simp only; omega, by simp only; omega, by simp only; omega, by simp only [List.length_append, List.length_cons, List.length_nil]; omega, .inr ⟨by simp, hmem, ?_⟩⟩, by simp only; omega, rfl⟩
      rcases h5 with ⟨rfl, rfl, hn⟩ | ⟨k1, k2, y, k3, k4⟩
      · refine ⟨(bl s).drop (i.toNat + 1), ?_, ?_⟩
        · simp only [List.nil_append, List.getD_cons_zero]
          rw [first _ (by omega) hn]
          have hg : (bl s)[i.toNat] = c := by rw [List.getElem?_eq_getElem hlt] at hc; exact Option.some.inj hc
          rw [← hg, ← List.drop_eq_getElem_cons hlt, List.take_append_drop]
        · simp only [List.nil_append, List.getD_cons_zero]
          rw [first _ (by omega) hn]; exact hn
      · have e : (o ++ [ByteArray.extract s (Int.toNat f) (Int.toNat i)]).getD 0 ByteArray.empty = o.getD 0 ByteArray.empty := by
          cases o with
          | nil => simp at k1
          | cons a o => rfl
        simp only [e]
        exact ⟨y, k3, k4⟩
    · rw [ite_f (decide_eq_false hc), chk_pos (by unfold I64; omega)]
      refine .inl ⟨(o, i + 1, f), ⟨by simp only; omega, by simp only; omega, h2, by simp only; omega, by simp only; omega, ?_⟩, by simp only; omega, rfl⟩
      rcases h5 with ⟨rfl, rfl, hn⟩ | h5
      · refine .inl ⟨rfl, rfl, ?_⟩
        simp only
        rw [show (i + 1).toNat = i.toNat + 1 by omega, List.take_succ_eq_append_getElem hlt, List.mem_append, List.mem_singleton]
        rintro (h | h)
        · exact hn h
        · exact hc (by rw [List.getElem?_eq_getElem hlt, ← h])
      · exact .inr h5
  · have hie : i = s.size := by omega
    rw [ite_f (decide_eq_false (by omega))]
    subst hJ
    right
    simp only
    rw [chk_pos ⟨h2, by omega, by omega⟩, chk_pos ⟨by omega, by simp only [maxLen]; omega⟩]
    refine ⟨_, rfl, by simp, ?_⟩
    rcases h5 with ⟨rfl, rfl, hn⟩ | ⟨k1, k2, y, k3, k4⟩
    · have hn' : c ∉ bl s := by rwa [List.take_of_length_le (by rw [bl_len]; omega)] at hn
      have e : bl (ByteArray.extract s (Int.toNat 0) (Int.toNat ((s.size : Nat) : Int))) = bl s := by
        rw [bl_ext, List.take_of_length_le (by simp [bl_len])]; simp
      simp only [List.nil_append, List.getD_cons_zero, List.length_cons, List.length_nil]
      exact ⟨⟨fun h => by omega, fun h => absurd h hn'⟩, by rw [← bl_len, e, bl_len]; exact Nat.le_refl _, .inr ⟨hn', e⟩⟩
    · have e : (o ++ [ByteArray.extract s (Int.toNat f) (Int.toNat ((s.size : Nat) : Int))]).getD 0 ByteArray.empty = o.getD 0 ByteArray.empty := by
        cases o with
        | nil => simp at k1
        | cons a o => rfl
      rw [e]
      refine ⟨⟨fun _ => k2, fun _ => by simp; omega⟩, ?_, .inl ⟨k2, y, k3, k4⟩⟩
      rw [← bl_len, ← bl_len s, k3]; simp
theorem line_bl (k : Int) (c r : ByteArray) : bl (lineB k c r) = (bl (itoaB k) ++ 32 :: (bl c ++ 64 :: (bl r ++ 35 :: bl (itoaB (sumB (headB k c r)))))) ++ [10] := by
  have hh : bl (headB k c r) = bl (itoaB k) ++ 32 :: (bl c ++ 64 :: bl r) := by
    unfold headB; rw [bl_app, bl_app, bl_app, bl_app]; simp [bl_mk]
  unfold lineB
  rw [bl_app, bl_app, bl_app, hh]
  simp [bl_mk]
def bodyL (k : Int) (c r : ByteArray) : List UInt8 := bl (itoaB k) ++ 32 :: (bl c ++ 64 :: (bl r ++ 35 :: bl (itoaB (sumB (headB k c r)))))
theorem line_body (k : Int) (c r : ByteArray) : bl (lineB k c r) = bodyL k c r ++ [10] := line_bl k c r
theorem body_nl {k : Int} (hk : 0 ≤ k) {c r : ByteArray} (h : l12RecordN c r = true) : (10 : UInt8) ∉ bodyL k c r := by
  obtain ⟨q1, q2⟩ := (rec_iff c r).1 h
  intro hb
  unfold bodyL at hb
  simp only [List.mem_append, List.mem_cons] at hb
  rcases hb with hb | hb | hb | hb | hb | hb | hb
  · have := itoa_bytes hk _ hb; revert this; decide
  · revert hb; decide
  · have := q1.2.2 _ hb; revert this; decide
  · revert hb; decide
  · have := q2.2 _ hb; revert this; decide
  · revert hb; decide
  · have := itoa_bytes (sumB_in _).1 _ hb; revert this; decide
/-- A record's line at the start of a text. -/
def Dec (l : List UInt8) (k : Int) (c r : ByteArray) : Prop := l12RecordN c r = true ∧ bl (lineB k c r) <+: l
theorem body_inj {k : Int} (hk : 0 ≤ k) {c r c' r' : ByteArray} (h : l12RecordN c r = true) (h' : l12RecordN c' r' = true) (e : bodyL k c r = bodyL k c' r') : c = c' ∧ r = r' := by
  obtain ⟨q1, q2⟩ := (rec_iff c r).1 h
  obtain ⟨p1, p2⟩ := (rec_iff c' r').1 h'
  unfold bodyL at e
  have e1 := List.append_cancel_left e
  simp only [List.cons.injEq, true_and] at e1
  obtain ⟨e2, e3⟩ := split_unique e1 (fun hb => (q1.2.2 _ hb).2.2.2 rfl) (fun hb => (p1.2.2 _ hb).2.2.2 rfl)
  obtain ⟨e4, _⟩ := split_unique e3 (fun hb => (q2.2 _ hb).2.2 rfl) (fun hb => (p2.2 _ hb).2.2 rfl)
  exact ⟨bl_inj e2, bl_inj e4⟩
theorem dec_split {l : List UInt8} {k : Int} (hk : 0 ≤ k) {c r : ByteArray} (h : Dec l k c r) {a b : List UInt8} (e : l = a ++ 10 :: b) (ha : (10 : UInt8) ∉ a) : a = bodyL k c r := by
  obtain ⟨h1, x, h2⟩ := h
  rw [line_body, e] at h2
  have h3 : bodyL k c r ++ 10 :: x = a ++ 10 :: b := by rw [← h2]; simp
  exact (split_unique h3 (body_nl hk h1) ha).1.symm
theorem dec_nl {l : List UInt8} {k : Int} {c r : ByteArray} (h : Dec l k c r) : (10 : UInt8) ∈ l := by
  obtain ⟨_, x, h2⟩ := h
  rw [← h2, line_body]; simp
theorem dec_unique {l : List UInt8} {k : Int} (hk : 0 ≤ k) {c r c' r' : ByteArray} (h : Dec l k c r) (h' : Dec l k c' r') : c = c' ∧ r = r' := by
  obtain ⟨a, b, e, ha⟩ := split_at (dec_nl h)
  have e1 := dec_split hk h e ha
  have e2 := dec_split hk h' e ha
  exact body_inj hk h.1 h'.1 (e1.symm.trans e2)
/-- What is told of a body's parts. -/
theorem body_cuts {k : Int} (hk : 0 ≤ k) {c r : ByteArray} (h : l12RecordN c r = true) : (35 : UInt8) ∉ bl (itoaB k) ++ 32 :: (bl c ++ 64 :: bl r) ∧ (32 : UInt8) ∉ bl (itoaB k) ∧ (64 : UInt8) ∉ bl c ∧ bodyL k c r = (bl (itoaB k) ++ 32 :: (bl c ++ 64 :: bl r)) ++ 35 :: bl (itoaB (sumB (headB k c r))) := by
  obtain ⟨q1, q2⟩ := (rec_iff c r).1 h
  refine ⟨?_, ?_, fun hb => (q1.2.2 _ hb).2.2.2 rfl, by unfold bodyL; simp⟩
  · intro hb
    simp only [List.mem_append, List.mem_cons] at hb
    rcases hb with hb | hb | hb | hb | hb
    · have := itoa_bytes hk _ hb; revert this; decide
    · revert hb; decide
    · exact (q1.2.2 _ hb).2.2.1 rfl
    · revert hb; decide
    · exact (q2.2 _ hb).2.2 rfl
  · intro hb
    have := itoa_bytes hk _ hb; revert this; decide
theorem iDec {s : ByteArray} {k : Int} (hk : 0 ≤ k) (hk' : k ≤ 59) (hs : s.size ≤ 1000000000) :
    (∃ c r, Dec (bl s) k c r ∧ F_impl_decode s k = some (c, r, ((lineB k c r).size : Int), true)) ∨ ((∀ c r, ¬ Dec (bl s) k c r) ∧ ∃ c r n, F_impl_decode s k = some (c, r, n, false)) := by
  unfold F_impl_decode
  rw [show ((10 : Int).toNat.toUInt8) = (10 : UInt8) from rfl]
  by_cases h : (10 : UInt8) ∈ bl s
  · obtain ⟨a, b, e, ha⟩ := split_at h
    have hl : s.size = a.length + 1 + b.length := by rw [← bl_len, e]; simp; omega
    rw [firstIdx_app e ha, ite_f (decide_eq_false (by omega)), chk_pos ⟨by omega, by omega, by omega⟩]
    have ha' : bl (ByteArray.extract s 0 (Int.toNat ((a.length : Nat) : Int))) = a := by rw [bl_ext, e]; simp
    have hsa : (ByteArray.extract s 0 (Int.toNat ((a.length : Nat) : Int))).size = a.length := by rw [← bl_len, ha']
    obtain ⟨x1, y1, z1, c1, s1, s1', d1⟩ := iCut (s := ByteArray.extract s 0 (Int.toNat ((a.length : Nat) : Int))) 35 (by omega)
    obtain ⟨x2, y2, z2, c2, s2, s2', d2⟩ := iCut (s := x1) 32 (by omega)
    obtain ⟨x3, y3, z3, c3, s3, s3', d3⟩ := iCut (s := y2) 64 (by omega)
    rw [bnd3_eq c1, bnd3_eq c2, bnd3_eq c3]
    rw [ha'] at d1
    have hpre : bl (ByteArray.extract s 0 (Int.toNat (((a.length : Nat) : Int) + 1))) = a ++ [10] := by
      rw [bl_ext, e, show (((a.length : Nat) : Int) + 1).toNat = a.length + 1 by omega, show a ++ 10 :: b = (a ++ [10]) ++ b by simp]
      rw [List.drop_zero, List.take_left' (by simp)]
    -- a record here is the one that was cut out
    have key : ∀ c r, Dec (bl s) k c r → x3 = c ∧ y3 = r := by
      intro c r hd
      have eb := dec_split hk hd e ha
      obtain ⟨b1, b2, b3, b4⟩ := body_cuts hk hd.1
      rw [b4] at eb
      rcases d1 with ⟨_, w1, w2⟩ | ⟨w1, _, _⟩
      · obtain ⟨f1, _⟩ := split_unique (w1.symm.trans eb) w2 b1
        rcases d2 with ⟨_, v1, v2⟩ | ⟨v1, _, _⟩
        · obtain ⟨_, f2⟩ := split_unique (v1.symm.trans f1) v2 b2
          rcases d3 with ⟨_, u1, u2⟩ | ⟨u1, _, _⟩
          · obtain ⟨f3, f4⟩ := split_unique (u1.symm.trans f2) u2 b3
            exact ⟨bl_inj f3, bl_inj f4⟩
          · exact absurd (by rw [f2]; simp) u1
        · exact absurd (by rw [f1]; simp) v1
      · exact absurd (by rw [eb]; simp) w1
    rcases iEnc_eq (k := k) (c := x3) (r := y3) (by omega) (by omega) with ⟨_, _, a3, a4⟩ | ⟨a1, a2⟩
    · rw [bnd2_eq a4, chk_pos (by unfold I64; omega)]
      simp only [nam]
      rw [ite_t rfl, chk_pos ⟨by omega, by omega, by omega⟩, str_eq, hpre, line_body]
      by_cases hb : bodyL k x3 y3 ++ [10] = a ++ [10]
      · have hd : Dec (bl s) k x3 y3 := ⟨a3, b, by rw [line_body, hb, e]; simp⟩
        refine .inl ⟨x3, y3, hd, ?_⟩
        rw [decide_eq_true hb, ← bl_len, line_body, hb]
        simp
      · refine .inr ⟨fun c r hd => ?_, x3, y3, _, by rw [decide_eq_false hb]⟩
        obtain ⟨rfl, rfl⟩ := key c r hd
        exact hb (by rw [dec_split hk hd e ha])
    · rw [bnd2_eq a2, chk_pos (by unfold I64; omega)]
      simp only [nam]
      rw [ite_f rfl]
      refine .inr ⟨fun c r hd => ?_, x3, y3, _, rfl⟩
      obtain ⟨rfl, rfl⟩ := key c r hd
      exact a1 ⟨hk, hk', hd.1⟩
  · rw [firstIdx_none h, ite_t (decide_eq_true (by omega))]
    exact .inr ⟨fun c r hd => h (dec_nl hd), _, _, _, rfl⟩
def SDec (t : ByteArray) (k : Int) (o : Option (ByteArray × ByteArray × Bool)) : Prop := (∃ c r, l12RecordN c r = true ∧ bodyL k c r = bl t ∧ o = some (c, r, true)) ∨ ((∀ c r, l12RecordN c r = true → bodyL k c r ≠ bl t) ∧ ∃ c r, o = some (c, r, false))
theorem sDec {t : ByteArray} {k : Int} (hk : 0 ≤ k) (hk' : k ≤ 59) (hs : t.size ≤ 1000000000) : SDec t k (F_spec_l12Decode t k) := by
  unfold F_spec_l12Decode
  have a := itoa_sz hk (by omega)
  have e1 : (ByteArray.mk #[32]).size = 1 := rfl
  have e2 : (ByteArray.mk #[10]).size = 1 := rfl
  have hhead : bl (itoaB k ++ ByteArray.mk #[32]) = bl (itoaB k) ++ [32] := by rw [bl_app]; rfl
  have hhl : (itoaB k ++ ByteArray.mk #[32]).size = (itoaB k).size + 1 := by rw [sz_app, e1]
  obtain ⟨ps, p1, p2, p3, p4, p5⟩ := sSplit (s := t) 35 hs
  rw [show (((35 : UInt8).toNat : Nat) : Int) = 35 from rfl] at p1
  rw [bnd1_eq (sNum hk (by omega)), chk_pos (by rw [e1]; omega), bnd1_eq p1, chk_pos ⟨by omega, by omega⟩]
  generalize hu : List.getD ps 0 ByteArray.empty = u at p4 p5 ⊢
  -- what a record's text leads to
  have key1 : ∀ c r, l12RecordN c r = true → bodyL k c r = bl t → bl u = bl (itoaB k) ++ 32 :: (bl c ++ 64 :: bl r) := by
    intro c r h e
    obtain ⟨b1, b2, b3, b4⟩ := body_cuts hk h
    rw [b4] at e
    rcases p5 with ⟨_, y, w1, w2⟩ | ⟨w1, _⟩
    · exact (split_unique (w1.symm.trans e.symm) w2 b1).1
    · exact absurd (by rw [← e]; simp) w1
  simp only [jn, nam]
  generalize hrest : ByteArray.extract u (Int.toNat ((ByteArray.size (itoaB k ++ ByteArray.mk #[32]) : Nat) : Int)) (Int.toNat ((ByteArray.size u : Nat) : Int)) = rest
  have hrb : bl rest = (bl u).drop ((itoaB k).size + 1) := by
    rw [← hrest, bl_ext, hhl, List.take_of_length_le (by rw [List.length_drop, bl_len]; omega)]
    rfl
  have bad : (∀ c r, l12RecordN c r = true → bodyL k c r ≠ bl t) → SDec t k (some (ByteArray.mk #[], ByteArray.mk #[], false)) := fun h => .inr ⟨h, _, _, rfl⟩
  by_cases hlen : u.size < (itoaB k).size + 1
  · rw [show decide (((ByteArray.size u : Nat) : Int) < ((ByteArray.size (itoaB k ++ ByteArray.mk #[32]) : Nat) : Int)) = true from decide_eq_true (by rw [hhl]; omega)]
    rw [ite_t rfl, ite_t rfl]
    refine bad fun c r h e => ?_
    have := congrArg List.length (key1 c r h e)
    simp [bl_len] at this
    omega
  rw [show decide (((ByteArray.size u : Nat) : Int) < ((ByteArray.size (itoaB k ++ ByteArray.mk #[32]) : Nat) : Int)) = false from decide_eq_false (by rw [hhl]; omega)]
  rw [ite_f rfl, chk_pos ⟨by omega, by omega, by rw [hhl]; omega⟩, str_eq, hhead]
  have hpre : bl (ByteArray.extract u 0 (Int.toNat ((ByteArray.size (itoaB k ++ ByteArray.mk #[32]) : Nat) : Int))) = (bl u).take ((itoaB k).size + 1) := by
    rw [bl_ext, hhl]; simp
  rw [hpre]
  by_cases hp : (bl u).take ((itoaB k).size + 1) = bl (itoaB k) ++ [32]
  rotate_left
  · rw [decide_eq_false hp, Bool.not_false, ite_t rfl]
    refine bad fun c r h e => hp ?_
    rw [key1 c r h e, show bl (itoaB k) ++ 32 :: (bl c ++ 64 :: bl r) = (bl (itoaB k) ++ [32]) ++ (bl c ++ 64 :: bl r) by simp, List.take_left' (by simp [bl_len])]
  have hub : bl u = (bl (itoaB k) ++ [32]) ++ bl rest := by rw [hrb, ← hp, List.take_append_drop]
  rw [decide_eq_true hp, Bool.not_true, ite_f rfl]
  have hul : u.size = (itoaB k).size + 1 + rest.size := by rw [← bl_len, hub]; simp [bl_len]; omega
  obtain ⟨qs, q1, q2, q3, q4, q5⟩ := sSplit (s := rest) 64 (by omega)
  rw [show (((64 : UInt8).toNat : Nat) : Int) = 64 from rfl] at q1
  rw [hhl, chk_pos ⟨by omega, by omega, by omega⟩, bnd1_eq q1, chk_pos ⟨by omega, by omega⟩]
  generalize List.getD qs 0 ByteArray.empty = v at q4 q5 ⊢
  -- a record's parts
  have key2 : ∀ c r, l12RecordN c r = true → bodyL k c r = bl t → bl rest = bl c ++ 64 :: bl r ∧ (64 : UInt8) ∉ bl c := by
    intro c r h e
    have := key1 c r h e
    rw [hub] at this
    refine ⟨List.append_cancel_left (this.trans (show _ = (bl (itoaB k) ++ [32]) ++ (bl c ++ 64 :: bl r) by simp)), (body_cuts hk h).2.2.1⟩
  rcases q5 with ⟨w0, y, w1, w2⟩ | ⟨w1, w2⟩
  rotate_left
  · rw [ite_t (by rw [beq_iff_eq, ← bl_len, w2, bl_len])]
    exact bad fun c r h e => absurd (by rw [(key2 c r h e).1]; simp) w1
  have hlen : rest.size = v.size + 1 + y.length := by rw [← bl_len, w1]; simp [bl_len]; omega
  rw [ite_f (by rw [beq_eq_false_iff_ne]; omega), chk_pos (by unfold I64; omega), chk_pos ⟨by omega, by omega, by omega⟩, chk_pos (by omega)]
  generalize hy : ByteArray.extract rest (Int.toNat (((v.size : Nat) : Int) + 1)) (Int.toNat ((rest.size : Nat) : Int)) = yb
  have hyb : bl yb = y := by
    rw [← hy, bl_ext, w1, show (((v.size : Nat) : Int) + 1).toNat = v.size + 1 by omega, show bl v ++ 64 :: y = (bl v ++ [64]) ++ y by simp, List.drop_left' (by simp [bl_len]), List.take_of_length_le (by omega)]
  have hysz : yb.size = y.length := by rw [← bl_len, hyb]
  rw [chk_pos (by omega)]
  have key3 : ∀ c r, l12RecordN c r = true → bodyL k c r = bl t → v = c ∧ yb = r := by
    intro c r h e
    obtain ⟨f1, f2⟩ := key2 c r h e
    obtain ⟨f3, f4⟩ := split_unique (w1.symm.trans f1) w2 f2
    exact ⟨bl_inj f3, bl_inj (hyb.trans f4)⟩
  cases hrec : l12RecordN v yb with
  | true =>
    rw [ite_t rfl, bnd1_eq (sLine_eq hk (by omega) (by have := (rec_iff v yb).1 hrec; rw [← bl_len]; have := this.1.2.1; omega) (by have := (rec_iff v yb).1 hrec; rw [← bl_len]; have := this.2.1; omega)), chk_pos (by rw [e2]; omega), str_eq, line_body, bl_app]
    rw [show bl (ByteArray.mk #[10]) = [10] from rfl]
    by_cases hb : bodyL k v yb = bl t
    · exact .inl ⟨v, yb, hrec, hb, by rw [hb, decide_eq_true rfl]⟩
    · refine .inr ⟨fun c r h e => ?_, v, yb, by rw [decide_eq_false (fun h => hb (List.append_cancel_right h))]⟩
      obtain ⟨rfl, rfl⟩ := key3 c r h e
      exact hb e
  | false =>
    rw [ite_f rfl]
    refine .inr ⟨fun c r h e => ?_, v, yb, rfl⟩
    obtain ⟨rfl, rfl⟩ := key3 c r h e
    rw [hrec] at h; cases h
/-- The lines of records, numbered from k on. -/
def linesL : Int → List (ByteArray × ByteArray) → List UInt8
  | _, [] => []
  | k, e :: es => bl (lineB k e.1 e.2) ++ linesL (k + 1) es
def okEs (es : List (ByteArray × ByteArray)) : Prop := ∀ e ∈ es, l12RecordN e.1 e.2 = true
theorem lines_app : ∀ (es fs : List (ByteArray × ByteArray)) (k : Int), linesL k (es ++ fs) = linesL k es ++ linesL (k + es.length) fs
  | [], fs, k => by simp [linesL]
  | e :: es, fs, k => by
    rw [List.cons_append, linesL, linesL, lines_app es fs, List.append_assoc]
    congr 3
    simp only [List.length_cons]; omega
theorem lines_one (k : Int) (e : ByteArray × ByteArray) : linesL k [e] = bl (lineB k e.1 e.2) := by simp [linesL]
theorem line_sz {k : Int} (h0 : 0 ≤ k) (h1 : k < 1000000) {c r : ByteArray} (h : l12RecordN c r = true) : 1 ≤ (lineB k c r).size ∧ (lineB k c r).size ≤ 430 := by
  obtain ⟨q1, q2⟩ := (rec_iff c r).1 h
  have g1 := q1.2.1; have g2 := q2.1
  rw [bl_len] at g1 g2
  have a := itoa_sz h0 h1
  have b := sumB_in (headB k c r)
  have b' := itoa_sz b.1 (by omega)
  have e3 : (ByteArray.mk #[10]).size = 1 := rfl
  have e4 : (ByteArray.mk #[35]).size = 1 := rfl
  unfold lineB
  rw [sz_app, sz_app, sz_app, headB_sz, e3, e4]
  omega
theorem lines_sz : ∀ {es : List (ByteArray × ByteArray)} {k : Int}, 0 ≤ k → k + es.length ≤ 1000000 → okEs es → (linesL k es).length ≤ 430 * es.length
  | [], k, _, _, _ => by simp [linesL]
  | e :: es, k, h0, h1, h => by
    simp only [List.length_cons] at h1
    have a := line_sz (k := k) h0 (by omega) (h e List.mem_cons_self)
    have b := lines_sz (es := es) (k := k + 1) (by omega) (by omega) fun x hx => h x (List.mem_cons_of_mem _ hx)
    rw [linesL, List.length_append, bl_len, List.length_cons]; omega
theorem lines_pos {e : ByteArray × ByteArray} {es : List (ByteArray × ByteArray)} {k : Int} : 1 ≤ (linesL k (e :: es)).length := by
  rw [linesL, line_body]; simp; omega
theorem dec_mono {l x : List UInt8} {k : Int} {c r : ByteArray} (h : Dec l k c r) : Dec (l ++ x) k c r := ⟨h.1, h.2.trans (List.prefix_append _ _)⟩
/-- All records that a text begins with, from the k-th on. -/
def OpenK (k : Int) (l : List UInt8) (es : List (ByteArray × ByteArray)) : Prop :=
  okEs es ∧ k + es.length ≤ 60 ∧ linesL k es <+: l ∧ (k + es.length = 60 ∨ ∀ c r, ¬ Dec (l.drop (linesL k es).length) (k + es.length) c r)
theorem open_prefix : ∀ {fs es : List (ByteArray × ByteArray)} {k : Int} {l : List UInt8}, 0 ≤ k → OpenK k l es → okEs fs → k + fs.length ≤ 60 → linesL k fs <+: l → fs <+: es
  | [], es, k, l, _, _, _, _, _ => List.nil_prefix
  | f :: fs, es, k, l, hk, ho, hf, hl, hp => by
    simp only [List.length_cons] at hl
    have hd : Dec l k f.1 f.2 := ⟨hf f List.mem_cons_self, (List.prefix_append _ _).trans hp⟩
    obtain ⟨o1, o2, o3, o4⟩ := ho
    cases es with
    | nil =>
      exfalso
      rcases o4 with o4 | o4
      · simp at o4; omega
      · refine o4 f.1 f.2 ?_
        simpa [linesL] using hd
    | cons e es =>
      have he : Dec l k e.1 e.2 := ⟨o1 e List.mem_cons_self, (List.prefix_append _ _).trans o3⟩
      obtain ⟨u1, u2⟩ := dec_unique hk he hd
      have ef : e = f := Prod.ext u1 u2
      subst ef
      obtain ⟨x, hx⟩ := hd.2
      have hl' : l = bl (lineB k e.1 e.2) ++ x := hx.symm
      subst hl'
      simp only [List.length_cons] at o2 o4
      have o3' : linesL (k + 1) es <+: x := by
        rw [linesL] at o3
        exact (List.prefix_append_right_inj _).1 o3
      have hp' : linesL (k + 1) fs <+: x := by
        rw [linesL] at hp
        exact (List.prefix_append_right_inj _).1 hp
      have := open_prefix (fs := fs) (es := es) (k := k + 1) (l := x) (by omega) ⟨fun y hy => o1 y (List.mem_cons_of_mem _ hy), by omega, o3', by
        rcases o4 with o4 | o4
        · exact .inl (by omega)
        · refine .inr fun c r => ?_
          have := o4 c r
          rw [linesL, List.length_append, List.drop_append, List.drop_of_length_le (by omega), Nat.add_sub_cancel_left] at this
          rw [show k + 1 + (es.length : Int) = k + ((es.length + 1 : Nat) : Int) by omega]
          simpa using this⟩ (fun y hy => hf y (List.mem_cons_of_mem _ hy)) (by omega) hp'
      exact (List.prefix_cons_inj e).2 this
theorem prefix_antisymm {α : Type} {a b : List α} (h : a <+: b) (h' : b <+: a) : a = b := h.eq_of_length (Nat.le_antisymm h.length_le h'.length_le)
theorem open_unique {k : Int} {l : List UInt8} {es fs : List (ByteArray × ByteArray)} (hk : 0 ≤ k) (h : OpenK k l es) (h' : OpenK k l fs) : es = fs :=
  prefix_antisymm (open_prefix hk h' h.1 h.2.1 h.2.2.1) (open_prefix hk h h'.1 h'.2.1 h'.2.2.1)
/-- Lines that are the whole text are all its records. -/
theorem open_whole {k : Int} {es fs : List (ByteArray × ByteArray)} (hk : 0 ≤ k) (h : OpenK k (linesL k fs) es) (hf : okEs fs) (hl : k + fs.length ≤ 60) : es = fs := by
  obtain ⟨gs, rfl⟩ := open_prefix hk h hf hl (List.prefix_refl _)
  cases gs with
  | nil => simp
  | cons g gs =>
    exfalso
    have := h.2.2.1.length_le
    rw [lines_app, List.length_append] at this
    have := lines_pos (e := g) (es := gs) (k := k + fs.length)
    omega
theorem open_of_whole {k : Int} {es : List (ByteArray × ByteArray)} (hf : okEs es) (hl : k + es.length ≤ 60) : OpenK k (linesL k es) es :=
  ⟨hf, hl, List.prefix_refl _, .inr fun c r h => by have := dec_nl h; simp at this⟩
theorem iRecs {s : ByteArray} (hs : s.size ≤ 1000000000) : ∃ es ends, F_impl_records s = some (es, ends) ∧ OpenK 0 (bl s) es ∧ ends.length = es.length + 1 ∧ ∀ i, i ≤ es.length → ends.getD i 0 = ((linesL 0 (es.take i)).length : Int) := by
  unfold F_impl_records
  simp only [jn]
  refine loop_m (fun n (z : List (ByteArray × ByteArray) × List Int × Int) => F_impl_records_L1 s (fun o10 o11 => some (o10, o11)) n z.1 z.2.1 z.2.2)
    (fun z => okEs z.1 ∧ z.1.length ≤ 60 ∧ linesL 0 z.1 <+: bl s ∧ z.2.2 = ((linesL 0 z.1).length : Int) ∧ z.2.1.length = z.1.length + 1 ∧ ∀ i, i ≤ z.1.length → z.2.1.getD i 0 = ((linesL 0 (z.1.take i)).length : Int))
    (fun z => 60 - z.1.length) (fun o => ∃ es ends, o = some (es, ends) ∧ OpenK 0 (bl s) es ∧ ends.length = es.length + 1 ∧ ∀ i, i ≤ es.length → ends.getD i 0 = ((linesL 0 (es.take i)).length : Int)) ?_ fuel ([], [0], 0)
    ⟨fun e he => by simp at he, by simp, by simp [linesL], by simp [linesL], by simp, fun i hi => by
      have : i = 0 := by simpa using hi
      subst this; simp [linesL]⟩ (by have := fuel_ge; simp only [List.length_nil]; omega)
  rintro n ⟨es, ends, at_⟩ ⟨h1, h2, h3, h4, h5, h6⟩
  simp only at h1 h2 h3 h4 h5 h6 ⊢
  subst h4
  rw [F_impl_records_L1]
  have hle : (linesL 0 es).length ≤ s.size := by have := h3.length_le; rwa [bl_len] at this
  have hrest : bl (ByteArray.extract s (Int.toNat (((linesL 0 es).length : Nat) : Int)) (Int.toNat ((s.size : Nat) : Int))) = (bl s).drop (linesL 0 es).length := by
    rw [bl_ext, Int.toNat_natCast, Int.toNat_natCast, List.take_of_length_le (by rw [List.length_drop, bl_len]; omega)]
  have hrsz : (ByteArray.extract s (Int.toNat (((linesL 0 es).length : Nat) : Int)) (Int.toNat ((s.size : Nat) : Int))).size ≤ 1000000000 := by
    rw [← bl_len, hrest, List.length_drop, bl_len]; omega
  by_cases hl : es.length < 60
  · rw [ite_t (decide_eq_true (by omega)), chk_pos ⟨by omega, by omega, by omega⟩]
    rcases iDec (s := ByteArray.extract s (Int.toNat (((linesL 0 es).length : Nat) : Int)) (Int.toNat ((s.size : Nat) : Int))) (k := (es.length : Int)) (by omega) (by omega) hrsz with ⟨c, r, hd, e⟩ | ⟨hn, c, r, m, e⟩
    · rw [hrest] at hd
      have hsz := line_sz (k := (es.length : Int)) (by omega) (by omega) hd.1
      rw [bnd4_eq e, Bool.not_true, ite_f rfl, chk_pos (by unfold I64; omega), chk_pos ⟨by omega, by simp only [maxLen]; omega⟩, chk_pos ⟨by omega, by simp only [maxLen]; omega⟩]
      have hln : linesL 0 (es ++ [(c, r)]) = linesL 0 es ++ bl (lineB es.length c r) := by rw [lines_app, lines_one, Int.zero_add]
      have hend : (((linesL 0 es).length : Nat) : Int) + ((lineB es.length c r).size : Int) = ((linesL 0 (es ++ [(c, r)])).length : Int) := by
        rw [hln, List.length_append, bl_len]; omega
      refine .inl ⟨(es ++ [(c, r)], ends ++ [(((linesL 0 es).length : Nat) : Int) + ((lineB es.length c r).size : Int)], (((linesL 0 es).length : Nat) : Int) + ((lineB es.length c r).size : Int)), ⟨?_, by simp only [List.length_append, List.length_cons, List.length_nil]; omega, ?_, hend, by simp only [List.length_append, List.length_cons, List.length_nil]; omega, fun i hi => ?_⟩, by simp only [List.length_append, List.length_cons, List.length_nil]; omega, rfl⟩
      · intro x hx
        rcases List.mem_append.1 hx with hx | hx
        · exact h1 x hx
        · rw [List.mem_singleton] at hx; subst hx; exact hd.1
      · rw [hln]
        obtain ⟨y, hy⟩ := h3
        rw [← hy, List.drop_left'  rfl] at hd
        rw [← hy]
        exact (List.prefix_append_right_inj _).2 hd.2
      · simp only [List.length_append, List.length_cons, List.length_nil] at hi
        by_cases hi2 : i ≤ es.length
        · rw [List.getD_eq_getElem?_getD, List.getElem?_append_left (by omega), ← List.getD_eq_getElem?_getD, h6 i hi2, List.take_append_of_le_length hi2]
        · have : i = es.length + 1 := by omega
          subst this
          rw [List.getD_eq_getElem?_getD, ← h5, List.getElem?_append_right (Nat.le_refl _), Nat.sub_self]
          simp only [List.getElem?_cons_zero, Option.getD_some]
          rw [hend, List.take_of_length_le (by simp; omega)]
    · rw [bnd4_eq e, Bool.not_false, ite_t rfl]
      rw [hrest] at hn
      exact .inr ⟨es, ends, rfl, ⟨h1, by omega, h3, .inr (by simpa using hn)⟩, h5, h6⟩
  · rw [ite_f (decide_eq_false (by omega))]
    exact .inr ⟨es, ends, rfl, ⟨h1, by omega, h3, .inl (by omega)⟩, h5, h6⟩
theorem sOpen {s : ByteArray} (hs : s.size ≤ 1000000000) : ∃ es, F_spec_l12Open s = some (es, ((linesL 0 es).length : Int)) ∧ OpenK 0 (bl s) es := by
  unfold F_spec_l12Open
  simp only [jn]
  refine loop_m (fun n (z : List (ByteArray × ByteArray) × Int) => F_spec_l12Open_L1 s (fun o9 v5 => some (o9, v5)) n z.1 z.2)
    (fun z => okEs z.1 ∧ z.1.length ≤ 60 ∧ linesL 0 z.1 <+: bl s ∧ z.2 = ((linesL 0 z.1).length : Int))
    (fun z => 60 - z.1.length) (fun o => ∃ es, o = some (es, ((linesL 0 es).length : Int)) ∧ OpenK 0 (bl s) es) ?_ fuel ([], 0)
    ⟨fun e he => by simp at he, by simp, by simp [linesL], by simp [linesL]⟩ (by have := fuel_ge; simp only [List.length_nil]; omega)
  rintro n ⟨es, at_⟩ ⟨h1, h2, h3, h4⟩
  simp only at h1 h2 h3 h4 ⊢
  subst h4
  rw [F_spec_l12Open_L1]
  have hle : (linesL 0 es).length ≤ s.size := by have := h3.length_le; rwa [bl_len] at this
  generalize hre : ByteArray.extract s (Int.toNat (((linesL 0 es).length : Nat) : Int)) (Int.toNat ((s.size : Nat) : Int)) = rest
  have hrest : bl rest = (bl s).drop (linesL 0 es).length := by
    rw [← hre, bl_ext, Int.toNat_natCast, Int.toNat_natCast, List.take_of_length_le (by rw [List.length_drop, bl_len]; omega)]
  have hrsz : rest.size = s.size - (linesL 0 es).length := by
    rw [← bl_len, hrest, List.length_drop, bl_len]
  simp only [jn]
  have stop : (es.length = 60 ∨ ∀ c r, ¬ Dec (bl rest) es.length c r) → ∃ es', some (es, (((linesL 0 es).length : Nat) : Int)) = some (es', ((linesL 0 es').length : Int)) ∧ OpenK 0 (bl s) es' := fun h =>
    ⟨es, rfl, h1, by omega, h3, by rcases h with h | h; exact .inl (by omega); exact .inr (by rw [← hrest]; simpa using h)⟩
  by_cases ha : (linesL 0 es).length < s.size
  · rw [ite_t (decide_eq_true (by omega))]
    by_cases hl : es.length < 60
    · rw [ite_t (decide_eq_true (by omega)), chk_pos ⟨by omega, by omega, by omega⟩]
      obtain ⟨ps, p1, p2, p3, p4, p5⟩ := sSplit (s := rest) 10 (by omega)
      rw [show (((10 : UInt8).toNat : Nat) : Int) = 10 from rfl] at p1
      rw [bnd1_eq p1, chk_pos ⟨by omega, by omega⟩]
      generalize List.getD ps 0 ByteArray.empty = t at p4 p5 ⊢
      have hsd := sDec (t := t) (k := (es.length : Int)) (by omega) (by omega) (by omega)
      rcases p5 with ⟨w0, y, w1, w2⟩ | ⟨w1, w2⟩
      · have h2p := p3.2 w0
        have hrl : rest.size = t.size + 1 + y.length := by rw [← bl_len, w1]; simp [bl_len]; omega
        rcases hsd with ⟨c, r, g1, g2, g3⟩ | ⟨g1, c, r, g3⟩
        · have hsz : t.size + 1 = (lineB es.length c r).size := by rw [← bl_len (lineB _ _ _), line_body, g2]; simp [bl_len]
          rw [bnd3_eq g3, ite_f (decide_eq_false (by omega)), Bool.not_true, ite_f rfl, chk_pos ⟨by omega, by simp only [maxLen]; omega⟩, chk_pos (by unfold I64; omega)]
          simp only [nam]
          rw [chk_pos (by unfold I64; omega)]
          have hln : linesL 0 (es ++ [(c, r)]) = linesL 0 es ++ bl (lineB es.length c r) := by rw [lines_app, lines_one, Int.zero_add]
          refine .inl ⟨(es ++ [(c, r)], (((linesL 0 es).length : Nat) : Int) + ((t.size : Nat) : Int) + 1), ⟨?_, by simp only [List.length_append, List.length_cons, List.length_nil]; omega, ?_, ?_⟩, by simp only [List.length_append, List.length_cons, List.length_nil]; omega, rfl⟩
          · intro x hx
            rcases List.mem_append.1 hx with hx | hx
            · exact h1 x hx
            · rw [List.mem_singleton] at hx; subst hx; exact g1
          · rw [hln]
            obtain ⟨z, hz⟩ := h3
            rw [← hz, List.drop_left' rfl] at hrest
            rw [← hz]
            refine (List.prefix_append_right_inj _).2 ⟨y, ?_⟩
            rw [← hrest, w1, line_body, g2]; simp
          · simp only
            rw [hln, List.length_append, bl_len, ← hsz]; omega
        · rw [bnd3_eq g3, ite_f (decide_eq_false (by omega)), Bool.not_false, ite_t rfl]
          refine .inr (stop (.inr fun c r hd => g1 c r hd.1 ?_))
          exact (dec_split (by omega) hd w1 w2).symm
      · have h2p : ¬ 2 ≤ ps.length := fun h => w1 (p3.1 h)
        rcases hsd with ⟨c, r, g1, g2, g3⟩ | ⟨g1, c, r, g3⟩
        · rw [bnd3_eq g3, ite_t (decide_eq_true (by omega)), ite_t rfl]
          exact .inr (stop (.inr fun c r hd => w1 (dec_nl hd)))
        · rw [bnd3_eq g3, ite_t (decide_eq_true (by omega)), ite_t rfl]
          exact .inr (stop (.inr fun c r hd => w1 (dec_nl hd)))
    · rw [ite_f (decide_eq_false (by omega))]
      exact .inr (stop (.inl (by omega)))
  · rw [ite_f (decide_eq_false (by omega)), ite_f rfl]
    refine .inr (stop (.inr fun c r hd => ?_))
    have := dec_nl hd
    rw [List.eq_nil_of_length_eq_zero (l := bl rest) (by rw [bl_len]; omega)] at this
    simp at this
/-- A log is valid, and its records are es. -/
def VLog (d p : ByteArray) (n : Int) (es : List (ByteArray × ByteArray)) : Prop :=
  okEs es ∧ es.length ≤ 60 ∧ n = es.length ∧ ∃ i, i ≤ es.length ∧ bl d = linesL 0 (es.take i) ∧ bl p = linesL i (es.drop i)
theorem VLog.whole {d p : ByteArray} {n : Int} {es : List (ByteArray × ByteArray)} (h : VLog d p n es) : bl (d ++ p) = linesL 0 es := by
  obtain ⟨_, _, _, i, hi, h1, h2⟩ := h
  rw [bl_app, h1, h2]
  conv => rhs; rw [← List.take_append_drop i es, lines_app]
  rw [List.length_take, Nat.min_eq_left hi, Int.zero_add]
theorem VLog.sz {d p : ByteArray} {n : Int} {es : List (ByteArray × ByteArray)} (h : VLog d p n es) : d.size + p.size ≤ 25800 := by
  have h1 := h.whole
  have := lines_sz (es := es) (k := 0) (by omega) (by have := h.2.1; omega) h.1
  rw [← h1, bl_len, sz_app] at this
  have := h.2.1
  omega
theorem VLog.unique {d p : ByteArray} {n n' : Int} {es fs : List (ByteArray × ByteArray)} (h : VLog d p n es) (h' : VLog d p n' fs) : es = fs := by
  have a := open_of_whole (k := 0) h.1 (by have := h.2.1; omega)
  have b := open_of_whole (k := 0) h'.1 (by have := h'.2.1; omega)
  rw [← h.whole] at a
  rw [← h'.whole] at b
  exact open_unique (Int.le_refl _) a b
theorem lines_take {es : List (ByteArray × ByteArray)} {i : Nat} (hi : i ≤ es.length) : linesL 0 es = linesL 0 (es.take i) ++ linesL i (es.drop i) := by
  conv => lhs; rw [← List.take_append_drop i es, lines_app]
  rw [List.length_take, Nat.min_eq_left hi, Int.zero_add]
theorem iRead {d p : ByteArray} {n : Int} (hd : d.size ≤ 100000000) (hp : p.size ≤ 100000000) :
    ∃ es b, F_impl_Log_read d p n = some (es, b) ∧ (b = true → VLog d p n es) ∧ (b = false → ∀ fs, ¬ VLog d p n fs) := by
  unfold F_impl_Log_read
  rw [chk_pos (by unfold I64; omega)]
  simp only [nam]
  by_cases h : d.size + p.size > 30000
  · rw [ite_t (decide_eq_true (by omega))]
    exact ⟨_, _, rfl, fun h => (by cases h), fun _ fs hv => by have := hv.sz; omega⟩
  rw [ite_f (decide_eq_false (by omega)), chk_pos (by omega)]
  obtain ⟨es, ends, e1, e2, e3, e4⟩ := iRecs (s := d ++ p) (by rw [sz_app]; omega)
  rw [bnd2_eq e1]
  simp only [jn]
  generalize hJ : (fun (v7 : Bool) => (bif v7 then chk (I64 (((List.length ends : Nat) : Int) - (1 : Int))) <| chk (0 ≤ (((List.length ends : Nat) : Int) - (1 : Int)) ∧ (((List.length ends : Nat) : Int) - (1 : Int)) < ((List.length ends : Nat) : Int)) <| (bif (List.getD ends (Int.toNat (((List.length ends : Nat) : Int) - (1 : Int))) 0) == ((ByteArray.size (d ++ p) : Nat) : Int) then some (es, n == ((List.length es : Nat) : Int)) else some (es, false)) else some (es, false))) = J
  have hl60 := e2.2.1
  have loop : F_impl_Log_read_L1 d ends J fuel 0 false = J (decide (∃ i, i < ends.length ∧ ends.getD i 0 = (d.size : Int))) := by
    refine loop_m (fun m (z : Int × Bool) => F_impl_Log_read_L1 d ends J m z.1 z.2) (fun z => 0 ≤ z.1 ∧ z.1 ≤ ends.length ∧ (z.2 = true ↔ ∃ i, i < z.1.toNat ∧ ends.getD i 0 = (d.size : Int))) (fun z => (ends.length - z.1).toNat) (fun o => o = J (decide (∃ i, i < ends.length ∧ ends.getD i 0 = (d.size : Int)))) ?_ fuel (0, false) ⟨by simp, by simp, by simp⟩ (by have := fuel_ge; simp only; omega)
    rintro m ⟨i, b⟩ ⟨h0, h1, h2⟩
    simp only at h0 h1 h2 ⊢
    rw [F_impl_Log_read_L1]
    by_cases hi : i < ends.length
    · rw [ite_t (decide_eq_true hi), chk_pos ⟨h0, hi⟩]
      cases b with
      | true =>
        rw [ite_t rfl, chk_pos (by unfold I64; omega)]
        obtain ⟨j, hj, hj2⟩ := h2.1 rfl
        exact .inl ⟨(i + 1, true), ⟨by simp only; omega, by simp only; omega, fun _ => ⟨j, by simp only; omega, hj2⟩, fun _ => rfl⟩, by simp only; omega, rfl⟩
      | false =>
        rw [ite_f rfl, chk_pos (by unfold I64; omega)]
        refine .inl ⟨(i + 1, (List.getD ends (Int.toNat i) 0) == ((ByteArray.size d : Nat) : Int)), ⟨by simp only; omega, by simp only; omega, ?_⟩, by simp only; omega, rfl⟩
        simp only [beq_iff_eq]
        constructor
        · intro h; exact ⟨i.toNat, by omega, h⟩
        · rintro ⟨j, hj, hj2⟩
          by_cases e : j = i.toNat
          · rw [← e]; exact hj2
          · exact absurd (h2.2 ⟨j, by omega, hj2⟩) (by simp)
    · rw [ite_f (decide_eq_false hi)]
      right
      congr 1
      apply Bool.eq_iff_iff.2
      rw [h2, decide_eq_true_eq, show i.toNat = ends.length by omega]
  rw [loop]
  subst hJ
  simp only
  -- what it means that some record ends there
  have hends : (∃ i, i < ends.length ∧ ends.getD i 0 = (d.size : Int)) ↔ ∃ i, i ≤ es.length ∧ (linesL 0 (es.take i)).length = d.size := by
    constructor
    · rintro ⟨i, hi, h⟩
      rw [e4 i (by omega)] at h
      exact ⟨i, by omega, by omega⟩
    · rintro ⟨i, hi, h⟩
      exact ⟨i, by omega, by rw [e4 i hi, h]⟩
  have hlast : List.getD ends (Int.toNat (((List.length ends : Nat) : Int) - (1 : Int))) 0 = ((linesL 0 es).length : Int) := by
    rw [show (((List.length ends : Nat) : Int) - (1 : Int)).toNat = es.length by omega, e4 es.length (Nat.le_refl _), List.take_length]
  have conv_ : ∀ fs, VLog d p n fs → fs = es := fun fs hv => by
    have := hv.whole
    rw [this] at e2
    exact (open_whole (Int.le_refl _) e2 hv.1 (by have := hv.2.1; omega)).symm
  by_cases hE : ∃ i, i < ends.length ∧ ends.getD i 0 = (d.size : Int)
  · rw [decide_eq_true hE, ite_t rfl, chk_pos (by unfold I64; omega), chk_pos ⟨by omega, by omega⟩, hlast, sz_app]
    by_cases hw : (linesL 0 es).length = d.size + p.size
    · rw [ite_t (by rw [beq_iff_eq]; omega)]
      refine ⟨_, _, rfl, fun hn => ?_, fun hn fs hv => ?_⟩
      · obtain ⟨i, hi, hl⟩ := hends.1 hE
        have hwhole : bl (d ++ p) = linesL 0 es := (e2.2.2.1.eq_of_length (by rw [bl_len, sz_app]; exact hw)).symm
        rw [lines_take hi, bl_app] at hwhole
        obtain ⟨f1, f2⟩ := List.append_inj hwhole (by rw [bl_len, hl])
        exact ⟨e2.1, by omega, by simpa using hn, i, hi, f1, f2⟩
      · have := conv_ fs hv
        subst this
        rw [hv.2.2.1] at hn
        simp at hn
    · rw [ite_f (by rw [beq_eq_false_iff_ne]; omega)]
      refine ⟨_, _, rfl, fun hn => (by cases hn), fun _ fs hv => hw ?_⟩
      have := conv_ fs hv
      subst this
      rw [← hv.whole, bl_len, sz_app]
  · rw [decide_eq_false hE, ite_f rfl]
    refine ⟨_, _, rfl, fun hn => (by cases hn), fun _ fs hv => hE (hends.2 ?_)⟩
    have := conv_ fs hv
    subst this
    obtain ⟨_, _, _, i, hi, g1, g2⟩ := hv
    exact ⟨i, hi, by rw [← g1, bl_len]⟩
theorem sValid {d p : ByteArray} {n : Int} (hd : d.size ≤ 100000000) (hp : p.size ≤ 100000000) :
    ∃ b, F_spec_l12Valid d p n = some b ∧ (b = true ↔ ∃ es, VLog d p n es) := by
  unfold F_spec_l12Valid
  rw [chk_pos (by unfold I64; omega)]
  simp only [nam]
  by_cases h : d.size + p.size > 30000
  · rw [ite_t (decide_eq_true (by omega))]
    exact ⟨_, rfl, fun h => (by cases h), fun ⟨fs, hv⟩ => by have := hv.sz; omega⟩
  rw [ite_f (decide_eq_false (by omega)), chk_pos (by omega)]
  obtain ⟨es, e1, e2⟩ := sOpen (s := d ++ p) (by rw [sz_app]; omega)
  obtain ⟨ds, f1, f2⟩ := sOpen (s := d) (by omega)
  rw [bnd2_eq e1, bnd2_eq f1]
  have hl60 := e2.2.1
  have conv_ : ∀ fs, VLog d p n fs → fs = es := fun fs hv => by
    have := hv.whole
    rw [this] at e2
    exact (open_whole (Int.le_refl _) e2 hv.1 (by have := hv.2.1; omega)).symm
  by_cases hw : (linesL 0 es).length = d.size + p.size
  · rw [ite_t (by rw [beq_iff_eq]; omega)]
    have hwhole : bl (d ++ p) = linesL 0 es := (e2.2.2.1.eq_of_length (by rw [bl_len, sz_app]; exact hw)).symm
    by_cases hk : (linesL 0 ds).length = d.size
    · rw [ite_t (by rw [beq_iff_eq]; omega)]
      have hdw : bl d = linesL 0 ds := (f2.2.2.1.eq_of_length (by rw [bl_len]; exact hk)).symm
      refine ⟨_, rfl, fun hn => ⟨es, e2.1, by omega, by simpa using (beq_iff_eq.1 hn).symm, ?_⟩, fun ⟨fs, hv⟩ => ?_⟩
      · obtain ⟨gs, hg⟩ := open_prefix (fs := ds) (es := es) (Int.le_refl _) e2 f2.1 f2.2.1 (by rw [← hdw, bl_app]; exact List.prefix_append _ _)
        subst hg
        refine ⟨ds.length, by simp, by rw [List.take_left' rfl]; exact hdw, ?_⟩
        rw [List.drop_left' rfl]
        rw [lines_app, bl_app, hdw, Int.zero_add] at hwhole
        exact List.append_cancel_left hwhole
      · have := conv_ fs hv
        subst this
        rw [hv.2.2.1]; simp
    · rw [ite_f (by rw [beq_eq_false_iff_ne]; omega)]
      refine ⟨_, rfl, fun h => (by cases h), fun ⟨fs, hv⟩ => absurd ?_ hk⟩
      obtain ⟨g0, g1, g2, i, hi, g3, g4⟩ := hv
      rw [g3] at f2
      have := open_whole (fs := fs.take i) (Int.le_refl _) f2 (fun x hx => g0 x (List.mem_of_mem_take hx)) (by rw [List.length_take]; omega)
      rw [this, ← g3, bl_len]
  · rw [ite_f (by rw [beq_eq_false_iff_ne]; omega)]
    refine ⟨_, rfl, fun h => (by cases h), fun ⟨fs, hv⟩ => absurd ?_ hw⟩
    have := conv_ fs hv
    subst this
    rw [← hv.whole, bl_len, sz_app]
theorem bool_same {a b : Bool} {P : Prop} (h : a = true ↔ P) (h' : b = true ↔ P) : a = b := Bool.eq_iff_iff.2 (h.trans h'.symm)
theorem iValid {d p : ByteArray} {n : Int} (hd : d.size ≤ 100000000) (hp : p.size ≤ 100000000) :
    ∃ b, F_impl_IsValidLog d p n = some b ∧ (b = true ↔ ∃ es, VLog d p n es) := by
  obtain ⟨es, b, e, h1, h2⟩ := iRead (n := n) hd hp
  unfold F_impl_IsValidLog
  rw [bnd2_eq e]
  refine ⟨b, rfl, fun h => ⟨es, h1 h⟩, fun ⟨fs, hv⟩ => ?_⟩
  cases b with
  | true => rfl
  | false => exact absurd hv (h2 rfl fs)
/-- A log within the room: so small, or the law speaks of none. -/
theorem szLog {d p : ByteArray} {n : Int} (hd : d.size ≤ 9223372036854775807) (hp : p.size ≤ 9223372036854775807) : ∃ v, F_laws_szLog d p n 1048576 = some v ∧ v ≤ 1048576 ∧ (v < 0 ∨ (0 ≤ v ∧ d.size + p.size + v ≤ 1048576)) := by
  unfold F_laws_szLog
  rw [chk_pos (by unfold I64; omega)]
  by_cases h : (1048576 : Int) - d.size < 0
  · rw [ite_t (decide_eq_true h)]
    exact ⟨_, rfl, by omega, .inl (by omega)⟩
  · rw [ite_f (decide_eq_false h), chk_pos (by unfold I64; omega)]
    simp only [nam]
    by_cases h2 : (1048576 : Int) - d.size - p.size < 0
    · rw [ite_t (decide_eq_true h2)]; exact ⟨_, rfl, by omega, .inl (by omega)⟩
    · rw [ite_f (decide_eq_false h2)]; exact ⟨_, rfl, by omega, .inr ⟨by omega, by omega⟩⟩
theorem law_IsValidConsole (lies : List Int) (a b c : Int) (d p : ByteArray) (n : Int) (hl : lies.length = 12) (hd : d.size ≤ 9223372036854775807) (hp : p.size ≤ 9223372036854775807) : F_laws_FnExactIsValidConsole lies a b c d p n = some true := by
  unfold F_laws_FnExactIsValidConsole F_laws_szConsole
  obtain ⟨v, e, _, h⟩ := szLog (n := n) hd hp
  rw [chk_pos hl, chk_pos hl, bnd1_eq e]
  rcases h with h | ⟨h0, h⟩
  · rw [ite_t (decide_eq_true h), bnd1_eq rfl, ite_t (by decide)]
  rw [ite_f (decide_eq_false (by omega)), bnd1_eq rfl, ite_f (decide_eq_false (by omega))]
  unfold F_laws_toConsole F_laws_toLog
  rw [chk_pos hl, chk_pos hl, bnd3_eq rfl, bnd7_eq rfl, chk_pos hl]
  unfold F_spec_IsValidConsole F_impl_IsValidConsole
  rw [chk_pos hl, chk_pos hl]
  obtain ⟨x, ex, hx⟩ := sValid (d := d) (p := p) (n := n) (by omega) (by omega)
  obtain ⟨y, ey, hy⟩ := iValid (d := d) (p := p) (n := n) (by omega) (by omega)
  cases hroom : isRoomN lies a b c with
  | true => rw [ite_t rfl, bnd1_eq ex, bnd1_eq rfl, bnd7_eq rfl, chk_pos hl, chk_pos hl, chk_pos hl, hroom, ite_t rfl, bnd1_eq ey, bnd1_eq rfl, bool_same hy hx]; simp
  | false => rw [ite_f rfl, bnd1_eq rfl, bnd7_eq rfl, chk_pos hl, chk_pos hl, chk_pos hl, hroom, ite_f rfl, bnd1_eq rfl]; simp
end Go.Tl
