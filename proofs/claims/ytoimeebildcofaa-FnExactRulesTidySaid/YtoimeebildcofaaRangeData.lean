/- Numbers of 32 bits of which ends and bits are known: the least number of a range, found bit by bit. Plain data; no Go, no memory. -/
namespace Go.Proofs.Ytoimeebildcofaa
/-- The bits of a without those of b. -/
def andNot (a b : Nat) : Nat := a ^^^ (a &&& b)
theorem testBit_andNot (a b i : Nat) : (andNot a b).testBit i = (a.testBit i && !b.testBit i) := by
  simp only [andNot, Nat.testBit_xor, Nat.testBit_and]
  cases a.testBit i <;> cases b.testBit i <;> rfl
/-- The bits of n from number i on. -/
def highs (n i : Nat) : Nat := (n >>> i) <<< i
theorem testBit_highs (n i j : Nat) : (highs n i).testBit j = (decide (i ≤ j) && n.testBit j) := by
  simp only [highs, Nat.testBit_shiftLeft, Nat.testBit_shiftRight]
  by_cases h : i ≤ j
  · simp [h, show i + (j - i) = j by omega]
  · simp [h]
/-- The bits of n below number i. -/
def lows (n i : Nat) : Nat := n % 2 ^ i
theorem testBit_lows (n i j : Nat) : (lows n i).testBit j = (decide (j < i) && n.testBit j) := by
  simp [lows, Nat.testBit_mod_two_pow]
/-- n has the bits that are known. -/
def Fits (bits opn n : Nat) : Prop := andNot n opn = bits
theorem fits_iff {bits opn n : Nat} : Fits bits opn n ↔ ∀ i, (n.testBit i && !opn.testBit i) = bits.testBit i := by
  constructor
  · intro h i
    rw [← h, testBit_andNot]
  · intro h
    refine Nat.eq_of_testBit_eq fun i => ?_
    rw [testBit_andNot, h i]
/-- Where n > a parts from a: the highest bit in which they are not the same. -/
theorem part_at {a n : Nat} (h : a < n) : ∃ i, a.testBit i = false ∧ n.testBit i = true ∧ ∀ j, i < j → a.testBit j = n.testBit j := by
  induction n using Nat.strongRecOn generalizing a with
  | ind n ih =>
    by_cases h2 : a / 2 < n / 2
    · obtain ⟨i, h3, h4, h5⟩ := ih (n / 2) (by omega) h2
      refine ⟨i + 1, by rw [Nat.testBit_succ]; exact h3, by rw [Nat.testBit_succ]; exact h4, fun j hj => ?_⟩
      obtain ⟨j, rfl⟩ : ∃ k, j = k + 1 := ⟨j - 1, by omega⟩
      rw [Nat.testBit_succ, Nat.testBit_succ]
      exact h5 j (by omega)
    · have h3 : a / 2 = n / 2 := by omega
      refine ⟨0, by rw [Nat.testBit_zero]; simp; omega, by rw [Nat.testBit_zero]; simp; omega, fun j hj => ?_⟩
      obtain ⟨j, rfl⟩ : ∃ k, j = k + 1 := ⟨j - 1, by omega⟩
      rw [Nat.testBit_succ, Nat.testBit_succ, h3]
theorem testBit_lt32 {n : Nat} (h : n ≤ 4294967295) {i : Nat} (hi : 32 ≤ i) : n.testBit i = false := Nat.testBit_lt_two_pow (by
  have : 2 ^ 32 ≤ 2 ^ i := Nat.pow_le_pow_right (by omega) hi
  omega)
theorem le32_of {n : Nat} (h : ∀ i, 32 ≤ i → n.testBit i = false) : n ≤ 4294967295 := by
  have : n < 2 ^ 32 := Nat.lt_pow_two_of_testBit n (fun i hi => h i hi)
  omega
/-- Less, by the highest bit in which two numbers are not the same. -/
theorem lt_of_bits {a n : Nat} (i : Nat) (h1 : a.testBit i = false) (h2 : n.testBit i = true) (h3 : ∀ j, i < j → a.testBit j = n.testBit j) : a < n := by
  rcases Nat.lt_trichotomy a n with h | h | h
  · exact h
  · rw [h, h2] at h1
    cases h1
  · obtain ⟨j, g1, g2, g3⟩ := part_at h
    rcases Nat.lt_trichotomy i j with h' | h' | h'
    · rw [h3 j h', g1] at g2
      cases g2
    · subst h'
      rw [h1] at g2
      cases g2
    · rw [← g3 i h', h2] at h1
      cases h1
/-- The number that parts from a at bit i, below it as small as it may be. -/
def cand (a bits i : Nat) : Nat := highs a (i + 1) ||| 2 ^ i ||| lows bits i
/-- Such a number may be one of the range. -/
def Valid (a bits opn i : Nat) : Prop := a.testBit i = false ∧ (bits ||| opn).testBit i = true ∧ andNot (highs a (i + 1)) opn = highs bits (i + 1)
theorem testBit_cand (a bits i j : Nat) : (cand a bits i).testBit j = if j < i then bits.testBit j else if j = i then true else a.testBit j := by
  simp only [cand, Nat.testBit_or, testBit_highs, testBit_lows, Nat.testBit_two_pow]
  by_cases h1 : j < i
  · simp [h1, show ¬ i + 1 ≤ j by omega, show ¬ i = j by omega]
  · by_cases h2 : j = i
    · simp [h2]
    · simp [h1, h2, show i + 1 ≤ j by omega, show ¬ i = j by omega]
theorem valid_iff {a bits opn i : Nat} : Valid a bits opn i ↔ a.testBit i = false ∧ (bits.testBit i || opn.testBit i) = true ∧ ∀ j, i < j → (a.testBit j && !opn.testBit j) = bits.testBit j := by
  unfold Valid
  rw [Nat.testBit_or]
  constructor
  · rintro ⟨h1, h2, h3⟩
    refine ⟨h1, h2, fun j hj => ?_⟩
    have := congrArg (Nat.testBit · j) h3
    simp only [testBit_andNot, testBit_highs, show i + 1 ≤ j from hj, decide_true, Bool.true_and] at this
    exact this
  · rintro ⟨h1, h2, h3⟩
    refine ⟨h1, h2, Nat.eq_of_testBit_eq fun j => ?_⟩
    rw [testBit_andNot, testBit_highs, testBit_highs]
    by_cases h : i + 1 ≤ j
    · simp only [h, decide_true, Bool.true_and]
      exact h3 j h
    · simp [h]
section
variable {a bits opn : Nat} (hd : bits &&& opn = 0)
include hd in
theorem disj (j : Nat) : (bits.testBit j && opn.testBit j) = false := by
  rw [← Nat.testBit_and, hd]
  simp
include hd in
theorem cand_fits {i : Nat} (h : Valid a bits opn i) : Fits bits opn (cand a bits i) := by
  obtain ⟨h1, h2, h3⟩ := valid_iff.1 h
  refine fits_iff.2 fun j => ?_
  rw [testBit_cand]
  have hj := disj hd j
  by_cases h4 : j < i
  · rw [if_pos h4]
    revert hj
    cases bits.testBit j <;> cases opn.testBit j <;> simp
  · rw [if_neg h4]
    by_cases h5 : j = i
    · rw [if_pos h5]
      subst h5
      revert hj h2
      cases bits.testBit j <;> cases opn.testBit j <;> simp
    · rw [if_neg h5]
      exact h3 j (by omega)
theorem cand_gt {i : Nat} (h : Valid a bits opn i) : a < cand a bits i := by
  obtain ⟨h1, h2, h3⟩ := valid_iff.1 h
  refine lt_of_bits i h1 (by rw [testBit_cand]; simp) (fun j hj => ?_)
  rw [testBit_cand, if_neg (by omega), if_neg (by omega)]
theorem cand_le32 {i : Nat} (ha : a ≤ 4294967295) (hi : i < 32) : cand a bits i ≤ 4294967295 := le32_of fun j hj => by
  rw [testBit_cand, if_neg (by omega), if_neg (by omega)]
  exact testBit_lt32 ha hj
/-- A number of the range above a parts from it at a bit that is valid; none is less than that bit's. -/
theorem cand_le {n : Nat} (hn : n ≤ 4294967295) (hf : Fits bits opn n) (h : a < n) : ∃ i, i < 32 ∧ Valid a bits opn i ∧ cand a bits i ≤ n := by
  obtain ⟨i, h1, h2, h3⟩ := part_at h
  have hfb := fits_iff.1 hf
  have hi : i < 32 := by
    rcases Nat.lt_or_ge i 32 with h | h
    · exact h
    · rw [testBit_lt32 hn h] at h2; cases h2
  refine ⟨i, hi, valid_iff.2 ⟨h1, ?_, fun j hj => by rw [h3 j hj]; exact hfb j⟩, ?_⟩
  · have := hfb i
    rw [h2] at this
    cases h5 : opn.testBit i
    · rw [h5] at this
      simpa using this.symm
    · simp
  · rcases Nat.lt_or_ge n (cand a bits i) with h4 | h4
    · obtain ⟨j, g1, g2, g3⟩ := part_at h4
      rw [testBit_cand] at g2
      by_cases g4 : j < i
      · rw [if_pos g4] at g2
        have := hfb j
        rw [g1, g2] at this
        simp at this
      · rw [if_neg g4] at g2
        by_cases g5 : j = i
        · rw [g5, h2] at g1
          cases g1
        · rw [if_neg g5, h3 j (by omega), g1] at g2
          cases g2
    · exact h4
theorem cand_lt {i j : Nat} (hij : i < j) (h : Valid a bits opn j) : cand a bits i < cand a bits j := by
  obtain ⟨h1, _, _⟩ := valid_iff.1 h
  refine lt_of_bits j ?_ ?_ fun k hk => ?_
  · rw [testBit_cand, if_neg (by omega), if_neg (by omega)]
    exact h1
  · rw [testBit_cand]
    simp
  · rw [testBit_cand, testBit_cand, if_neg (by omega), if_neg (by omega), if_neg (by omega), if_neg (by omega)]
end
instance (bits opn n : Nat) : Decidable (Fits bits opn n) := by unfold Fits; exact inferInstance
instance (a bits opn i : Nat) : Decidable (Valid a bits opn i) := by unfold Valid; exact inferInstance
/-- The first of the bits from i on at which a number may part from a. -/
def above (a bits opn : Nat) : Option Nat := ((List.range 32).find? (fun i => decide (Valid a bits opn i))).map (cand a bits)
/-- The least number from a on that fits. -/
def next (a bits opn : Nat) : Option Nat := if Fits bits opn a then some a else above a bits opn
theorem above_some {a bits opn x : Nat} (hd : bits &&& opn = 0) (ha : a ≤ 4294967295) (h : above a bits opn = some x) : Fits bits opn x ∧ a < x ∧ x ≤ 4294967295 := by
  unfold above at h
  obtain ⟨i, hi, rfl⟩ := Option.map_eq_some_iff.1 h
  have hm := List.mem_of_find?_eq_some hi
  have hv := List.find?_some hi
  simp only [decide_eq_true_eq] at hv
  exact ⟨cand_fits hd hv, cand_gt hv, cand_le32 ha (List.mem_range.1 hm)⟩
theorem above_least {a bits opn n : Nat} (hn : n ≤ 4294967295) (hf : Fits bits opn n) (h : a < n) : ∃ x, above a bits opn = some x ∧ x ≤ n := by
  obtain ⟨i, hi, hv, hle⟩ := cand_le hn hf h
  unfold above
  cases hfind : (List.range 32).find? (fun i => decide (Valid a bits opn i)) with
  | none =>
    rw [List.find?_eq_none] at hfind
    have := hfind i (List.mem_range.2 hi)
    simp [hv] at this
  | some j =>
    refine ⟨_, rfl, ?_⟩
    obtain ⟨_, k, hk, hkj, hall⟩ := List.find?_eq_some_iff_getElem.1 hfind
    simp only [List.getElem_range] at hkj
    subst hkj
    have hji : k ≤ i := by
      rcases Nat.lt_or_ge i k with h' | h'
      · have := hall i h'
        simp [hv] at this
      · exact h'
    rcases Nat.lt_or_ge k i with h' | h'
    · exact Nat.le_trans (Nat.le_of_lt (cand_lt h' hv)) hle
    · have : k = i := by omega
      subst this
      exact hle
theorem next_some {a bits opn x : Nat} (hd : bits &&& opn = 0) (ha : a ≤ 4294967295) (h : next a bits opn = some x) : Fits bits opn x ∧ a ≤ x ∧ x ≤ 4294967295 := by
  unfold next at h
  split at h
  · rename_i hf
    cases h
    exact ⟨hf, Nat.le_refl _, ha⟩
  · obtain ⟨h1, h2, h3⟩ := above_some hd ha h
    exact ⟨h1, Nat.le_of_lt h2, h3⟩
theorem next_least {a bits opn n : Nat} (hn : n ≤ 4294967295) (hf : Fits bits opn n) (h : a ≤ n) : ∃ x, next a bits opn = some x ∧ x ≤ n := by
  unfold next
  split
  · exact ⟨a, rfl, h⟩
  · rename_i hfa
    exact above_least hn hf (by
      rcases Nat.lt_or_ge a n with h' | h'
      · exact h'
      · have : a = n := by omega
        subst this
        exact absurd hf hfa)
end Go.Proofs.Ytoimeebildcofaa
