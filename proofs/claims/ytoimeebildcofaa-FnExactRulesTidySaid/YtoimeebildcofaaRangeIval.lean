/- Ranges of which the ends alone are known: the numbers from one to another. Plain data; no Go, no memory. -/
import Derived.Test.YtoimeebildcofaaRangeTidy
namespace Go.Proofs.Ytoimeebildcofaa
def ival (lo hi : Nat) : Rg := ⟨lo, hi, andNot lo (mask (lo ^^^ hi)), mask (lo ^^^ hi)⟩
theorem ival_bits (lo hi j : Nat) : (ival lo hi).bits.testBit j = (lo.testBit j && !decide (j < blen (lo ^^^ hi))) := by
  simp only [ival, testBit_andNot, testBit_mask]
theorem ival_opn (lo hi j : Nat) : (ival lo hi).opn.testBit j = decide (j < blen (lo ^^^ hi)) := by
  simp only [ival, testBit_mask]
theorem ival_fits {lo hi n : Nat} (h1 : lo ≤ n) (h2 : n ≤ hi) : Fits (ival lo hi).bits (ival lo hi).opn n := fits_iff.2 fun j => by
  rw [ival_bits, ival_opn]
  by_cases hj : j < blen (lo ^^^ hi)
  · simp [hj]
  · simp only [hj, decide_false, Bool.not_false, Bool.and_true]
    exact same_high h1 h2 (by omega)
theorem blen_ival {lo hi lo' hi' : Nat} (h1 : lo ≤ lo') (h2 : lo' ≤ hi') (h3 : hi' ≤ hi) : blen (lo' ^^^ hi') ≤ blen (lo ^^^ hi) := blen_le (Nat.lt_pow_two_of_testBit _ fun j hj => by
  rw [Nat.testBit_xor, same_high h1 (Nat.le_trans h2 h3) hj, same_high (Nat.le_trans h1 h2) h3 hj]
  simp)
/-- An interval within another one, tidied: the interval. -/
theorem tidy_ival {lo hi lo' hi' : Nat} (h1 : lo ≤ lo') (h2 : lo' ≤ hi') (h3 : hi' ≤ hi) : (⟨lo', hi', (ival lo hi).bits, (ival lo hi).opn⟩ : Rg).tidy = ival lo' hi' := by
  have hk := blen_ival h1 h2 h3
  have ho : (⟨lo', hi', (ival lo hi).bits, (ival lo hi).opn⟩ : Rg).tidy.opn = (ival lo' hi').opn := Nat.eq_of_testBit_eq fun j => by
    rw [Rg.tidy_opn, ival_opn, ival_opn]
    by_cases hj : j < blen (lo' ^^^ hi')
    · simp [hj, show j < blen (lo ^^^ hi) by omega]
    · simp [hj]
  have hb : (⟨lo', hi', (ival lo hi).bits, (ival lo hi).opn⟩ : Rg).tidy.bits = (ival lo' hi').bits := Nat.eq_of_testBit_eq fun j => by
    rw [Rg.tidy_bits, ival_bits, ival_bits, ival_opn]
    by_cases hj : j < blen (lo' ^^^ hi')
    · simp [hj, show j < blen (lo ^^^ hi) by omega]
    · by_cases hj2 : j < blen (lo ^^^ hi)
      · simp [hj, hj2]
      · have := same_high h1 (Nat.le_trans h2 h3) (j := j) (by omega)
        simp only [hj, hj2, decide_false, Bool.not_false, Bool.and_true, Bool.and_false]
        rw [← this]
        simp
  have hf1 := fits_bounds (ival_fits (Nat.le_refl lo') h2)
  have hf2 := fits_bounds (ival_fits h2 (Nat.le_refl hi'))
  have hlo : (⟨lo', hi', (ival lo hi).bits, (ival lo hi).opn⟩ : Rg).tidy.lo = max lo' (⟨lo', hi', (ival lo hi).bits, (ival lo hi).opn⟩ : Rg).tidy.bits := rfl
  have hhi : (⟨lo', hi', (ival lo hi).bits, (ival lo hi).opn⟩ : Rg).tidy.hi = min hi' ((⟨lo', hi', (ival lo hi).bits, (ival lo hi).opn⟩ : Rg).tidy.bits ||| (⟨lo', hi', (ival lo hi).bits, (ival lo hi).opn⟩ : Rg).tidy.opn) := rfl
  rw [hb] at hlo
  rw [hb, ho] at hhi
  rw [Nat.max_eq_left hf1.1] at hlo
  rw [Nat.min_eq_left hf2.2] at hhi
  generalize (⟨lo', hi', (ival lo hi).bits, (ival lo hi).opn⟩ : Rg).tidy = t at *
  obtain ⟨a, b, c, d⟩ := t
  simp only at hlo hhi hb ho
  rw [hlo, hhi, hb, ho]
  rfl
theorem ival_ok {lo hi : Nat} (h1 : lo ≤ hi) (h2 : hi ≤ 4294967295) : (ival lo hi).Ok := by
  have hx : lo ^^^ hi ≤ 4294967295 := le32_of fun j hj => by
    rw [Nat.testBit_xor, testBit_lt32 (Nat.le_trans h1 h2) hj, testBit_lt32 h2 hj]
    rfl
  exact ⟨h1, h2, le32_of fun j hj => by rw [ival_bits, testBit_lt32 (Nat.le_trans h1 h2) hj]; simp, mask_le32 hx, Nat.eq_of_testBit_eq fun j => by
    rw [Nat.testBit_and, ival_bits, ival_opn]
    by_cases hj : j < blen (lo ^^^ hi) <;> simp [hj]⟩
theorem ival_some {lo hi : Nat} (h1 : lo ≤ hi) (h2 : hi ≤ 4294967295) : (ival lo hi).Some := ⟨ival_ok h1 h2, lo, Nat.le_refl _, h1, ival_fits (Nat.le_refl _) h1⟩
theorem ival_self {n : Nat} : ival n n = ⟨n, n, n, 0⟩ := by
  have h : mask 0 = 0 := rfl
  simp [ival, andNot, h]
end Go.Proofs.Ytoimeebildcofaa
