/- Tidy ranges: bits by the ends, ends by the bits; the same numbers. Plain data; no Go, no memory. -/
import Derived.Test.YtoimeebildcofaaRangeData
namespace Go.Proofs.Ytoimeebildcofaa
structure Rg where
  (lo hi bits opn : Nat)
  deriving DecidableEq
def Rg.Has (r : Rg) (n : Nat) : Prop := r.lo ≤ n ∧ n ≤ r.hi ∧ Fits r.bits r.opn n
instance (r : Rg) (n : Nat) : Decidable (r.Has n) := by unfold Rg.Has; exact inferInstance
/-- As a range has to be. -/
structure Rg.Ok (r : Rg) : Prop where
  le : r.lo ≤ r.hi
  top : r.hi ≤ 4294967295
  bits : r.bits ≤ 4294967295
  opn : r.opn ≤ 4294967295
  disj : r.bits &&& r.opn = 0
def Rg.Some (r : Rg) : Prop := r.Ok ∧ ∃ n, r.Has n
/-- How many bits a number has. -/
def blen (n : Nat) : Nat := if n = 0 then 0 else n.log2 + 1
theorem lt_blen (n : Nat) : n < 2 ^ blen n := by
  unfold blen
  split
  · omega
  · exact Nat.lt_log2_self
theorem blen_le {n k : Nat} (h : n < 2 ^ k) : blen n ≤ k := by
  unfold blen
  split
  · omega
  · rename_i h0
    exact (Nat.log2_lt h0).2 h
def mask (n : Nat) : Nat := 2 ^ blen n - 1
theorem testBit_mask (n j : Nat) : (mask n).testBit j = decide (j < blen n) := by simp [mask, Nat.testBit_two_pow_sub_one]
theorem mask_le32 {n : Nat} (h : n ≤ 4294967295) : mask n ≤ 4294967295 := by
  have h1 : blen n ≤ 32 := blen_le (by omega)
  have h2 : 2 ^ blen n ≤ 2 ^ 32 := Nat.pow_le_pow_right (by omega) h1
  unfold mask
  omega
theorem sub_le {x y : Nat} (h : ∀ j, x.testBit j = true → y.testBit j = true) : x ≤ y := by
  have : x &&& y = x := Nat.eq_of_testBit_eq fun j => by
    rw [Nat.testBit_and]
    have := h j
    revert this
    cases x.testBit j <;> cases y.testBit j <;> simp
  rw [← this]
  exact Nat.and_le_right
theorem same_high {lo hi n : Nat} (h1 : lo ≤ n) (h2 : n ≤ hi) {j : Nat} (hj : blen (lo ^^^ hi) ≤ j) : n.testBit j = lo.testBit j := by
  have h3 : (lo ^^^ hi) < 2 ^ j := Nat.lt_of_lt_of_le (lt_blen _) (Nat.pow_le_pow_right (by omega) hj)
  have h4 : lo / 2 ^ j = hi / 2 ^ j := by
    refine Nat.eq_of_testBit_eq fun i => ?_
    rw [← Nat.shiftRight_eq_div_pow, ← Nat.shiftRight_eq_div_pow, Nat.testBit_shiftRight, Nat.testBit_shiftRight]
    have h5 : (lo ^^^ hi).testBit (j + i) = false := Nat.testBit_lt_two_pow (Nat.lt_of_lt_of_le h3 (Nat.pow_le_pow_right (by omega) (by omega)))
    rw [Nat.testBit_xor] at h5
    revert h5
    cases lo.testBit (j + i) <;> cases hi.testBit (j + i) <;> simp
  have h6 : n / 2 ^ j = lo / 2 ^ j := Nat.le_antisymm (by rw [h4]; exact Nat.div_le_div_right h2) (Nat.div_le_div_right h1)
  have h7 : ∀ x : Nat, x.testBit j = (x / 2 ^ j).testBit 0 := fun x => by
    rw [← Nat.shiftRight_eq_div_pow, Nat.testBit_shiftRight, Nat.add_zero]
  rw [h7 n, h7 lo, h6]
def Rg.tidy (r : Rg) : Rg :=
  let m := mask (r.lo ^^^ r.hi)
  let o := r.opn &&& m
  let b := andNot (r.bits ||| andNot r.lo m) o
  ⟨max r.lo b, min r.hi (b ||| o), b, o⟩
theorem Rg.tidy_opn (r : Rg) (j : Nat) : r.tidy.opn.testBit j = (r.opn.testBit j && decide (j < blen (r.lo ^^^ r.hi))) := by
  simp only [Rg.tidy, Nat.testBit_and, testBit_mask]
theorem Rg.tidy_bits (r : Rg) (j : Nat) : r.tidy.bits.testBit j = ((r.bits.testBit j || (r.lo.testBit j && !decide (j < blen (r.lo ^^^ r.hi)))) && !(r.opn.testBit j && decide (j < blen (r.lo ^^^ r.hi)))) := by
  simp only [Rg.tidy, testBit_andNot, Nat.testBit_or, Nat.testBit_and, testBit_mask]
theorem bits_lt32 {n j : Nat} (h : n ≤ 4294967295) (hb : n.testBit j = true) : j < 32 := by
  rcases Nat.lt_or_ge j 32 with h' | h'
  · exact h'
  · rw [testBit_lt32 h h'] at hb
    cases hb
theorem Rg.fits_tidy {r : Rg} (ok : r.Ok) {n : Nat} (h : r.Has n) : Fits r.tidy.bits r.tidy.opn n := by
  obtain ⟨h1, h2, h3⟩ := h
  refine fits_iff.2 fun j => ?_
  have hf := fits_iff.1 h3 j
  have hd := Go.Proofs.Ytoimeebildcofaa.disj ok.disj j
  rw [r.tidy_opn, r.tidy_bits]
  by_cases hj : j < blen (r.lo ^^^ r.hi)
  · simp only [hj, decide_true, Bool.and_true, Bool.not_true, Bool.and_false, Bool.or_false]
    revert hf hd
    cases n.testBit j <;> cases r.opn.testBit j <;> cases r.bits.testBit j <;> simp
  · have hs := same_high h1 h2 (j := j) (by omega)
    simp only [hj, decide_false, Bool.and_false, Bool.not_false, Bool.and_true]
    rw [← hs]
    revert hf hd
    cases n.testBit j <;> cases r.opn.testBit j <;> cases r.bits.testBit j <;> simp
theorem fits_bounds {b o n : Nat} (h : Fits b o n) : b ≤ n ∧ n ≤ b ||| o := by
  have hf := fits_iff.1 h
  refine ⟨sub_le fun j hj => ?_, sub_le fun j hj => ?_⟩
  · have := hf j
    rw [hj] at this
    revert this
    cases n.testBit j <;> simp
  · have := hf j
    rw [hj] at this
    rw [Nat.testBit_or]
    revert this
    cases o.testBit j <;> cases b.testBit j <;> simp
/-- What is of a range is of the tidy range. -/
theorem Rg.has_tidy {r : Rg} (ok : r.Ok) {n : Nat} (h : r.Has n) : r.tidy.Has n := by
  have hf := Rg.fits_tidy ok h
  obtain ⟨h1, h2, _⟩ := h
  obtain ⟨h4, h5⟩ := fits_bounds hf
  exact ⟨Nat.max_le.2 ⟨h1, h4⟩, Nat.le_min.2 ⟨h2, h5⟩, hf⟩
/-- What is of the tidy range of a range that has some number is of the range. -/
theorem Rg.tidy_has {r : Rg} (ok : r.Ok) {m n : Nat} (hm : r.Has m) (h : r.tidy.Has n) : r.Has n := by
  obtain ⟨h1, h2, h3⟩ := h
  have g1 : r.lo ≤ n := Nat.le_trans (Nat.le_max_left _ _) h1
  have g2 : n ≤ r.hi := Nat.le_trans h2 (Nat.min_le_left _ _)
  refine ⟨g1, g2, fits_iff.2 fun j => ?_⟩
  have hf := fits_iff.1 h3 j
  have hd := Go.Proofs.Ytoimeebildcofaa.disj ok.disj j
  rw [r.tidy_opn, r.tidy_bits] at hf
  by_cases hj : j < blen (r.lo ^^^ r.hi)
  · simp only [hj, decide_true, Bool.and_true, Bool.not_true, Bool.and_false, Bool.or_false] at hf
    revert hf hd
    cases n.testBit j <;> cases r.opn.testBit j <;> cases r.bits.testBit j <;> simp
  · have hs := same_high g1 g2 (j := j) (by omega)
    have hs' := same_high hm.1 hm.2.1 (j := j) (by omega)
    have hfm := fits_iff.1 hm.2.2 j
    rw [hs, ← hs']
    exact hfm
theorem Rg.tidy_ok {r : Rg} (h : r.Some) : r.tidy.Ok ∧ r.tidy.Some := by
  obtain ⟨ok, n, hn⟩ := h
  have ht := Rg.has_tidy ok hn
  have hlo : r.lo ≤ 4294967295 := Nat.le_trans ok.le ok.top
  have o32 : r.tidy.opn ≤ 4294967295 := Nat.le_trans (by show r.opn &&& _ ≤ r.opn; exact Nat.and_le_left) ok.opn
  have b32 : r.tidy.bits ≤ 4294967295 := le32_of fun i hi => by
    rw [r.tidy_bits, testBit_lt32 ok.bits hi, testBit_lt32 hlo hi]
    simp
  have k : r.tidy.Ok := ⟨Nat.le_trans ht.1 ht.2.1, Nat.le_trans (Nat.min_le_left _ _) ok.top, b32, o32, Nat.eq_of_testBit_eq fun j => by
    rw [Nat.testBit_and, r.tidy_bits, r.tidy_opn]
    generalize (r.opn.testBit j && decide (j < blen (r.lo ^^^ r.hi))) = x
    generalize (r.bits.testBit j || (r.lo.testBit j && !decide (j < blen (r.lo ^^^ r.hi)))) = y
    cases x <;> cases y <;> simp⟩
  exact ⟨k, k, n, ht⟩
/-- 'without' and 'and not' are the same within 32 bits. -/
theorem andNot_and {x y : Nat} (hx : x ≤ 4294967295) : andNot x y = x &&& (4294967295 ^^^ y) := Nat.eq_of_testBit_eq fun j => by
  rw [testBit_andNot, Nat.testBit_and, Nat.testBit_xor]
  by_cases hj : j < 32
  · have : (4294967295 : Nat).testBit j = true := by
      have h : (4294967295 : Nat) = 2 ^ 32 - 1 := by decide
      rw [h, Nat.testBit_two_pow_sub_one]
      simpa using hj
    rw [this]
    simp
  · rw [testBit_lt32 hx (by omega)]
    simp
/-- There is a number of a range just if the first that fits is not above its end. -/
theorem Rg.some_iff {r : Rg} (ok : r.Ok) : (∃ n, r.Has n) ↔ ∃ x, next r.lo r.bits r.opn = some x ∧ x ≤ r.hi := by
  have hlo : r.lo ≤ 4294967295 := Nat.le_trans ok.le ok.top
  constructor
  · rintro ⟨n, h1, h2, h3⟩
    obtain ⟨x, hx, hle⟩ := next_least (Nat.le_trans h2 ok.top) h3 h1
    exact ⟨x, hx, Nat.le_trans hle h2⟩
  · rintro ⟨x, hx, hle⟩
    obtain ⟨h1, h2, _⟩ := next_some ok.disj hlo hx
    exact ⟨x, h2, hle, h1⟩
end Go.Proofs.Ytoimeebildcofaa
