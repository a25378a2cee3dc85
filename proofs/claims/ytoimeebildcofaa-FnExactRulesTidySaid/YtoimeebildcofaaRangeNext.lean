/- The reference's way to the next number of a range: what it reckons at each bit. Plain data. -/
import Derived.Test.YtoimeebildcofaaRangeOps
namespace Go.Proofs.Ytoimeebildcofaa
theorem top_bit (j : Nat) : (4294967295 : Nat).testBit j = decide (j < 32) := by
  have h : (4294967295 : Nat) = 2 ^ 32 - 1 := by decide
  rw [h, Nat.testBit_two_pow_sub_one]
def overN (b : Nat) : Nat := if b = 0 then 4294967295 else 4294967295 ^^^ (2 ^ (b - 1) - 1)
theorem over_bit (i j : Nat) : (overN (i + 1)).testBit j = (decide (j < 32) ^^ decide (j < i)) := by
  unfold overN
  rw [if_neg (by omega), Nat.add_sub_cancel, Nat.testBit_xor, top_bit, Nat.testBit_two_pow_sub_one]
theorem bit_lt {n j : Nat} (h : n ≤ 4294967295) : (n.testBit j && decide (j < 32)) = n.testBit j := by
  by_cases hj : j < 32
  · simp [hj]
  · rw [testBit_lt32 h (by omega)]
    rfl
theorem and_high {n : Nat} (h : n ≤ 4294967295) (k : Nat) : n &&& (4294967295 ^^^ (2 ^ k - 1)) = highs n k := Nat.eq_of_testBit_eq fun j => by
  rw [Nat.testBit_and, Nat.testBit_xor, top_bit, Nat.testBit_two_pow_sub_one, testBit_highs]
  by_cases hj : j < 32
  · by_cases hk : j < k
    · simp [hj, hk, show ¬ k ≤ j by omega]
    · simp [hj, hk, show k ≤ j by omega]
  · rw [testBit_lt32 h (by omega)]
    simp
section
variable {n bits opn : Nat} (hn : n ≤ 4294967295) (hb : bits ≤ 4294967295) (hd : bits &&& opn = 0)
include hn hb in
theorem cond_zero : ((n &&& (4294967295 ^^^ opn)) &&& overN 0 = bits &&& overN 0) ↔ Fits bits opn n := by
  have h1 : (n &&& (4294967295 ^^^ opn)) &&& overN 0 = andNot n opn := Nat.eq_of_testBit_eq fun j => by
    show ((n &&& (4294967295 ^^^ opn)) &&& 4294967295).testBit j = _
    rw [Nat.testBit_and, Nat.testBit_and, Nat.testBit_xor, top_bit, testBit_andNot]
    have := bit_lt (j := j) hn
    by_cases hj : j < 32
    · simp [hj]
    · rw [testBit_lt32 hn (by omega)]
      rfl
  have h2 : bits &&& overN 0 = bits := Nat.eq_of_testBit_eq fun j => by
    show (bits &&& 4294967295).testBit j = _
    rw [Nat.testBit_and, top_bit, bit_lt hb]
  rw [h1, h2]
  exact Iff.rfl
include hn in
theorem y_zero : (n &&& overN 0) ||| (bits &&& (4294967295 ^^^ overN 0)) = n := Nat.eq_of_testBit_eq fun j => by
  show ((n &&& 4294967295) ||| (bits &&& (4294967295 ^^^ 4294967295))).testBit j = _
  rw [Nat.xor_self, Nat.and_zero, Nat.or_zero, Nat.testBit_and, top_bit, bit_lt hn]
include hn hb hd in
theorem cond_succ {i : Nat} (hi : i < 32) (h0 : n.testBit i = false) : (((highs n (i + 1) ||| 2 ^ i) &&& (4294967295 ^^^ opn)) &&& overN (i + 1) = bits &&& overN (i + 1)) ↔ Valid n bits opn i := by
  rw [valid_iff]
  constructor
  · intro h
    have hj : ∀ j, _ := fun j => congrArg (Nat.testBit · j) h
    simp only [Nat.testBit_and, Nat.testBit_or, Nat.testBit_xor, top_bit, over_bit, testBit_highs, Nat.testBit_two_pow] at hj
    refine ⟨h0, ?_, fun j hij => ?_⟩
    · have h1 := hj i
      have h2 := disj hd i
      simp [hi] at h1
      revert h1 h2
      cases bits.testBit i <;> cases opn.testBit i <;> simp
    · have h1 := hj j
      by_cases h32 : j < 32
      · simp [h32, show ¬ j < i by omega, show i + 1 ≤ j by omega, show ¬ i = j by omega] at h1
        rw [← h1]
      · rw [testBit_lt32 hn (by omega), testBit_lt32 hb (by omega)]
        rfl
  · rintro ⟨_, h2, h3⟩
    refine Nat.eq_of_testBit_eq fun j => ?_
    simp only [Nat.testBit_and, Nat.testBit_or, Nat.testBit_xor, top_bit, over_bit, testBit_highs, Nat.testBit_two_pow]
    rcases Nat.lt_trichotomy j i with h | h | h
    · simp [h, show j < 32 by omega]
    · subst h
      have h4 := disj hd j
      simp [hi]
      revert h2 h4
      cases bits.testBit j <;> cases opn.testBit j <;> simp
    · have h4 := h3 j h
      by_cases h32 : j < 32
      · simp [h32, show ¬ j < i by omega, show i + 1 ≤ j by omega, show ¬ i = j by omega, h4]
      · simp [h32, show ¬ j < i by omega]
include hn in
theorem y_succ {i : Nat} (hi : i < 32) : ((highs n (i + 1) ||| 2 ^ i) &&& overN (i + 1)) ||| (bits &&& (4294967295 ^^^ overN (i + 1))) = cand n bits i := Nat.eq_of_testBit_eq fun j => by
  rw [testBit_cand]
  simp only [Nat.testBit_and, Nat.testBit_or, Nat.testBit_xor, top_bit, over_bit, testBit_highs, Nat.testBit_two_pow]
  rcases Nat.lt_trichotomy j i with h | h | h
  · simp [h, show j < 32 by omega]
  · subst h
    simp [hi]
  · by_cases h32 : j < 32
    · simp [h32, show ¬ j < i by omega, show i + 1 ≤ j by omega, show ¬ i = j by omega, show ¬ j = i by omega]
    · simp [h32, show ¬ j < i by omega, show ¬ j = i by omega, testBit_lt32 hn (show 32 ≤ j by omega)]
end
/-- The best number that the reference knows ahead of the k-th round. -/
def Best (n bits opn k : Nat) (b : Int) : Prop := (k = 0 → b = -1) ∧ (0 < k → Fits bits opn n → b = n) ∧
  (0 < k → ¬ Fits bits opn n → (∃ i, i < k - 1 ∧ Valid n bits opn i ∧ (∀ j, j < i → ¬ Valid n bits opn j) ∧ b = cand n bits i) ∨ (b = -1 ∧ ∀ j, j < k - 1 → ¬ Valid n bits opn j))
def nextI (a b o : Nat) : Int := match next a b o with
  | some x => (x : Int)
  | none => -1
theorem Best.done {n bits opn : Nat} {b : Int} (h : Best n bits opn 33 b) : b = nextI n bits opn := by
  obtain ⟨_, h2, h3⟩ := h
  by_cases hf : Fits bits opn n
  · rw [h2 (by omega) hf]
    simp only [nextI, next, if_pos hf]
  · rcases h3 (by omega) hf with ⟨i, h4, h5, h6, h7⟩ | ⟨h4, h5⟩
    · have hq : (List.range 32).find? (fun i => decide (Valid n bits opn i)) = some i := by
        rw [List.find?_range_eq_some]
        exact ⟨by simpa using h5, List.mem_range.2 (by omega), fun j hj => by simpa using h6 j hj⟩
      rw [h7]
      simp only [nextI, next, if_neg hf, above, hq, Option.map_some]
    · have hq : (List.range 32).find? (fun i => decide (Valid n bits opn i)) = none := by
        rw [List.find?_eq_none]
        intro j hj
        simpa using h5 j (by have := List.mem_range.1 hj; omega)
      rw [h4]
      simp only [nextI, next, if_neg hf, above, hq, Option.map_none]
/-- A round at a bit that is not valid. -/
theorem Best.skip {n bits opn i : Nat} {b : Int} (h : Best n bits opn (i + 1) b) (hv : ¬ Valid n bits opn i) : Best n bits opn (i + 1 + 1) b := by
  obtain ⟨_, h2, h3⟩ := h
  refine ⟨fun h => by omega, fun _ => h2 (by omega), fun _ hf => ?_⟩
  rcases h3 (by omega) hf with ⟨i0, h4, h5⟩ | ⟨h4, h5⟩
  · exact .inl ⟨i0, by omega, h5⟩
  · exact .inr ⟨h4, fun j hj => by
      by_cases e : j = i
      · rw [e]; exact hv
      · exact h5 j (by omega)⟩
/-- A round at a bit that is valid: what is better stays. -/
theorem Best.take {n bits opn i : Nat} {b : Int} (h : Best n bits opn (i + 1) b) (hv : Valid n bits opn i) : (b < 0 ∨ (cand n bits i : Int) < b → Best n bits opn (i + 1 + 1) (cand n bits i : Int)) ∧ (¬ (b < 0 ∨ (cand n bits i : Int) < b) → Best n bits opn (i + 1 + 1) b) := by
  obtain ⟨_, h2, h3⟩ := h
  refine ⟨fun hb => ⟨fun h => by omega, fun _ hf => ?_, fun _ hf => ?_⟩, fun hb => ⟨fun h => by omega, fun _ => h2 (by omega), fun _ hf => ?_⟩⟩
  · have h4 := h2 (by omega) hf
    have h5 := cand_gt hv
    omega
  · rcases h3 (by omega) hf with ⟨i0, h4, h5, h6, h7⟩ | ⟨h4, h5⟩
    · have h8 := cand_lt (bits := bits) (i := i0) (j := i) (by omega) hv
      omega
    · exact .inl ⟨i, by omega, hv, fun j hj => h5 j (by omega), rfl⟩
  · rcases h3 (by omega) hf with ⟨i0, h4, h5⟩ | ⟨h4, h5⟩
    · exact .inl ⟨i0, by omega, h5⟩
    · omega
theorem Best.first {n bits opn : Nat} {b : Int} (h : Best n bits opn 0 b) : b = -1 ∧ (Fits bits opn n → Best n bits opn 1 (n : Int)) ∧ (¬ Fits bits opn n → Best n bits opn 1 b) := by
  have h1 := h.1 rfl
  exact ⟨h1, fun hf => ⟨fun h => by omega, fun _ _ => rfl, fun _ h => absurd hf h⟩, fun hf => ⟨fun h => by omega, fun _ h => absurd h hf, fun _ _ => .inr ⟨h1, fun j hj => by omega⟩⟩⟩
end Go.Proofs.Ytoimeebildcofaa
