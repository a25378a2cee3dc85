/- Bits of the model's numbers as bits of plain numbers. -/
import Derived.Test.YtoimeebildcofaaRangeOps
import Derived.Test.YtoimeebildcofaaDraws
namespace Go.Proofs.Ytoimeebildcofaa
open Go.RowKit
theorem bits_nat (op : BinOp) (f : Nat → Nat → Nat) (a b : Nat) (ha : a < 2 ^ 63) (hb : b < 2 ^ 63) (hf : f a b < 2 ^ 63)
    (h : ∀ x y : BitVec 64, (match op with | .and => x &&& y | .or => x ||| y | .xor => x ^^^ y | .andNot => x &&& ~~~y | _ => x).toNat = f x.toNat y.toNat) (ho : op = .and ∨ op = .or ∨ op = .xor ∨ op = .andNot) :
    bits op .i64 (a : Int) (b : Int) = ((f a b : Nat) : Int) := by
  have ha' : a % 2 ^ IntKind.i64.bits = a := Nat.mod_eq_of_lt (Nat.lt_of_lt_of_le ha (Nat.pow_le_pow_right (by decide) (by decide)))
  have hb' : b % 2 ^ IntKind.i64.bits = b := Nat.mod_eq_of_lt (Nat.lt_of_lt_of_le hb (Nat.pow_le_pow_right (by decide) (by decide)))
  have h2 := h (BitVec.ofNat 64 a) (BitVec.ofNat 64 b)
  have e1 : (BitVec.ofNat 64 a).toNat = a := by rw [BitVec.toNat_ofNat]; exact ha'
  have e2 : (BitVec.ofNat 64 b).toNat = b := by rw [BitVec.toNat_ofNat]; exact hb'
  rw [e1, e2] at h2
  rcases ho with rfl | rfl | rfl | rfl <;>
  · simp only [bits, BitVec.ofInt_natCast]
    simp only at h2
    rw [show (IntKind.i64.bits) = 64 from rfl, h2, IntKind.wrap_i64]
    omega
theorem and_nat (a b : Nat) (ha : a < 2 ^ 63) (hb : b < 2 ^ 63) : bits .and .i64 (a : Int) (b : Int) = ((a &&& b : Nat) : Int) :=
  bits_nat .and (· &&& ·) a b ha hb (Nat.lt_of_le_of_lt Nat.and_le_left ha) (fun x y => BitVec.toNat_and x y) (.inl rfl)
theorem or_nat (a b : Nat) (ha : a < 2 ^ 63) (hb : b < 2 ^ 63) : bits .or .i64 (a : Int) (b : Int) = ((a ||| b : Nat) : Int) :=
  bits_nat .or (· ||| ·) a b ha hb (Nat.or_lt_two_pow ha hb) (fun x y => BitVec.toNat_or x y) (.inr (.inl rfl))
theorem andNot_le (a b : Nat) : andNot a b ≤ a := sub_le fun j h => by
  rw [testBit_andNot] at h
  revert h
  cases a.testBit j <;> simp
theorem andNot_nat (a b : Nat) (ha : a < 2 ^ 63) (hb : b < 2 ^ 63) : bits .andNot .i64 (a : Int) (b : Int) = ((andNot a b : Nat) : Int) :=
  bits_nat .andNot andNot a b ha hb (Nat.lt_of_le_of_lt (andNot_le a b) ha) (fun x y => by
    refine Nat.eq_of_testBit_eq fun j => ?_
    rw [testBit_andNot]
    show (x &&& ~~~y).toNat.testBit j = _
    rw [BitVec.toNat_and, Nat.testBit_and, BitVec.testBit_toNat, BitVec.testBit_toNat, BitVec.testBit_toNat, BitVec.getLsbD_not]
    by_cases h : j < 64
    · simp [h]
    · rw [BitVec.getLsbD_of_ge x j (by omega)]
      simp) (.inr (.inr (.inr rfl)))
theorem ofInt_neg (x : Nat) : BitVec.ofInt 64 (-1 - (x : Int)) = ~~~(BitVec.ofNat 64 x) := by
  rw [show (-1 - (x : Int)) = Int.negSucc x by omega]
  exact BitVec.ofInt_negSucc_eq_not_ofNat
/-- A number and the complement of another one. -/
theorem and_neg (a x : Nat) (ha : a < 2 ^ 63) (hx : x < 2 ^ 63) : bits .and .i64 (a : Int) (-1 - (x : Int)) = ((andNot a x : Nat) : Int) := by
  rw [← andNot_nat a x ha hx]
  show IntKind.i64.wrap ((BitVec.ofInt 64 (a : Int) &&& BitVec.ofInt 64 (-1 - (x : Int))).toNat : Int) = IntKind.i64.wrap ((BitVec.ofInt 64 (a : Int) &&& ~~~BitVec.ofInt 64 (x : Int)).toNat : Int)
  rw [ofInt_neg, BitVec.ofInt_natCast (w := 64) x]
theorem xor_neg (x : Nat) (hx : x < 2 ^ 63) : bits .xor .i64 (-1) (x : Int) = -1 - (x : Int) := by
  have h1 : BitVec.ofInt 64 (-1) = BitVec.allOnes 64 := by decide
  have hx' : x % 2 ^ 64 = x := Nat.mod_eq_of_lt (Nat.lt_of_lt_of_le hx (Nat.pow_le_pow_right (by decide) (by decide)))
  show IntKind.i64.wrap ((BitVec.ofInt 64 (-1) ^^^ BitVec.ofInt 64 (x : Int)).toNat : Int) = _
  rw [h1, BitVec.ofInt_natCast, BitVec.allOnes_xor, BitVec.toNat_not, BitVec.toNat_ofNat, hx', IntKind.wrap_i64]
  omega
theorem andNot_low (a j : Nat) : andNot a (2 ^ j - 1) = highs a j := Nat.eq_of_testBit_eq fun i => by
  rw [testBit_andNot, testBit_highs, Nat.testBit_two_pow_sub_one]
  by_cases h : j ≤ i
  · simp [h, show ¬ i < j by omega]
  · simp [h, show i < j by omega]
theorem and_low (a j : Nat) : a &&& (2 ^ j - 1) = lows a j := by rw [Nat.and_two_pow_sub_one_eq_mod]; rfl
theorem and_one (a k : Nat) (ha : a < 2 ^ 63) : bits .and .i64 ((a : Int) / 2 ^ k) 1 = if a.testBit k then 1 else 0 := by
  have e : (a : Int) / 2 ^ k = ((a / 2 ^ k : Nat) : Int) := by push_cast; rfl
  rw [e, show (1 : Int) = ((1 : Nat) : Int) from rfl, and_nat _ _ (Nat.lt_of_le_of_lt (Nat.div_le_self _ _) ha) (by decide), Nat.and_one_is_mod, Nat.testBit_eq_decide_div_mod_eq]
  have : a / 2 ^ k % 2 = 0 ∨ a / 2 ^ k % 2 = 1 := by omega
  rcases this with h | h <;> simp [h]
theorem pow_le {k j : Nat} (h : k ≤ j) : (2 : Int) ^ k ≤ 2 ^ j := by
  have := Nat.pow_le_pow_right (n := 2) (by decide) h
  exact_mod_cast this
theorem pow_pos' (k : Nat) : (1 : Int) ≤ 2 ^ k := by
  have := Nat.one_le_two_pow (n := k)
  exact_mod_cast this
theorem wrap64_small {x : Int} (h0 : 0 ≤ x) (h1 : x ≤ 9223372036854775807) : wrap64 x = x := by
  have := IntKind.wrap_i64 x
  unfold wrap64
  omega
end Go.Proofs.Ytoimeebildcofaa
