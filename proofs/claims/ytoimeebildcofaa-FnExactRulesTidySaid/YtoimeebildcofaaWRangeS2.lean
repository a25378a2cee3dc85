/- The walks of the reference's tidy range, and of whether there is a number of a range. -/
import Derived.Test.YtoimeebildcofaaWRangeS
import Derived.Test.YtoimeebildcofaaPlan
namespace Go.Proofs.Ytoimeebildcofaa
open Go.RowKit
theorem least_next (l h b o : Nat) : decide (0 ≤ Rg.least ⟨l, h, b, o⟩) = (decide (0 ≤ nextI l b o) && decide (nextI l b o ≤ (h : Int))) := by
  have e : Rg.least ⟨l, h, b, o⟩ = match next l b o with
    | some x => if x ≤ h then (x : Int) else -1
    | none => -1 := rfl
  have e2 : nextI l b o = match next l b o with
    | some x => (x : Int)
    | none => -1 := rfl
  rw [Bool.eq_iff_iff, Bool.and_eq_true, decide_eq_true_eq, decide_eq_true_eq, decide_eq_true_eq, e, e2]
  cases next l b o with
  | none => simp
  | some x =>
    simp only
    split <;> omega
set_option maxRecDepth 100000 in
theorem l2Some_calls (r : Rg) (ok : r.fits32) (hd : r.bits &&& r.opn = 0) (w : World) :
    Calls Try.prog 134 #[.agg #[.int .i64 r.lo, .int .i64 r.hi, .int .i64 r.bits, .int .i64 r.opn]] w fun e w' => e = .returned (.bool (decide (0 ≤ r.least))) ∧ Below w.heap.size w w' := by
  have hl := least_next r.lo r.hi r.bits r.opn
  have cN := l2Next_calls r r.lo ok hd ok.1
  have hB0 := below_alloc' (Below.refl w.heap.size w) (rcells r.lo r.hi r.bits r.opn)
  have x0 := alloc_at' w (rcells r.lo r.hi r.bits r.opn)
  have HL : Hid (decide (0 ≤ r.least) = (decide (0 ≤ nextI r.lo r.bits r.opn) && decide (nextI r.lo r.bits r.opn ≤ (r.hi : Int)))) := hl
  generalize nextI r.lo r.bits r.opn = N at *
  clear hl
  go_enter Try.func134, Try.ntmps134
  go_wp2_with fail
  refine (cN _).mono ?_
  rintro e w1 ⟨rfl, hb⟩
  have hB := bnext hB0 hb
  obtain ⟨q0, q1, q2, q3⟩ := rat (Below.keep hb x0)
  clear hb x0 hB0
  go_wp2
  all_goals go_ret
  all_goals refine ⟨bool_of ?_, hB⟩
  all_goals rw [HL.out]
  all_goals first | (symm; simp; omega) | (simp; omega) | simp_all
set_option maxRecDepth 100000 in
set_option maxHeartbeats 1600000 in
theorem l2Tidy_calls (r : Rg) (ok : r.fits32) (w : World) :
    Calls Try.prog 90 #[.agg #[.int .i64 r.lo, .int .i64 r.hi, .int .i64 r.bits, .int .i64 r.opn]] w fun e w' => e = .returned (.agg #[.int .i64 r.tidy.lo, .int .i64 r.tidy.hi, .int .i64 r.tidy.bits, .int .i64 r.tidy.opn]) ∧ Below w.heap.size w w' := by
  obtain ⟨ok1, ok2, ok3, ok4⟩ := ok
  have x2 : r.lo ^^^ r.hi ≤ 4294967295 := le32_of fun j hj => by rw [Nat.testBit_xor, testBit_lt32 ok1 hj, testBit_lt32 ok2 hj]; rfl
  have hm := mask_le32 x2
  have cB := l2Bits_calls r.lo r.hi ok1 ok2
  have ht : r.tidy = ⟨max r.lo (andNot (r.bits ||| andNot r.lo (mask (r.lo ^^^ r.hi))) (r.opn &&& mask (r.lo ^^^ r.hi))), min r.hi (andNot (r.bits ||| andNot r.lo (mask (r.lo ^^^ r.hi))) (r.opn &&& mask (r.lo ^^^ r.hi)) ||| (r.opn &&& mask (r.lo ^^^ r.hi))), andNot (r.bits ||| andNot r.lo (mask (r.lo ^^^ r.hi))) (r.opn &&& mask (r.lo ^^^ r.hi)), r.opn &&& mask (r.lo ^^^ r.hi)⟩ := rfl
  rw [ht]
  clear ht
  generalize mask (r.lo ^^^ r.hi) = M at *
  have f1 := and_nat r.opn M (by omega) (by omega)
  have g1 : r.opn &&& M ≤ r.opn := Nat.and_le_left
  have g2 := andNot_le r.lo M
  generalize r.opn &&& M = O at *
  generalize andNot r.lo M = L at *
  have f3 := or_nat r.bits L (by omega) (by omega)
  have g3 : r.bits ||| L < 2 ^ 32 := Nat.or_lt_two_pow (by omega) (by omega)
  generalize r.bits ||| L = P at *
  have hO := top_xor (x := O) (by omega)
  have f2 := xor_nat 4294967295 O (by omega) (by omega)
  rw [show ((4294967295 : Nat) : Int) = 4294967295 by omega] at f2
  have f4 := and_nat P (4294967295 ^^^ O) (by omega) (by omega)
  rw [← andNot_and (by omega)] at f4
  generalize 4294967295 ^^^ O = T at *
  have g4 := andNot_le P O
  generalize andNot P O = B at *
  have f5 := or_nat B O (by omega) (by omega)
  generalize B ||| O = U at *
  have u1 : ((max r.lo B : Nat) : Int) = if (r.lo : Int) < B then (B : Int) else r.lo := by split <;> omega
  have u2 : ((min r.hi U : Nat) : Int) = if (U : Int) < r.hi then (U : Int) else r.hi := by split <;> omega
  rw [u1, u2]
  clear u1 u2
  by_cases c1 : (r.lo : Int) < B
  · rw [if_pos c1]
    by_cases c2 : (U : Int) < r.hi
    · rw [if_pos c2]
      go_enter Try.func90, Try.ntmps90
      go_wp2_with fail
      refine (cB _).mono ?_
      rintro e w1 ⟨rfl, rfl⟩
      go_wp2_with fail
      go_region_with (go_at_call 76; refine (l2Top_calls _).mono ?_; rintro e w1 ⟨rfl, rfl⟩)
      all_goals go_wp2
      all_goals refine bodyPost_ret (v := .agg #[.int .i64 B, .int .i64 U, .int .i64 B, .int .i64 O]) (by simp [results, Try.results90, go_sem]) rfl ⟨rfl, ?_⟩
      all_goals repeat (first | exact Below.refl _ _ | refine below_alloc' ?_ _ | refine below_drew' ?_)
    · rw [if_neg c2]
      go_enter Try.func90, Try.ntmps90
      go_wp2_with fail
      refine (cB _).mono ?_
      rintro e w1 ⟨rfl, rfl⟩
      go_wp2_with fail
      go_region_with (go_at_call 76; refine (l2Top_calls _).mono ?_; rintro e w1 ⟨rfl, rfl⟩)
      all_goals go_wp2
      all_goals refine bodyPost_ret (v := .agg #[.int .i64 B, .int .i64 r.hi, .int .i64 B, .int .i64 O]) (by simp [results, Try.results90, go_sem]) rfl ⟨rfl, ?_⟩
      all_goals repeat (first | exact Below.refl _ _ | refine below_alloc' ?_ _ | refine below_drew' ?_)
  · rw [if_neg c1]
    by_cases c2 : (U : Int) < r.hi
    · rw [if_pos c2]
      go_enter Try.func90, Try.ntmps90
      go_wp2_with fail
      refine (cB _).mono ?_
      rintro e w1 ⟨rfl, rfl⟩
      go_wp2_with fail
      go_region_with (go_at_call 76; refine (l2Top_calls _).mono ?_; rintro e w1 ⟨rfl, rfl⟩)
      all_goals go_wp2
      all_goals refine bodyPost_ret (v := .agg #[.int .i64 r.lo, .int .i64 U, .int .i64 B, .int .i64 O]) (by simp [results, Try.results90, go_sem]) rfl ⟨rfl, ?_⟩
      all_goals repeat (first | exact Below.refl _ _ | refine below_alloc' ?_ _ | refine below_drew' ?_)
    · rw [if_neg c2]
      go_enter Try.func90, Try.ntmps90
      go_wp2_with fail
      refine (cB _).mono ?_
      rintro e w1 ⟨rfl, rfl⟩
      go_wp2_with fail
      go_region_with (go_at_call 76; refine (l2Top_calls _).mono ?_; rintro e w1 ⟨rfl, rfl⟩)
      all_goals go_wp2
      all_goals refine bodyPost_ret (v := .agg #[.int .i64 r.lo, .int .i64 r.hi, .int .i64 B, .int .i64 O]) (by simp [results, Try.results90, go_sem]) rfl ⟨rfl, ?_⟩
      all_goals repeat (first | exact Below.refl _ _ | refine below_alloc' ?_ _ | refine below_drew' ?_)
end Go.Proofs.Ytoimeebildcofaa
