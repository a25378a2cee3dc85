/- The walks of the program's small functions over ranges. -/
import Derived.Test.YtoimeebildcofaaBits
import Derived.Test.YtoimeebildcofaaWRules
import Derived.Test.YtoimeebildcofaaShelf
namespace Go.Proofs.Ytoimeebildcofaa
open Go.RowKit
def rcells (a b c d : Int) : Obj := .cells #[.int .i64 a, .int .i64 b, .int .i64 c, .int .i64 d] 80 (0, 0)
theorem rat {w : World} {g : Nat} {a b c d : Int} (h : w.heap[g]? = some (rcells a b c d)) : w.cell? ⟨g, 0, none⟩ = some (.int .i64 a) ∧ w.cell? ⟨g, 1, none⟩ = some (.int .i64 b) ∧ w.cell? ⟨g, 2, none⟩ = some (.int .i64 c) ∧ w.cell? ⟨g, 3, none⟩ = some (.int .i64 d) := by
  simp [World.cell?, h, rcells]
theorem below_drew' {B : Nat} {a b : World} (h : Below B a b) : Below B a b.drew := ⟨h.os, h.tape, h.output, h.size, h.block⟩
theorem beq_zero (x : Nat) : ((x : Int) == 0) = decide (x = 0) := by
  by_cases h : x = 0
  · simp [h]
  · simp [h]
/-- A range as the program's value has it. -/
def Rg.fits32 (r : Rg) : Prop := r.lo ≤ 4294967295 ∧ r.hi ≤ 4294967295 ∧ r.bits ≤ 4294967295 ∧ r.opn ≤ 4294967295
theorem Rg.Ok.fits {r : Rg} (h : r.Ok) : r.fits32 := ⟨Nat.le_trans h.le h.top, h.top, h.bits, h.opn⟩
set_option maxRecDepth 100000 in
theorem rangeOk_calls (lo hi : Int) (b o : Nat) (w : World) (hb : b ≤ 4294967295) (ho : o ≤ 4294967295) :
    Calls Try.prog 138 #[.agg #[.int .i64 lo, .int .i64 hi, .int .i64 b, .int .i64 o]] w fun e w' => e = .returned (.bool (RI.okB ⟨lo, hi, b, o⟩)) ∧ Below w.heap.size w w' := by
  have e1 := and_nat b o (by omega) (by omega)
  have k1 : (0 : Int) ≤ b := by omega
  have k2 : (b : Int) ≤ 4294967295 := by omega
  have k3 : (0 : Int) ≤ o := by omega
  have k4 : (o : Int) ≤ 4294967295 := by omega
  go_enter Try.func138, Try.ntmps138
  go_wp2
  all_goals go_ret
  all_goals refine ⟨bool_of ?_, below_alloc' (Below.refl _ _) _⟩
  all_goals simp only [RI.okB]
  all_goals simp_all
  all_goals (first | omega | exact beq_zero _)
def aboveI (a b o : Nat) : Int := match above a b o with
  | some x => (x : Int)
  | none => -1
set_option maxRecDepth 100000 in
set_option maxHeartbeats 1600000 in
theorem above_calls (r : Rg) (ok : r.fits32) (w : World) :
    Calls Try.prog 144 #[.agg #[.int .i64 r.lo, .int .i64 r.hi, .int .i64 r.bits, .int .i64 r.opn]] w fun e w' => e = .returned (.int .i64 (aboveI r.lo r.bits r.opn)) ∧ Below w.heap.size w w' := by
  obtain ⟨ok1, ok2, ok3, ok4⟩ := ok
  go_enter Try.func144, Try.ntmps144
  go_wp2
  go_loopw [5] (fun i wr => ∃ k : Nat, k ≤ 32 ∧ i = .int .i64 k ∧ Below w.heap.size w wr ∧ Holds wr [(w.heap.size, rcells r.lo r.hi r.bits r.opn)] ∧ ∀ j, j < k → ¬ Valid r.lo r.bits r.opn j) (fun i _ => 32 - (intOf i).toNat)
  case atStart => exact ⟨0, by omega, rfl, below_alloc' (Below.refl _ _) _, holds_new rfl, fun j hj => by omega⟩
  case round =>
    obtain ⟨k, hk, rfl, hb, hx, hno⟩ := hrel
    by_cases hlt : k < 32
    · obtain ⟨q0, q1, q2, q3⟩ := rat hx.get
      have k1 : 0 ≤ (k : Int) := by omega
      have k2 : (k : Int) ≤ 64 := by omega
      have p1 := pow_pos' k
      have p2 : (2 : Int) ^ k ≤ 2147483648 := pow_le (k := k) (j := 31) (by omega)
      have w1 : wrap64 (2 * 2 ^ k) = 2 * 2 ^ k := wrap64_small (by omega) (by omega)
      have w3 : wrap64 (2 ^ k) = 2 ^ k := wrap64_small (by omega) (by omega)
      have w4 : wrap64 (2 ^ k - 1) = 2 ^ k - 1 := wrap64_small (by omega) (by omega)
      have w2 : wrap64 (2 * 2 ^ k - 1) = 2 * 2 ^ k - 1 := wrap64_small (by omega) (by omega)
      have hP : (2 : Int) * 2 ^ k - 1 = ((2 ^ (k + 1) - 1 : Nat) : Int) := by
        have := Nat.one_le_two_pow (n := k + 1)
        push_cast [this]
        rw [Int.pow_succ]
        omega
      have hPs : 2 ^ (k + 1) - 1 < 2 ^ 63 := by
        have := Nat.pow_le_pow_right (n := 2) (by decide) (show k + 1 ≤ 62 by omega)
        omega
      obtain ⟨Hh, hH⟩ : ∃ H, bits .xor .i64 (-1) (2 * 2 ^ k - 1) = H := ⟨_, rfl⟩
      have hH' : bits .xor .i64 (if IntKind.i64.signed = true then -1 else 9223372036854775807) (2 * 2 ^ k - 1) = Hh := by rw [if_pos (by rfl)]; exact hH
      have hHe : Hh = -1 - ((2 ^ (k + 1) - 1 : Nat) : Int) := by rw [← hH, hP, xor_neg _ hPs]
      have a1 : bits .and .i64 r.lo Hh = ((highs r.lo (k + 1) : Nat) : Int) := by rw [hHe, and_neg _ _ (by omega) hPs, andNot_low]
      have a2 : bits .and .i64 r.bits Hh = ((highs r.bits (k + 1) : Nat) : Int) := by rw [hHe, and_neg _ _ (by omega) hPs, andNot_low]
      have hl : highs r.lo (k + 1) ≤ r.lo := by rw [← andNot_low]; exact andNot_le _ _
      have a3 := andNot_nat (highs r.lo (k + 1)) r.opn (by omega) (by omega)
      have a4 := and_one r.lo k (by omega)
      have a5 := and_one (r.bits ||| r.opn) k (Nat.or_lt_two_pow (by omega) (by omega))
      rw [← or_nat r.bits r.opn (by omega) (by omega)] at a5
      have hdone : ∀ {v : Int}, Valid r.lo r.bits r.opn k → v = ((cand r.lo r.bits k : Nat) : Int) → v = aboveI r.lo r.bits r.opn := by
        intro v hv he
        have hf : (List.range 32).find? (fun i => decide (Valid r.lo r.bits r.opn i)) = some k := by
          rw [List.find?_range_eq_some]
          exact ⟨by simpa using hv, List.mem_range.2 hlt, fun j hj => by simpa using hno j hj⟩
        rw [he]
        simp only [aboveI, above, hf, Option.map_some]
      have hnext : ¬ Valid r.lo r.bits r.opn k → ∀ j, j < k + 1 → ¬ Valid r.lo r.bits r.opn j := fun h j hj => by
        by_cases e : j = k
        · rw [e]; exact h
        · exact hno j (by omega)
      by_cases h1 : r.lo.testBit k = true
      · have hn := hnext (fun h => by rw [h.1] at h1; cases h1)
        rw [if_pos h1] at a4
        clear hdone hnext hno a5 a3 a2 a1 hHe hPs hP
        go_wp2
        go_roundw
        case rel => exact ⟨k + 1, by omega, by go_num, hb, hx, hn⟩
        case measure => simp [intOf]; omega
      · rw [if_neg h1] at a4
        by_cases h2 : (r.bits ||| r.opn).testBit k = true
        · rw [if_pos h2] at a5
          by_cases h3 : andNot (highs r.lo (k + 1)) r.opn = highs r.bits (k + 1)
          · rw [h3] at a3
            have hv : Valid r.lo r.bits r.opn k := ⟨by simpa using h1, h2, h3⟩
            have HV := fun v => @hdone v hv
            obtain ⟨X, hX⟩ : ∃ X, highs r.lo (k + 1) = X := ⟨_, rfl⟩
            obtain ⟨Y, hY⟩ : ∃ Y, highs r.bits (k + 1) = Y := ⟨_, rfl⟩
            rw [hX] at a1 a3
            rw [hY] at a2 a3
            have HX := Lib.hid hX
            clear hdone hnext hno hHe hPs hP h3 hX hY hl hv
            go_wp2
            refine wp_region_quiet_lit (by kernel_rfl) (by kernel_rfl) ?_
            repeat (any_goals (first | go_big_quiet_step (fail) | quiet_step (fail) | (refine wpQuiet_step (fun K hK => ?_); go_simp; split <;> (refine hK _ ?_; clear hK K))))
            all_goals (refine wpQuiet_nil ?_; intro _ hw'; obtain ⟨nq, hw''⟩ := hw'; subst hw'')
            go_wp2
            go_ret
            refine ⟨int_of (HV _ ?_), below_drewN' hb _⟩
            rw [← HX.out]
            have e1 : (2 : Int) ^ k = ((2 ^ k : Nat) : Int) := by push_cast; rfl
            have e2 : ((2 ^ k : Nat) : Int) - 1 = ((2 ^ k - 1 : Nat) : Int) := by have := Nat.one_le_two_pow (n := k); omega
            have e3 : 2 ^ k < 2 ^ 63 := Nat.pow_lt_pow_right (by decide) (by omega)
            have e4 : highs r.lo (k + 1) < 2 ^ 63 := by rw [← andNot_low]; exact Nat.lt_of_le_of_lt (andNot_le _ _) (by omega)
            have e5 : lows r.bits k < 2 ^ 63 := Nat.lt_of_le_of_lt (Nat.mod_le _ _) (by omega)
            rw [e1, or_nat _ _ e4 e3, e2, and_nat _ _ (by omega) (by omega), and_low, or_nat _ _ (Nat.or_lt_two_pow e4 e3) e5]
            rfl
          · have hn := hnext (fun h => h3 h.2.2)
            obtain ⟨X, hX⟩ : ∃ X, highs r.lo (k + 1) = X := ⟨_, rfl⟩
            obtain ⟨Y, hY⟩ : ∃ Y, highs r.bits (k + 1) = Y := ⟨_, rfl⟩
            obtain ⟨Z, hZ⟩ : ∃ Z, andNot X r.opn = Z := ⟨_, rfl⟩
            rw [hX] at a1 a3 h3
            rw [hY] at a2 h3
            rw [hZ] at a3 h3
            have h3' : ¬ (Z : Int) = (Y : Int) := by omega
            clear hdone hnext hno hHe hPs hP hX hY hZ hl
            go_wp2
            go_roundw
            case rel => exact ⟨k + 1, by omega, by go_num, hb, hx, hn⟩
            case measure => simp [intOf]; omega
        · have hn := hnext (fun h => h2 h.2.1)
          rw [if_neg h2] at a5
          clear hdone hnext hno a3 a2 a1 hHe hPs hP
          go_wp2
          go_roundw
          case rel => exact ⟨k + 1, by omega, by go_num, hb, hx, hn⟩
          case measure => simp [intOf]; omega
    · have hk2 : k = 32 := by omega
      have HK := Lib.hid hk2
      clear hk2
      have hlt2 : (32 : Int) ≤ (k : Int) := by omega
      go_wp2
      all_goals first | (exfalso; omega) | skip
      go_ret
      refine ⟨int_of ?_, hb⟩
      have hf : (List.range 32).find? (fun i => decide (Valid r.lo r.bits r.opn i)) = none := by
        rw [List.find?_eq_none]
        intro j hj
        simpa using hno j (by have := List.mem_range.1 hj; have := HK.out; omega)
      simp only [aboveI, above, hf, Option.map_none]
theorem bitLenAux_eq : ∀ (f n : Nat), n < 2 ^ f → Lib.bitLenAux f n = blen n
  | 0, n, h => by
    have : n = 0 := by omega
    subst this
    rfl
  | f + 1, n, h => by
    by_cases h0 : n = 0
    · subst h0
      rfl
    · rw [Lib.bitLenAux, if_neg h0, bitLenAux_eq f (n / 2) (by omega)]
      unfold blen
      rw [if_neg h0]
      by_cases h1 : n = 1
      · subst h1
        rfl
      · rw [if_neg (by omega)]
        have : n.log2 = (n / 2).log2 + 1 := by
          rw [Nat.log2_def n, if_pos (by omega)]
        omega
theorem bitLen_eq {n : Nat} (h : n ≤ 4294967295) : Lib.bitLen n = blen n := bitLenAux_eq 64 n (by omega)
set_option maxRecDepth 100000 in
theorem has_calls (r : Rg) (ok : r.fits32) (n : Nat) (hn2 : n ≤ 4294967295) (w : World) :
    Calls Try.prog 145 #[.agg #[.int .i64 r.lo, .int .i64 r.hi, .int .i64 r.bits, .int .i64 r.opn], .int .i64 n] w fun e w' => e = .returned (.bool (decide (r.Has n))) ∧ Below w.heap.size w w' := by
  obtain ⟨ok1, ok2, ok3, ok4⟩ := ok
  have e1 := andNot_nat n r.opn (by omega) (by omega)
  have e2 : (((andNot n r.opn : Nat) : Int) == (r.bits : Int)) = decide (andNot n r.opn = r.bits) := by
    by_cases h : andNot n r.opn = r.bits
    · simp [h]
    · simp [h]
      omega
  have hiff : r.Has n ↔ (r.lo ≤ n ∧ n ≤ r.hi ∧ andNot n r.opn = r.bits) := Iff.rfl
  go_enter Try.func145, Try.ntmps145
  go_wp2
  all_goals go_ret
  all_goals refine ⟨bool_of ?_, below_alloc' (Below.refl _ _) _⟩
  all_goals first | exact (decide_eq_false (fun h => by have := hiff.1 h; omega)).symm | exact (decide_eq_decide.2 ⟨fun h => hiff.2 ⟨by omega, by omega, h⟩, fun h => (hiff.1 h).2.2⟩)
set_option maxRecDepth 100000 in
theorem tidy_calls (r : Rg) (ok : r.fits32) (w : World) :
    Calls Try.prog 97 #[.agg #[.int .i64 r.lo, .int .i64 r.hi, .int .i64 r.bits, .int .i64 r.opn]] w fun e w' => e = .returned (.agg #[.int .i64 r.tidy.lo, .int .i64 r.tidy.hi, .int .i64 r.tidy.bits, .int .i64 r.tidy.opn]) ∧ Below w.heap.size w w' := by
  obtain ⟨ok1, ok2, ok3, ok4⟩ := ok
  have x1 := xor_nat r.lo r.hi (by omega) (by omega)
  have x2 : r.lo ^^^ r.hi ≤ 4294967295 := le32_of fun j hj => by rw [Nat.testBit_xor, testBit_lt32 ok1 hj, testBit_lt32 ok2 hj]; rfl
  have ht : r.tidy = ⟨max r.lo (andNot (r.bits ||| andNot r.lo (mask (r.lo ^^^ r.hi))) (r.opn &&& mask (r.lo ^^^ r.hi))), min r.hi (andNot (r.bits ||| andNot r.lo (mask (r.lo ^^^ r.hi))) (r.opn &&& mask (r.lo ^^^ r.hi)) ||| (r.opn &&& mask (r.lo ^^^ r.hi))), andNot (r.bits ||| andNot r.lo (mask (r.lo ^^^ r.hi))) (r.opn &&& mask (r.lo ^^^ r.hi)), r.opn &&& mask (r.lo ^^^ r.hi)⟩ := rfl
  rw [ht]
  clear ht
  unfold mask
  generalize r.lo ^^^ r.hi = x at *
  have k1 : (0 : Int) ≤ x := by omega
  have k2 : (x : Int) ≤ 4294967295 := by omega
  have hbl := bitLen_eq x2
  have hle := blen_le (n := x) (k := 32) (by omega)
  generalize blen x = k at *
  have p1 := pow_pos' k
  have p2 : (2 : Int) ^ k ≤ 4294967296 := pow_le (k := k) (j := 32) hle
  have w1 : wrap64 (2 ^ k) = 2 ^ k := wrap64_small (by omega) (by omega)
  have w2 : wrap64 (2 ^ k - 1) = 2 ^ k - 1 := wrap64_small (by omega) (by omega)
  obtain ⟨M, hM⟩ : ∃ M : Nat, 2 ^ k - 1 = M := ⟨_, rfl⟩
  have hMi : (2 : Int) ^ k - 1 = (M : Int) := by
    have := Nat.one_le_two_pow (n := k)
    rw [← hM]
    push_cast [this]
    rfl
  have hM2 : M ≤ 4294967295 := by omega
  rw [hM]
  have f1 := and_nat r.opn M (by omega) (by omega)
  have f2 := andNot_nat r.lo M (by omega) (by omega)
  have g1 : r.opn &&& M ≤ r.opn := Nat.and_le_left
  have g2 := andNot_le r.lo M
  generalize r.opn &&& M = O at *
  generalize andNot r.lo M = L at *
  have f3 := or_nat r.bits L (by omega) (by omega)
  have g3 : r.bits ||| L < 2 ^ 32 := Nat.or_lt_two_pow (by omega) (by omega)
  generalize r.bits ||| L = P at *
  have f4 := andNot_nat P O (by omega) (by omega)
  have g4 := andNot_le P O
  generalize andNot P O = B at *
  have f5 := or_nat B O (by omega) (by omega)
  generalize B ||| O = U at *
  have k3 : 0 ≤ (k : Int) := by omega
  have k4 : (k : Int) ≤ 64 := by omega
  clear hM
  go_enter Try.func97, Try.ntmps97
  go_wp2_with fail
  refine (Try.bits_Len _ _ (by omega) (by omega)).mono ?_
  rintro e w1 ⟨rfl, rfl⟩
  rw [Int.toNat_natCast, hbl]
  go_wp2_with fail
  go_region
  go_wp2
  refine bodyPost_ret (v := .agg #[.int .i64 (max (r.lo : Int) B), .int .i64 (min (r.hi : Int) U), .int .i64 B, .int .i64 O]) (by simp [results, Try.results97, go_sem]) rfl ⟨?_, below_drew' (below_alloc' (below_alloc' (below_alloc' (Below.refl _ _) _) _) _)⟩
  rw [show ((max r.lo B : Nat) : Int) = max (r.lo : Int) B by omega, show ((min r.hi U : Nat) : Int) = min (r.hi : Int) U by omega]
theorem Rg.least_of {r : Rg} {x : Nat} (h : next r.lo r.bits r.opn = some x) : r.least = if x ≤ r.hi then (x : Int) else -1 := by
  unfold Rg.least
  rw [h]
set_option maxRecDepth 100000 in
theorem least_calls (r : Rg) (ok : r.fits32) (hd : r.bits &&& r.opn = 0) (w : World) :
    Calls Try.prog 139 #[.agg #[.int .i64 r.lo, .int .i64 r.hi, .int .i64 r.bits, .int .i64 r.opn]] w fun e w' => e = .returned (.int .i64 r.least) ∧ Below w.heap.size w w' := by
  have ok' := ok
  obtain ⟨ok1, ok2, ok3, ok4⟩ := ok
  have hB0 : Below w.heap.size w (w.alloc (rcells r.lo r.hi r.bits r.opn)) := below_alloc' (Below.refl _ _) _
  have x0 : (w.alloc (rcells r.lo r.hi r.bits r.opn)).heap[w.heap.size]? = some (rcells r.lo r.hi r.bits r.opn) := (holds_new rfl).get
  have l0 : w.heap.size < (w.alloc (rcells r.lo r.hi r.bits r.opn)).heap.size := (holds_new (o := rcells r.lo r.hi r.bits r.opn) rfl).lt (List.mem_singleton.2 rfl)
  have e1 := andNot_nat r.lo r.opn (by omega) (by omega)
  have k0 : (0 : Int) ≤ r.lo := by omega
  by_cases hf : andNot r.lo r.opn = r.bits
  · have hn : next r.lo r.bits r.opn = some r.lo := if_pos hf
    have hl := Rg.least_of hn
    have hh : decide (r.Has r.lo) = decide (r.lo ≤ r.hi) := decide_eq_decide.2 ⟨fun h => h.2.1, fun h => ⟨Nat.le_refl _, h, hf⟩⟩
    have HL := Lib.hid hl
    rw [hf] at e1
    clear hf hn hl
    go_enter Try.func139, Try.ntmps139
    go_wp2_with fail
    refine (has_calls r ok' r.lo (by omega) _).mono ?_
    rintro e w1 ⟨rfl, hb⟩
    rw [hh]
    clear hh
    by_cases hle : r.lo ≤ r.hi
    · go_wp2
      go_ret
      exact ⟨int_of (by rw [HL.out, if_pos hle]), bnext hB0 hb⟩
    · go_wp2
      go_ret
      exact ⟨int_of (by rw [HL.out, if_neg hle]), bnext hB0 hb⟩
  · have hf' : ¬ ((andNot r.lo r.opn : Nat) : Int) = (r.bits : Int) := by omega
    have hn : next r.lo r.bits r.opn = above r.lo r.bits r.opn := if_neg hf
    generalize andNot r.lo r.opn = q at *
    cases ha : above r.lo r.bits r.opn with
    | none =>
      rw [ha] at hn
      have hI : aboveI r.lo r.bits r.opn = -1 := by simp only [aboveI, ha]
      have HL : Hid (r.least = -1) := by show _ = _; unfold Rg.least; rw [hn]
      clear hn ha
      go_enter Try.func139, Try.ntmps139
      go_wp2_with fail
      refine (above_calls r ok' _).mono ?_
      rintro e w1 ⟨rfl, hb⟩
      rw [hI]
      obtain ⟨q0, q1, q2, q3⟩ := rat ((hb.block _ l0).trans x0)
      clear hI
      go_wp2
      go_ret
      exact ⟨int_of HL.out.symm, bnext hB0 hb⟩
    | some x =>
      rw [ha] at hn
      obtain ⟨g1, g2, g3⟩ := above_some hd ok1 ha
      have hl := Rg.least_of hn
      have hI : aboveI r.lo r.bits r.opn = (x : Int) := by simp only [aboveI, ha]
      have hh : decide (r.Has x) = decide (x ≤ r.hi) := decide_eq_decide.2 ⟨fun h => h.2.1, fun h => ⟨by omega, h, g1⟩⟩
      have HL := Lib.hid hl
      have k1 : (0 : Int) ≤ x := by omega
      clear hn hl g1 ha
      go_enter Try.func139, Try.ntmps139
      go_wp2_with fail
      refine (above_calls r ok' _).mono ?_
      rintro e w1 ⟨rfl, hb⟩
      have hB1 := bnext hB0 hb
      rw [hI]
      obtain ⟨q0, q1, q2, q3⟩ := rat ((hb.block _ l0).trans x0)
      clear hI hb
      go_wp2_with fail
      refine (has_calls r ok' x (by omega) _).mono ?_
      rintro e w2 ⟨rfl, hb⟩
      rw [hh]
      clear hh
      by_cases hle : x ≤ r.hi
      · go_wp2
        go_ret
        exact ⟨int_of (by rw [HL.out, if_pos hle]), bnext hB1 hb⟩
      · go_wp2
        go_ret
        exact ⟨int_of (by rw [HL.out, if_neg hle]), bnext hB1 hb⟩
set_option maxRecDepth 100000 in
theorem some_calls (lo hi : Int) (b o : Nat) (hb' : b ≤ 4294967295) (ho' : o ≤ 4294967295) (w : World) :
    Calls Try.prog 122 #[.agg #[.int .i64 lo, .int .i64 hi, .int .i64 b, .int .i64 o]] w fun e w' => e = .returned (.bool (RI.someB ⟨lo, hi, b, o⟩)) ∧ Below w.heap.size w w' := by
  have hB0 : Below w.heap.size w (w.alloc (rcells lo hi b o)) := below_alloc' (Below.refl _ _) _
  have x0 : (w.alloc (rcells lo hi b o)).heap[w.heap.size]? = some (rcells lo hi b o) := (holds_new rfl).get
  have l0 : w.heap.size < (w.alloc (rcells lo hi b o)).heap.size := (holds_new (o := rcells lo hi b o) rfl).lt (List.mem_singleton.2 rfl)
  have cOk := rangeOk_calls lo hi b o
  cases hok : RI.okB ⟨lo, hi, b, o⟩ with
  | false =>
    have HS : Hid (RI.someB ⟨lo, hi, b, o⟩ = false) := by show _ = _; simp only [RI.someB, hok, Bool.false_and]
    rw [hok] at cOk
    clear hok
    go_enter Try.func122, Try.ntmps122
    go_wp2_with fail
    refine (cOk _ hb' ho').mono ?_
    rintro e w1 ⟨rfl, hb⟩
    go_wp2
    go_ret
    exact ⟨bool_of HS.out.symm, bnext hB0 hb⟩
  | true =>
    rw [hok] at cOk
    obtain ⟨h1, h2, h3, -, -, h6⟩ := of_decide_eq_true hok
    simp only at h1 h2 h3 h6
    obtain ⟨lo, rfl⟩ : ∃ n : Nat, lo = n := ⟨lo.toNat, by omega⟩
    obtain ⟨hi, rfl⟩ : ∃ n : Nat, hi = n := ⟨hi.toNat, by omega⟩
    have HS : Hid (RI.someB ⟨lo, hi, b, o⟩ = decide (0 ≤ Rg.least ⟨lo, hi, b, o⟩)) := by show _ = _; simp only [RI.someB, hok, Bool.true_and]; rfl
    clear hok
    go_enter Try.func122, Try.ntmps122
    go_wp2_with fail
    refine (cOk _ hb' ho').mono ?_
    rintro e w1 ⟨rfl, hb⟩
    have hB1 := bnext hB0 hb
    obtain ⟨q0, q1, q2, q3⟩ := rat ((hb.block _ l0).trans x0)
    clear hb
    go_wp2_with fail
    refine (least_calls ⟨lo, hi, b, o⟩ ⟨by simp only; omega, by simp only; omega, hb', ho'⟩ h6 _).mono ?_
    rintro e w2 ⟨rfl, hb⟩
    go_wp2
    go_ret
    exact ⟨bool_of (by rw [HS.out]), bnext hB1 hb⟩
end Go.Proofs.Ytoimeebildcofaa
