/- The walks of the reference's small functions over ranges. -/
import Derived.Test.YtoimeebildcofaaWRange2
import Derived.Test.YtoimeebildcofaaRangeNext
namespace Go.Proofs.Ytoimeebildcofaa
open Go.RowKit
theorem mask_pow (k : Nat) : mask (2 ^ k - 1) = 2 ^ k - 1 := by
  have h1 : blen (2 ^ k - 1) ≤ k := blen_le (by have := Nat.one_le_two_pow (n := k); omega)
  have h2 : k ≤ blen (2 ^ k - 1) := by
    rcases Nat.lt_or_ge (blen (2 ^ k - 1)) k with h | h
    · have h3 := lt_blen (2 ^ k - 1)
      have h4 : 2 ^ (blen (2 ^ k - 1) + 1) ≤ 2 ^ k := Nat.pow_le_pow_right (by omega) h
      have := Nat.one_le_two_pow (n := blen (2 ^ k - 1))
      rw [Nat.pow_succ] at h4
      omega
    · exact h
  unfold mask
  rw [Nat.le_antisymm h1 h2]
set_option maxRecDepth 100000 in
theorem l2Mask_calls (n : Nat) (hn : n ≤ 8589934591) (w : World) :
    Calls Try.prog 133 #[.int .i64 n] w fun e w' => e = .returned (.int .i64 ((mask n : Nat) : Int)) ∧ w' = w := by
  go_enter Try.func133, Try.ntmps133
  go_wp2
  go_loopw [3] (fun i wr => ∃ k : Nat, k ≤ blen n ∧ i = .int .i64 ((2 ^ k - 1 : Nat) : Int) ∧ wr = w) (fun i _ => n - (intOf i).toNat)
  case atStart => exact ⟨0, Nat.zero_le _, rfl, rfl⟩
  case round =>
    obtain ⟨k, hk, rfl, rfl⟩ := hrel
    have hp := Nat.one_le_two_pow (n := k)
    have hs : 2 ^ (k + 1) - 1 = 2 * (2 ^ k - 1) + 1 := by rw [Nat.pow_succ]; omega
    obtain ⟨M, hM⟩ : ∃ M : Nat, 2 ^ k - 1 = M := ⟨_, rfl⟩
    rw [hM] at hs ⊢
    by_cases hlt : M < n
    · have hk2 : k + 1 ≤ blen n := by
        rcases Nat.lt_or_ge k (blen n) with h | h
        · exact h
        · have h3 := lt_blen n
          have h4 : 2 ^ blen n ≤ 2 ^ k := Nat.pow_le_pow_right (by omega) h
          omega
      have HS := Lib.hid hs
      clear hs hM hp
      go_wp2
      go_roundw
      case rel => exact ⟨k + 1, hk2, by rw [HS.out]; exact congrArg _ (by omega), trivial⟩
      case measure => simp [intOf]; omega
    · have hb : blen n ≤ k := blen_le (by omega)
      have HR : Hid (M = mask n) := by show _ = _; unfold mask; rw [Nat.le_antisymm hb hk, hM]
      clear hs hM hp
      go_wp2
      go_ret
      exact ⟨int_of (by rw [HR.out]), rfl⟩
theorem top_xor {x : Nat} (hx : x ≤ 4294967295) : 4294967295 ^^^ x ≤ 4294967295 := le32_of fun j hj => by
  have h : (4294967295 : Nat) = 2 ^ 32 - 1 := by decide
  rw [Nat.testBit_xor, testBit_lt32 hx hj, h, Nat.testBit_two_pow_sub_one]
  simp
  omega
set_option maxRecDepth 100000 in
theorem l2Bits_calls (lo hi : Nat) (h1 : lo ≤ 4294967295) (h2 : hi ≤ 4294967295) (w : World) :
    Calls Try.prog 114 #[.int .i64 lo, .int .i64 hi] w fun e w' => e = .returned (.tuple #[.int .i64 ((andNot lo (mask (lo ^^^ hi)) : Nat) : Int), .int .i64 ((mask (lo ^^^ hi) : Nat) : Int)]) ∧ w' = w := by
  have x1 := xor_nat lo hi (by omega) (by omega)
  have x2 : lo ^^^ hi ≤ 4294967295 := le32_of fun j hj => by rw [Nat.testBit_xor, testBit_lt32 h1 hj, testBit_lt32 h2 hj]; rfl
  have cM := l2Mask_calls (lo ^^^ hi) (by omega)
  have m1 := mask_le32 x2
  generalize lo ^^^ hi = x at *
  generalize mask x = M at *
  have m2 := top_xor m1
  have e1 := xor_nat 4294967295 M (by omega) (by omega)
  have e2 := and_nat lo (4294967295 ^^^ M) (by omega) (by omega)
  rw [← andNot_and h1] at e2
  rw [show ((4294967295 : Nat) : Int) = 4294967295 by omega] at e1
  generalize 4294967295 ^^^ M = T at *
  generalize andNot lo M = R at *
  go_enter Try.func114, Try.ntmps114
  go_wp2_with fail
  refine (cM _).mono ?_
  rintro e w1 ⟨rfl, rfl⟩
  go_wp2
  go_ret2
  exact ⟨rfl, rfl⟩
set_option maxRecDepth 100000 in
theorem l2Over_calls (b : Nat) (hb : b ≤ 33) (w : World) :
    Calls Try.prog 150 #[.int .i64 b] w fun e w' => e = .returned (.int .i64 ((overN b : Nat) : Int)) ∧ Below w.heap.size w w' := by
  by_cases h0 : b = 0
  · subst h0
    go_enter Try.func150, Try.ntmps150
    go_wp2
    go_ret
    exact ⟨rfl, Below.refl _ _⟩
  · obtain ⟨i, rfl⟩ : ∃ i, b = i + 1 := ⟨b - 1, by omega⟩
    have HO : Hid (overN (i + 1) = 4294967295 ^^^ (2 ^ i - 1)) := by show _ = _; unfold overN; rw [if_neg (by omega), Nat.add_sub_cancel]
    have p1 := pow_pos' i
    have p2 : (2 : Int) ^ i ≤ 4294967296 := pow_le (k := i) (j := 32) (by omega)
    have w1 : wrap64 (2 ^ i) = 2 ^ i := wrap64_small (by omega) (by omega)
    have w2 : wrap64 (2 ^ i - 1) = 2 ^ i - 1 := wrap64_small (by omega) (by omega)
    obtain ⟨M, hM⟩ : ∃ M : Nat, 2 ^ i - 1 = M := ⟨_, rfl⟩
    have hMi : (2 : Int) ^ i - 1 = (M : Int) := by
      have := Nat.one_le_two_pow (n := i)
      rw [← hM]
      push_cast [this]
      rfl
    have hM2 : M ≤ 4294967295 := by omega
    have cM := l2Mask_calls (2 ^ i - 1) (by omega)
    rw [mask_pow, hM] at cM
    rw [hM] at HO
    clear hM
    have e1 := xor_nat 4294967295 M (by omega) (by omega)
    rw [show ((4294967295 : Nat) : Int) = 4294967295 by omega] at e1
    have k1 : (0 : Int) ≤ i := by omega
    have k2 : (i : Int) ≤ 33 := by omega
    have hi0 : ¬ ((i : Int) + 1 = 0) := by omega
    go_enter Try.func150, Try.ntmps150
    go_wp2_with fail
    refine wp_region_quiet_lit (by kernel_rfl) (by kernel_rfl) ?_
    repeat (any_goals (first | go_big_quiet_step ((first | (go_at_call 133; exact Calls.quiet_of_same (cM _)) | (go_at_call 76; exact Calls.quiet_of_same (l2Top_calls _)))) | quiet_step ((first | (go_at_call 133; exact Calls.quiet_of_same (cM _)) | (go_at_call 76; exact Calls.quiet_of_same (l2Top_calls _)))) | (refine wpQuiet_step (fun K hK => ?_); go_simp; split <;> (refine hK _ ?_; clear hK K))))
    all_goals (refine wpQuiet_nil ?_; intro _ hw'; obtain ⟨nq, hw''⟩ := hw'; subst hw'')
    go_wp2
    go_ret
    exact ⟨int_of (by rw [HO.out]), below_drewN' (Below.refl _ _) _⟩
theorem l2TopB_calls (w : World) : Calls Try.prog 76 #[] w fun e w' => e = .returned (.int .i64 4294967295) ∧ Below w.heap.size w w' :=
  (l2Top_calls w).mono (by rintro e w' ⟨rfl, rfl⟩; exact ⟨rfl, Below.refl _ _⟩)
theorem over_le (b : Nat) (hb : b ≤ 33 := by omega) : overN b ≤ 4294967295 := by
  unfold overN
  split
  · omega
  · exact top_xor (by have := Nat.pow_le_pow_right (n := 2) (by decide) (show b - 1 ≤ 32 by omega); omega)
set_option maxRecDepth 100000 in
set_option maxHeartbeats 3200000 in
theorem l2Next_calls (r : Rg) (n : Nat) (ok : r.fits32) (hd : r.bits &&& r.opn = 0) (hn : n ≤ 4294967295) (w : World) :
    Calls Try.prog 143 #[.agg #[.int .i64 r.lo, .int .i64 r.hi, .int .i64 r.bits, .int .i64 r.opn], .int .i64 n] w fun e w' => e = .returned (.int .i64 (nextI n r.bits r.opn)) ∧ Below w.heap.size w w' := by
  obtain ⟨ok1, ok2, ok3, ok4⟩ := ok
  go_enter Try.func143, Try.ntmps143
  go_wp2
  go_loopw [5, 6] (fun v i wr => ∃ (k : Nat) (b : Int), k ≤ 33 ∧ i = .int .i64 k ∧ v = .int .i64 b ∧ Best n r.bits r.opn k b ∧ -1 ≤ b ∧ b ≤ 8589934591 ∧ Below w.heap.size w wr ∧ wr.heap[w.heap.size]? = some (rcells r.lo r.hi r.bits r.opn)) (fun _ i _ => 33 - (intOf i).toNat)
  case atStart => exact ⟨0, -1, by omega, rfl, rfl, ⟨fun _ => rfl, fun h => by omega, fun h => by omega⟩, by omega, by omega, below_alloc' (Below.refl _ _) _, alloc_at' _ _⟩
  case round =>
    obtain ⟨k, b, hk, rfl, rfl, hbest, hb0, hb1, hB, x0⟩ := hrel
    by_cases hlt : k ≤ 32
    · have k1 : (0 : Int) ≤ (k : Int) := by omega
      have k2 : (k : Int) ≤ 32 := by omega
      have p1 := pow_pos' k
      have p2 : (2 : Int) ^ k ≤ 4294967296 := pow_le (k := k) (j := 32) (by omega)
      have w1 : wrap64 (2 ^ k) = 2 ^ k := wrap64_small (by omega) (by omega)
      have w2 : wrap64 (2 ^ k - 1) = 2 ^ k - 1 := wrap64_small (by omega) (by omega)
      obtain ⟨M, hM⟩ : ∃ M : Nat, 2 ^ k - 1 = M := ⟨_, rfl⟩
      have hMi : (2 : Int) ^ k - 1 = (M : Int) := by
        have := Nat.one_le_two_pow (n := k)
        rw [← hM]
        push_cast [this]
        rfl
      have hM2 : M ≤ 4294967295 := by omega
      have cM := l2Mask_calls M (by omega)
      rw [show mask M = M by rw [← hM, mask_pow]] at cM
      have hx := and_high hn k
      rw [hM] at hx
      clear hM
      have t1 := top_xor hM2
      have e1 := xor_nat 4294967295 M (by omega) (by omega)
      rw [show ((4294967295 : Nat) : Int) = 4294967295 by omega] at e1
      generalize 4294967295 ^^^ M = T at *
      have e2 := and_nat n T (by omega) (by omega)
      rw [hx] at e2
      clear hx
      have t2 := top_xor ok4
      have e3 := xor_nat 4294967295 r.opn (by omega) (by omega)
      rw [show ((4294967295 : Nat) : Int) = 4294967295 by omega] at e3
      have q2 : wr.cell? ⟨w.heap.size, 2, none⟩ = some (.int .i64 r.bits) := (rat x0).2.2.1
      have q3 : wr.cell? ⟨w.heap.size, 3, none⟩ = some (.int .i64 r.opn) := (rat x0).2.2.2
      go_wp2
      refine wp_region_quiet_lit (by kernel_rfl) (by kernel_rfl) ?_
      repeat (any_goals (first | go_big_quiet_step ((first | (go_at_call 133; exact Calls.quiet_of_same (cM _)) | (go_at_call 76; exact Calls.quiet_of_same (l2Top_calls _)))) | quiet_step ((first | (go_at_call 133; exact Calls.quiet_of_same (cM _)) | (go_at_call 76; exact Calls.quiet_of_same (l2Top_calls _)))) | (refine wpQuiet_step (fun K hK => ?_); go_simp; split <;> (refine hK _ ?_; clear hK K))))
      all_goals (refine wpQuiet_nil ?_; intro _ hw'; obtain ⟨nq, hw''⟩ := hw'; subst hw'')
      have x0 : (wr.drewN nq).heap[w.heap.size]? = some (rcells r.lo r.hi r.bits r.opn) := x0
      have hB : Below w.heap.size w (wr.drewN nq) := below_drewN' hB _
      generalize wr.drewN nq = W at *
      clear q2 q3
      -- ROUNDS
      by_cases hk0 : k = 0
      · obtain rfl : k = 0 := hk0
        have hz : highs n 0 = n := Nat.eq_of_testBit_eq fun j => by rw [testBit_highs]; simp
        rw [hz] at e2
        obtain ⟨hb1', hyes, hno⟩ := Best.first hbest
        have hXb : n ≤ 4294967295 := by first | omega | exact xb
        have hO := over_le 0
        have f1 := and_nat (n) (4294967295 ^^^ r.opn) (by omega) (by omega)
        have hXN : (n) &&& (4294967295 ^^^ r.opn) ≤ n := Nat.and_le_left
        have f2 := and_nat ((n) &&& (4294967295 ^^^ r.opn)) (overN (0)) (by omega) (by omega)
        have f3 := and_nat r.bits (overN (0)) (by omega) (by omega)
        have g1 := and_nat (n) (overN (0)) (by omega) (by omega)
        have hL := top_xor hO
        have g2 := xor_nat 4294967295 (overN (0)) (by omega) (by omega)
        rw [show ((4294967295 : Nat) : Int) = 4294967295 by omega] at g2
        have g3 := and_nat r.bits (4294967295 ^^^ overN (0)) (by omega) (by omega)
        have hXO : (n) &&& overN (0) ≤ n := Nat.and_le_left
        have hBL : r.bits &&& (4294967295 ^^^ overN (0)) ≤ r.bits := Nat.and_le_left
        have g4 := or_nat ((n) &&& overN (0)) (r.bits &&& (4294967295 ^^^ overN (0))) (by omega) (by omega)
        have hc := cond_zero (opn := r.opn) hn ok3
        have hy := y_zero (bits := r.bits) hn
        have cO := l2Over_calls (0) (by omega)
        generalize r.bits &&& (4294967295 ^^^ overN (0)) = BL at *
        generalize 4294967295 ^^^ overN (0) = LL at *
        generalize (n) &&& overN (0) = XO at *
        generalize r.bits &&& overN (0) = B2 at *
        generalize (n) &&& (4294967295 ^^^ r.opn) &&& overN (0) = A2 at *
        generalize overN (0) = OV at *
        generalize (n) &&& (4294967295 ^^^ r.opn) = XN at *
        generalize 4294967295 ^^^ r.opn = NN at *
        rw [hy] at g4
        clear hy hz cM e1 w1 w2 hMi p1 p2
        by_cases hC : A2 = B2
        · have hb2 := hyes (hc.1 hC)
          rw [hC] at f2
          clear hc hyes hno hC hbest
          have z2 := cell_regrown (rat x0).2.2.1
          have z3 := cell_regrown (rat x0).2.2.2
          go_wp2
          refine wp_region_quiet_below (w := W) (by kernel_rfl) (by kernel_rfl) ?_
          repeat (any_goals (first | go_big_quiet_step ((first | (go_at_call 76; exact Calls.regrown_of (l2TopB_calls _)) | (go_at_call 150; exact Calls.regrown_of (cO _)))) | quiet_step ((first | (go_at_call 76; exact Calls.regrown_of (l2TopB_calls _)) | (go_at_call 150; exact Calls.regrown_of (cO _)))) | (refine wpQuiet_step (fun K hK => ?_); go_simp; split <;> (refine hK _ ?_; clear hK K))))
          all_goals (refine wpQuiet_nil ?_; intro _ hw'; obtain ⟨⟨dq, osq⟩, hw''⟩ := hw'; subst hw''; have hq := below_regrown W dq osq; generalize Sort.grow (redrawn W dq) osq = wq at *)
          have hB := bnext hB hq
          have x0 := Below.keep hq x0
          clear hq z2 z3
          have z2 := cell_regrown (rat x0).2.2.1
          have z3 := cell_regrown (rat x0).2.2.2
          go_wp2
          refine wp_region_quiet_below (w := wq) (by kernel_rfl) (by kernel_rfl) ?_
          repeat (any_goals (first | go_big_quiet_step ((first | (go_at_call 76; exact Calls.regrown_of (l2TopB_calls _)) | (go_at_call 150; exact Calls.regrown_of (cO _)))) | quiet_step ((first | (go_at_call 76; exact Calls.regrown_of (l2TopB_calls _)) | (go_at_call 150; exact Calls.regrown_of (cO _)))) | (refine wpQuiet_step (fun K hK => ?_); go_simp; split <;> (refine hK _ ?_; clear hK K))))
          all_goals (refine wpQuiet_nil ?_; intro _ hw'; obtain ⟨⟨dq, osq⟩, hw''⟩ := hw'; subst hw''; have hq := below_regrown wq dq osq; generalize Sort.grow (redrawn wq dq) osq = wq at *)
          have hB := bnext hB hq
          have x0 := Below.keep hq x0
          clear hq z2 z3
          subst hb1'
          go_wp2
          go_roundw
          case rel => exact ⟨1, (n : Int), by omega, by go_num, rfl, hb2, by omega, by omega, hB, x0⟩
          case measure => simp [intOf]
        · have hb2 := hno (fun h => hC (hc.2 h))
          have hC' : ¬ (A2 : Int) = (B2 : Int) := by omega
          clear hc hyes hno hC hbest
          have z2 := cell_regrown (rat x0).2.2.1
          have z3 := cell_regrown (rat x0).2.2.2
          go_wp2
          refine wp_region_quiet_below (w := W) (by kernel_rfl) (by kernel_rfl) ?_
          repeat (any_goals (first | go_big_quiet_step ((first | (go_at_call 76; exact Calls.regrown_of (l2TopB_calls _)) | (go_at_call 150; exact Calls.regrown_of (cO _)))) | quiet_step ((first | (go_at_call 76; exact Calls.regrown_of (l2TopB_calls _)) | (go_at_call 150; exact Calls.regrown_of (cO _)))) | (refine wpQuiet_step (fun K hK => ?_); go_simp; split <;> (refine hK _ ?_; clear hK K))))
          all_goals (refine wpQuiet_nil ?_; intro _ hw'; obtain ⟨⟨dq, osq⟩, hw''⟩ := hw'; subst hw''; have hq := below_regrown W dq osq; generalize Sort.grow (redrawn W dq) osq = wq at *)
          have hB := bnext hB hq
          have x0 := Below.keep hq x0
          clear hq z2 z3
          go_wp2
          go_roundw
          case rel => exact ⟨1, b, by omega, by go_num, rfl, hb2, by omega, by omega, hB, x0⟩
          case measure => simp [intOf]
      · obtain ⟨i, rfl⟩ : ∃ i, k = i + 1 := ⟨k - 1, by omega⟩
        have hi : i < 32 := by omega
        have i1 := pow_pos' i
        have i2 : (2 : Int) ^ i ≤ 2147483648 := pow_le (k := i) (j := 31) (by omega)
        have i3 : wrap64 (2 ^ i) = 2 ^ i := wrap64_small (by omega) (by omega)
        clear i1 i2
        have i4 : (0 : Int) ≤ i := by omega
        have i5 : (i : Int) ≤ 31 := by omega
        have i6 : ¬ ((i : Int) + 1 ≤ 0) := by omega
        have i7 : (0 : Int) < (i : Int) + 1 := by omega
        have a4 := and_one n i (by omega)
        clear cM e1 w1 w2 hMi p1 p2
        by_cases hbit : n.testBit i = true
        · have hb2 := Best.skip hbest (fun h => by rw [h.1] at hbit; cases hbit)
          rw [if_pos hbit] at a4
          clear hbest hbit
          go_wp2
          go_roundw
          case rel => exact ⟨i + 1 + 1, b, by omega, by go_num, rfl, hb2, by omega, by omega, hB, x0⟩
          case measure => simp [intOf]; omega
        · rw [if_neg hbit] at a4
          have hbit' : n.testBit i = false := by simpa using hbit
          clear hbit
          have hPx : Hid (2 ^ i < 2 ^ 32) := Nat.pow_lt_pow_right (by decide) (show i < 32 by omega)
          have hH : highs n (i + 1) ≤ n := by rw [← andNot_low]; exact andNot_le _ _
          have hc := cond_succ hn ok3 hd hi hbit'
          have hy := y_succ (bits := r.bits) hn hi
          have hcl : cand n r.bits i ≤ 4294967295 := cand_le32 hn hi
          obtain ⟨P, hPe⟩ : ∃ P : Nat, 2 ^ i = P := ⟨_, rfl⟩
          have eP : Hid ((2 : Int) ^ i = (P : Int)) := by show _ = _; rw [← hPe]; push_cast; rfl
          rw [hPe] at hc hy hPx
          clear hPe
          generalize highs n (i + 1) = Hn at *
          have hHn : Hn < 2 ^ 32 := Nat.lt_of_le_of_lt hH (by omega)
          have xb : Hn ||| P ≤ 4294967295 := Nat.le_of_lt_succ (Nat.or_lt_two_pow hHn hPx.out)
          have e4 := or_nat Hn P (Nat.lt_of_lt_of_le hHn (by decide)) (Nat.lt_of_lt_of_le hPx.out (by decide))
          rw [← eP.out] at e4
          clear hPx hHn
          generalize Hn ||| P = X at *
          have XB := Lib.hid xb
          have HCL := Lib.hid hcl
          have HHC := Lib.hid hc
          have HHY := Lib.hid hy
          have HBE := Lib.hid hbest
          have HE3 := Lib.hid e3
          clear xb hcl hH hc hy hbest hbit' e3
          go_wp2_with fail
          clear i3
          have xb := XB.out
          have hcl := HCL.out
          have hc := HHC.out
          have hy := HHY.out
          have hbest := HBE.out
          have e3 := HE3.out
          have hXb : X ≤ 4294967295 := by first | omega | exact xb
          have hO := over_le (i + 1)
          have f1 := and_nat (X) (4294967295 ^^^ r.opn) (by omega) (by omega)
          have hXN : (X) &&& (4294967295 ^^^ r.opn) ≤ X := Nat.and_le_left
          have f2 := and_nat ((X) &&& (4294967295 ^^^ r.opn)) (overN ((i + 1))) (by omega) (by omega)
          have f3 := and_nat r.bits (overN ((i + 1))) (by omega) (by omega)
          have g1 := and_nat (X) (overN ((i + 1))) (by omega) (by omega)
          have hL := top_xor hO
          have g2 := xor_nat 4294967295 (overN ((i + 1))) (by omega) (by omega)
          rw [show ((4294967295 : Nat) : Int) = 4294967295 by omega] at g2
          have g3 := and_nat r.bits (4294967295 ^^^ overN ((i + 1))) (by omega) (by omega)
          have hXO : (X) &&& overN ((i + 1)) ≤ X := Nat.and_le_left
          have hBL : r.bits &&& (4294967295 ^^^ overN ((i + 1))) ≤ r.bits := Nat.and_le_left
          have g4 := or_nat ((X) &&& overN ((i + 1))) (r.bits &&& (4294967295 ^^^ overN ((i + 1)))) (by omega) (by omega)
          have cO := l2Over_calls ((i + 1)) (by omega)
          generalize r.bits &&& (4294967295 ^^^ overN ((i + 1))) = BL at *
          generalize 4294967295 ^^^ overN ((i + 1)) = LL at *
          generalize (X) &&& overN ((i + 1)) = XO at *
          generalize r.bits &&& overN ((i + 1)) = B2 at *
          generalize (X) &&& (4294967295 ^^^ r.opn) &&& overN ((i + 1)) = A2 at *
          generalize overN ((i + 1)) = OV at *
          generalize (X) &&& (4294967295 ^^^ r.opn) = XN at *
          generalize 4294967295 ^^^ r.opn = NN at *
          rw [hy] at g4
          clear hy
          by_cases hC : A2 = B2
          · have hv := hc.1 hC
            obtain ⟨hyes, hno⟩ := Best.take hbest hv
            generalize cand n r.bits i = C at *
            rw [hC] at f2
            clear hc hC hbest hv
            have hnb : b < 0 ∨ (C : Int) < b ∨ ¬ (b < 0 ∨ (C : Int) < b) := by omega
            rcases hnb with h1 | h1 | h1
            · have hb2 := hyes (.inl h1)
              clear hyes hno
              have z2 := cell_regrown (rat x0).2.2.1
              have z3 := cell_regrown (rat x0).2.2.2
              refine wp_region_quiet_below (w := W) (by kernel_rfl) (by kernel_rfl) ?_
              repeat (any_goals (first | go_big_quiet_step ((first | (go_at_call 76; exact Calls.regrown_of (l2TopB_calls _)) | (go_at_call 150; exact Calls.regrown_of (cO _)))) | quiet_step ((first | (go_at_call 76; exact Calls.regrown_of (l2TopB_calls _)) | (go_at_call 150; exact Calls.regrown_of (cO _)))) | (refine wpQuiet_step (fun K hK => ?_); go_simp; split <;> (refine hK _ ?_; clear hK K))))
              all_goals (refine wpQuiet_nil ?_; intro _ hw'; obtain ⟨⟨dq, osq⟩, hw''⟩ := hw'; subst hw''; have hq := below_regrown W dq osq; generalize Sort.grow (redrawn W dq) osq = wq at *)
              have hB := bnext hB hq
              have x0 := Below.keep hq x0
              clear hq z2 z3
              have z2 := cell_regrown (rat x0).2.2.1
              have z3 := cell_regrown (rat x0).2.2.2
              go_wp2
              refine wp_region_quiet_below (w := wq) (by kernel_rfl) (by kernel_rfl) ?_
              repeat (any_goals (first | go_big_quiet_step ((first | (go_at_call 76; exact Calls.regrown_of (l2TopB_calls _)) | (go_at_call 150; exact Calls.regrown_of (cO _)))) | quiet_step ((first | (go_at_call 76; exact Calls.regrown_of (l2TopB_calls _)) | (go_at_call 150; exact Calls.regrown_of (cO _)))) | (refine wpQuiet_step (fun K hK => ?_); go_simp; split <;> (refine hK _ ?_; clear hK K))))
              all_goals (refine wpQuiet_nil ?_; intro _ hw'; obtain ⟨⟨dq, osq⟩, hw''⟩ := hw'; subst hw''; have hq := below_regrown wq dq osq; generalize Sort.grow (redrawn wq dq) osq = wq at *)
              have hB := bnext hB hq
              have x0 := Below.keep hq x0
              clear hq z2 z3
              go_wp2
              go_roundw
              case rel => exact ⟨i + 1 + 1, (C : Int), by omega, by go_num, rfl, hb2, by omega, by omega, hB, x0⟩
              case measure => simp [intOf]; omega
            · have hb2 := hyes (.inr h1)
              have h2 : ¬ b < 0 := by omega
              clear hyes hno
              have z2 := cell_regrown (rat x0).2.2.1
              have z3 := cell_regrown (rat x0).2.2.2
              refine wp_region_quiet_below (w := W) (by kernel_rfl) (by kernel_rfl) ?_
              repeat (any_goals (first | go_big_quiet_step ((first | (go_at_call 76; exact Calls.regrown_of (l2TopB_calls _)) | (go_at_call 150; exact Calls.regrown_of (cO _)))) | quiet_step ((first | (go_at_call 76; exact Calls.regrown_of (l2TopB_calls _)) | (go_at_call 150; exact Calls.regrown_of (cO _)))) | (refine wpQuiet_step (fun K hK => ?_); go_simp; split <;> (refine hK _ ?_; clear hK K))))
              all_goals (refine wpQuiet_nil ?_; intro _ hw'; obtain ⟨⟨dq, osq⟩, hw''⟩ := hw'; subst hw''; have hq := below_regrown W dq osq; generalize Sort.grow (redrawn W dq) osq = wq at *)
              have hB := bnext hB hq
              have x0 := Below.keep hq x0
              clear hq z2 z3
              have z2 := cell_regrown (rat x0).2.2.1
              have z3 := cell_regrown (rat x0).2.2.2
              go_wp2
              refine wp_region_quiet_below (w := wq) (by kernel_rfl) (by kernel_rfl) ?_
              repeat (any_goals (first | go_big_quiet_step ((first | (go_at_call 76; exact Calls.regrown_of (l2TopB_calls _)) | (go_at_call 150; exact Calls.regrown_of (cO _)))) | quiet_step ((first | (go_at_call 76; exact Calls.regrown_of (l2TopB_calls _)) | (go_at_call 150; exact Calls.regrown_of (cO _)))) | (refine wpQuiet_step (fun K hK => ?_); go_simp; split <;> (refine hK _ ?_; clear hK K))))
              all_goals (refine wpQuiet_nil ?_; intro _ hw'; obtain ⟨⟨dq, osq⟩, hw''⟩ := hw'; subst hw''; have hq := below_regrown wq dq osq; generalize Sort.grow (redrawn wq dq) osq = wq at *)
              have hB := bnext hB hq
              have x0 := Below.keep hq x0
              clear hq z2 z3
              go_wp2
              go_roundw
              case rel => exact ⟨i + 1 + 1, (C : Int), by omega, by go_num, rfl, hb2, by omega, by omega, hB, x0⟩
              case measure => simp [intOf]; omega
            · have hb2 := hno h1
              have h2 : ¬ b < 0 := by omega
              have h3 : ¬ (C : Int) < b := by omega
              clear hyes hno h1
              have z2 := cell_regrown (rat x0).2.2.1
              have z3 := cell_regrown (rat x0).2.2.2
              refine wp_region_quiet_below (w := W) (by kernel_rfl) (by kernel_rfl) ?_
              repeat (any_goals (first | go_big_quiet_step ((first | (go_at_call 76; exact Calls.regrown_of (l2TopB_calls _)) | (go_at_call 150; exact Calls.regrown_of (cO _)))) | quiet_step ((first | (go_at_call 76; exact Calls.regrown_of (l2TopB_calls _)) | (go_at_call 150; exact Calls.regrown_of (cO _)))) | (refine wpQuiet_step (fun K hK => ?_); go_simp; split <;> (refine hK _ ?_; clear hK K))))
              all_goals (refine wpQuiet_nil ?_; intro _ hw'; obtain ⟨⟨dq, osq⟩, hw''⟩ := hw'; subst hw''; have hq := below_regrown W dq osq; generalize Sort.grow (redrawn W dq) osq = wq at *)
              have hB := bnext hB hq
              have x0 := Below.keep hq x0
              clear hq z2 z3
              have z2 := cell_regrown (rat x0).2.2.1
              have z3 := cell_regrown (rat x0).2.2.2
              go_wp2
              refine wp_region_quiet_below (w := wq) (by kernel_rfl) (by kernel_rfl) ?_
              repeat (any_goals (first | go_big_quiet_step ((first | (go_at_call 76; exact Calls.regrown_of (l2TopB_calls _)) | (go_at_call 150; exact Calls.regrown_of (cO _)))) | quiet_step ((first | (go_at_call 76; exact Calls.regrown_of (l2TopB_calls _)) | (go_at_call 150; exact Calls.regrown_of (cO _)))) | (refine wpQuiet_step (fun K hK => ?_); go_simp; split <;> (refine hK _ ?_; clear hK K))))
              all_goals (refine wpQuiet_nil ?_; intro _ hw'; obtain ⟨⟨dq, osq⟩, hw''⟩ := hw'; subst hw''; have hq := below_regrown wq dq osq; generalize Sort.grow (redrawn wq dq) osq = wq at *)
              have hB := bnext hB hq
              have x0 := Below.keep hq x0
              clear hq z2 z3
              go_wp2
              go_roundw
              case rel => exact ⟨i + 1 + 1, b, by omega, by go_num, rfl, hb2, by omega, by omega, hB, x0⟩
              case measure => simp [intOf]; omega
          · have hb2 := Best.skip hbest (fun h => hC (hc.2 h))
            have hC' : ¬ (A2 : Int) = (B2 : Int) := by omega
            clear hc hC hbest
            have z2 := cell_regrown (rat x0).2.2.1
            have z3 := cell_regrown (rat x0).2.2.2
            refine wp_region_quiet_below (w := W) (by kernel_rfl) (by kernel_rfl) ?_
            repeat (any_goals (first | go_big_quiet_step ((first | (go_at_call 76; exact Calls.regrown_of (l2TopB_calls _)) | (go_at_call 150; exact Calls.regrown_of (cO _)))) | quiet_step ((first | (go_at_call 76; exact Calls.regrown_of (l2TopB_calls _)) | (go_at_call 150; exact Calls.regrown_of (cO _)))) | (refine wpQuiet_step (fun K hK => ?_); go_simp; split <;> (refine hK _ ?_; clear hK K))))
            all_goals (refine wpQuiet_nil ?_; intro _ hw'; obtain ⟨⟨dq, osq⟩, hw''⟩ := hw'; subst hw''; have hq := below_regrown W dq osq; generalize Sort.grow (redrawn W dq) osq = wq at *)
            have hB := bnext hB hq
            have x0 := Below.keep hq x0
            clear hq z2 z3
            go_wp2
            go_roundw
            case rel => exact ⟨i + 1 + 1, b, by omega, by go_num, rfl, hb2, by omega, by omega, hB, x0⟩
            case measure => simp [intOf]; omega
    · have h33 : k = 33 := by omega
      subst h33
      have HB := Lib.hid (Best.done hbest)
      clear hbest
      go_wp2
      go_ret
      exact ⟨int_of HB.out, hB⟩
end Go.Proofs.Ytoimeebildcofaa
