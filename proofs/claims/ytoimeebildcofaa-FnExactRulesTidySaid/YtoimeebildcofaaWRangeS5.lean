/- The walks of the reference's ranges: met, apart. -/
import Derived.Test.YtoimeebildcofaaWRangeS3
namespace Go.Proofs.Ytoimeebildcofaa
open Go.RowKit
set_option maxRecDepth 100000 in
theorem l2Apart_calls (a b : Rg) (oa : a.Ok) (ob : b.fits32) (w : World) :
    Calls Try.prog 116 #[.agg #[.int .i64 a.lo, .int .i64 a.hi, .int .i64 a.bits, .int .i64 a.opn], .agg #[.int .i64 b.lo, .int .i64 b.hi, .int .i64 b.bits, .int .i64 b.opn]] w fun e w' => ∃ (x : Rg) (ok : Bool), e = .returned (.tuple #[.agg #[.int .i64 x.lo, .int .i64 x.hi, .int .i64 x.bits, .int .i64 x.opn], .bool ok]) ∧ a.but b = ifSome ok x ∧ Below w.heap.size w w' := by
  have hM : a.but b = if b.lo = b.hi then (a.butI b.lo).fit else some a := rfl
  obtain ⟨b1, b2, b3, b4⟩ := ob
  obtain ⟨hB, hs0, x0, x1, y2⟩ := boxes3 w (rcells a.lo a.hi a.bits a.opn) (rcells b.lo b.hi b.bits b.opn) (rcells 0 0 0 0)
  have cB := l2But_calls a b.lo oa b1
  obtain ⟨al, ah, ab, ao⟩ := a
  obtain ⟨bl, bh, bb, bo⟩ := b
  simp only at hM x0 x1 cB
  by_cases hn : bl = bh
  · rw [if_pos hn] at hM
    rw [← hM] at cB
    subst hn
    clear hM
    go_enter Try.func116, Try.ntmps116
    go_wp2_with fail
    refine (cB _).mono ?_
    rintro e w1 ⟨x, ok, rfl, hr, hb⟩
    have hB := bnext hB hb
    have z1 := hb.size
    have y2 := Below.keep hb y2
    have HM := Lib.hid hr
    clear hb hr x0 x1
    obtain ⟨th1, V1, hw1, y1, o1⟩ := rput4 y2 x.lo x.hi x.bits x.opn
    go_wp2_with ((with_reducible refine gate_store (p := 4) rfl ?_); go_loud (refine wpList_put rfl 80 _ _ rfl (w.heap.size + 1 + 1) 0 [.int .i64 x.lo, .int .i64 x.hi, .int .i64 x.bits, .int .i64 x.opn] rfl rfl th1.out (by kernel_rfl) rfl ?_; rw [hw1.out]))
    obtain ⟨q0, q1, q2, q3⟩ := rat y1
    refine bodyPost_ret (v := .tuple #[.agg #[.int .i64 x.lo, .int .i64 x.hi, .int .i64 x.bits, .int .i64 x.opn], .bool ok]) (by simp [results, Try.results116, go_sem, q0, q1, q2, q3]) rfl ⟨x, ok, rfl, HM.out, hB.trans (below_upon o1 (fun k hk => by omega) hB.size)⟩
  · rw [if_neg hn] at hM
    have hn' : ¬ (bl : Int) = (bh : Int) := by omega
    have HM : Hid ((⟨al, ah, ab, ao⟩ : Rg).but ⟨bl, bh, bb, bo⟩ = ifSome true ⟨al, ah, ab, ao⟩) := hM
    clear hM hn x0 x1 y2 cB hB
    go_enter Try.func116, Try.ntmps116
    go_wp2
    refine bodyPost_ret (v := .tuple #[.agg #[.int .i64 al, .int .i64 ah, .int .i64 ab, .int .i64 ao], .bool true]) (by simp [results, Try.results116, go_sem]) rfl ?_
    first | refine ⟨⟨al, ah, ab, ao⟩, true, rfl, HM.out, ?_⟩ | refine ⟨⟨al, ah, ab, ao⟩, .inr ⟨rfl, HM.out, ?_⟩⟩
    repeat (first | exact Below.refl _ _ | refine below_alloc' ?_ _)
set_option maxRecDepth 100000 in
set_option maxHeartbeats 6400000 in
theorem l2Meet_calls (a b : Rg) (oa : a.Ok) (ob : b.Ok) (w : World) :
    Calls Try.prog 115 #[.agg #[.int .i64 a.lo, .int .i64 a.hi, .int .i64 a.bits, .int .i64 a.opn], .agg #[.int .i64 b.lo, .int .i64 b.hi, .int .i64 b.bits, .int .i64 b.opn]] w fun e w' => ∃ (x : Rg) (ok : Bool), e = .returned (.tuple #[.agg #[.int .i64 x.lo, .int .i64 x.hi, .int .i64 x.bits, .int .i64 x.opn], .bool ok]) ∧ a.meet b = ifSome ok x ∧ Below w.heap.size w w' := by
  obtain ⟨a1, a2, a3, a4⟩ := oa.fits
  obtain ⟨b1, b2, b3, b4⟩ := ob.fits
  have da := oa.disj
  have db := ob.disj
  obtain ⟨al, ah, ab, ao⟩ := a
  obtain ⟨bl, bh, bb, bo⟩ := b
  clear oa ob
  simp only at a1 a2 a3 a4 b1 b2 b3 b4 da db
  have hM : Rg.meet ⟨al, ah, ab, ao⟩ ⟨bl, bh, bb, bo⟩ = if andNot (ab ^^^ bb) (ao ||| bo) = 0 then (⟨max (al : Int) bl, min (ah : Int) bh, ab ||| bb, ao &&& bo⟩ : RI).fit else none := rfl
  have hD : (ab ||| bb) &&& (ao &&& bo) = 0 := Nat.eq_of_testBit_eq fun j => by
    have e1 := disj da j
    have e2 := disj db j
    simp only [Nat.testBit_and, Nat.testBit_or, Nat.zero_testBit]
    revert e1 e2
    cases ab.testBit j <;> cases bb.testBit j <;> cases ao.testBit j <;> cases bo.testBit j <;> simp
  have t1 := top_xor a4
  have t2 := top_xor b4
  have hx : ab ^^^ bb < 2 ^ 32 := Nat.xor_lt_two_pow (by omega) (by omega)
  have e1 := xor_nat 4294967295 ao (by omega) (by omega)
  rw [show ((4294967295 : Nat) : Int) = 4294967295 by omega] at e1
  have e2 := xor_nat 4294967295 bo (by omega) (by omega)
  rw [show ((4294967295 : Nat) : Int) = 4294967295 by omega] at e2
  have e3 := xor_nat ab bb (by omega) (by omega)
  have e4 := and_nat (4294967295 ^^^ ao) (4294967295 ^^^ bo) (by omega) (by omega)
  have e5 := and_nat ((4294967295 ^^^ ao) &&& (4294967295 ^^^ bo)) (ab ^^^ bb) (Nat.lt_of_le_of_lt Nat.and_le_left (by omega)) (by omega)
  rw [andNot_or (by omega)] at e5
  have e6 := or_nat ab bb (by omega) (by omega)
  have e7 := and_nat ao bo (by omega) (by omega)
  have hBb : ab ||| bb ≤ 4294967295 := Nat.le_of_lt_succ (Nat.or_lt_two_pow (n := 32) (by omega) (by omega))
  have hOo : ao &&& bo ≤ 4294967295 := Nat.le_trans Nat.and_le_left a4
  generalize andNot (ab ^^^ bb) (ao ||| bo) = Q at *
  generalize (4294967295 ^^^ ao) &&& (4294967295 ^^^ bo) = AB at *
  generalize ab ^^^ bb = X at *
  generalize 4294967295 ^^^ ao = A' at *
  generalize 4294967295 ^^^ bo = B' at *
  generalize ab ||| bb = P at *
  generalize ao &&& bo = O at *
  clear da db
  by_cases hq : Q = 0
  · rw [if_pos hq] at hM
    rw [hq] at e5
    have e5 : bits .and .i64 (AB : Int) (X : Int) = 0 := e5
    clear hq
    by_cases c1 : (al : Int) < bl
    · have hX : max (al : Int) bl = bl := by omega
      rw [hX] at hM
      by_cases c2 : (bh : Int) < ah
      · have hY : min (ah : Int) bh = bh := by omega
        rw [hY] at hM
        clear hX hY
        by_cases hle : (bl : Int) ≤ (bh : Int)
        · obtain ⟨l, hl⟩ : ∃ l : Nat, (bl : Int) = l := ⟨((bl : Int)).toNat, by omega⟩
          obtain ⟨h, hh⟩ : ∃ h : Nat, (bh : Int) = h := ⟨((bh : Int)).toNat, by omega⟩
          have fl : (⟨l, h, P, O⟩ : Rg).fits32 := ⟨by simp only; omega, by simp only; omega, hBb, hOo⟩
          have hsb : RI.someB ⟨(bl : Int), (bh : Int), P, O⟩ = decide (0 ≤ Rg.least ⟨l, h, P, O⟩) := by
            rw [hl, hh]
            exact some_nat (by omega) (by omega) hBb hOo hD
          have cS : ∀ w, Calls Try.prog 134 #[.agg #[.int .i64 ((bl : Int)), .int .i64 ((bh : Int)), .int .i64 P, .int .i64 O]] w fun e w' => e = .returned (.bool (decide (0 ≤ Rg.least ⟨l, h, P, O⟩))) ∧ Below w.heap.size w w' := fun w => by
            rw [hl, hh]
            exact l2Some_calls ⟨l, h, P, O⟩ fl hD w
          have K1 := Lib.hid hl
          have K2 := Lib.hid hh
          cases hs : decide (0 ≤ Rg.least ⟨l, h, P, O⟩) with
          | false =>
            have HM : Hid (Rg.meet ⟨al, ah, ab, ao⟩ ⟨bl, bh, bb, bo⟩ = ifSome false Rg.no) := by show _ = _; rw [hM, RI.fit_no (hsb.trans hs)]; rfl
            rw [hs] at cS
            clear hM hs hsb hl hh
            obtain ⟨hB, hs0, x0, x1, y2⟩ := boxes3 w (rcells al ah ab ao) (rcells bl bh bb bo) (rcells 0 0 0 0)
            go_enter Try.func115, Try.ntmps115
            go_wp2_with fail
            obtain ⟨W0, hW0⟩ : ∃ W, ((w.alloc (.cells #[.int .i64 al, .int .i64 ah, .int .i64 ab, .int .i64 ao] 80)).alloc (.cells #[.int .i64 bl, .int .i64 bh, .int .i64 bb, .int .i64 bo] 80)).alloc (.cells #[.int .i64 0, .int .i64 0, .int .i64 0, .int .i64 0] 80) = W := ⟨_, rfl⟩
            rw [hW0]
            have hB : Below w.heap.size w W0 := hW0 ▸ hB
            have hs0 : W0.heap.size = w.heap.size + 3 := hW0 ▸ hs0
            have x0 : W0.heap[w.heap.size]? = some (rcells al ah ab ao) := hW0 ▸ x0
            have x1 : W0.heap[w.heap.size + 1]? = some (rcells bl bh bb bo) := hW0 ▸ x1
            have y2 : W0.heap[w.heap.size + 1 + 1]? = some (rcells 0 0 0 0) := hW0 ▸ y2
            clear hW0
            obtain ⟨q0, q1, q2, q3⟩ := rat x0
            obtain ⟨p0, p1, p2, p3⟩ := rat x1
            refine wp_region_quiet_lit (by kernel_rfl) (by kernel_rfl) ?_
            repeat (any_goals (first | go_big_quiet_step ((go_at_call 76; exact Calls.quiet_of_same (l2Top_calls _))) | quiet_step ((go_at_call 76; exact Calls.quiet_of_same (l2Top_calls _))) | (refine wpQuiet_step (fun K hK => ?_); go_simp; split <;> (refine hK _ ?_; clear hK K))))
            all_goals (refine wpQuiet_nil ?_; intro _ hw'; obtain ⟨nq, hw''⟩ := hw'; subst hw'')
            have hB : Below w.heap.size w (W0.drewN nq) := below_drewN' hB _
            have hs0 : (W0.drewN nq).heap.size = w.heap.size + 3 := hs0
            have x0 : (W0.drewN nq).heap[w.heap.size]? = some (rcells al ah ab ao) := x0
            have x1 : (W0.drewN nq).heap[w.heap.size + 1]? = some (rcells bl bh bb bo) := x1
            have y2 : (W0.drewN nq).heap[w.heap.size + 1 + 1]? = some (rcells 0 0 0 0) := y2
            generalize W0.drewN nq = W1 at *
            clear q0 q1 q2 q3 p0 p1 p2 p3
            obtain ⟨q0, q1, q2, q3⟩ := rat x0
            obtain ⟨p0, p1, p2, p3⟩ := rat x1
            go_wp2
            refine wp_region_quiet_lit (by kernel_rfl) (by kernel_rfl) ?_
            repeat (any_goals (first | go_big_quiet_step ((go_at_call 76; exact Calls.quiet_of_same (l2Top_calls _))) | quiet_step ((go_at_call 76; exact Calls.quiet_of_same (l2Top_calls _))) | (refine wpQuiet_step (fun K hK => ?_); go_simp; split <;> (refine hK _ ?_; clear hK K))))
            all_goals (refine wpQuiet_nil ?_; intro _ hw'; obtain ⟨nq, hw''⟩ := hw'; subst hw'')
            have hB : Below w.heap.size w (W1.drewN nq) := below_drewN' hB _
            have hs0 : (W1.drewN nq).heap.size = w.heap.size + 3 := hs0
            have x0 : (W1.drewN nq).heap[w.heap.size]? = some (rcells al ah ab ao) := x0
            have x1 : (W1.drewN nq).heap[w.heap.size + 1]? = some (rcells bl bh bb bo) := x1
            have y2 : (W1.drewN nq).heap[w.heap.size + 1 + 1]? = some (rcells 0 0 0 0) := y2
            generalize W1.drewN nq = W at *
            clear q0 q1 q2 q3 p0 p1 p2 p3
            have hb0 := below_alloc' (Below.refl W.heap.size W) (rcells ((bl : Int)) ((bh : Int)) P O)
            have xr : (W.alloc (rcells ((bl : Int)) ((bh : Int)) P O)).heap[w.heap.size + 3]? = some (rcells ((bl : Int)) ((bh : Int)) P O) := hs0 ▸ alloc_at' W _
            obtain ⟨q0, q1, q2, q3⟩ := rat x0
            obtain ⟨p0, p1, p2, p3⟩ := rat x1
            have hB := bnext hB hb0
            have y2 := Below.keep hb0 y2
            have hs1 := alloc_size W (rcells ((bl : Int)) ((bh : Int)) P O)
            obtain ⟨r0, r1, r2, r3⟩ := rat (alloc_keep (.cells #[.int .i64 (bl : Int), .int .i64 (bh : Int), .int .i64 P, .int .i64 O] 80) x1)
            clear hb0
            go_wp2_with fail
            refine (cS _).mono ?_
            rintro e w2 ⟨rfl, hb⟩
            have hB := bnext hB hb
            have z1 := hb.size
            have y2 := Below.keep hb y2
            clear hb 
            obtain ⟨th1, V1, hw1, y1, o1⟩ := rput4 y2 1 0 0 0
            go_wp2_with ((with_reducible refine gate_store (p := 4) rfl ?_); go_loud (refine wpList_put rfl 80 _ _ rfl (w.heap.size + 1 + 1) 0 [.int .i64 1, .int .i64 0, .int .i64 0, .int .i64 0] rfl rfl th1.out (by kernel_rfl) rfl ?_; rw [hw1.out]))
            obtain ⟨q0, q1, q2, q3⟩ := rat y1
            refine bodyPost_ret (v := .tuple #[.agg #[.int .i64 1, .int .i64 0, .int .i64 0, .int .i64 0], .bool false]) (by simp [results, Try.results115, go_sem, q0, q1, q2, q3]) rfl ⟨Rg.no, false, rfl, HM.out, hB.trans (below_upon o1 (fun k hk => by omega) hB.size)⟩
          | true =>
            have HM : Hid (Rg.meet ⟨al, ah, ab, ao⟩ ⟨bl, bh, bb, bo⟩ = ifSome true (⟨l, h, P, O⟩ : Rg).tidy) := by
              show _ = _
              rw [hM, RI.fit_yes (hsb.trans hs)]
              simp only [RI.nat, hl, hh, Int.toNat_natCast]
              rfl
            rw [hs] at cS
            have cT := l2Tidy_calls ⟨l, h, P, O⟩ fl
            clear hM hs hsb hl hh
            obtain ⟨hB, hs0, x0, x1, y2⟩ := boxes3 w (rcells al ah ab ao) (rcells bl bh bb bo) (rcells 0 0 0 0)
            go_enter Try.func115, Try.ntmps115
            go_wp2_with fail
            obtain ⟨W0, hW0⟩ : ∃ W, ((w.alloc (.cells #[.int .i64 al, .int .i64 ah, .int .i64 ab, .int .i64 ao] 80)).alloc (.cells #[.int .i64 bl, .int .i64 bh, .int .i64 bb, .int .i64 bo] 80)).alloc (.cells #[.int .i64 0, .int .i64 0, .int .i64 0, .int .i64 0] 80) = W := ⟨_, rfl⟩
            rw [hW0]
            have hB : Below w.heap.size w W0 := hW0 ▸ hB
            have hs0 : W0.heap.size = w.heap.size + 3 := hW0 ▸ hs0
            have x0 : W0.heap[w.heap.size]? = some (rcells al ah ab ao) := hW0 ▸ x0
            have x1 : W0.heap[w.heap.size + 1]? = some (rcells bl bh bb bo) := hW0 ▸ x1
            have y2 : W0.heap[w.heap.size + 1 + 1]? = some (rcells 0 0 0 0) := hW0 ▸ y2
            clear hW0
            obtain ⟨q0, q1, q2, q3⟩ := rat x0
            obtain ⟨p0, p1, p2, p3⟩ := rat x1
            refine wp_region_quiet_lit (by kernel_rfl) (by kernel_rfl) ?_
            repeat (any_goals (first | go_big_quiet_step ((go_at_call 76; exact Calls.quiet_of_same (l2Top_calls _))) | quiet_step ((go_at_call 76; exact Calls.quiet_of_same (l2Top_calls _))) | (refine wpQuiet_step (fun K hK => ?_); go_simp; split <;> (refine hK _ ?_; clear hK K))))
            all_goals (refine wpQuiet_nil ?_; intro _ hw'; obtain ⟨nq, hw''⟩ := hw'; subst hw'')
            have hB : Below w.heap.size w (W0.drewN nq) := below_drewN' hB _
            have hs0 : (W0.drewN nq).heap.size = w.heap.size + 3 := hs0
            have x0 : (W0.drewN nq).heap[w.heap.size]? = some (rcells al ah ab ao) := x0
            have x1 : (W0.drewN nq).heap[w.heap.size + 1]? = some (rcells bl bh bb bo) := x1
            have y2 : (W0.drewN nq).heap[w.heap.size + 1 + 1]? = some (rcells 0 0 0 0) := y2
            generalize W0.drewN nq = W1 at *
            clear q0 q1 q2 q3 p0 p1 p2 p3
            obtain ⟨q0, q1, q2, q3⟩ := rat x0
            obtain ⟨p0, p1, p2, p3⟩ := rat x1
            go_wp2
            refine wp_region_quiet_lit (by kernel_rfl) (by kernel_rfl) ?_
            repeat (any_goals (first | go_big_quiet_step ((go_at_call 76; exact Calls.quiet_of_same (l2Top_calls _))) | quiet_step ((go_at_call 76; exact Calls.quiet_of_same (l2Top_calls _))) | (refine wpQuiet_step (fun K hK => ?_); go_simp; split <;> (refine hK _ ?_; clear hK K))))
            all_goals (refine wpQuiet_nil ?_; intro _ hw'; obtain ⟨nq, hw''⟩ := hw'; subst hw'')
            have hB : Below w.heap.size w (W1.drewN nq) := below_drewN' hB _
            have hs0 : (W1.drewN nq).heap.size = w.heap.size + 3 := hs0
            have x0 : (W1.drewN nq).heap[w.heap.size]? = some (rcells al ah ab ao) := x0
            have x1 : (W1.drewN nq).heap[w.heap.size + 1]? = some (rcells bl bh bb bo) := x1
            have y2 : (W1.drewN nq).heap[w.heap.size + 1 + 1]? = some (rcells 0 0 0 0) := y2
            generalize W1.drewN nq = W at *
            clear q0 q1 q2 q3 p0 p1 p2 p3
            have hb0 := below_alloc' (Below.refl W.heap.size W) (rcells ((bl : Int)) ((bh : Int)) P O)
            have xr : (W.alloc (rcells ((bl : Int)) ((bh : Int)) P O)).heap[w.heap.size + 3]? = some (rcells ((bl : Int)) ((bh : Int)) P O) := hs0 ▸ alloc_at' W _
            obtain ⟨q0, q1, q2, q3⟩ := rat x0
            obtain ⟨p0, p1, p2, p3⟩ := rat x1
            have hB := bnext hB hb0
            have y2 := Below.keep hb0 y2
            have hs1 := alloc_size W (rcells ((bl : Int)) ((bh : Int)) P O)
            obtain ⟨r0, r1, r2, r3⟩ := rat (alloc_keep (.cells #[.int .i64 (bl : Int), .int .i64 (bh : Int), .int .i64 P, .int .i64 O] 80) x1)
            clear hb0
            go_wp2_with fail
            refine (cS _).mono ?_
            rintro e w2 ⟨rfl, hb⟩
            have hB := bnext hB hb
            have z1 := hb.size
            have y2 := Below.keep hb y2
            obtain ⟨q0, q1, q2, q3⟩ := rat (Below.keep hb xr)
            rw [K1.out] at q0
            rw [K2.out] at q1
            clear hb cS 
            go_wp2_with fail
            refine (cT _).mono ?_
            rintro e w3 ⟨rfl, hb⟩
            have hB := bnext hB hb
            have z2 := hb.size
            have y2 := Below.keep hb y2
            generalize (⟨l, h, P, O⟩ : Rg).tidy = t at *
            clear hb q0 q1 q2 q3
            obtain ⟨th1, V1, hw1, y1, o1⟩ := rput4 y2 t.lo t.hi t.bits t.opn
            go_wp2_with ((with_reducible refine gate_store (p := 4) rfl ?_); go_loud (refine wpList_put rfl 80 _ _ rfl (w.heap.size + 1 + 1) 0 [.int .i64 t.lo, .int .i64 t.hi, .int .i64 t.bits, .int .i64 t.opn] rfl rfl th1.out (by kernel_rfl) rfl ?_; rw [hw1.out]))
            obtain ⟨q0, q1, q2, q3⟩ := rat y1
            refine bodyPost_ret (v := .tuple #[.agg #[.int .i64 t.lo, .int .i64 t.hi, .int .i64 t.bits, .int .i64 t.opn], .bool true]) (by simp [results, Try.results115, go_sem, q0, q1, q2, q3]) rfl ⟨t, true, rfl, HM.out, hB.trans (below_upon o1 (fun k hk => by omega) hB.size)⟩
        · have HM : Hid (Rg.meet ⟨al, ah, ab, ao⟩ ⟨bl, bh, bb, bo⟩ = ifSome false Rg.no) := by show _ = _; rw [hM, RI.fit_no (some_not hle)]; rfl
          have hle' : (bh : Int) < (bl : Int) := by omega
          clear hM hle
          obtain ⟨hB, hs0, x0, x1, y2⟩ := boxes3 w (rcells al ah ab ao) (rcells bl bh bb bo) (rcells 0 0 0 0)
          go_enter Try.func115, Try.ntmps115
          go_wp2_with fail
          obtain ⟨W0, hW0⟩ : ∃ W, ((w.alloc (.cells #[.int .i64 al, .int .i64 ah, .int .i64 ab, .int .i64 ao] 80)).alloc (.cells #[.int .i64 bl, .int .i64 bh, .int .i64 bb, .int .i64 bo] 80)).alloc (.cells #[.int .i64 0, .int .i64 0, .int .i64 0, .int .i64 0] 80) = W := ⟨_, rfl⟩
          rw [hW0]
          have hB : Below w.heap.size w W0 := hW0 ▸ hB
          have hs0 : W0.heap.size = w.heap.size + 3 := hW0 ▸ hs0
          have x0 : W0.heap[w.heap.size]? = some (rcells al ah ab ao) := hW0 ▸ x0
          have x1 : W0.heap[w.heap.size + 1]? = some (rcells bl bh bb bo) := hW0 ▸ x1
          have y2 : W0.heap[w.heap.size + 1 + 1]? = some (rcells 0 0 0 0) := hW0 ▸ y2
          clear hW0
          obtain ⟨q0, q1, q2, q3⟩ := rat x0
          obtain ⟨p0, p1, p2, p3⟩ := rat x1
          refine wp_region_quiet_lit (by kernel_rfl) (by kernel_rfl) ?_
          repeat (any_goals (first | go_big_quiet_step ((go_at_call 76; exact Calls.quiet_of_same (l2Top_calls _))) | quiet_step ((go_at_call 76; exact Calls.quiet_of_same (l2Top_calls _))) | (refine wpQuiet_step (fun K hK => ?_); go_simp; split <;> (refine hK _ ?_; clear hK K))))
          all_goals (refine wpQuiet_nil ?_; intro _ hw'; obtain ⟨nq, hw''⟩ := hw'; subst hw'')
          have hB : Below w.heap.size w (W0.drewN nq) := below_drewN' hB _
          have hs0 : (W0.drewN nq).heap.size = w.heap.size + 3 := hs0
          have x0 : (W0.drewN nq).heap[w.heap.size]? = some (rcells al ah ab ao) := x0
          have x1 : (W0.drewN nq).heap[w.heap.size + 1]? = some (rcells bl bh bb bo) := x1
          have y2 : (W0.drewN nq).heap[w.heap.size + 1 + 1]? = some (rcells 0 0 0 0) := y2
          generalize W0.drewN nq = W1 at *
          clear q0 q1 q2 q3 p0 p1 p2 p3
          obtain ⟨q0, q1, q2, q3⟩ := rat x0
          obtain ⟨p0, p1, p2, p3⟩ := rat x1
          go_wp2
          refine wp_region_quiet_lit (by kernel_rfl) (by kernel_rfl) ?_
          repeat (any_goals (first | go_big_quiet_step ((go_at_call 76; exact Calls.quiet_of_same (l2Top_calls _))) | quiet_step ((go_at_call 76; exact Calls.quiet_of_same (l2Top_calls _))) | (refine wpQuiet_step (fun K hK => ?_); go_simp; split <;> (refine hK _ ?_; clear hK K))))
          all_goals (refine wpQuiet_nil ?_; intro _ hw'; obtain ⟨nq, hw''⟩ := hw'; subst hw'')
          have hB : Below w.heap.size w (W1.drewN nq) := below_drewN' hB _
          have hs0 : (W1.drewN nq).heap.size = w.heap.size + 3 := hs0
          have x0 : (W1.drewN nq).heap[w.heap.size]? = some (rcells al ah ab ao) := x0
          have x1 : (W1.drewN nq).heap[w.heap.size + 1]? = some (rcells bl bh bb bo) := x1
          have y2 : (W1.drewN nq).heap[w.heap.size + 1 + 1]? = some (rcells 0 0 0 0) := y2
          generalize W1.drewN nq = W at *
          clear q0 q1 q2 q3 p0 p1 p2 p3
          have hb0 := below_alloc' (Below.refl W.heap.size W) (.cells #[.int .i64 (bl : Int), .int .i64 (bh : Int), .int .i64 P, .int .i64 O] 80)
          obtain ⟨q0, q1, q2, q3⟩ := rat x0
          obtain ⟨p0, p1, p2, p3⟩ := rat x1
          have hB := bnext hB hb0
          have y2 := Below.keep hb0 y2
          obtain ⟨r0, r1, r2, r3⟩ := rat (alloc_keep (.cells #[.int .i64 (bl : Int), .int .i64 (bh : Int), .int .i64 P, .int .i64 O] 80) x1)
          clear hb0
          obtain ⟨th1, V1, hw1, y1, o1⟩ := rput4 y2 1 0 0 0
          go_wp2_with ((with_reducible refine gate_store (p := 4) rfl ?_); go_loud (refine wpList_put rfl 80 _ _ rfl (w.heap.size + 1 + 1) 0 [.int .i64 1, .int .i64 0, .int .i64 0, .int .i64 0] rfl rfl th1.out (by kernel_rfl) rfl ?_; rw [hw1.out]))
          obtain ⟨g0, g1, g2, g3⟩ := rat y1
          refine bodyPost_ret (v := .tuple #[.agg #[.int .i64 1, .int .i64 0, .int .i64 0, .int .i64 0], .bool false]) (by simp [results, Try.results115, go_sem, g0, g1, g2, g3]) rfl ?_
          have hB := hB.trans (below_upon o1 (fun k hk => by omega) hB.size)
          first | exact ⟨Rg.no, false, rfl, HM.out, hB⟩ | exact ⟨Rg.no, .inl ⟨rfl, HM.out, hB⟩⟩
      · have hY : min (ah : Int) bh = ah := by omega
        rw [hY] at hM
        clear hX hY
        by_cases hle : (bl : Int) ≤ (ah : Int)
        · obtain ⟨l, hl⟩ : ∃ l : Nat, (bl : Int) = l := ⟨((bl : Int)).toNat, by omega⟩
          obtain ⟨h, hh⟩ : ∃ h : Nat, (ah : Int) = h := ⟨((ah : Int)).toNat, by omega⟩
          have fl : (⟨l, h, P, O⟩ : Rg).fits32 := ⟨by simp only; omega, by simp only; omega, hBb, hOo⟩
          have hsb : RI.someB ⟨(bl : Int), (ah : Int), P, O⟩ = decide (0 ≤ Rg.least ⟨l, h, P, O⟩) := by
            rw [hl, hh]
            exact some_nat (by omega) (by omega) hBb hOo hD
          have cS : ∀ w, Calls Try.prog 134 #[.agg #[.int .i64 ((bl : Int)), .int .i64 ((ah : Int)), .int .i64 P, .int .i64 O]] w fun e w' => e = .returned (.bool (decide (0 ≤ Rg.least ⟨l, h, P, O⟩))) ∧ Below w.heap.size w w' := fun w => by
            rw [hl, hh]
            exact l2Some_calls ⟨l, h, P, O⟩ fl hD w
          have K1 := Lib.hid hl
          have K2 := Lib.hid hh
          cases hs : decide (0 ≤ Rg.least ⟨l, h, P, O⟩) with
          | false =>
            have HM : Hid (Rg.meet ⟨al, ah, ab, ao⟩ ⟨bl, bh, bb, bo⟩ = ifSome false Rg.no) := by show _ = _; rw [hM, RI.fit_no (hsb.trans hs)]; rfl
            rw [hs] at cS
            clear hM hs hsb hl hh
            obtain ⟨hB, hs0, x0, x1, y2⟩ := boxes3 w (rcells al ah ab ao) (rcells bl bh bb bo) (rcells 0 0 0 0)
            go_enter Try.func115, Try.ntmps115
            go_wp2_with fail
            obtain ⟨W0, hW0⟩ : ∃ W, ((w.alloc (.cells #[.int .i64 al, .int .i64 ah, .int .i64 ab, .int .i64 ao] 80)).alloc (.cells #[.int .i64 bl, .int .i64 bh, .int .i64 bb, .int .i64 bo] 80)).alloc (.cells #[.int .i64 0, .int .i64 0, .int .i64 0, .int .i64 0] 80) = W := ⟨_, rfl⟩
            rw [hW0]
            have hB : Below w.heap.size w W0 := hW0 ▸ hB
            have hs0 : W0.heap.size = w.heap.size + 3 := hW0 ▸ hs0
            have x0 : W0.heap[w.heap.size]? = some (rcells al ah ab ao) := hW0 ▸ x0
            have x1 : W0.heap[w.heap.size + 1]? = some (rcells bl bh bb bo) := hW0 ▸ x1
            have y2 : W0.heap[w.heap.size + 1 + 1]? = some (rcells 0 0 0 0) := hW0 ▸ y2
            clear hW0
            obtain ⟨q0, q1, q2, q3⟩ := rat x0
            obtain ⟨p0, p1, p2, p3⟩ := rat x1
            refine wp_region_quiet_lit (by kernel_rfl) (by kernel_rfl) ?_
            repeat (any_goals (first | go_big_quiet_step ((go_at_call 76; exact Calls.quiet_of_same (l2Top_calls _))) | quiet_step ((go_at_call 76; exact Calls.quiet_of_same (l2Top_calls _))) | (refine wpQuiet_step (fun K hK => ?_); go_simp; split <;> (refine hK _ ?_; clear hK K))))
            all_goals (refine wpQuiet_nil ?_; intro _ hw'; obtain ⟨nq, hw''⟩ := hw'; subst hw'')
            have hB : Below w.heap.size w (W0.drewN nq) := below_drewN' hB _
            have hs0 : (W0.drewN nq).heap.size = w.heap.size + 3 := hs0
            have x0 : (W0.drewN nq).heap[w.heap.size]? = some (rcells al ah ab ao) := x0
            have x1 : (W0.drewN nq).heap[w.heap.size + 1]? = some (rcells bl bh bb bo) := x1
            have y2 : (W0.drewN nq).heap[w.heap.size + 1 + 1]? = some (rcells 0 0 0 0) := y2
            generalize W0.drewN nq = W1 at *
            clear q0 q1 q2 q3 p0 p1 p2 p3
            obtain ⟨q0, q1, q2, q3⟩ := rat x0
            obtain ⟨p0, p1, p2, p3⟩ := rat x1
            go_wp2
            refine wp_region_quiet_lit (by kernel_rfl) (by kernel_rfl) ?_
            repeat (any_goals (first | go_big_quiet_step ((go_at_call 76; exact Calls.quiet_of_same (l2Top_calls _))) | quiet_step ((go_at_call 76; exact Calls.quiet_of_same (l2Top_calls _))) | (refine wpQuiet_step (fun K hK => ?_); go_simp; split <;> (refine hK _ ?_; clear hK K))))
            all_goals (refine wpQuiet_nil ?_; intro _ hw'; obtain ⟨nq, hw''⟩ := hw'; subst hw'')
            have hB : Below w.heap.size w (W1.drewN nq) := below_drewN' hB _
            have hs0 : (W1.drewN nq).heap.size = w.heap.size + 3 := hs0
            have x0 : (W1.drewN nq).heap[w.heap.size]? = some (rcells al ah ab ao) := x0
            have x1 : (W1.drewN nq).heap[w.heap.size + 1]? = some (rcells bl bh bb bo) := x1
            have y2 : (W1.drewN nq).heap[w.heap.size + 1 + 1]? = some (rcells 0 0 0 0) := y2
            generalize W1.drewN nq = W at *
            clear q0 q1 q2 q3 p0 p1 p2 p3
            have hb0 := below_alloc' (Below.refl W.heap.size W) (rcells ((bl : Int)) ((ah : Int)) P O)
            have xr : (W.alloc (rcells ((bl : Int)) ((ah : Int)) P O)).heap[w.heap.size + 3]? = some (rcells ((bl : Int)) ((ah : Int)) P O) := hs0 ▸ alloc_at' W _
            obtain ⟨q0, q1, q2, q3⟩ := rat x0
            obtain ⟨p0, p1, p2, p3⟩ := rat x1
            have hB := bnext hB hb0
            have y2 := Below.keep hb0 y2
            have hs1 := alloc_size W (rcells ((bl : Int)) ((ah : Int)) P O)
            obtain ⟨r0, r1, r2, r3⟩ := rat (alloc_keep (.cells #[.int .i64 (bl : Int), .int .i64 (ah : Int), .int .i64 P, .int .i64 O] 80) x1)
            clear hb0
            go_wp2_with fail
            refine (cS _).mono ?_
            rintro e w2 ⟨rfl, hb⟩
            have hB := bnext hB hb
            have z1 := hb.size
            have y2 := Below.keep hb y2
            clear hb 
            obtain ⟨th1, V1, hw1, y1, o1⟩ := rput4 y2 1 0 0 0
            go_wp2_with ((with_reducible refine gate_store (p := 4) rfl ?_); go_loud (refine wpList_put rfl 80 _ _ rfl (w.heap.size + 1 + 1) 0 [.int .i64 1, .int .i64 0, .int .i64 0, .int .i64 0] rfl rfl th1.out (by kernel_rfl) rfl ?_; rw [hw1.out]))
            obtain ⟨q0, q1, q2, q3⟩ := rat y1
            refine bodyPost_ret (v := .tuple #[.agg #[.int .i64 1, .int .i64 0, .int .i64 0, .int .i64 0], .bool false]) (by simp [results, Try.results115, go_sem, q0, q1, q2, q3]) rfl ⟨Rg.no, false, rfl, HM.out, hB.trans (below_upon o1 (fun k hk => by omega) hB.size)⟩
          | true =>
            have HM : Hid (Rg.meet ⟨al, ah, ab, ao⟩ ⟨bl, bh, bb, bo⟩ = ifSome true (⟨l, h, P, O⟩ : Rg).tidy) := by
              show _ = _
              rw [hM, RI.fit_yes (hsb.trans hs)]
              simp only [RI.nat, hl, hh, Int.toNat_natCast]
              rfl
            rw [hs] at cS
            have cT := l2Tidy_calls ⟨l, h, P, O⟩ fl
            clear hM hs hsb hl hh
            obtain ⟨hB, hs0, x0, x1, y2⟩ := boxes3 w (rcells al ah ab ao) (rcells bl bh bb bo) (rcells 0 0 0 0)
            go_enter Try.func115, Try.ntmps115
            go_wp2_with fail
            obtain ⟨W0, hW0⟩ : ∃ W, ((w.alloc (.cells #[.int .i64 al, .int .i64 ah, .int .i64 ab, .int .i64 ao] 80)).alloc (.cells #[.int .i64 bl, .int .i64 bh, .int .i64 bb, .int .i64 bo] 80)).alloc (.cells #[.int .i64 0, .int .i64 0, .int .i64 0, .int .i64 0] 80) = W := ⟨_, rfl⟩
            rw [hW0]
            have hB : Below w.heap.size w W0 := hW0 ▸ hB
            have hs0 : W0.heap.size = w.heap.size + 3 := hW0 ▸ hs0
            have x0 : W0.heap[w.heap.size]? = some (rcells al ah ab ao) := hW0 ▸ x0
            have x1 : W0.heap[w.heap.size + 1]? = some (rcells bl bh bb bo) := hW0 ▸ x1
            have y2 : W0.heap[w.heap.size + 1 + 1]? = some (rcells 0 0 0 0) := hW0 ▸ y2
            clear hW0
            obtain ⟨q0, q1, q2, q3⟩ := rat x0
            obtain ⟨p0, p1, p2, p3⟩ := rat x1
            refine wp_region_quiet_lit (by kernel_rfl) (by kernel_rfl) ?_
            repeat (any_goals (first | go_big_quiet_step ((go_at_call 76; exact Calls.quiet_of_same (l2Top_calls _))) | quiet_step ((go_at_call 76; exact Calls.quiet_of_same (l2Top_calls _))) | (refine wpQuiet_step (fun K hK => ?_); go_simp; split <;> (refine hK _ ?_; clear hK K))))
            all_goals (refine wpQuiet_nil ?_; intro _ hw'; obtain ⟨nq, hw''⟩ := hw'; subst hw'')
            have hB : Below w.heap.size w (W0.drewN nq) := below_drewN' hB _
            have hs0 : (W0.drewN nq).heap.size = w.heap.size + 3 := hs0
            have x0 : (W0.drewN nq).heap[w.heap.size]? = some (rcells al ah ab ao) := x0
            have x1 : (W0.drewN nq).heap[w.heap.size + 1]? = some (rcells bl bh bb bo) := x1
            have y2 : (W0.drewN nq).heap[w.heap.size + 1 + 1]? = some (rcells 0 0 0 0) := y2
            generalize W0.drewN nq = W1 at *
            clear q0 q1 q2 q3 p0 p1 p2 p3
            obtain ⟨q0, q1, q2, q3⟩ := rat x0
            obtain ⟨p0, p1, p2, p3⟩ := rat x1
            go_wp2
            refine wp_region_quiet_lit (by kernel_rfl) (by kernel_rfl) ?_
            repeat (any_goals (first | go_big_quiet_step ((go_at_call 76; exact Calls.quiet_of_same (l2Top_calls _))) | quiet_step ((go_at_call 76; exact Calls.quiet_of_same (l2Top_calls _))) | (refine wpQuiet_step (fun K hK => ?_); go_simp; split <;> (refine hK _ ?_; clear hK K))))
            all_goals (refine wpQuiet_nil ?_; intro _ hw'; obtain ⟨nq, hw''⟩ := hw'; subst hw'')
            have hB : Below w.heap.size w (W1.drewN nq) := below_drewN' hB _
            have hs0 : (W1.drewN nq).heap.size = w.heap.size + 3 := hs0
            have x0 : (W1.drewN nq).heap[w.heap.size]? = some (rcells al ah ab ao) := x0
            have x1 : (W1.drewN nq).heap[w.heap.size + 1]? = some (rcells bl bh bb bo) := x1
            have y2 : (W1.drewN nq).heap[w.heap.size + 1 + 1]? = some (rcells 0 0 0 0) := y2
            generalize W1.drewN nq = W at *
            clear q0 q1 q2 q3 p0 p1 p2 p3
            have hb0 := below_alloc' (Below.refl W.heap.size W) (rcells ((bl : Int)) ((ah : Int)) P O)
            have xr : (W.alloc (rcells ((bl : Int)) ((ah : Int)) P O)).heap[w.heap.size + 3]? = some (rcells ((bl : Int)) ((ah : Int)) P O) := hs0 ▸ alloc_at' W _
            obtain ⟨q0, q1, q2, q3⟩ := rat x0
            obtain ⟨p0, p1, p2, p3⟩ := rat x1
            have hB := bnext hB hb0
            have y2 := Below.keep hb0 y2
            have hs1 := alloc_size W (rcells ((bl : Int)) ((ah : Int)) P O)
            obtain ⟨r0, r1, r2, r3⟩ := rat (alloc_keep (.cells #[.int .i64 (bl : Int), .int .i64 (ah : Int), .int .i64 P, .int .i64 O] 80) x1)
            clear hb0
            go_wp2_with fail
            refine (cS _).mono ?_
            rintro e w2 ⟨rfl, hb⟩
            have hB := bnext hB hb
            have z1 := hb.size
            have y2 := Below.keep hb y2
            obtain ⟨q0, q1, q2, q3⟩ := rat (Below.keep hb xr)
            rw [K1.out] at q0
            rw [K2.out] at q1
            clear hb cS 
            go_wp2_with fail
            refine (cT _).mono ?_
            rintro e w3 ⟨rfl, hb⟩
            have hB := bnext hB hb
            have z2 := hb.size
            have y2 := Below.keep hb y2
            generalize (⟨l, h, P, O⟩ : Rg).tidy = t at *
            clear hb q0 q1 q2 q3
            obtain ⟨th1, V1, hw1, y1, o1⟩ := rput4 y2 t.lo t.hi t.bits t.opn
            go_wp2_with ((with_reducible refine gate_store (p := 4) rfl ?_); go_loud (refine wpList_put rfl 80 _ _ rfl (w.heap.size + 1 + 1) 0 [.int .i64 t.lo, .int .i64 t.hi, .int .i64 t.bits, .int .i64 t.opn] rfl rfl th1.out (by kernel_rfl) rfl ?_; rw [hw1.out]))
            obtain ⟨q0, q1, q2, q3⟩ := rat y1
            refine bodyPost_ret (v := .tuple #[.agg #[.int .i64 t.lo, .int .i64 t.hi, .int .i64 t.bits, .int .i64 t.opn], .bool true]) (by simp [results, Try.results115, go_sem, q0, q1, q2, q3]) rfl ⟨t, true, rfl, HM.out, hB.trans (below_upon o1 (fun k hk => by omega) hB.size)⟩
        · have HM : Hid (Rg.meet ⟨al, ah, ab, ao⟩ ⟨bl, bh, bb, bo⟩ = ifSome false Rg.no) := by show _ = _; rw [hM, RI.fit_no (some_not hle)]; rfl
          have hle' : (ah : Int) < (bl : Int) := by omega
          clear hM hle
          obtain ⟨hB, hs0, x0, x1, y2⟩ := boxes3 w (rcells al ah ab ao) (rcells bl bh bb bo) (rcells 0 0 0 0)
          go_enter Try.func115, Try.ntmps115
          go_wp2_with fail
          obtain ⟨W0, hW0⟩ : ∃ W, ((w.alloc (.cells #[.int .i64 al, .int .i64 ah, .int .i64 ab, .int .i64 ao] 80)).alloc (.cells #[.int .i64 bl, .int .i64 bh, .int .i64 bb, .int .i64 bo] 80)).alloc (.cells #[.int .i64 0, .int .i64 0, .int .i64 0, .int .i64 0] 80) = W := ⟨_, rfl⟩
          rw [hW0]
          have hB : Below w.heap.size w W0 := hW0 ▸ hB
          have hs0 : W0.heap.size = w.heap.size + 3 := hW0 ▸ hs0
          have x0 : W0.heap[w.heap.size]? = some (rcells al ah ab ao) := hW0 ▸ x0
          have x1 : W0.heap[w.heap.size + 1]? = some (rcells bl bh bb bo) := hW0 ▸ x1
          have y2 : W0.heap[w.heap.size + 1 + 1]? = some (rcells 0 0 0 0) := hW0 ▸ y2
          clear hW0
          obtain ⟨q0, q1, q2, q3⟩ := rat x0
          obtain ⟨p0, p1, p2, p3⟩ := rat x1
          refine wp_region_quiet_lit (by kernel_rfl) (by kernel_rfl) ?_
          repeat (any_goals (first | go_big_quiet_step ((go_at_call 76; exact Calls.quiet_of_same (l2Top_calls _))) | quiet_step ((go_at_call 76; exact Calls.quiet_of_same (l2Top_calls _))) | (refine wpQuiet_step (fun K hK => ?_); go_simp; split <;> (refine hK _ ?_; clear hK K))))
          all_goals (refine wpQuiet_nil ?_; intro _ hw'; obtain ⟨nq, hw''⟩ := hw'; subst hw'')
          have hB : Below w.heap.size w (W0.drewN nq) := below_drewN' hB _
          have hs0 : (W0.drewN nq).heap.size = w.heap.size + 3 := hs0
          have x0 : (W0.drewN nq).heap[w.heap.size]? = some (rcells al ah ab ao) := x0
          have x1 : (W0.drewN nq).heap[w.heap.size + 1]? = some (rcells bl bh bb bo) := x1
          have y2 : (W0.drewN nq).heap[w.heap.size + 1 + 1]? = some (rcells 0 0 0 0) := y2
          generalize W0.drewN nq = W1 at *
          clear q0 q1 q2 q3 p0 p1 p2 p3
          obtain ⟨q0, q1, q2, q3⟩ := rat x0
          obtain ⟨p0, p1, p2, p3⟩ := rat x1
          go_wp2
          refine wp_region_quiet_lit (by kernel_rfl) (by kernel_rfl) ?_
          repeat (any_goals (first | go_big_quiet_step ((go_at_call 76; exact Calls.quiet_of_same (l2Top_calls _))) | quiet_step ((go_at_call 76; exact Calls.quiet_of_same (l2Top_calls _))) | (refine wpQuiet_step (fun K hK => ?_); go_simp; split <;> (refine hK _ ?_; clear hK K))))
          all_goals (refine wpQuiet_nil ?_; intro _ hw'; obtain ⟨nq, hw''⟩ := hw'; subst hw'')
          have hB : Below w.heap.size w (W1.drewN nq) := below_drewN' hB _
          have hs0 : (W1.drewN nq).heap.size = w.heap.size + 3 := hs0
          have x0 : (W1.drewN nq).heap[w.heap.size]? = some (rcells al ah ab ao) := x0
          have x1 : (W1.drewN nq).heap[w.heap.size + 1]? = some (rcells bl bh bb bo) := x1
          have y2 : (W1.drewN nq).heap[w.heap.size + 1 + 1]? = some (rcells 0 0 0 0) := y2
          generalize W1.drewN nq = W at *
          clear q0 q1 q2 q3 p0 p1 p2 p3
          have hb0 := below_alloc' (Below.refl W.heap.size W) (.cells #[.int .i64 (bl : Int), .int .i64 (ah : Int), .int .i64 P, .int .i64 O] 80)
          obtain ⟨q0, q1, q2, q3⟩ := rat x0
          obtain ⟨p0, p1, p2, p3⟩ := rat x1
          have hB := bnext hB hb0
          have y2 := Below.keep hb0 y2
          obtain ⟨r0, r1, r2, r3⟩ := rat (alloc_keep (.cells #[.int .i64 (bl : Int), .int .i64 (ah : Int), .int .i64 P, .int .i64 O] 80) x1)
          clear hb0
          obtain ⟨th1, V1, hw1, y1, o1⟩ := rput4 y2 1 0 0 0
          go_wp2_with ((with_reducible refine gate_store (p := 4) rfl ?_); go_loud (refine wpList_put rfl 80 _ _ rfl (w.heap.size + 1 + 1) 0 [.int .i64 1, .int .i64 0, .int .i64 0, .int .i64 0] rfl rfl th1.out (by kernel_rfl) rfl ?_; rw [hw1.out]))
          obtain ⟨g0, g1, g2, g3⟩ := rat y1
          refine bodyPost_ret (v := .tuple #[.agg #[.int .i64 1, .int .i64 0, .int .i64 0, .int .i64 0], .bool false]) (by simp [results, Try.results115, go_sem, g0, g1, g2, g3]) rfl ?_
          have hB := hB.trans (below_upon o1 (fun k hk => by omega) hB.size)
          first | exact ⟨Rg.no, false, rfl, HM.out, hB⟩ | exact ⟨Rg.no, .inl ⟨rfl, HM.out, hB⟩⟩
    · have hX : max (al : Int) bl = al := by omega
      rw [hX] at hM
      by_cases c2 : (bh : Int) < ah
      · have hY : min (ah : Int) bh = bh := by omega
        rw [hY] at hM
        clear hX hY
        by_cases hle : (al : Int) ≤ (bh : Int)
        · obtain ⟨l, hl⟩ : ∃ l : Nat, (al : Int) = l := ⟨((al : Int)).toNat, by omega⟩
          obtain ⟨h, hh⟩ : ∃ h : Nat, (bh : Int) = h := ⟨((bh : Int)).toNat, by omega⟩
          have fl : (⟨l, h, P, O⟩ : Rg).fits32 := ⟨by simp only; omega, by simp only; omega, hBb, hOo⟩
          have hsb : RI.someB ⟨(al : Int), (bh : Int), P, O⟩ = decide (0 ≤ Rg.least ⟨l, h, P, O⟩) := by
            rw [hl, hh]
            exact some_nat (by omega) (by omega) hBb hOo hD
          have cS : ∀ w, Calls Try.prog 134 #[.agg #[.int .i64 ((al : Int)), .int .i64 ((bh : Int)), .int .i64 P, .int .i64 O]] w fun e w' => e = .returned (.bool (decide (0 ≤ Rg.least ⟨l, h, P, O⟩))) ∧ Below w.heap.size w w' := fun w => by
            rw [hl, hh]
            exact l2Some_calls ⟨l, h, P, O⟩ fl hD w
          have K1 := Lib.hid hl
          have K2 := Lib.hid hh
          cases hs : decide (0 ≤ Rg.least ⟨l, h, P, O⟩) with
          | false =>
            have HM : Hid (Rg.meet ⟨al, ah, ab, ao⟩ ⟨bl, bh, bb, bo⟩ = ifSome false Rg.no) := by show _ = _; rw [hM, RI.fit_no (hsb.trans hs)]; rfl
            rw [hs] at cS
            clear hM hs hsb hl hh
            obtain ⟨hB, hs0, x0, x1, y2⟩ := boxes3 w (rcells al ah ab ao) (rcells bl bh bb bo) (rcells 0 0 0 0)
            go_enter Try.func115, Try.ntmps115
            go_wp2_with fail
            obtain ⟨W0, hW0⟩ : ∃ W, ((w.alloc (.cells #[.int .i64 al, .int .i64 ah, .int .i64 ab, .int .i64 ao] 80)).alloc (.cells #[.int .i64 bl, .int .i64 bh, .int .i64 bb, .int .i64 bo] 80)).alloc (.cells #[.int .i64 0, .int .i64 0, .int .i64 0, .int .i64 0] 80) = W := ⟨_, rfl⟩
            rw [hW0]
            have hB : Below w.heap.size w W0 := hW0 ▸ hB
            have hs0 : W0.heap.size = w.heap.size + 3 := hW0 ▸ hs0
            have x0 : W0.heap[w.heap.size]? = some (rcells al ah ab ao) := hW0 ▸ x0
            have x1 : W0.heap[w.heap.size + 1]? = some (rcells bl bh bb bo) := hW0 ▸ x1
            have y2 : W0.heap[w.heap.size + 1 + 1]? = some (rcells 0 0 0 0) := hW0 ▸ y2
            clear hW0
            obtain ⟨q0, q1, q2, q3⟩ := rat x0
            obtain ⟨p0, p1, p2, p3⟩ := rat x1
            refine wp_region_quiet_lit (by kernel_rfl) (by kernel_rfl) ?_
            repeat (any_goals (first | go_big_quiet_step ((go_at_call 76; exact Calls.quiet_of_same (l2Top_calls _))) | quiet_step ((go_at_call 76; exact Calls.quiet_of_same (l2Top_calls _))) | (refine wpQuiet_step (fun K hK => ?_); go_simp; split <;> (refine hK _ ?_; clear hK K))))
            all_goals (refine wpQuiet_nil ?_; intro _ hw'; obtain ⟨nq, hw''⟩ := hw'; subst hw'')
            have hB : Below w.heap.size w (W0.drewN nq) := below_drewN' hB _
            have hs0 : (W0.drewN nq).heap.size = w.heap.size + 3 := hs0
            have x0 : (W0.drewN nq).heap[w.heap.size]? = some (rcells al ah ab ao) := x0
            have x1 : (W0.drewN nq).heap[w.heap.size + 1]? = some (rcells bl bh bb bo) := x1
            have y2 : (W0.drewN nq).heap[w.heap.size + 1 + 1]? = some (rcells 0 0 0 0) := y2
            generalize W0.drewN nq = W1 at *
            clear q0 q1 q2 q3 p0 p1 p2 p3
            obtain ⟨q0, q1, q2, q3⟩ := rat x0
            obtain ⟨p0, p1, p2, p3⟩ := rat x1
            go_wp2
            refine wp_region_quiet_lit (by kernel_rfl) (by kernel_rfl) ?_
            repeat (any_goals (first | go_big_quiet_step ((go_at_call 76; exact Calls.quiet_of_same (l2Top_calls _))) | quiet_step ((go_at_call 76; exact Calls.quiet_of_same (l2Top_calls _))) | (refine wpQuiet_step (fun K hK => ?_); go_simp; split <;> (refine hK _ ?_; clear hK K))))
            all_goals (refine wpQuiet_nil ?_; intro _ hw'; obtain ⟨nq, hw''⟩ := hw'; subst hw'')
            have hB : Below w.heap.size w (W1.drewN nq) := below_drewN' hB _
            have hs0 : (W1.drewN nq).heap.size = w.heap.size + 3 := hs0
            have x0 : (W1.drewN nq).heap[w.heap.size]? = some (rcells al ah ab ao) := x0
            have x1 : (W1.drewN nq).heap[w.heap.size + 1]? = some (rcells bl bh bb bo) := x1
            have y2 : (W1.drewN nq).heap[w.heap.size + 1 + 1]? = some (rcells 0 0 0 0) := y2
            generalize W1.drewN nq = W at *
            clear q0 q1 q2 q3 p0 p1 p2 p3
            have hb0 := below_alloc' (Below.refl W.heap.size W) (rcells ((al : Int)) ((bh : Int)) P O)
            have xr : (W.alloc (rcells ((al : Int)) ((bh : Int)) P O)).heap[w.heap.size + 3]? = some (rcells ((al : Int)) ((bh : Int)) P O) := hs0 ▸ alloc_at' W _
            obtain ⟨q0, q1, q2, q3⟩ := rat x0
            obtain ⟨p0, p1, p2, p3⟩ := rat x1
            have hB := bnext hB hb0
            have y2 := Below.keep hb0 y2
            have hs1 := alloc_size W (rcells ((al : Int)) ((bh : Int)) P O)
            obtain ⟨r0, r1, r2, r3⟩ := rat (alloc_keep (.cells #[.int .i64 (al : Int), .int .i64 (bh : Int), .int .i64 P, .int .i64 O] 80) x1)
            clear hb0
            go_wp2_with fail
            refine (cS _).mono ?_
            rintro e w2 ⟨rfl, hb⟩
            have hB := bnext hB hb
            have z1 := hb.size
            have y2 := Below.keep hb y2
            clear hb 
            obtain ⟨th1, V1, hw1, y1, o1⟩ := rput4 y2 1 0 0 0
            go_wp2_with ((with_reducible refine gate_store (p := 4) rfl ?_); go_loud (refine wpList_put rfl 80 _ _ rfl (w.heap.size + 1 + 1) 0 [.int .i64 1, .int .i64 0, .int .i64 0, .int .i64 0] rfl rfl th1.out (by kernel_rfl) rfl ?_; rw [hw1.out]))
            obtain ⟨q0, q1, q2, q3⟩ := rat y1
            refine bodyPost_ret (v := .tuple #[.agg #[.int .i64 1, .int .i64 0, .int .i64 0, .int .i64 0], .bool false]) (by simp [results, Try.results115, go_sem, q0, q1, q2, q3]) rfl ⟨Rg.no, false, rfl, HM.out, hB.trans (below_upon o1 (fun k hk => by omega) hB.size)⟩
          | true =>
            have HM : Hid (Rg.meet ⟨al, ah, ab, ao⟩ ⟨bl, bh, bb, bo⟩ = ifSome true (⟨l, h, P, O⟩ : Rg).tidy) := by
              show _ = _
              rw [hM, RI.fit_yes (hsb.trans hs)]
              simp only [RI.nat, hl, hh, Int.toNat_natCast]
              rfl
            rw [hs] at cS
            have cT := l2Tidy_calls ⟨l, h, P, O⟩ fl
            clear hM hs hsb hl hh
            obtain ⟨hB, hs0, x0, x1, y2⟩ := boxes3 w (rcells al ah ab ao) (rcells bl bh bb bo) (rcells 0 0 0 0)
            go_enter Try.func115, Try.ntmps115
            go_wp2_with fail
            obtain ⟨W0, hW0⟩ : ∃ W, ((w.alloc (.cells #[.int .i64 al, .int .i64 ah, .int .i64 ab, .int .i64 ao] 80)).alloc (.cells #[.int .i64 bl, .int .i64 bh, .int .i64 bb, .int .i64 bo] 80)).alloc (.cells #[.int .i64 0, .int .i64 0, .int .i64 0, .int .i64 0] 80) = W := ⟨_, rfl⟩
            rw [hW0]
            have hB : Below w.heap.size w W0 := hW0 ▸ hB
            have hs0 : W0.heap.size = w.heap.size + 3 := hW0 ▸ hs0
            have x0 : W0.heap[w.heap.size]? = some (rcells al ah ab ao) := hW0 ▸ x0
            have x1 : W0.heap[w.heap.size + 1]? = some (rcells bl bh bb bo) := hW0 ▸ x1
            have y2 : W0.heap[w.heap.size + 1 + 1]? = some (rcells 0 0 0 0) := hW0 ▸ y2
            clear hW0
            obtain ⟨q0, q1, q2, q3⟩ := rat x0
            obtain ⟨p0, p1, p2, p3⟩ := rat x1
            refine wp_region_quiet_lit (by kernel_rfl) (by kernel_rfl) ?_
            repeat (any_goals (first | go_big_quiet_step ((go_at_call 76; exact Calls.quiet_of_same (l2Top_calls _))) | quiet_step ((go_at_call 76; exact Calls.quiet_of_same (l2Top_calls _))) | (refine wpQuiet_step (fun K hK => ?_); go_simp; split <;> (refine hK _ ?_; clear hK K))))
            all_goals (refine wpQuiet_nil ?_; intro _ hw'; obtain ⟨nq, hw''⟩ := hw'; subst hw'')
            have hB : Below w.heap.size w (W0.drewN nq) := below_drewN' hB _
            have hs0 : (W0.drewN nq).heap.size = w.heap.size + 3 := hs0
            have x0 : (W0.drewN nq).heap[w.heap.size]? = some (rcells al ah ab ao) := x0
            have x1 : (W0.drewN nq).heap[w.heap.size + 1]? = some (rcells bl bh bb bo) := x1
            have y2 : (W0.drewN nq).heap[w.heap.size + 1 + 1]? = some (rcells 0 0 0 0) := y2
            generalize W0.drewN nq = W1 at *
            clear q0 q1 q2 q3 p0 p1 p2 p3
            obtain ⟨q0, q1, q2, q3⟩ := rat x0
            obtain ⟨p0, p1, p2, p3⟩ := rat x1
            go_wp2
            refine wp_region_quiet_lit (by kernel_rfl) (by kernel_rfl) ?_
            repeat (any_goals (first | go_big_quiet_step ((go_at_call 76; exact Calls.quiet_of_same (l2Top_calls _))) | quiet_step ((go_at_call 76; exact Calls.quiet_of_same (l2Top_calls _))) | (refine wpQuiet_step (fun K hK => ?_); go_simp; split <;> (refine hK _ ?_; clear hK K))))
            all_goals (refine wpQuiet_nil ?_; intro _ hw'; obtain ⟨nq, hw''⟩ := hw'; subst hw'')
            have hB : Below w.heap.size w (W1.drewN nq) := below_drewN' hB _
            have hs0 : (W1.drewN nq).heap.size = w.heap.size + 3 := hs0
            have x0 : (W1.drewN nq).heap[w.heap.size]? = some (rcells al ah ab ao) := x0
            have x1 : (W1.drewN nq).heap[w.heap.size + 1]? = some (rcells bl bh bb bo) := x1
            have y2 : (W1.drewN nq).heap[w.heap.size + 1 + 1]? = some (rcells 0 0 0 0) := y2
            generalize W1.drewN nq = W at *
            clear q0 q1 q2 q3 p0 p1 p2 p3
            have hb0 := below_alloc' (Below.refl W.heap.size W) (rcells ((al : Int)) ((bh : Int)) P O)
            have xr : (W.alloc (rcells ((al : Int)) ((bh : Int)) P O)).heap[w.heap.size + 3]? = some (rcells ((al : Int)) ((bh : Int)) P O) := hs0 ▸ alloc_at' W _
            obtain ⟨q0, q1, q2, q3⟩ := rat x0
            obtain ⟨p0, p1, p2, p3⟩ := rat x1
            have hB := bnext hB hb0
            have y2 := Below.keep hb0 y2
            have hs1 := alloc_size W (rcells ((al : Int)) ((bh : Int)) P O)
            obtain ⟨r0, r1, r2, r3⟩ := rat (alloc_keep (.cells #[.int .i64 (al : Int), .int .i64 (bh : Int), .int .i64 P, .int .i64 O] 80) x1)
            clear hb0
            go_wp2_with fail
            refine (cS _).mono ?_
            rintro e w2 ⟨rfl, hb⟩
            have hB := bnext hB hb
            have z1 := hb.size
            have y2 := Below.keep hb y2
            obtain ⟨q0, q1, q2, q3⟩ := rat (Below.keep hb xr)
            rw [K1.out] at q0
            rw [K2.out] at q1
            clear hb cS 
            go_wp2_with fail
            refine (cT _).mono ?_
            rintro e w3 ⟨rfl, hb⟩
            have hB := bnext hB hb
            have z2 := hb.size
            have y2 := Below.keep hb y2
            generalize (⟨l, h, P, O⟩ : Rg).tidy = t at *
            clear hb q0 q1 q2 q3
            obtain ⟨th1, V1, hw1, y1, o1⟩ := rput4 y2 t.lo t.hi t.bits t.opn
            go_wp2_with ((with_reducible refine gate_store (p := 4) rfl ?_); go_loud (refine wpList_put rfl 80 _ _ rfl (w.heap.size + 1 + 1) 0 [.int .i64 t.lo, .int .i64 t.hi, .int .i64 t.bits, .int .i64 t.opn] rfl rfl th1.out (by kernel_rfl) rfl ?_; rw [hw1.out]))
            obtain ⟨q0, q1, q2, q3⟩ := rat y1
            refine bodyPost_ret (v := .tuple #[.agg #[.int .i64 t.lo, .int .i64 t.hi, .int .i64 t.bits, .int .i64 t.opn], .bool true]) (by simp [results, Try.results115, go_sem, q0, q1, q2, q3]) rfl ⟨t, true, rfl, HM.out, hB.trans (below_upon o1 (fun k hk => by omega) hB.size)⟩
        · have HM : Hid (Rg.meet ⟨al, ah, ab, ao⟩ ⟨bl, bh, bb, bo⟩ = ifSome false Rg.no) := by show _ = _; rw [hM, RI.fit_no (some_not hle)]; rfl
          have hle' : (bh : Int) < (al : Int) := by omega
          clear hM hle
          obtain ⟨hB, hs0, x0, x1, y2⟩ := boxes3 w (rcells al ah ab ao) (rcells bl bh bb bo) (rcells 0 0 0 0)
          go_enter Try.func115, Try.ntmps115
          go_wp2_with fail
          obtain ⟨W0, hW0⟩ : ∃ W, ((w.alloc (.cells #[.int .i64 al, .int .i64 ah, .int .i64 ab, .int .i64 ao] 80)).alloc (.cells #[.int .i64 bl, .int .i64 bh, .int .i64 bb, .int .i64 bo] 80)).alloc (.cells #[.int .i64 0, .int .i64 0, .int .i64 0, .int .i64 0] 80) = W := ⟨_, rfl⟩
          rw [hW0]
          have hB : Below w.heap.size w W0 := hW0 ▸ hB
          have hs0 : W0.heap.size = w.heap.size + 3 := hW0 ▸ hs0
          have x0 : W0.heap[w.heap.size]? = some (rcells al ah ab ao) := hW0 ▸ x0
          have x1 : W0.heap[w.heap.size + 1]? = some (rcells bl bh bb bo) := hW0 ▸ x1
          have y2 : W0.heap[w.heap.size + 1 + 1]? = some (rcells 0 0 0 0) := hW0 ▸ y2
          clear hW0
          obtain ⟨q0, q1, q2, q3⟩ := rat x0
          obtain ⟨p0, p1, p2, p3⟩ := rat x1
          refine wp_region_quiet_lit (by kernel_rfl) (by kernel_rfl) ?_
          repeat (any_goals (first | go_big_quiet_step ((go_at_call 76; exact Calls.quiet_of_same (l2Top_calls _))) | quiet_step ((go_at_call 76; exact Calls.quiet_of_same (l2Top_calls _))) | (refine wpQuiet_step (fun K hK => ?_); go_simp; split <;> (refine hK _ ?_; clear hK K))))
          all_goals (refine wpQuiet_nil ?_; intro _ hw'; obtain ⟨nq, hw''⟩ := hw'; subst hw'')
          have hB : Below w.heap.size w (W0.drewN nq) := below_drewN' hB _
          have hs0 : (W0.drewN nq).heap.size = w.heap.size + 3 := hs0
          have x0 : (W0.drewN nq).heap[w.heap.size]? = some (rcells al ah ab ao) := x0
          have x1 : (W0.drewN nq).heap[w.heap.size + 1]? = some (rcells bl bh bb bo) := x1
          have y2 : (W0.drewN nq).heap[w.heap.size + 1 + 1]? = some (rcells 0 0 0 0) := y2
          generalize W0.drewN nq = W1 at *
          clear q0 q1 q2 q3 p0 p1 p2 p3
          obtain ⟨q0, q1, q2, q3⟩ := rat x0
          obtain ⟨p0, p1, p2, p3⟩ := rat x1
          go_wp2
          refine wp_region_quiet_lit (by kernel_rfl) (by kernel_rfl) ?_
          repeat (any_goals (first | go_big_quiet_step ((go_at_call 76; exact Calls.quiet_of_same (l2Top_calls _))) | quiet_step ((go_at_call 76; exact Calls.quiet_of_same (l2Top_calls _))) | (refine wpQuiet_step (fun K hK => ?_); go_simp; split <;> (refine hK _ ?_; clear hK K))))
          all_goals (refine wpQuiet_nil ?_; intro _ hw'; obtain ⟨nq, hw''⟩ := hw'; subst hw'')
          have hB : Below w.heap.size w (W1.drewN nq) := below_drewN' hB _
          have hs0 : (W1.drewN nq).heap.size = w.heap.size + 3 := hs0
          have x0 : (W1.drewN nq).heap[w.heap.size]? = some (rcells al ah ab ao) := x0
          have x1 : (W1.drewN nq).heap[w.heap.size + 1]? = some (rcells bl bh bb bo) := x1
          have y2 : (W1.drewN nq).heap[w.heap.size + 1 + 1]? = some (rcells 0 0 0 0) := y2
          generalize W1.drewN nq = W at *
          clear q0 q1 q2 q3 p0 p1 p2 p3
          have hb0 := below_alloc' (Below.refl W.heap.size W) (.cells #[.int .i64 (al : Int), .int .i64 (bh : Int), .int .i64 P, .int .i64 O] 80)
          obtain ⟨q0, q1, q2, q3⟩ := rat x0
          obtain ⟨p0, p1, p2, p3⟩ := rat x1
          have hB := bnext hB hb0
          have y2 := Below.keep hb0 y2
          obtain ⟨r0, r1, r2, r3⟩ := rat (alloc_keep (.cells #[.int .i64 (al : Int), .int .i64 (bh : Int), .int .i64 P, .int .i64 O] 80) x1)
          clear hb0
          obtain ⟨th1, V1, hw1, y1, o1⟩ := rput4 y2 1 0 0 0
          go_wp2_with ((with_reducible refine gate_store (p := 4) rfl ?_); go_loud (refine wpList_put rfl 80 _ _ rfl (w.heap.size + 1 + 1) 0 [.int .i64 1, .int .i64 0, .int .i64 0, .int .i64 0] rfl rfl th1.out (by kernel_rfl) rfl ?_; rw [hw1.out]))
          obtain ⟨g0, g1, g2, g3⟩ := rat y1
          refine bodyPost_ret (v := .tuple #[.agg #[.int .i64 1, .int .i64 0, .int .i64 0, .int .i64 0], .bool false]) (by simp [results, Try.results115, go_sem, g0, g1, g2, g3]) rfl ?_
          have hB := hB.trans (below_upon o1 (fun k hk => by omega) hB.size)
          first | exact ⟨Rg.no, false, rfl, HM.out, hB⟩ | exact ⟨Rg.no, .inl ⟨rfl, HM.out, hB⟩⟩
      · have hY : min (ah : Int) bh = ah := by omega
        rw [hY] at hM
        clear hX hY
        by_cases hle : (al : Int) ≤ (ah : Int)
        · obtain ⟨l, hl⟩ : ∃ l : Nat, (al : Int) = l := ⟨((al : Int)).toNat, by omega⟩
          obtain ⟨h, hh⟩ : ∃ h : Nat, (ah : Int) = h := ⟨((ah : Int)).toNat, by omega⟩
          have fl : (⟨l, h, P, O⟩ : Rg).fits32 := ⟨by simp only; omega, by simp only; omega, hBb, hOo⟩
          have hsb : RI.someB ⟨(al : Int), (ah : Int), P, O⟩ = decide (0 ≤ Rg.least ⟨l, h, P, O⟩) := by
            rw [hl, hh]
            exact some_nat (by omega) (by omega) hBb hOo hD
          have cS : ∀ w, Calls Try.prog 134 #[.agg #[.int .i64 ((al : Int)), .int .i64 ((ah : Int)), .int .i64 P, .int .i64 O]] w fun e w' => e = .returned (.bool (decide (0 ≤ Rg.least ⟨l, h, P, O⟩))) ∧ Below w.heap.size w w' := fun w => by
            rw [hl, hh]
            exact l2Some_calls ⟨l, h, P, O⟩ fl hD w
          have K1 := Lib.hid hl
          have K2 := Lib.hid hh
          cases hs : decide (0 ≤ Rg.least ⟨l, h, P, O⟩) with
          | false =>
            have HM : Hid (Rg.meet ⟨al, ah, ab, ao⟩ ⟨bl, bh, bb, bo⟩ = ifSome false Rg.no) := by show _ = _; rw [hM, RI.fit_no (hsb.trans hs)]; rfl
            rw [hs] at cS
            clear hM hs hsb hl hh
            obtain ⟨hB, hs0, x0, x1, y2⟩ := boxes3 w (rcells al ah ab ao) (rcells bl bh bb bo) (rcells 0 0 0 0)
            go_enter Try.func115, Try.ntmps115
            go_wp2_with fail
            obtain ⟨W0, hW0⟩ : ∃ W, ((w.alloc (.cells #[.int .i64 al, .int .i64 ah, .int .i64 ab, .int .i64 ao] 80)).alloc (.cells #[.int .i64 bl, .int .i64 bh, .int .i64 bb, .int .i64 bo] 80)).alloc (.cells #[.int .i64 0, .int .i64 0, .int .i64 0, .int .i64 0] 80) = W := ⟨_, rfl⟩
            rw [hW0]
            have hB : Below w.heap.size w W0 := hW0 ▸ hB
            have hs0 : W0.heap.size = w.heap.size + 3 := hW0 ▸ hs0
            have x0 : W0.heap[w.heap.size]? = some (rcells al ah ab ao) := hW0 ▸ x0
            have x1 : W0.heap[w.heap.size + 1]? = some (rcells bl bh bb bo) := hW0 ▸ x1
            have y2 : W0.heap[w.heap.size + 1 + 1]? = some (rcells 0 0 0 0) := hW0 ▸ y2
            clear hW0
            obtain ⟨q0, q1, q2, q3⟩ := rat x0
            obtain ⟨p0, p1, p2, p3⟩ := rat x1
            refine wp_region_quiet_lit (by kernel_rfl) (by kernel_rfl) ?_
            repeat (any_goals (first | go_big_quiet_step ((go_at_call 76; exact Calls.quiet_of_same (l2Top_calls _))) | quiet_step ((go_at_call 76; exact Calls.quiet_of_same (l2Top_calls _))) | (refine wpQuiet_step (fun K hK => ?_); go_simp; split <;> (refine hK _ ?_; clear hK K))))
            all_goals (refine wpQuiet_nil ?_; intro _ hw'; obtain ⟨nq, hw''⟩ := hw'; subst hw'')
            have hB : Below w.heap.size w (W0.drewN nq) := below_drewN' hB _
            have hs0 : (W0.drewN nq).heap.size = w.heap.size + 3 := hs0
            have x0 : (W0.drewN nq).heap[w.heap.size]? = some (rcells al ah ab ao) := x0
            have x1 : (W0.drewN nq).heap[w.heap.size + 1]? = some (rcells bl bh bb bo) := x1
            have y2 : (W0.drewN nq).heap[w.heap.size + 1 + 1]? = some (rcells 0 0 0 0) := y2
            generalize W0.drewN nq = W1 at *
            clear q0 q1 q2 q3 p0 p1 p2 p3
            obtain ⟨q0, q1, q2, q3⟩ := rat x0
            obtain ⟨p0, p1, p2, p3⟩ := rat x1
            go_wp2
            refine wp_region_quiet_lit (by kernel_rfl) (by kernel_rfl) ?_
            repeat (any_goals (first | go_big_quiet_step ((go_at_call 76; exact Calls.quiet_of_same (l2Top_calls _))) | quiet_step ((go_at_call 76; exact Calls.quiet_of_same (l2Top_calls _))) | (refine wpQuiet_step (fun K hK => ?_); go_simp; split <;> (refine hK _ ?_; clear hK K))))
            all_goals (refine wpQuiet_nil ?_; intro _ hw'; obtain ⟨nq, hw''⟩ := hw'; subst hw'')
            have hB : Below w.heap.size w (W1.drewN nq) := below_drewN' hB _
            have hs0 : (W1.drewN nq).heap.size = w.heap.size + 3 := hs0
            have x0 : (W1.drewN nq).heap[w.heap.size]? = some (rcells al ah ab ao) := x0
            have x1 : (W1.drewN nq).heap[w.heap.size + 1]? = some (rcells bl bh bb bo) := x1
            have y2 : (W1.drewN nq).heap[w.heap.size + 1 + 1]? = some (rcells 0 0 0 0) := y2
            generalize W1.drewN nq = W at *
            clear q0 q1 q2 q3 p0 p1 p2 p3
            have hb0 := below_alloc' (Below.refl W.heap.size W) (rcells ((al : Int)) ((ah : Int)) P O)
            have xr : (W.alloc (rcells ((al : Int)) ((ah : Int)) P O)).heap[w.heap.size + 3]? = some (rcells ((al : Int)) ((ah : Int)) P O) := hs0 ▸ alloc_at' W _
            obtain ⟨q0, q1, q2, q3⟩ := rat x0
            obtain ⟨p0, p1, p2, p3⟩ := rat x1
            have hB := bnext hB hb0
            have y2 := Below.keep hb0 y2
            have hs1 := alloc_size W (rcells ((al : Int)) ((ah : Int)) P O)
            obtain ⟨r0, r1, r2, r3⟩ := rat (alloc_keep (.cells #[.int .i64 (al : Int), .int .i64 (ah : Int), .int .i64 P, .int .i64 O] 80) x1)
            clear hb0
            go_wp2_with fail
            refine (cS _).mono ?_
            rintro e w2 ⟨rfl, hb⟩
            have hB := bnext hB hb
            have z1 := hb.size
            have y2 := Below.keep hb y2
            clear hb 
            obtain ⟨th1, V1, hw1, y1, o1⟩ := rput4 y2 1 0 0 0
            go_wp2_with ((with_reducible refine gate_store (p := 4) rfl ?_); go_loud (refine wpList_put rfl 80 _ _ rfl (w.heap.size + 1 + 1) 0 [.int .i64 1, .int .i64 0, .int .i64 0, .int .i64 0] rfl rfl th1.out (by kernel_rfl) rfl ?_; rw [hw1.out]))
            obtain ⟨q0, q1, q2, q3⟩ := rat y1
            refine bodyPost_ret (v := .tuple #[.agg #[.int .i64 1, .int .i64 0, .int .i64 0, .int .i64 0], .bool false]) (by simp [results, Try.results115, go_sem, q0, q1, q2, q3]) rfl ⟨Rg.no, false, rfl, HM.out, hB.trans (below_upon o1 (fun k hk => by omega) hB.size)⟩
          | true =>
            have HM : Hid (Rg.meet ⟨al, ah, ab, ao⟩ ⟨bl, bh, bb, bo⟩ = ifSome true (⟨l, h, P, O⟩ : Rg).tidy) := by
              show _ = _
              rw [hM, RI.fit_yes (hsb.trans hs)]
              simp only [RI.nat, hl, hh, Int.toNat_natCast]
              rfl
            rw [hs] at cS
            have cT := l2Tidy_calls ⟨l, h, P, O⟩ fl
            clear hM hs hsb hl hh
            obtain ⟨hB, hs0, x0, x1, y2⟩ := boxes3 w (rcells al ah ab ao) (rcells bl bh bb bo) (rcells 0 0 0 0)
            go_enter Try.func115, Try.ntmps115
            go_wp2_with fail
            obtain ⟨W0, hW0⟩ : ∃ W, ((w.alloc (.cells #[.int .i64 al, .int .i64 ah, .int .i64 ab, .int .i64 ao] 80)).alloc (.cells #[.int .i64 bl, .int .i64 bh, .int .i64 bb, .int .i64 bo] 80)).alloc (.cells #[.int .i64 0, .int .i64 0, .int .i64 0, .int .i64 0] 80) = W := ⟨_, rfl⟩
            rw [hW0]
            have hB : Below w.heap.size w W0 := hW0 ▸ hB
            have hs0 : W0.heap.size = w.heap.size + 3 := hW0 ▸ hs0
            have x0 : W0.heap[w.heap.size]? = some (rcells al ah ab ao) := hW0 ▸ x0
            have x1 : W0.heap[w.heap.size + 1]? = some (rcells bl bh bb bo) := hW0 ▸ x1
            have y2 : W0.heap[w.heap.size + 1 + 1]? = some (rcells 0 0 0 0) := hW0 ▸ y2
            clear hW0
            obtain ⟨q0, q1, q2, q3⟩ := rat x0
            obtain ⟨p0, p1, p2, p3⟩ := rat x1
            refine wp_region_quiet_lit (by kernel_rfl) (by kernel_rfl) ?_
            repeat (any_goals (first | go_big_quiet_step ((go_at_call 76; exact Calls.quiet_of_same (l2Top_calls _))) | quiet_step ((go_at_call 76; exact Calls.quiet_of_same (l2Top_calls _))) | (refine wpQuiet_step (fun K hK => ?_); go_simp; split <;> (refine hK _ ?_; clear hK K))))
            all_goals (refine wpQuiet_nil ?_; intro _ hw'; obtain ⟨nq, hw''⟩ := hw'; subst hw'')
            have hB : Below w.heap.size w (W0.drewN nq) := below_drewN' hB _
            have hs0 : (W0.drewN nq).heap.size = w.heap.size + 3 := hs0
            have x0 : (W0.drewN nq).heap[w.heap.size]? = some (rcells al ah ab ao) := x0
            have x1 : (W0.drewN nq).heap[w.heap.size + 1]? = some (rcells bl bh bb bo) := x1
            have y2 : (W0.drewN nq).heap[w.heap.size + 1 + 1]? = some (rcells 0 0 0 0) := y2
            generalize W0.drewN nq = W1 at *
            clear q0 q1 q2 q3 p0 p1 p2 p3
            obtain ⟨q0, q1, q2, q3⟩ := rat x0
            obtain ⟨p0, p1, p2, p3⟩ := rat x1
            go_wp2
            refine wp_region_quiet_lit (by kernel_rfl) (by kernel_rfl) ?_
            repeat (any_goals (first | go_big_quiet_step ((go_at_call 76; exact Calls.quiet_of_same (l2Top_calls _))) | quiet_step ((go_at_call 76; exact Calls.quiet_of_same (l2Top_calls _))) | (refine wpQuiet_step (fun K hK => ?_); go_simp; split <;> (refine hK _ ?_; clear hK K))))
            all_goals (refine wpQuiet_nil ?_; intro _ hw'; obtain ⟨nq, hw''⟩ := hw'; subst hw'')
            have hB : Below w.heap.size w (W1.drewN nq) := below_drewN' hB _
            have hs0 : (W1.drewN nq).heap.size = w.heap.size + 3 := hs0
            have x0 : (W1.drewN nq).heap[w.heap.size]? = some (rcells al ah ab ao) := x0
            have x1 : (W1.drewN nq).heap[w.heap.size + 1]? = some (rcells bl bh bb bo) := x1
            have y2 : (W1.drewN nq).heap[w.heap.size + 1 + 1]? = some (rcells 0 0 0 0) := y2
            generalize W1.drewN nq = W at *
            clear q0 q1 q2 q3 p0 p1 p2 p3
            have hb0 := below_alloc' (Below.refl W.heap.size W) (rcells ((al : Int)) ((ah : Int)) P O)
            have xr : (W.alloc (rcells ((al : Int)) ((ah : Int)) P O)).heap[w.heap.size + 3]? = some (rcells ((al : Int)) ((ah : Int)) P O) := hs0 ▸ alloc_at' W _
            obtain ⟨q0, q1, q2, q3⟩ := rat x0
            obtain ⟨p0, p1, p2, p3⟩ := rat x1
            have hB := bnext hB hb0
            have y2 := Below.keep hb0 y2
            have hs1 := alloc_size W (rcells ((al : Int)) ((ah : Int)) P O)
            obtain ⟨r0, r1, r2, r3⟩ := rat (alloc_keep (.cells #[.int .i64 (al : Int), .int .i64 (ah : Int), .int .i64 P, .int .i64 O] 80) x1)
            clear hb0
            go_wp2_with fail
            refine (cS _).mono ?_
            rintro e w2 ⟨rfl, hb⟩
            have hB := bnext hB hb
            have z1 := hb.size
            have y2 := Below.keep hb y2
            obtain ⟨q0, q1, q2, q3⟩ := rat (Below.keep hb xr)
            rw [K1.out] at q0
            rw [K2.out] at q1
            clear hb cS 
            go_wp2_with fail
            refine (cT _).mono ?_
            rintro e w3 ⟨rfl, hb⟩
            have hB := bnext hB hb
            have z2 := hb.size
            have y2 := Below.keep hb y2
            generalize (⟨l, h, P, O⟩ : Rg).tidy = t at *
            clear hb q0 q1 q2 q3
            obtain ⟨th1, V1, hw1, y1, o1⟩ := rput4 y2 t.lo t.hi t.bits t.opn
            go_wp2_with ((with_reducible refine gate_store (p := 4) rfl ?_); go_loud (refine wpList_put rfl 80 _ _ rfl (w.heap.size + 1 + 1) 0 [.int .i64 t.lo, .int .i64 t.hi, .int .i64 t.bits, .int .i64 t.opn] rfl rfl th1.out (by kernel_rfl) rfl ?_; rw [hw1.out]))
            obtain ⟨q0, q1, q2, q3⟩ := rat y1
            refine bodyPost_ret (v := .tuple #[.agg #[.int .i64 t.lo, .int .i64 t.hi, .int .i64 t.bits, .int .i64 t.opn], .bool true]) (by simp [results, Try.results115, go_sem, q0, q1, q2, q3]) rfl ⟨t, true, rfl, HM.out, hB.trans (below_upon o1 (fun k hk => by omega) hB.size)⟩
        · have HM : Hid (Rg.meet ⟨al, ah, ab, ao⟩ ⟨bl, bh, bb, bo⟩ = ifSome false Rg.no) := by show _ = _; rw [hM, RI.fit_no (some_not hle)]; rfl
          have hle' : (ah : Int) < (al : Int) := by omega
          clear hM hle
          obtain ⟨hB, hs0, x0, x1, y2⟩ := boxes3 w (rcells al ah ab ao) (rcells bl bh bb bo) (rcells 0 0 0 0)
          go_enter Try.func115, Try.ntmps115
          go_wp2_with fail
          obtain ⟨W0, hW0⟩ : ∃ W, ((w.alloc (.cells #[.int .i64 al, .int .i64 ah, .int .i64 ab, .int .i64 ao] 80)).alloc (.cells #[.int .i64 bl, .int .i64 bh, .int .i64 bb, .int .i64 bo] 80)).alloc (.cells #[.int .i64 0, .int .i64 0, .int .i64 0, .int .i64 0] 80) = W := ⟨_, rfl⟩
          rw [hW0]
          have hB : Below w.heap.size w W0 := hW0 ▸ hB
          have hs0 : W0.heap.size = w.heap.size + 3 := hW0 ▸ hs0
          have x0 : W0.heap[w.heap.size]? = some (rcells al ah ab ao) := hW0 ▸ x0
          have x1 : W0.heap[w.heap.size + 1]? = some (rcells bl bh bb bo) := hW0 ▸ x1
          have y2 : W0.heap[w.heap.size + 1 + 1]? = some (rcells 0 0 0 0) := hW0 ▸ y2
          clear hW0
          obtain ⟨q0, q1, q2, q3⟩ := rat x0
          obtain ⟨p0, p1, p2, p3⟩ := rat x1
          refine wp_region_quiet_lit (by kernel_rfl) (by kernel_rfl) ?_
          repeat (any_goals (first | go_big_quiet_step ((go_at_call 76; exact Calls.quiet_of_same (l2Top_calls _))) | quiet_step ((go_at_call 76; exact Calls.quiet_of_same (l2Top_calls _))) | (refine wpQuiet_step (fun K hK => ?_); go_simp; split <;> (refine hK _ ?_; clear hK K))))
          all_goals (refine wpQuiet_nil ?_; intro _ hw'; obtain ⟨nq, hw''⟩ := hw'; subst hw'')
          have hB : Below w.heap.size w (W0.drewN nq) := below_drewN' hB _
          have hs0 : (W0.drewN nq).heap.size = w.heap.size + 3 := hs0
          have x0 : (W0.drewN nq).heap[w.heap.size]? = some (rcells al ah ab ao) := x0
          have x1 : (W0.drewN nq).heap[w.heap.size + 1]? = some (rcells bl bh bb bo) := x1
          have y2 : (W0.drewN nq).heap[w.heap.size + 1 + 1]? = some (rcells 0 0 0 0) := y2
          generalize W0.drewN nq = W1 at *
          clear q0 q1 q2 q3 p0 p1 p2 p3
          obtain ⟨q0, q1, q2, q3⟩ := rat x0
          obtain ⟨p0, p1, p2, p3⟩ := rat x1
          go_wp2
          refine wp_region_quiet_lit (by kernel_rfl) (by kernel_rfl) ?_
          repeat (any_goals (first | go_big_quiet_step ((go_at_call 76; exact Calls.quiet_of_same (l2Top_calls _))) | quiet_step ((go_at_call 76; exact Calls.quiet_of_same (l2Top_calls _))) | (refine wpQuiet_step (fun K hK => ?_); go_simp; split <;> (refine hK _ ?_; clear hK K))))
          all_goals (refine wpQuiet_nil ?_; intro _ hw'; obtain ⟨nq, hw''⟩ := hw'; subst hw'')
          have hB : Below w.heap.size w (W1.drewN nq) := below_drewN' hB _
          have hs0 : (W1.drewN nq).heap.size = w.heap.size + 3 := hs0
          have x0 : (W1.drewN nq).heap[w.heap.size]? = some (rcells al ah ab ao) := x0
          have x1 : (W1.drewN nq).heap[w.heap.size + 1]? = some (rcells bl bh bb bo) := x1
          have y2 : (W1.drewN nq).heap[w.heap.size + 1 + 1]? = some (rcells 0 0 0 0) := y2
          generalize W1.drewN nq = W at *
          clear q0 q1 q2 q3 p0 p1 p2 p3
          have hb0 := below_alloc' (Below.refl W.heap.size W) (.cells #[.int .i64 (al : Int), .int .i64 (ah : Int), .int .i64 P, .int .i64 O] 80)
          obtain ⟨q0, q1, q2, q3⟩ := rat x0
          obtain ⟨p0, p1, p2, p3⟩ := rat x1
          have hB := bnext hB hb0
          have y2 := Below.keep hb0 y2
          obtain ⟨r0, r1, r2, r3⟩ := rat (alloc_keep (.cells #[.int .i64 (al : Int), .int .i64 (ah : Int), .int .i64 P, .int .i64 O] 80) x1)
          clear hb0
          obtain ⟨th1, V1, hw1, y1, o1⟩ := rput4 y2 1 0 0 0
          go_wp2_with ((with_reducible refine gate_store (p := 4) rfl ?_); go_loud (refine wpList_put rfl 80 _ _ rfl (w.heap.size + 1 + 1) 0 [.int .i64 1, .int .i64 0, .int .i64 0, .int .i64 0] rfl rfl th1.out (by kernel_rfl) rfl ?_; rw [hw1.out]))
          obtain ⟨g0, g1, g2, g3⟩ := rat y1
          refine bodyPost_ret (v := .tuple #[.agg #[.int .i64 1, .int .i64 0, .int .i64 0, .int .i64 0], .bool false]) (by simp [results, Try.results115, go_sem, g0, g1, g2, g3]) rfl ?_
          have hB := hB.trans (below_upon o1 (fun k hk => by omega) hB.size)
          first | exact ⟨Rg.no, false, rfl, HM.out, hB⟩ | exact ⟨Rg.no, .inl ⟨rfl, HM.out, hB⟩⟩
  · rw [if_neg hq] at hM
    have hq' : ¬ (Q : Int) = 0 := by omega
    have HM : Hid (Rg.meet ⟨al, ah, ab, ao⟩ ⟨bl, bh, bb, bo⟩ = ifSome false Rg.no) := hM
    clear hM hq
    obtain ⟨hB, hs0, x0, x1, y2⟩ := boxes3 w (rcells al ah ab ao) (rcells bl bh bb bo) (rcells 0 0 0 0)
    go_enter Try.func115, Try.ntmps115
    go_wp2_with fail
    obtain ⟨W0, hW0⟩ : ∃ W, ((w.alloc (.cells #[.int .i64 al, .int .i64 ah, .int .i64 ab, .int .i64 ao] 80)).alloc (.cells #[.int .i64 bl, .int .i64 bh, .int .i64 bb, .int .i64 bo] 80)).alloc (.cells #[.int .i64 0, .int .i64 0, .int .i64 0, .int .i64 0] 80) = W := ⟨_, rfl⟩
    rw [hW0]
    have hB : Below w.heap.size w W0 := hW0 ▸ hB
    have hs0 : W0.heap.size = w.heap.size + 3 := hW0 ▸ hs0
    have x0 : W0.heap[w.heap.size]? = some (rcells al ah ab ao) := hW0 ▸ x0
    have x1 : W0.heap[w.heap.size + 1]? = some (rcells bl bh bb bo) := hW0 ▸ x1
    have y2 : W0.heap[w.heap.size + 1 + 1]? = some (rcells 0 0 0 0) := hW0 ▸ y2
    clear hW0
    obtain ⟨q0, q1, q2, q3⟩ := rat x0
    obtain ⟨p0, p1, p2, p3⟩ := rat x1
    refine wp_region_quiet_lit (by kernel_rfl) (by kernel_rfl) ?_
    repeat (any_goals (first | go_big_quiet_step ((go_at_call 76; exact Calls.quiet_of_same (l2Top_calls _))) | quiet_step ((go_at_call 76; exact Calls.quiet_of_same (l2Top_calls _))) | (refine wpQuiet_step (fun K hK => ?_); go_simp; split <;> (refine hK _ ?_; clear hK K))))
    all_goals (refine wpQuiet_nil ?_; intro _ hw'; obtain ⟨nq, hw''⟩ := hw'; subst hw'')
    have hB : Below w.heap.size w (W0.drewN nq) := below_drewN' hB _
    have hs0 : (W0.drewN nq).heap.size = w.heap.size + 3 := hs0
    have x0 : (W0.drewN nq).heap[w.heap.size]? = some (rcells al ah ab ao) := x0
    have x1 : (W0.drewN nq).heap[w.heap.size + 1]? = some (rcells bl bh bb bo) := x1
    have y2 : (W0.drewN nq).heap[w.heap.size + 1 + 1]? = some (rcells 0 0 0 0) := y2
    generalize W0.drewN nq = W1 at *
    clear q0 q1 q2 q3 p0 p1 p2 p3
    obtain ⟨q0, q1, q2, q3⟩ := rat x0
    obtain ⟨p0, p1, p2, p3⟩ := rat x1
    go_wp2
    refine wp_region_quiet_lit (by kernel_rfl) (by kernel_rfl) ?_
    repeat (any_goals (first | go_big_quiet_step ((go_at_call 76; exact Calls.quiet_of_same (l2Top_calls _))) | quiet_step ((go_at_call 76; exact Calls.quiet_of_same (l2Top_calls _))) | (refine wpQuiet_step (fun K hK => ?_); go_simp; split <;> (refine hK _ ?_; clear hK K))))
    all_goals (refine wpQuiet_nil ?_; intro _ hw'; obtain ⟨nq, hw''⟩ := hw'; subst hw'')
    have hB : Below w.heap.size w (W1.drewN nq) := below_drewN' hB _
    have hs0 : (W1.drewN nq).heap.size = w.heap.size + 3 := hs0
    have x0 : (W1.drewN nq).heap[w.heap.size]? = some (rcells al ah ab ao) := x0
    have x1 : (W1.drewN nq).heap[w.heap.size + 1]? = some (rcells bl bh bb bo) := x1
    have y2 : (W1.drewN nq).heap[w.heap.size + 1 + 1]? = some (rcells 0 0 0 0) := y2
    generalize W1.drewN nq = W at *
    clear q0 q1 q2 q3 p0 p1 p2 p3
    obtain ⟨q0, q1, q2, q3⟩ := rat x0
    obtain ⟨p0, p1, p2, p3⟩ := rat x1
    obtain ⟨th1, V1, hw1, y1, o1⟩ := rput4 y2 1 0 0 0
    go_wp2_with ((with_reducible refine gate_store (p := 4) rfl ?_); go_loud (refine wpList_put rfl 80 _ _ rfl (w.heap.size + 1 + 1) 0 [.int .i64 1, .int .i64 0, .int .i64 0, .int .i64 0] rfl rfl th1.out (by kernel_rfl) rfl ?_; rw [hw1.out]))
    obtain ⟨g0, g1, g2, g3⟩ := rat y1
    refine bodyPost_ret (v := .tuple #[.agg #[.int .i64 1, .int .i64 0, .int .i64 0, .int .i64 0], .bool false]) (by simp [results, Try.results115, go_sem, g0, g1, g2, g3]) rfl ?_
    have hB := hB.trans (below_upon o1 (fun k hk => by omega) hB.size)
    first | exact ⟨Rg.no, false, rfl, HM.out, hB⟩ | exact ⟨Rg.no, .inl ⟨rfl, HM.out, hB⟩⟩
end Go.Proofs.Ytoimeebildcofaa
