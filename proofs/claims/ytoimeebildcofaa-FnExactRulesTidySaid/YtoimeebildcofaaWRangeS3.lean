/- The walks of the reference's ranges met, and without a number. -/
import Derived.Test.YtoimeebildcofaaWRangeS2
import Derived.Test.YtoimeebildcofaaWRange5
namespace Go.Proofs.Ytoimeebildcofaa
open Go.RowKit
theorem andNot_or {a b x : Nat} (hx : x ≤ 4294967295) : ((4294967295 ^^^ a) &&& (4294967295 ^^^ b)) &&& x = andNot x (a ||| b) := Nat.eq_of_testBit_eq fun j => by
  rw [Nat.testBit_and, Nat.testBit_and, Nat.testBit_xor, Nat.testBit_xor, top_bit, testBit_andNot, Nat.testBit_or]
  by_cases h : j < 32
  · simp only [h, decide_true]
    cases a.testBit j <;> cases b.testBit j <;> cases x.testBit j <;> rfl
  · rw [testBit_lt32 hx (by omega)]
    simp
theorem some_nat {l h b o : Nat} (hh : l ≤ h) (ht : h ≤ 4294967295) (hb : b ≤ 4294967295) (ho : o ≤ 4294967295) (hd : b &&& o = 0) : RI.someB ⟨l, h, b, o⟩ = decide (0 ≤ Rg.least ⟨l, h, b, o⟩) := by
  have hok : RI.okB ⟨l, h, b, o⟩ = true := decide_eq_true ⟨by simp only; omega, by simp only; omega, by simp only; omega, hb, ho, hd⟩
  simp only [RI.someB, hok, Bool.true_and]
  rfl
theorem some_not {lo hi : Int} {b o : Nat} (h : ¬ lo ≤ hi) : RI.someB ⟨lo, hi, b, o⟩ = false := by
  have : RI.okB ⟨lo, hi, b, o⟩ = false := decide_eq_false (fun h' => h h'.2.1)
  simp only [RI.someB, this, Bool.false_and]
set_option maxRecDepth 100000 in
set_option maxHeartbeats 3200000 in
theorem l2But_calls (a : Rg) (n : Nat) (oa : a.Ok) (hn : n ≤ 4294967295) (w : World) :
    Calls Try.prog 135 #[.agg #[.int .i64 a.lo, .int .i64 a.hi, .int .i64 a.bits, .int .i64 a.opn], .int .i64 n] w fun e w' => ∃ (x : Rg) (ok : Bool), e = .returned (.tuple #[.agg #[.int .i64 x.lo, .int .i64 x.hi, .int .i64 x.bits, .int .i64 x.opn], .bool ok]) ∧ (a.butI n).fit = ifSome ok x ∧ Below w.heap.size w w' := by
  obtain ⟨a1, a2, hBb, hOo⟩ := oa.fits
  have hD := oa.disj
  obtain ⟨al, ah, ab, ao⟩ := a
  clear oa
  simp only at a1 a2 hBb hOo hD
  have hM : (Rg.butI ⟨al, ah, ab, ao⟩ n).fit = (⟨if al = n then (al : Int) + 1 else al, if ah = n then (ah : Int) - 1 else ah, ab, ao⟩ : RI).fit := rfl
  by_cases h1 : n = al
  · subst h1
    rw [if_pos rfl] at hM
    by_cases h2 : n = ah
    · subst h2
      rw [if_pos rfl] at hM
      have HM : Hid ((Rg.butI ⟨n, n, ab, ao⟩ n).fit = ifSome false Rg.no) := by show _ = _; rw [hM, RI.fit_no (some_not (by omega))]; rfl
      have hle' : (n : Int) - 1 < (n : Int) + 1 := by omega
      clear hM
      go_enter Try.func135, Try.ntmps135
      go_wp2
      refine bodyPost_ret (v := .tuple #[.agg #[.int .i64 1, .int .i64 0, .int .i64 0, .int .i64 0], .bool false]) (by simp [results, Try.results135, go_sem]) rfl ⟨Rg.no, false, rfl, HM.out, ?_⟩
      repeat (first | exact Below.refl _ _ | refine below_alloc' ?_ _)
    · have i2 : ¬ (ah : Int) = (n : Int) := by omega
      rw [if_neg (by omega)] at hM
      clear h2
      by_cases hle : (n : Int) + 1 ≤ (ah : Int)
      · obtain ⟨l, hl⟩ : ∃ l : Nat, (n : Int) + 1 = l := ⟨((n : Int) + 1).toNat, by omega⟩
        obtain ⟨h, hh⟩ : ∃ h : Nat, (ah : Int) = h := ⟨((ah : Int)).toNat, by omega⟩
        have fl : (⟨l, h, ab, ao⟩ : Rg).fits32 := ⟨by simp only; omega, by simp only; omega, hBb, hOo⟩
        have hsb : RI.someB ⟨(n : Int) + 1, (ah : Int), ab, ao⟩ = decide (0 ≤ Rg.least ⟨l, h, ab, ao⟩) := by
          rw [hl, hh]
          exact some_nat (by omega) (by omega) hBb hOo hD
        have cS : ∀ w, Calls Try.prog 134 #[.agg #[.int .i64 ((n : Int) + 1), .int .i64 ((ah : Int)), .int .i64 ab, .int .i64 ao]] w fun e w' => e = .returned (.bool (decide (0 ≤ Rg.least ⟨l, h, ab, ao⟩))) ∧ Below w.heap.size w w' := fun w => by
          rw [hl, hh]
          exact l2Some_calls ⟨l, h, ab, ao⟩ fl hD w
        have K1 := Lib.hid hl
        have K2 := Lib.hid hh
        cases hs : decide (0 ≤ Rg.least ⟨l, h, ab, ao⟩) with
        | false =>
          have HM : Hid ((Rg.butI ⟨n, ah, ab, ao⟩ n).fit = ifSome false Rg.no) := by show _ = _; rw [hM, RI.fit_no (hsb.trans hs)]; rfl
          rw [hs] at cS
          clear hM hs hsb hl hh
          obtain ⟨hB, hs0, xr, y2⟩ := boxes2 w (rcells ((n : Int) + 1) ((ah : Int)) ab ao) (rcells 0 0 0 0)
          go_enter Try.func135, Try.ntmps135
          go_wp2_with fail
          refine (cS _).mono ?_
          rintro e w2 ⟨rfl, hb⟩
          have hB := bnext hB hb
          have z1 := hb.size
          have y2 := Below.keep hb y2
          clear hb 
          obtain ⟨th1, V1, hw1, y1, o1⟩ := rput4 y2 1 0 0 0
          go_wp2_with ((with_reducible refine gate_store (p := 4) rfl ?_); go_loud (refine wpList_put rfl 80 _ _ rfl (w.heap.size + 1) 0 [.int .i64 1, .int .i64 0, .int .i64 0, .int .i64 0] rfl rfl th1.out (by kernel_rfl) rfl ?_; rw [hw1.out]))
          obtain ⟨q0, q1, q2, q3⟩ := rat y1
          refine bodyPost_ret (v := .tuple #[.agg #[.int .i64 1, .int .i64 0, .int .i64 0, .int .i64 0], .bool false]) (by simp [results, Try.results135, go_sem, q0, q1, q2, q3]) rfl ⟨Rg.no, false, rfl, HM.out, hB.trans (below_upon o1 (fun k hk => by omega) hB.size)⟩
        | true =>
          have HM : Hid ((Rg.butI ⟨n, ah, ab, ao⟩ n).fit = ifSome true (⟨l, h, ab, ao⟩ : Rg).tidy) := by
            show _ = _
            rw [hM, RI.fit_yes (hsb.trans hs)]
            simp only [RI.nat, hl, hh, Int.toNat_natCast]
            rfl
          rw [hs] at cS
          have cT := l2Tidy_calls ⟨l, h, ab, ao⟩ fl
          clear hM hs hsb hl hh
          obtain ⟨hB, hs0, xr, y2⟩ := boxes2 w (rcells ((n : Int) + 1) ((ah : Int)) ab ao) (rcells 0 0 0 0)
          go_enter Try.func135, Try.ntmps135
          go_wp2_with fail
          refine (cS _).mono ?_
          rintro e w2 ⟨rfl, hb⟩
          have hB := bnext hB hb
          have z1 := hb.size
          have y2 := Below.keep hb y2
          obtain ⟨q0, q1, q2, q3⟩ := rat (Below.keep hb xr)
          rw [K1.out] at q0
          rw [K2.out] at q1
          clear hb cS 
          go_wp2_with fail
          refine (cT _).mono ?_
          rintro e w3 ⟨rfl, hb⟩
          have hB := bnext hB hb
          have z2 := hb.size
          have y2 := Below.keep hb y2
          generalize (⟨l, h, ab, ao⟩ : Rg).tidy = t at *
          clear hb q0 q1 q2 q3
          obtain ⟨th1, V1, hw1, y1, o1⟩ := rput4 y2 t.lo t.hi t.bits t.opn
          go_wp2_with ((with_reducible refine gate_store (p := 4) rfl ?_); go_loud (refine wpList_put rfl 80 _ _ rfl (w.heap.size + 1) 0 [.int .i64 t.lo, .int .i64 t.hi, .int .i64 t.bits, .int .i64 t.opn] rfl rfl th1.out (by kernel_rfl) rfl ?_; rw [hw1.out]))
          obtain ⟨q0, q1, q2, q3⟩ := rat y1
          refine bodyPost_ret (v := .tuple #[.agg #[.int .i64 t.lo, .int .i64 t.hi, .int .i64 t.bits, .int .i64 t.opn], .bool true]) (by simp [results, Try.results135, go_sem, q0, q1, q2, q3]) rfl ⟨t, true, rfl, HM.out, hB.trans (below_upon o1 (fun k hk => by omega) hB.size)⟩
      · have HM : Hid ((Rg.butI ⟨n, ah, ab, ao⟩ n).fit = ifSome false Rg.no) := by show _ = _; rw [hM, RI.fit_no (some_not hle)]; rfl
        have hle' : (ah : Int) < (n : Int) + 1 := by omega
        clear hM hle
        go_enter Try.func135, Try.ntmps135
        go_wp2
        refine bodyPost_ret (v := .tuple #[.agg #[.int .i64 1, .int .i64 0, .int .i64 0, .int .i64 0], .bool false]) (by simp [results, Try.results135, go_sem]) rfl ⟨Rg.no, false, rfl, HM.out, ?_⟩
        repeat (first | exact Below.refl _ _ | refine below_alloc' ?_ _)
  · have i1 : ¬ (al : Int) = (n : Int) := by omega
    rw [if_neg (by omega)] at hM
    clear h1
    by_cases h2 : n = ah
    · subst h2
      rw [if_pos rfl] at hM
      by_cases hle : (al : Int) ≤ (n : Int) - 1
      · obtain ⟨l, hl⟩ : ∃ l : Nat, (al : Int) = l := ⟨((al : Int)).toNat, by omega⟩
        obtain ⟨h, hh⟩ : ∃ h : Nat, (n : Int) - 1 = h := ⟨((n : Int) - 1).toNat, by omega⟩
        have fl : (⟨l, h, ab, ao⟩ : Rg).fits32 := ⟨by simp only; omega, by simp only; omega, hBb, hOo⟩
        have hsb : RI.someB ⟨(al : Int), (n : Int) - 1, ab, ao⟩ = decide (0 ≤ Rg.least ⟨l, h, ab, ao⟩) := by
          rw [hl, hh]
          exact some_nat (by omega) (by omega) hBb hOo hD
        have cS : ∀ w, Calls Try.prog 134 #[.agg #[.int .i64 ((al : Int)), .int .i64 ((n : Int) - 1), .int .i64 ab, .int .i64 ao]] w fun e w' => e = .returned (.bool (decide (0 ≤ Rg.least ⟨l, h, ab, ao⟩))) ∧ Below w.heap.size w w' := fun w => by
          rw [hl, hh]
          exact l2Some_calls ⟨l, h, ab, ao⟩ fl hD w
        have K1 := Lib.hid hl
        have K2 := Lib.hid hh
        cases hs : decide (0 ≤ Rg.least ⟨l, h, ab, ao⟩) with
        | false =>
          have HM : Hid ((Rg.butI ⟨al, n, ab, ao⟩ n).fit = ifSome false Rg.no) := by show _ = _; rw [hM, RI.fit_no (hsb.trans hs)]; rfl
          rw [hs] at cS
          clear hM hs hsb hl hh
          obtain ⟨hB, hs0, xr, y2⟩ := boxes2 w (rcells ((al : Int)) ((n : Int) - 1) ab ao) (rcells 0 0 0 0)
          go_enter Try.func135, Try.ntmps135
          go_wp2_with fail
          refine (cS _).mono ?_
          rintro e w2 ⟨rfl, hb⟩
          have hB := bnext hB hb
          have z1 := hb.size
          have y2 := Below.keep hb y2
          clear hb 
          obtain ⟨th1, V1, hw1, y1, o1⟩ := rput4 y2 1 0 0 0
          go_wp2_with ((with_reducible refine gate_store (p := 4) rfl ?_); go_loud (refine wpList_put rfl 80 _ _ rfl (w.heap.size + 1) 0 [.int .i64 1, .int .i64 0, .int .i64 0, .int .i64 0] rfl rfl th1.out (by kernel_rfl) rfl ?_; rw [hw1.out]))
          obtain ⟨q0, q1, q2, q3⟩ := rat y1
          refine bodyPost_ret (v := .tuple #[.agg #[.int .i64 1, .int .i64 0, .int .i64 0, .int .i64 0], .bool false]) (by simp [results, Try.results135, go_sem, q0, q1, q2, q3]) rfl ⟨Rg.no, false, rfl, HM.out, hB.trans (below_upon o1 (fun k hk => by omega) hB.size)⟩
        | true =>
          have HM : Hid ((Rg.butI ⟨al, n, ab, ao⟩ n).fit = ifSome true (⟨l, h, ab, ao⟩ : Rg).tidy) := by
            show _ = _
            rw [hM, RI.fit_yes (hsb.trans hs)]
            simp only [RI.nat, hl, hh, Int.toNat_natCast]
            rfl
          rw [hs] at cS
          have cT := l2Tidy_calls ⟨l, h, ab, ao⟩ fl
          clear hM hs hsb hl hh
          obtain ⟨hB, hs0, xr, y2⟩ := boxes2 w (rcells ((al : Int)) ((n : Int) - 1) ab ao) (rcells 0 0 0 0)
          go_enter Try.func135, Try.ntmps135
          go_wp2_with fail
          refine (cS _).mono ?_
          rintro e w2 ⟨rfl, hb⟩
          have hB := bnext hB hb
          have z1 := hb.size
          have y2 := Below.keep hb y2
          obtain ⟨q0, q1, q2, q3⟩ := rat (Below.keep hb xr)
          rw [K1.out] at q0
          rw [K2.out] at q1
          clear hb cS 
          go_wp2_with fail
          refine (cT _).mono ?_
          rintro e w3 ⟨rfl, hb⟩
          have hB := bnext hB hb
          have z2 := hb.size
          have y2 := Below.keep hb y2
          generalize (⟨l, h, ab, ao⟩ : Rg).tidy = t at *
          clear hb q0 q1 q2 q3
          obtain ⟨th1, V1, hw1, y1, o1⟩ := rput4 y2 t.lo t.hi t.bits t.opn
          go_wp2_with ((with_reducible refine gate_store (p := 4) rfl ?_); go_loud (refine wpList_put rfl 80 _ _ rfl (w.heap.size + 1) 0 [.int .i64 t.lo, .int .i64 t.hi, .int .i64 t.bits, .int .i64 t.opn] rfl rfl th1.out (by kernel_rfl) rfl ?_; rw [hw1.out]))
          obtain ⟨q0, q1, q2, q3⟩ := rat y1
          refine bodyPost_ret (v := .tuple #[.agg #[.int .i64 t.lo, .int .i64 t.hi, .int .i64 t.bits, .int .i64 t.opn], .bool true]) (by simp [results, Try.results135, go_sem, q0, q1, q2, q3]) rfl ⟨t, true, rfl, HM.out, hB.trans (below_upon o1 (fun k hk => by omega) hB.size)⟩
      · have HM : Hid ((Rg.butI ⟨al, n, ab, ao⟩ n).fit = ifSome false Rg.no) := by show _ = _; rw [hM, RI.fit_no (some_not hle)]; rfl
        have hle' : (n : Int) - 1 < (al : Int) := by omega
        clear hM hle
        go_enter Try.func135, Try.ntmps135
        go_wp2
        refine bodyPost_ret (v := .tuple #[.agg #[.int .i64 1, .int .i64 0, .int .i64 0, .int .i64 0], .bool false]) (by simp [results, Try.results135, go_sem]) rfl ⟨Rg.no, false, rfl, HM.out, ?_⟩
        repeat (first | exact Below.refl _ _ | refine below_alloc' ?_ _)
    · have i2 : ¬ (ah : Int) = (n : Int) := by omega
      rw [if_neg (by omega)] at hM
      clear h2
      by_cases hle : (al : Int) ≤ (ah : Int)
      · obtain ⟨l, hl⟩ : ∃ l : Nat, (al : Int) = l := ⟨((al : Int)).toNat, by omega⟩
        obtain ⟨h, hh⟩ : ∃ h : Nat, (ah : Int) = h := ⟨((ah : Int)).toNat, by omega⟩
        have fl : (⟨l, h, ab, ao⟩ : Rg).fits32 := ⟨by simp only; omega, by simp only; omega, hBb, hOo⟩
        have hsb : RI.someB ⟨(al : Int), (ah : Int), ab, ao⟩ = decide (0 ≤ Rg.least ⟨l, h, ab, ao⟩) := by
          rw [hl, hh]
          exact some_nat (by omega) (by omega) hBb hOo hD
        have cS : ∀ w, Calls Try.prog 134 #[.agg #[.int .i64 ((al : Int)), .int .i64 ((ah : Int)), .int .i64 ab, .int .i64 ao]] w fun e w' => e = .returned (.bool (decide (0 ≤ Rg.least ⟨l, h, ab, ao⟩))) ∧ Below w.heap.size w w' := fun w => by
          rw [hl, hh]
          exact l2Some_calls ⟨l, h, ab, ao⟩ fl hD w
        have K1 := Lib.hid hl
        have K2 := Lib.hid hh
        cases hs : decide (0 ≤ Rg.least ⟨l, h, ab, ao⟩) with
        | false =>
          have HM : Hid ((Rg.butI ⟨al, ah, ab, ao⟩ n).fit = ifSome false Rg.no) := by show _ = _; rw [hM, RI.fit_no (hsb.trans hs)]; rfl
          rw [hs] at cS
          clear hM hs hsb hl hh
          obtain ⟨hB, hs0, xr, y2⟩ := boxes2 w (rcells ((al : Int)) ((ah : Int)) ab ao) (rcells 0 0 0 0)
          go_enter Try.func135, Try.ntmps135
          go_wp2_with fail
          refine (cS _).mono ?_
          rintro e w2 ⟨rfl, hb⟩
          have hB := bnext hB hb
          have z1 := hb.size
          have y2 := Below.keep hb y2
          clear hb 
          obtain ⟨th1, V1, hw1, y1, o1⟩ := rput4 y2 1 0 0 0
          go_wp2_with ((with_reducible refine gate_store (p := 4) rfl ?_); go_loud (refine wpList_put rfl 80 _ _ rfl (w.heap.size + 1) 0 [.int .i64 1, .int .i64 0, .int .i64 0, .int .i64 0] rfl rfl th1.out (by kernel_rfl) rfl ?_; rw [hw1.out]))
          obtain ⟨q0, q1, q2, q3⟩ := rat y1
          refine bodyPost_ret (v := .tuple #[.agg #[.int .i64 1, .int .i64 0, .int .i64 0, .int .i64 0], .bool false]) (by simp [results, Try.results135, go_sem, q0, q1, q2, q3]) rfl ⟨Rg.no, false, rfl, HM.out, hB.trans (below_upon o1 (fun k hk => by omega) hB.size)⟩
        | true =>
          have HM : Hid ((Rg.butI ⟨al, ah, ab, ao⟩ n).fit = ifSome true (⟨l, h, ab, ao⟩ : Rg).tidy) := by
            show _ = _
            rw [hM, RI.fit_yes (hsb.trans hs)]
            simp only [RI.nat, hl, hh, Int.toNat_natCast]
            rfl
          rw [hs] at cS
          have cT := l2Tidy_calls ⟨l, h, ab, ao⟩ fl
          clear hM hs hsb hl hh
          obtain ⟨hB, hs0, xr, y2⟩ := boxes2 w (rcells ((al : Int)) ((ah : Int)) ab ao) (rcells 0 0 0 0)
          go_enter Try.func135, Try.ntmps135
          go_wp2_with fail
          refine (cS _).mono ?_
          rintro e w2 ⟨rfl, hb⟩
          have hB := bnext hB hb
          have z1 := hb.size
          have y2 := Below.keep hb y2
          obtain ⟨q0, q1, q2, q3⟩ := rat (Below.keep hb xr)
          rw [K1.out] at q0
          rw [K2.out] at q1
          clear hb cS 
          go_wp2_with fail
          refine (cT _).mono ?_
          rintro e w3 ⟨rfl, hb⟩
          have hB := bnext hB hb
          have z2 := hb.size
          have y2 := Below.keep hb y2
          generalize (⟨l, h, ab, ao⟩ : Rg).tidy = t at *
          clear hb q0 q1 q2 q3
          obtain ⟨th1, V1, hw1, y1, o1⟩ := rput4 y2 t.lo t.hi t.bits t.opn
          go_wp2_with ((with_reducible refine gate_store (p := 4) rfl ?_); go_loud (refine wpList_put rfl 80 _ _ rfl (w.heap.size + 1) 0 [.int .i64 t.lo, .int .i64 t.hi, .int .i64 t.bits, .int .i64 t.opn] rfl rfl th1.out (by kernel_rfl) rfl ?_; rw [hw1.out]))
          obtain ⟨q0, q1, q2, q3⟩ := rat y1
          refine bodyPost_ret (v := .tuple #[.agg #[.int .i64 t.lo, .int .i64 t.hi, .int .i64 t.bits, .int .i64 t.opn], .bool true]) (by simp [results, Try.results135, go_sem, q0, q1, q2, q3]) rfl ⟨t, true, rfl, HM.out, hB.trans (below_upon o1 (fun k hk => by omega) hB.size)⟩
      · have HM : Hid ((Rg.butI ⟨al, ah, ab, ao⟩ n).fit = ifSome false Rg.no) := by show _ = _; rw [hM, RI.fit_no (some_not hle)]; rfl
        have hle' : (ah : Int) < (al : Int) := by omega
        clear hM hle
        go_enter Try.func135, Try.ntmps135
        go_wp2
        refine bodyPost_ret (v := .tuple #[.agg #[.int .i64 1, .int .i64 0, .int .i64 0, .int .i64 0], .bool false]) (by simp [results, Try.results135, go_sem]) rfl ⟨Rg.no, false, rfl, HM.out, ?_⟩
        repeat (first | exact Below.refl _ _ | refine below_alloc' ?_ _)
end Go.Proofs.Ytoimeebildcofaa
