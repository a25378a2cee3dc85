/- The walks of the reference's ranges: met, apart, told to be less. -/
import Derived.Test.YtoimeebildcofaaWRangeS3
namespace Go.Proofs.Ytoimeebildcofaa
open Go.RowKit
set_option maxRecDepth 100000 in
set_option maxHeartbeats 6400000 in
theorem l2Below_calls (a b : Rg) (d : Int) (oa : a.Ok) (ob : b.Ok) (d0 : 0 ≤ d) (d1 : d ≤ 1) (w : World) :
    Calls Try.prog 117 #[.agg #[.int .i64 a.lo, .int .i64 a.hi, .int .i64 a.bits, .int .i64 a.opn], .agg #[.int .i64 b.lo, .int .i64 b.hi, .int .i64 b.bits, .int .i64 b.opn], .int .i64 d] w fun e w' => ∃ (x y : Rg) (ok : Bool), e = .returned (.tuple #[.agg #[.int .i64 x.lo, .int .i64 x.hi, .int .i64 x.bits, .int .i64 x.opn], .agg #[.int .i64 y.lo, .int .i64 y.hi, .int .i64 y.bits, .int .i64 y.opn], .bool ok]) ∧ a.below b d = ifTwo ok x y ∧ Below w.heap.size w w' := by
  obtain ⟨a1, a2, a3, a4⟩ := oa.fits
  obtain ⟨b1, b2, b3, b4⟩ := ob.fits
  have da := oa.disj
  have db := ob.disj
  obtain ⟨al, ah, ab, ao⟩ := a
  obtain ⟨bl, bh, bb, bo⟩ := b
  have la := oa.le
  have lb := ob.le
  clear oa ob
  simp only at a1 a2 a3 a4 b1 b2 b3 b4 da db la lb
  have hM0 : Rg.below ⟨al, ah, ab, ao⟩ ⟨bl, bh, bb, bo⟩ d = two (⟨al, min (ah : Int) (bh - d), ab, ao⟩ : RI).fit (⟨max (bl : Int) (al + d), bh, bb, bo⟩ : RI).fit := rfl
  by_cases c1 : (bh : Int) - d < ah
  · have hX : min (ah : Int) (bh - d) = bh - d := by omega
    by_cases c2 : (bl : Int) < al + d
    · have hY : max (bl : Int) (al + d) = al + d := by omega
      have hM : Rg.below ⟨al, ah, ab, ao⟩ ⟨bl, bh, bb, bo⟩ d = two (⟨al, (bh : Int) - d, ab, ao⟩ : RI).fit (⟨(al : Int) + d, bh, bb, bo⟩ : RI).fit := by rw [hM0, hX, hY]
      by_cases le1 : (al : Int) ≤ (bh : Int) - d
      · by_cases le2 : (al : Int) + d ≤ (bh : Int)
        · obtain ⟨h, hh⟩ : ∃ h : Nat, (bh : Int) - d = h := ⟨((bh : Int) - d).toNat, by omega⟩
          obtain ⟨l, hl⟩ : ∃ l : Nat, (al : Int) + d = l := ⟨((al : Int) + d).toNat, by omega⟩
          have fa : (⟨al, h, ab, ao⟩ : Rg).fits32 := ⟨a1, by simp only; omega, a3, a4⟩
          have fb : (⟨l, bh, bb, bo⟩ : Rg).fits32 := ⟨by simp only; omega, b2, b3, b4⟩
          have sA : RI.someB ⟨al, (bh : Int) - d, ab, ao⟩ = decide (0 ≤ Rg.least ⟨al, h, ab, ao⟩) := by
            rw [hh]
            exact some_nat (by omega) (by omega) a3 a4 da
          have sB : RI.someB ⟨(al : Int) + d, bh, bb, bo⟩ = decide (0 ≤ Rg.least ⟨l, bh, bb, bo⟩) := by
            rw [hl]
            exact some_nat (by omega) (by omega) b3 b4 db
          have cA : ∀ w, Calls Try.prog 134 #[.agg #[.int .i64 al, .int .i64 ((bh : Int) - d), .int .i64 ab, .int .i64 ao]] w fun e w' => e = .returned (.bool (decide (0 ≤ Rg.least ⟨al, h, ab, ao⟩))) ∧ Below w.heap.size w w' := fun w => by
            rw [hh]
            exact l2Some_calls ⟨al, h, ab, ao⟩ fa da w
          have cB : ∀ w, Calls Try.prog 134 #[.agg #[.int .i64 ((al : Int) + d), .int .i64 bh, .int .i64 bb, .int .i64 bo]] w fun e w' => e = .returned (.bool (decide (0 ≤ Rg.least ⟨l, bh, bb, bo⟩))) ∧ Below w.heap.size w w' := fun w => by
            rw [hl]
            exact l2Some_calls ⟨l, bh, bb, bo⟩ fb db w
          have K1 := Lib.hid hh
          have K2 := Lib.hid hl
          obtain ⟨hB, hs0, x0, x1, y2, y3⟩ := boxes4 w (rcells al ((bh : Int) - d) ab ao) (rcells ((al : Int) + d) bh bb bo) (rcells 0 0 0 0) (rcells 0 0 0 0)
          cases hs : decide (0 ≤ Rg.least ⟨al, h, ab, ao⟩) with
          | false =>
            have HM : Hid (Rg.below ⟨al, ah, ab, ao⟩ ⟨bl, bh, bb, bo⟩ d = ifTwo false Rg.no Rg.no) := by show _ = _; rw [hM, two_none_left (RI.fit_no (sA.trans hs))]; rfl
            rw [hs] at cA
            clear hM hM0 hX hY hs sA sB hh hl cB
            go_enter Try.func117, Try.ntmps117
            go_wp2_with fail
            refine (cA _).mono ?_
            rintro e w1 ⟨rfl, hb⟩
            have hB := bnext hB hb
            have z0 := hb.size
            have y2 := Below.keep hb y2
            have y3 := Below.keep hb y3
            clear hb x0 x1
            obtain ⟨th1, V1, hw1, y2, o1⟩ := rput4 y2 1 0 0 0
            have y3 := Only.keep o1 y3 (by omega)
            have hB := hB.trans (below_upon o1 (fun k hk => by omega) hB.size)
            obtain ⟨th2, V2, hw2, y3, o2⟩ := rput4 y3 1 0 0 0
            have y2 := Only.keep o2 y2 (by omega)
            have z3 := o1.size
            have hB := hB.trans (below_upon o2 (fun k hk => by omega) hB.size)
            go_wp2_with (first | ((with_reducible refine gate_store (p := 6) rfl ?_); go_loud (refine wpList_put rfl 80 _ _ rfl (w.heap.size + 1 + 1) 0 [.int .i64 1, .int .i64 0, .int .i64 0, .int .i64 0] rfl rfl th1.out (by kernel_rfl) rfl ?_; rw [hw1.out])) | ((with_reducible refine gate_store (p := 7) rfl ?_); go_loud (refine wpList_put rfl 80 _ _ rfl (w.heap.size + 1 + 1 + 1) 0 [.int .i64 1, .int .i64 0, .int .i64 0, .int .i64 0] rfl rfl th2.out (by kernel_rfl) rfl ?_; rw [hw2.out])))
            obtain ⟨q0, q1, q2, q3⟩ := rat y2
            obtain ⟨p0, p1, p2, p3⟩ := rat y3
            refine bodyPost_ret (v := .tuple #[.agg #[.int .i64 1, .int .i64 0, .int .i64 0, .int .i64 0], .agg #[.int .i64 1, .int .i64 0, .int .i64 0, .int .i64 0], .bool false]) (by simp [results, Try.results117, go_sem, q0, q1, q2, q3, p0, p1, p2, p3]) rfl ⟨Rg.no, Rg.no, false, rfl, HM.out, hB⟩
          | true =>
            rw [hs] at cA
            cases hs' : decide (0 ≤ Rg.least ⟨l, bh, bb, bo⟩) with
            | false =>
              have HM : Hid (Rg.below ⟨al, ah, ab, ao⟩ ⟨bl, bh, bb, bo⟩ d = ifTwo false Rg.no Rg.no) := by show _ = _; rw [hM, two_none_right (RI.fit_no (sB.trans hs'))]; rfl
              rw [hs'] at cB
              clear hM hM0 hX hY hs hs' sA sB hh hl
              go_enter Try.func117, Try.ntmps117
              go_wp2_with fail
              refine (cA _).mono ?_
              rintro e w1 ⟨rfl, hb⟩
              have hB := bnext hB hb
              have z0 := hb.size
              have y2 := Below.keep hb y2
              have y3 := Below.keep hb y3
              obtain ⟨q0, q1, q2, q3⟩ := rat (Below.keep hb x1)
              clear hb x0 x1
              go_wp2_with fail
              refine (cB _).mono ?_
              rintro e w2 ⟨rfl, hb⟩
              have hB := bnext hB hb
              have z1 := hb.size
              have y2 := Below.keep hb y2
              have y3 := Below.keep hb y3
              clear hb q0 q1 q2 q3
              obtain ⟨th1, V1, hw1, y2, o1⟩ := rput4 y2 1 0 0 0
              have y3 := Only.keep o1 y3 (by omega)
              have hB := hB.trans (below_upon o1 (fun k hk => by omega) hB.size)
              obtain ⟨th2, V2, hw2, y3, o2⟩ := rput4 y3 1 0 0 0
              have y2 := Only.keep o2 y2 (by omega)
              have z3 := o1.size
              have hB := hB.trans (below_upon o2 (fun k hk => by omega) hB.size)
              go_wp2_with (first | ((with_reducible refine gate_store (p := 6) rfl ?_); go_loud (refine wpList_put rfl 80 _ _ rfl (w.heap.size + 1 + 1) 0 [.int .i64 1, .int .i64 0, .int .i64 0, .int .i64 0] rfl rfl th1.out (by kernel_rfl) rfl ?_; rw [hw1.out])) | ((with_reducible refine gate_store (p := 7) rfl ?_); go_loud (refine wpList_put rfl 80 _ _ rfl (w.heap.size + 1 + 1 + 1) 0 [.int .i64 1, .int .i64 0, .int .i64 0, .int .i64 0] rfl rfl th2.out (by kernel_rfl) rfl ?_; rw [hw2.out])))
              obtain ⟨q0, q1, q2, q3⟩ := rat y2
              obtain ⟨p0, p1, p2, p3⟩ := rat y3
              refine bodyPost_ret (v := .tuple #[.agg #[.int .i64 1, .int .i64 0, .int .i64 0, .int .i64 0], .agg #[.int .i64 1, .int .i64 0, .int .i64 0, .int .i64 0], .bool false]) (by simp [results, Try.results117, go_sem, q0, q1, q2, q3, p0, p1, p2, p3]) rfl ⟨Rg.no, Rg.no, false, rfl, HM.out, hB⟩
            | true =>
              have HM : Hid (Rg.below ⟨al, ah, ab, ao⟩ ⟨bl, bh, bb, bo⟩ d = ifTwo true (⟨al, h, ab, ao⟩ : Rg).tidy (⟨l, bh, bb, bo⟩ : Rg).tidy) := by
                show _ = _
                rw [hM, RI.fit_yes (sA.trans hs), RI.fit_yes (sB.trans hs')]
                simp only [RI.nat, hl, hh, Int.toNat_natCast]
                rfl
              have cTa := l2Tidy_calls ⟨al, h, ab, ao⟩ fa
              have cTb := l2Tidy_calls ⟨l, bh, bb, bo⟩ fb
              rw [hs'] at cB
              clear hM hM0 hX hY hs hs' sA sB hh hl
              go_enter Try.func117, Try.ntmps117
              go_wp2_with fail
              refine (cA _).mono ?_
              rintro e w1 ⟨rfl, hb⟩
              have hB := bnext hB hb
              have z0 := hb.size
              have y2 := Below.keep hb y2
              have y3 := Below.keep hb y3
              have x0 := Below.keep hb x0
              have x1 := Below.keep hb x1
              obtain ⟨q0, q1, q2, q3⟩ := rat x1
              clear hb cA
              go_wp2_with fail
              refine (cB _).mono ?_
              rintro e w2 ⟨rfl, hb⟩
              have hB := bnext hB hb
              have z1 := hb.size
              have y2 := Below.keep hb y2
              have y3 := Below.keep hb y3
              have x0 := Below.keep hb x0
              have x1 := Below.keep hb x1
              clear hb cB q0 q1 q2 q3
              rw [K1.out] at x0
              rw [K2.out] at x1
              go_wp2_with fail
              have q0 := cell_regrown (rat x0).1
              have q1 := cell_regrown (rat x0).2.1
              have q2 := cell_regrown (rat x0).2.2.1
              have q3 := cell_regrown (rat x0).2.2.2
              have p0 := cell_regrown (rat x1).1
              have p1 := cell_regrown (rat x1).2.1
              have p2 := cell_regrown (rat x1).2.2.1
              have p3 := cell_regrown (rat x1).2.2.2
              refine wp_region_plan [4, 5] (.one 0 .load (.one 2 .load (.one 1 .act (.one 3 .act (.one 4 .last (.one 5 .last (.one 6 .pure .done))))))) (fun w' => ∃ p : Regrown, w' = Sort.grow (redrawn w2 p.d) p.os) (by kernel_rfl) (by kernel_rfl) (fun _ _ d _ _ h => by cases d <;> exact h) ?_
              simp only [Plan.pick, List.getElem?_cons_zero, List.getElem?_cons_succ]
              have hS : Below w2.heap.size w2 w2.drew := below_drewN' (Below.refl _ _) 1
              have hB : Below _ _ w2.drew := below_drewN' hB 1
              refine plan_load (fun K hK => ?_); go_simp; refine ⟨regrown_of_below hS, hK _ _ ?_⟩; clear hK K
              refine plan_load (fun K hK => ?_); go_simp; refine ⟨regrown_of_below hS, hK _ _ ?_⟩; clear hK K
              refine plan_act ?_
              go_wp2_with fail
              refine (cTa _).mono ?_
              rintro e w3 ⟨rfl, hb⟩
              have hS := bnext hS hb
              have hB := bnext hB hb
              clear hb
              go_wp2
              refine ⟨regrown_of_below hS, ?_⟩
              refine plan_act ?_
              go_wp2_with fail
              refine (cTb _).mono ?_
              rintro e w4 ⟨rfl, hb⟩
              have hS := bnext hS hb
              have hB := bnext hB hb
              clear hb
              go_wp2
              refine ⟨regrown_of_below hS, ?_⟩
              refine plan_last_ ?_
              have y2 := Below.keep hS y2
              have y3 := Below.keep hS y3
              have z2 := hS.size
              generalize (⟨al, h, ab, ao⟩ : Rg).tidy = t at *
              generalize (⟨l, bh, bb, bo⟩ : Rg).tidy = u at *
              obtain ⟨th1, V1, hw1, y2, o1⟩ := rput4 y2 t.lo t.hi t.bits t.opn
              have y3 := Only.keep o1 y3 (by omega)
              have hB := hB.trans (below_upon o1 (fun k hk => by omega) hB.size)
              obtain ⟨th2, V2, hw2, y3, o2⟩ := rput4 y3 u.lo u.hi u.bits u.opn
              have y2 := Only.keep o2 y2 (by omega)
              have z3 := o1.size
              have hB := hB.trans (below_upon o2 (fun k hk => by omega) hB.size)
              go_wp2_with ((with_reducible refine gate_store (p := 6) rfl ?_); go_loud (refine wpList_put rfl 80 _ _ rfl (w.heap.size + 1 + 1) 0 [.int .i64 t.lo, .int .i64 t.hi, .int .i64 t.bits, .int .i64 t.opn] rfl rfl th1.out (by kernel_rfl) rfl ?_; rw [hw1.out]))
              refine plan_last_ ?_
              go_wp2_with ((with_reducible refine gate_store (p := 7) rfl ?_); go_loud (refine wpList_put rfl 80 _ _ rfl (w.heap.size + 1 + 1 + 1) 0 [.int .i64 u.lo, .int .i64 u.hi, .int .i64 u.bits, .int .i64 u.opn] rfl rfl th2.out (by kernel_rfl) rfl ?_; rw [hw2.out]))
              refine plan_pure (fun K hK => ?_); go_simp; refine hK _ _ ?_; clear hK K
              refine plan_done ?_
              obtain ⟨g0, g1, g2, g3⟩ := rat y2
              obtain ⟨f0, f1, f2, f3⟩ := rat y3
              go_wp2
              refine bodyPost_ret (v := .tuple #[.agg #[.int .i64 t.lo, .int .i64 t.hi, .int .i64 t.bits, .int .i64 t.opn], .agg #[.int .i64 u.lo, .int .i64 u.hi, .int .i64 u.bits, .int .i64 u.opn], .bool true]) (by simp [results, Try.results117, go_sem, g0, g1, g2, g3, f0, f1, f2, f3]) rfl ⟨t, u, true, rfl, HM.out, hB⟩
        · exfalso; omega
      · have HM : Hid (Rg.below ⟨al, ah, ab, ao⟩ ⟨bl, bh, bb, bo⟩ d = ifTwo false Rg.no Rg.no) := by show _ = _; rw [hM, two_none_left (RI.fit_no (some_not le1))]; rfl
        have le1' : (bh : Int) - d < (al : Int) := by omega
        clear hM hM0 hX hY le1
        go_enter Try.func117, Try.ntmps117
        go_wp2
        refine bodyPost_ret (v := .tuple #[.agg #[.int .i64 1, .int .i64 0, .int .i64 0, .int .i64 0], .agg #[.int .i64 1, .int .i64 0, .int .i64 0, .int .i64 0], .bool false]) (by simp [results, Try.results117, go_sem]) rfl ⟨Rg.no, Rg.no, false, rfl, HM.out, ?_⟩
        repeat (first | exact Below.refl _ _ | refine below_alloc' ?_ _)
    · have hY : max (bl : Int) (al + d) = bl := by omega
      have hM : Rg.below ⟨al, ah, ab, ao⟩ ⟨bl, bh, bb, bo⟩ d = two (⟨al, (bh : Int) - d, ab, ao⟩ : RI).fit (⟨(bl : Int), bh, bb, bo⟩ : RI).fit := by rw [hM0, hX, hY]
      by_cases le1 : (al : Int) ≤ (bh : Int) - d
      · by_cases le2 : (bl : Int) ≤ (bh : Int)
        · obtain ⟨h, hh⟩ : ∃ h : Nat, (bh : Int) - d = h := ⟨((bh : Int) - d).toNat, by omega⟩
          obtain ⟨l, hl⟩ : ∃ l : Nat, (bl : Int) = l := ⟨((bl : Int)).toNat, by omega⟩
          have fa : (⟨al, h, ab, ao⟩ : Rg).fits32 := ⟨a1, by simp only; omega, a3, a4⟩
          have fb : (⟨l, bh, bb, bo⟩ : Rg).fits32 := ⟨by simp only; omega, b2, b3, b4⟩
          have sA : RI.someB ⟨al, (bh : Int) - d, ab, ao⟩ = decide (0 ≤ Rg.least ⟨al, h, ab, ao⟩) := by
            rw [hh]
            exact some_nat (by omega) (by omega) a3 a4 da
          have sB : RI.someB ⟨(bl : Int), bh, bb, bo⟩ = decide (0 ≤ Rg.least ⟨l, bh, bb, bo⟩) := by
            rw [hl]
            exact some_nat (by omega) (by omega) b3 b4 db
          have cA : ∀ w, Calls Try.prog 134 #[.agg #[.int .i64 al, .int .i64 ((bh : Int) - d), .int .i64 ab, .int .i64 ao]] w fun e w' => e = .returned (.bool (decide (0 ≤ Rg.least ⟨al, h, ab, ao⟩))) ∧ Below w.heap.size w w' := fun w => by
            rw [hh]
            exact l2Some_calls ⟨al, h, ab, ao⟩ fa da w
          have cB : ∀ w, Calls Try.prog 134 #[.agg #[.int .i64 ((bl : Int)), .int .i64 bh, .int .i64 bb, .int .i64 bo]] w fun e w' => e = .returned (.bool (decide (0 ≤ Rg.least ⟨l, bh, bb, bo⟩))) ∧ Below w.heap.size w w' := fun w => by
            rw [hl]
            exact l2Some_calls ⟨l, bh, bb, bo⟩ fb db w
          have K1 := Lib.hid hh
          have K2 := Lib.hid hl
          obtain ⟨hB, hs0, x0, x1, y2, y3⟩ := boxes4 w (rcells al ((bh : Int) - d) ab ao) (rcells ((bl : Int)) bh bb bo) (rcells 0 0 0 0) (rcells 0 0 0 0)
          cases hs : decide (0 ≤ Rg.least ⟨al, h, ab, ao⟩) with
          | false =>
            have HM : Hid (Rg.below ⟨al, ah, ab, ao⟩ ⟨bl, bh, bb, bo⟩ d = ifTwo false Rg.no Rg.no) := by show _ = _; rw [hM, two_none_left (RI.fit_no (sA.trans hs))]; rfl
            rw [hs] at cA
            clear hM hM0 hX hY hs sA sB hh hl cB
            go_enter Try.func117, Try.ntmps117
            go_wp2_with fail
            refine (cA _).mono ?_
            rintro e w1 ⟨rfl, hb⟩
            have hB := bnext hB hb
            have z0 := hb.size
            have y2 := Below.keep hb y2
            have y3 := Below.keep hb y3
            clear hb x0 x1
            obtain ⟨th1, V1, hw1, y2, o1⟩ := rput4 y2 1 0 0 0
            have y3 := Only.keep o1 y3 (by omega)
            have hB := hB.trans (below_upon o1 (fun k hk => by omega) hB.size)
            obtain ⟨th2, V2, hw2, y3, o2⟩ := rput4 y3 1 0 0 0
            have y2 := Only.keep o2 y2 (by omega)
            have z3 := o1.size
            have hB := hB.trans (below_upon o2 (fun k hk => by omega) hB.size)
            go_wp2_with (first | ((with_reducible refine gate_store (p := 6) rfl ?_); go_loud (refine wpList_put rfl 80 _ _ rfl (w.heap.size + 1 + 1) 0 [.int .i64 1, .int .i64 0, .int .i64 0, .int .i64 0] rfl rfl th1.out (by kernel_rfl) rfl ?_; rw [hw1.out])) | ((with_reducible refine gate_store (p := 7) rfl ?_); go_loud (refine wpList_put rfl 80 _ _ rfl (w.heap.size + 1 + 1 + 1) 0 [.int .i64 1, .int .i64 0, .int .i64 0, .int .i64 0] rfl rfl th2.out (by kernel_rfl) rfl ?_; rw [hw2.out])))
            obtain ⟨q0, q1, q2, q3⟩ := rat y2
            obtain ⟨p0, p1, p2, p3⟩ := rat y3
            refine bodyPost_ret (v := .tuple #[.agg #[.int .i64 1, .int .i64 0, .int .i64 0, .int .i64 0], .agg #[.int .i64 1, .int .i64 0, .int .i64 0, .int .i64 0], .bool false]) (by simp [results, Try.results117, go_sem, q0, q1, q2, q3, p0, p1, p2, p3]) rfl ⟨Rg.no, Rg.no, false, rfl, HM.out, hB⟩
          | true =>
            rw [hs] at cA
            cases hs' : decide (0 ≤ Rg.least ⟨l, bh, bb, bo⟩) with
            | false =>
              have HM : Hid (Rg.below ⟨al, ah, ab, ao⟩ ⟨bl, bh, bb, bo⟩ d = ifTwo false Rg.no Rg.no) := by show _ = _; rw [hM, two_none_right (RI.fit_no (sB.trans hs'))]; rfl
              rw [hs'] at cB
              clear hM hM0 hX hY hs hs' sA sB hh hl
              go_enter Try.func117, Try.ntmps117
              go_wp2_with fail
              refine (cA _).mono ?_
              rintro e w1 ⟨rfl, hb⟩
              have hB := bnext hB hb
              have z0 := hb.size
              have y2 := Below.keep hb y2
              have y3 := Below.keep hb y3
              obtain ⟨q0, q1, q2, q3⟩ := rat (Below.keep hb x1)
              clear hb x0 x1
              go_wp2_with fail
              refine (cB _).mono ?_
              rintro e w2 ⟨rfl, hb⟩
              have hB := bnext hB hb
              have z1 := hb.size
              have y2 := Below.keep hb y2
              have y3 := Below.keep hb y3
              clear hb q0 q1 q2 q3
              obtain ⟨th1, V1, hw1, y2, o1⟩ := rput4 y2 1 0 0 0
              have y3 := Only.keep o1 y3 (by omega)
              have hB := hB.trans (below_upon o1 (fun k hk => by omega) hB.size)
              obtain ⟨th2, V2, hw2, y3, o2⟩ := rput4 y3 1 0 0 0
              have y2 := Only.keep o2 y2 (by omega)
              have z3 := o1.size
              have hB := hB.trans (below_upon o2 (fun k hk => by omega) hB.size)
              go_wp2_with (first | ((with_reducible refine gate_store (p := 6) rfl ?_); go_loud (refine wpList_put rfl 80 _ _ rfl (w.heap.size + 1 + 1) 0 [.int .i64 1, .int .i64 0, .int .i64 0, .int .i64 0] rfl rfl th1.out (by kernel_rfl) rfl ?_; rw [hw1.out])) | ((with_reducible refine gate_store (p := 7) rfl ?_); go_loud (refine wpList_put rfl 80 _ _ rfl (w.heap.size + 1 + 1 + 1) 0 [.int .i64 1, .int .i64 0, .int .i64 0, .int .i64 0] rfl rfl th2.out (by kernel_rfl) rfl ?_; rw [hw2.out])))
              obtain ⟨q0, q1, q2, q3⟩ := rat y2
              obtain ⟨p0, p1, p2, p3⟩ := rat y3
              refine bodyPost_ret (v := .tuple #[.agg #[.int .i64 1, .int .i64 0, .int .i64 0, .int .i64 0], .agg #[.int .i64 1, .int .i64 0, .int .i64 0, .int .i64 0], .bool false]) (by simp [results, Try.results117, go_sem, q0, q1, q2, q3, p0, p1, p2, p3]) rfl ⟨Rg.no, Rg.no, false, rfl, HM.out, hB⟩
            | true =>
              have HM : Hid (Rg.below ⟨al, ah, ab, ao⟩ ⟨bl, bh, bb, bo⟩ d = ifTwo true (⟨al, h, ab, ao⟩ : Rg).tidy (⟨l, bh, bb, bo⟩ : Rg).tidy) := by
                show _ = _
                rw [hM, RI.fit_yes (sA.trans hs), RI.fit_yes (sB.trans hs')]
                simp only [RI.nat, hl, hh, Int.toNat_natCast]
                rfl
              have cTa := l2Tidy_calls ⟨al, h, ab, ao⟩ fa
              have cTb := l2Tidy_calls ⟨l, bh, bb, bo⟩ fb
              rw [hs'] at cB
              clear hM hM0 hX hY hs hs' sA sB hh hl
              go_enter Try.func117, Try.ntmps117
              go_wp2_with fail
              refine (cA _).mono ?_
              rintro e w1 ⟨rfl, hb⟩
              have hB := bnext hB hb
              have z0 := hb.size
              have y2 := Below.keep hb y2
              have y3 := Below.keep hb y3
              have x0 := Below.keep hb x0
              have x1 := Below.keep hb x1
              obtain ⟨q0, q1, q2, q3⟩ := rat x1
              clear hb cA
              go_wp2_with fail
              refine (cB _).mono ?_
              rintro e w2 ⟨rfl, hb⟩
              have hB := bnext hB hb
              have z1 := hb.size
              have y2 := Below.keep hb y2
              have y3 := Below.keep hb y3
              have x0 := Below.keep hb x0
              have x1 := Below.keep hb x1
              clear hb cB q0 q1 q2 q3
              rw [K1.out] at x0
              rw [K2.out] at x1
              go_wp2_with fail
              have q0 := cell_regrown (rat x0).1
              have q1 := cell_regrown (rat x0).2.1
              have q2 := cell_regrown (rat x0).2.2.1
              have q3 := cell_regrown (rat x0).2.2.2
              have p0 := cell_regrown (rat x1).1
              have p1 := cell_regrown (rat x1).2.1
              have p2 := cell_regrown (rat x1).2.2.1
              have p3 := cell_regrown (rat x1).2.2.2
              refine wp_region_plan [4, 5] (.one 0 .load (.one 2 .load (.one 1 .act (.one 3 .act (.one 4 .last (.one 5 .last (.one 6 .pure .done))))))) (fun w' => ∃ p : Regrown, w' = Sort.grow (redrawn w2 p.d) p.os) (by kernel_rfl) (by kernel_rfl) (fun _ _ d _ _ h => by cases d <;> exact h) ?_
              simp only [Plan.pick, List.getElem?_cons_zero, List.getElem?_cons_succ]
              have hS : Below w2.heap.size w2 w2.drew := below_drewN' (Below.refl _ _) 1
              have hB : Below _ _ w2.drew := below_drewN' hB 1
              refine plan_load (fun K hK => ?_); go_simp; refine ⟨regrown_of_below hS, hK _ _ ?_⟩; clear hK K
              refine plan_load (fun K hK => ?_); go_simp; refine ⟨regrown_of_below hS, hK _ _ ?_⟩; clear hK K
              refine plan_act ?_
              go_wp2_with fail
              refine (cTa _).mono ?_
              rintro e w3 ⟨rfl, hb⟩
              have hS := bnext hS hb
              have hB := bnext hB hb
              clear hb
              go_wp2
              refine ⟨regrown_of_below hS, ?_⟩
              refine plan_act ?_
              go_wp2_with fail
              refine (cTb _).mono ?_
              rintro e w4 ⟨rfl, hb⟩
              have hS := bnext hS hb
              have hB := bnext hB hb
              clear hb
              go_wp2
              refine ⟨regrown_of_below hS, ?_⟩
              refine plan_last_ ?_
              have y2 := Below.keep hS y2
              have y3 := Below.keep hS y3
              have z2 := hS.size
              generalize (⟨al, h, ab, ao⟩ : Rg).tidy = t at *
              generalize (⟨l, bh, bb, bo⟩ : Rg).tidy = u at *
              obtain ⟨th1, V1, hw1, y2, o1⟩ := rput4 y2 t.lo t.hi t.bits t.opn
              have y3 := Only.keep o1 y3 (by omega)
              have hB := hB.trans (below_upon o1 (fun k hk => by omega) hB.size)
              obtain ⟨th2, V2, hw2, y3, o2⟩ := rput4 y3 u.lo u.hi u.bits u.opn
              have y2 := Only.keep o2 y2 (by omega)
              have z3 := o1.size
              have hB := hB.trans (below_upon o2 (fun k hk => by omega) hB.size)
              go_wp2_with ((with_reducible refine gate_store (p := 6) rfl ?_); go_loud (refine wpList_put rfl 80 _ _ rfl (w.heap.size + 1 + 1) 0 [.int .i64 t.lo, .int .i64 t.hi, .int .i64 t.bits, .int .i64 t.opn] rfl rfl th1.out (by kernel_rfl) rfl ?_; rw [hw1.out]))
              refine plan_last_ ?_
              go_wp2_with ((with_reducible refine gate_store (p := 7) rfl ?_); go_loud (refine wpList_put rfl 80 _ _ rfl (w.heap.size + 1 + 1 + 1) 0 [.int .i64 u.lo, .int .i64 u.hi, .int .i64 u.bits, .int .i64 u.opn] rfl rfl th2.out (by kernel_rfl) rfl ?_; rw [hw2.out]))
              refine plan_pure (fun K hK => ?_); go_simp; refine hK _ _ ?_; clear hK K
              refine plan_done ?_
              obtain ⟨g0, g1, g2, g3⟩ := rat y2
              obtain ⟨f0, f1, f2, f3⟩ := rat y3
              go_wp2
              refine bodyPost_ret (v := .tuple #[.agg #[.int .i64 t.lo, .int .i64 t.hi, .int .i64 t.bits, .int .i64 t.opn], .agg #[.int .i64 u.lo, .int .i64 u.hi, .int .i64 u.bits, .int .i64 u.opn], .bool true]) (by simp [results, Try.results117, go_sem, g0, g1, g2, g3, f0, f1, f2, f3]) rfl ⟨t, u, true, rfl, HM.out, hB⟩
        · exfalso; omega
      · exfalso; omega
  · have hX : min (ah : Int) (bh - d) = ah := by omega
    by_cases c2 : (bl : Int) < al + d
    · have hY : max (bl : Int) (al + d) = al + d := by omega
      have hM : Rg.below ⟨al, ah, ab, ao⟩ ⟨bl, bh, bb, bo⟩ d = two (⟨al, (ah : Int), ab, ao⟩ : RI).fit (⟨(al : Int) + d, bh, bb, bo⟩ : RI).fit := by rw [hM0, hX, hY]
      by_cases le1 : (al : Int) ≤ (ah : Int)
      · by_cases le2 : (al : Int) + d ≤ (bh : Int)
        · obtain ⟨h, hh⟩ : ∃ h : Nat, (ah : Int) = h := ⟨((ah : Int)).toNat, by omega⟩
          obtain ⟨l, hl⟩ : ∃ l : Nat, (al : Int) + d = l := ⟨((al : Int) + d).toNat, by omega⟩
          have fa : (⟨al, h, ab, ao⟩ : Rg).fits32 := ⟨a1, by simp only; omega, a3, a4⟩
          have fb : (⟨l, bh, bb, bo⟩ : Rg).fits32 := ⟨by simp only; omega, b2, b3, b4⟩
          have sA : RI.someB ⟨al, (ah : Int), ab, ao⟩ = decide (0 ≤ Rg.least ⟨al, h, ab, ao⟩) := by
            rw [hh]
            exact some_nat (by omega) (by omega) a3 a4 da
          have sB : RI.someB ⟨(al : Int) + d, bh, bb, bo⟩ = decide (0 ≤ Rg.least ⟨l, bh, bb, bo⟩) := by
            rw [hl]
            exact some_nat (by omega) (by omega) b3 b4 db
          have cA : ∀ w, Calls Try.prog 134 #[.agg #[.int .i64 al, .int .i64 ((ah : Int)), .int .i64 ab, .int .i64 ao]] w fun e w' => e = .returned (.bool (decide (0 ≤ Rg.least ⟨al, h, ab, ao⟩))) ∧ Below w.heap.size w w' := fun w => by
            rw [hh]
            exact l2Some_calls ⟨al, h, ab, ao⟩ fa da w
          have cB : ∀ w, Calls Try.prog 134 #[.agg #[.int .i64 ((al : Int) + d), .int .i64 bh, .int .i64 bb, .int .i64 bo]] w fun e w' => e = .returned (.bool (decide (0 ≤ Rg.least ⟨l, bh, bb, bo⟩))) ∧ Below w.heap.size w w' := fun w => by
            rw [hl]
            exact l2Some_calls ⟨l, bh, bb, bo⟩ fb db w
          have K1 := Lib.hid hh
          have K2 := Lib.hid hl
          obtain ⟨hB, hs0, x0, x1, y2, y3⟩ := boxes4 w (rcells al ((ah : Int)) ab ao) (rcells ((al : Int) + d) bh bb bo) (rcells 0 0 0 0) (rcells 0 0 0 0)
          cases hs : decide (0 ≤ Rg.least ⟨al, h, ab, ao⟩) with
          | false =>
            have HM : Hid (Rg.below ⟨al, ah, ab, ao⟩ ⟨bl, bh, bb, bo⟩ d = ifTwo false Rg.no Rg.no) := by show _ = _; rw [hM, two_none_left (RI.fit_no (sA.trans hs))]; rfl
            rw [hs] at cA
            clear hM hM0 hX hY hs sA sB hh hl cB
            go_enter Try.func117, Try.ntmps117
            go_wp2_with fail
            refine (cA _).mono ?_
            rintro e w1 ⟨rfl, hb⟩
            have hB := bnext hB hb
            have z0 := hb.size
            have y2 := Below.keep hb y2
            have y3 := Below.keep hb y3
            clear hb x0 x1
            obtain ⟨th1, V1, hw1, y2, o1⟩ := rput4 y2 1 0 0 0
            have y3 := Only.keep o1 y3 (by omega)
            have hB := hB.trans (below_upon o1 (fun k hk => by omega) hB.size)
            obtain ⟨th2, V2, hw2, y3, o2⟩ := rput4 y3 1 0 0 0
            have y2 := Only.keep o2 y2 (by omega)
            have z3 := o1.size
            have hB := hB.trans (below_upon o2 (fun k hk => by omega) hB.size)
            go_wp2_with (first | ((with_reducible refine gate_store (p := 6) rfl ?_); go_loud (refine wpList_put rfl 80 _ _ rfl (w.heap.size + 1 + 1) 0 [.int .i64 1, .int .i64 0, .int .i64 0, .int .i64 0] rfl rfl th1.out (by kernel_rfl) rfl ?_; rw [hw1.out])) | ((with_reducible refine gate_store (p := 7) rfl ?_); go_loud (refine wpList_put rfl 80 _ _ rfl (w.heap.size + 1 + 1 + 1) 0 [.int .i64 1, .int .i64 0, .int .i64 0, .int .i64 0] rfl rfl th2.out (by kernel_rfl) rfl ?_; rw [hw2.out])))
            obtain ⟨q0, q1, q2, q3⟩ := rat y2
            obtain ⟨p0, p1, p2, p3⟩ := rat y3
            refine bodyPost_ret (v := .tuple #[.agg #[.int .i64 1, .int .i64 0, .int .i64 0, .int .i64 0], .agg #[.int .i64 1, .int .i64 0, .int .i64 0, .int .i64 0], .bool false]) (by simp [results, Try.results117, go_sem, q0, q1, q2, q3, p0, p1, p2, p3]) rfl ⟨Rg.no, Rg.no, false, rfl, HM.out, hB⟩
          | true =>
            rw [hs] at cA
            cases hs' : decide (0 ≤ Rg.least ⟨l, bh, bb, bo⟩) with
            | false =>
              have HM : Hid (Rg.below ⟨al, ah, ab, ao⟩ ⟨bl, bh, bb, bo⟩ d = ifTwo false Rg.no Rg.no) := by show _ = _; rw [hM, two_none_right (RI.fit_no (sB.trans hs'))]; rfl
              rw [hs'] at cB
              clear hM hM0 hX hY hs hs' sA sB hh hl
              go_enter Try.func117, Try.ntmps117
              go_wp2_with fail
              refine (cA _).mono ?_
              rintro e w1 ⟨rfl, hb⟩
              have hB := bnext hB hb
              have z0 := hb.size
              have y2 := Below.keep hb y2
              have y3 := Below.keep hb y3
              obtain ⟨q0, q1, q2, q3⟩ := rat (Below.keep hb x1)
              clear hb x0 x1
              go_wp2_with fail
              refine (cB _).mono ?_
              rintro e w2 ⟨rfl, hb⟩
              have hB := bnext hB hb
              have z1 := hb.size
              have y2 := Below.keep hb y2
              have y3 := Below.keep hb y3
              clear hb q0 q1 q2 q3
              obtain ⟨th1, V1, hw1, y2, o1⟩ := rput4 y2 1 0 0 0
              have y3 := Only.keep o1 y3 (by omega)
              have hB := hB.trans (below_upon o1 (fun k hk => by omega) hB.size)
              obtain ⟨th2, V2, hw2, y3, o2⟩ := rput4 y3 1 0 0 0
              have y2 := Only.keep o2 y2 (by omega)
              have z3 := o1.size
              have hB := hB.trans (below_upon o2 (fun k hk => by omega) hB.size)
              go_wp2_with (first | ((with_reducible refine gate_store (p := 6) rfl ?_); go_loud (refine wpList_put rfl 80 _ _ rfl (w.heap.size + 1 + 1) 0 [.int .i64 1, .int .i64 0, .int .i64 0, .int .i64 0] rfl rfl th1.out (by kernel_rfl) rfl ?_; rw [hw1.out])) | ((with_reducible refine gate_store (p := 7) rfl ?_); go_loud (refine wpList_put rfl 80 _ _ rfl (w.heap.size + 1 + 1 + 1) 0 [.int .i64 1, .int .i64 0, .int .i64 0, .int .i64 0] rfl rfl th2.out (by kernel_rfl) rfl ?_; rw [hw2.out])))
              obtain ⟨q0, q1, q2, q3⟩ := rat y2
              obtain ⟨p0, p1, p2, p3⟩ := rat y3
              refine bodyPost_ret (v := .tuple #[.agg #[.int .i64 1, .int .i64 0, .int .i64 0, .int .i64 0], .agg #[.int .i64 1, .int .i64 0, .int .i64 0, .int .i64 0], .bool false]) (by simp [results, Try.results117, go_sem, q0, q1, q2, q3, p0, p1, p2, p3]) rfl ⟨Rg.no, Rg.no, false, rfl, HM.out, hB⟩
            | true =>
              have HM : Hid (Rg.below ⟨al, ah, ab, ao⟩ ⟨bl, bh, bb, bo⟩ d = ifTwo true (⟨al, h, ab, ao⟩ : Rg).tidy (⟨l, bh, bb, bo⟩ : Rg).tidy) := by
                show _ = _
                rw [hM, RI.fit_yes (sA.trans hs), RI.fit_yes (sB.trans hs')]
                simp only [RI.nat, hl, hh, Int.toNat_natCast]
                rfl
              have cTa := l2Tidy_calls ⟨al, h, ab, ao⟩ fa
              have cTb := l2Tidy_calls ⟨l, bh, bb, bo⟩ fb
              rw [hs'] at cB
              clear hM hM0 hX hY hs hs' sA sB hh hl
              go_enter Try.func117, Try.ntmps117
              go_wp2_with fail
              refine (cA _).mono ?_
              rintro e w1 ⟨rfl, hb⟩
              have hB := bnext hB hb
              have z0 := hb.size
              have y2 := Below.keep hb y2
              have y3 := Below.keep hb y3
              have x0 := Below.keep hb x0
              have x1 := Below.keep hb x1
              obtain ⟨q0, q1, q2, q3⟩ := rat x1
              clear hb cA
              go_wp2_with fail
              refine (cB _).mono ?_
              rintro e w2 ⟨rfl, hb⟩
              have hB := bnext hB hb
              have z1 := hb.size
              have y2 := Below.keep hb y2
              have y3 := Below.keep hb y3
              have x0 := Below.keep hb x0
              have x1 := Below.keep hb x1
              clear hb cB q0 q1 q2 q3
              rw [K1.out] at x0
              rw [K2.out] at x1
              go_wp2_with fail
              have q0 := cell_regrown (rat x0).1
              have q1 := cell_regrown (rat x0).2.1
              have q2 := cell_regrown (rat x0).2.2.1
              have q3 := cell_regrown (rat x0).2.2.2
              have p0 := cell_regrown (rat x1).1
              have p1 := cell_regrown (rat x1).2.1
              have p2 := cell_regrown (rat x1).2.2.1
              have p3 := cell_regrown (rat x1).2.2.2
              refine wp_region_plan [4, 5] (.one 0 .load (.one 2 .load (.one 1 .act (.one 3 .act (.one 4 .last (.one 5 .last (.one 6 .pure .done))))))) (fun w' => ∃ p : Regrown, w' = Sort.grow (redrawn w2 p.d) p.os) (by kernel_rfl) (by kernel_rfl) (fun _ _ d _ _ h => by cases d <;> exact h) ?_
              simp only [Plan.pick, List.getElem?_cons_zero, List.getElem?_cons_succ]
              have hS : Below w2.heap.size w2 w2.drew := below_drewN' (Below.refl _ _) 1
              have hB : Below _ _ w2.drew := below_drewN' hB 1
              refine plan_load (fun K hK => ?_); go_simp; refine ⟨regrown_of_below hS, hK _ _ ?_⟩; clear hK K
              refine plan_load (fun K hK => ?_); go_simp; refine ⟨regrown_of_below hS, hK _ _ ?_⟩; clear hK K
              refine plan_act ?_
              go_wp2_with fail
              refine (cTa _).mono ?_
              rintro e w3 ⟨rfl, hb⟩
              have hS := bnext hS hb
              have hB := bnext hB hb
              clear hb
              go_wp2
              refine ⟨regrown_of_below hS, ?_⟩
              refine plan_act ?_
              go_wp2_with fail
              refine (cTb _).mono ?_
              rintro e w4 ⟨rfl, hb⟩
              have hS := bnext hS hb
              have hB := bnext hB hb
              clear hb
              go_wp2
              refine ⟨regrown_of_below hS, ?_⟩
              refine plan_last_ ?_
              have y2 := Below.keep hS y2
              have y3 := Below.keep hS y3
              have z2 := hS.size
              generalize (⟨al, h, ab, ao⟩ : Rg).tidy = t at *
              generalize (⟨l, bh, bb, bo⟩ : Rg).tidy = u at *
              obtain ⟨th1, V1, hw1, y2, o1⟩ := rput4 y2 t.lo t.hi t.bits t.opn
              have y3 := Only.keep o1 y3 (by omega)
              have hB := hB.trans (below_upon o1 (fun k hk => by omega) hB.size)
              obtain ⟨th2, V2, hw2, y3, o2⟩ := rput4 y3 u.lo u.hi u.bits u.opn
              have y2 := Only.keep o2 y2 (by omega)
              have z3 := o1.size
              have hB := hB.trans (below_upon o2 (fun k hk => by omega) hB.size)
              go_wp2_with ((with_reducible refine gate_store (p := 6) rfl ?_); go_loud (refine wpList_put rfl 80 _ _ rfl (w.heap.size + 1 + 1) 0 [.int .i64 t.lo, .int .i64 t.hi, .int .i64 t.bits, .int .i64 t.opn] rfl rfl th1.out (by kernel_rfl) rfl ?_; rw [hw1.out]))
              refine plan_last_ ?_
              go_wp2_with ((with_reducible refine gate_store (p := 7) rfl ?_); go_loud (refine wpList_put rfl 80 _ _ rfl (w.heap.size + 1 + 1 + 1) 0 [.int .i64 u.lo, .int .i64 u.hi, .int .i64 u.bits, .int .i64 u.opn] rfl rfl th2.out (by kernel_rfl) rfl ?_; rw [hw2.out]))
              refine plan_pure (fun K hK => ?_); go_simp; refine hK _ _ ?_; clear hK K
              refine plan_done ?_
              obtain ⟨g0, g1, g2, g3⟩ := rat y2
              obtain ⟨f0, f1, f2, f3⟩ := rat y3
              go_wp2
              refine bodyPost_ret (v := .tuple #[.agg #[.int .i64 t.lo, .int .i64 t.hi, .int .i64 t.bits, .int .i64 t.opn], .agg #[.int .i64 u.lo, .int .i64 u.hi, .int .i64 u.bits, .int .i64 u.opn], .bool true]) (by simp [results, Try.results117, go_sem, g0, g1, g2, g3, f0, f1, f2, f3]) rfl ⟨t, u, true, rfl, HM.out, hB⟩
        · exfalso; omega
      · exfalso; omega
    · have hY : max (bl : Int) (al + d) = bl := by omega
      have hM : Rg.below ⟨al, ah, ab, ao⟩ ⟨bl, bh, bb, bo⟩ d = two (⟨al, (ah : Int), ab, ao⟩ : RI).fit (⟨(bl : Int), bh, bb, bo⟩ : RI).fit := by rw [hM0, hX, hY]
      by_cases le1 : (al : Int) ≤ (ah : Int)
      · by_cases le2 : (bl : Int) ≤ (bh : Int)
        · obtain ⟨h, hh⟩ : ∃ h : Nat, (ah : Int) = h := ⟨((ah : Int)).toNat, by omega⟩
          obtain ⟨l, hl⟩ : ∃ l : Nat, (bl : Int) = l := ⟨((bl : Int)).toNat, by omega⟩
          have fa : (⟨al, h, ab, ao⟩ : Rg).fits32 := ⟨a1, by simp only; omega, a3, a4⟩
          have fb : (⟨l, bh, bb, bo⟩ : Rg).fits32 := ⟨by simp only; omega, b2, b3, b4⟩
          have sA : RI.someB ⟨al, (ah : Int), ab, ao⟩ = decide (0 ≤ Rg.least ⟨al, h, ab, ao⟩) := by
            rw [hh]
            exact some_nat (by omega) (by omega) a3 a4 da
          have sB : RI.someB ⟨(bl : Int), bh, bb, bo⟩ = decide (0 ≤ Rg.least ⟨l, bh, bb, bo⟩) := by
            rw [hl]
            exact some_nat (by omega) (by omega) b3 b4 db
          have cA : ∀ w, Calls Try.prog 134 #[.agg #[.int .i64 al, .int .i64 ((ah : Int)), .int .i64 ab, .int .i64 ao]] w fun e w' => e = .returned (.bool (decide (0 ≤ Rg.least ⟨al, h, ab, ao⟩))) ∧ Below w.heap.size w w' := fun w => by
            rw [hh]
            exact l2Some_calls ⟨al, h, ab, ao⟩ fa da w
          have cB : ∀ w, Calls Try.prog 134 #[.agg #[.int .i64 ((bl : Int)), .int .i64 bh, .int .i64 bb, .int .i64 bo]] w fun e w' => e = .returned (.bool (decide (0 ≤ Rg.least ⟨l, bh, bb, bo⟩))) ∧ Below w.heap.size w w' := fun w => by
            rw [hl]
            exact l2Some_calls ⟨l, bh, bb, bo⟩ fb db w
          have K1 := Lib.hid hh
          have K2 := Lib.hid hl
          obtain ⟨hB, hs0, x0, x1, y2, y3⟩ := boxes4 w (rcells al ((ah : Int)) ab ao) (rcells ((bl : Int)) bh bb bo) (rcells 0 0 0 0) (rcells 0 0 0 0)
          cases hs : decide (0 ≤ Rg.least ⟨al, h, ab, ao⟩) with
          | false =>
            have HM : Hid (Rg.below ⟨al, ah, ab, ao⟩ ⟨bl, bh, bb, bo⟩ d = ifTwo false Rg.no Rg.no) := by show _ = _; rw [hM, two_none_left (RI.fit_no (sA.trans hs))]; rfl
            rw [hs] at cA
            clear hM hM0 hX hY hs sA sB hh hl cB
            go_enter Try.func117, Try.ntmps117
            go_wp2_with fail
            refine (cA _).mono ?_
            rintro e w1 ⟨rfl, hb⟩
            have hB := bnext hB hb
            have z0 := hb.size
            have y2 := Below.keep hb y2
            have y3 := Below.keep hb y3
            clear hb x0 x1
            obtain ⟨th1, V1, hw1, y2, o1⟩ := rput4 y2 1 0 0 0
            have y3 := Only.keep o1 y3 (by omega)
            have hB := hB.trans (below_upon o1 (fun k hk => by omega) hB.size)
            obtain ⟨th2, V2, hw2, y3, o2⟩ := rput4 y3 1 0 0 0
            have y2 := Only.keep o2 y2 (by omega)
            have z3 := o1.size
            have hB := hB.trans (below_upon o2 (fun k hk => by omega) hB.size)
            go_wp2_with (first | ((with_reducible refine gate_store (p := 6) rfl ?_); go_loud (refine wpList_put rfl 80 _ _ rfl (w.heap.size + 1 + 1) 0 [.int .i64 1, .int .i64 0, .int .i64 0, .int .i64 0] rfl rfl th1.out (by kernel_rfl) rfl ?_; rw [hw1.out])) | ((with_reducible refine gate_store (p := 7) rfl ?_); go_loud (refine wpList_put rfl 80 _ _ rfl (w.heap.size + 1 + 1 + 1) 0 [.int .i64 1, .int .i64 0, .int .i64 0, .int .i64 0] rfl rfl th2.out (by kernel_rfl) rfl ?_; rw [hw2.out])))
            obtain ⟨q0, q1, q2, q3⟩ := rat y2
            obtain ⟨p0, p1, p2, p3⟩ := rat y3
            refine bodyPost_ret (v := .tuple #[.agg #[.int .i64 1, .int .i64 0, .int .i64 0, .int .i64 0], .agg #[.int .i64 1, .int .i64 0, .int .i64 0, .int .i64 0], .bool false]) (by simp [results, Try.results117, go_sem, q0, q1, q2, q3, p0, p1, p2, p3]) rfl ⟨Rg.no, Rg.no, false, rfl, HM.out, hB⟩
          | true =>
            rw [hs] at cA
            cases hs' : decide (0 ≤ Rg.least ⟨l, bh, bb, bo⟩) with
            | false =>
              have HM : Hid (Rg.below ⟨al, ah, ab, ao⟩ ⟨bl, bh, bb, bo⟩ d = ifTwo false Rg.no Rg.no) := by show _ = _; rw [hM, two_none_right (RI.fit_no (sB.trans hs'))]; rfl
              rw [hs'] at cB
              clear hM hM0 hX hY hs hs' sA sB hh hl
              go_enter Try.func117, Try.ntmps117
              go_wp2_with fail
              refine (cA _).mono ?_
              rintro e w1 ⟨rfl, hb⟩
              have hB := bnext hB hb
              have z0 := hb.size
              have y2 := Below.keep hb y2
              have y3 := Below.keep hb y3
              obtain ⟨q0, q1, q2, q3⟩ := rat (Below.keep hb x1)
              clear hb x0 x1
              go_wp2_with fail
              refine (cB _).mono ?_
              rintro e w2 ⟨rfl, hb⟩
              have hB := bnext hB hb
              have z1 := hb.size
              have y2 := Below.keep hb y2
              have y3 := Below.keep hb y3
              clear hb q0 q1 q2 q3
              obtain ⟨th1, V1, hw1, y2, o1⟩ := rput4 y2 1 0 0 0
              have y3 := Only.keep o1 y3 (by omega)
              have hB := hB.trans (below_upon o1 (fun k hk => by omega) hB.size)
              obtain ⟨th2, V2, hw2, y3, o2⟩ := rput4 y3 1 0 0 0
              have y2 := Only.keep o2 y2 (by omega)
              have z3 := o1.size
              have hB := hB.trans (below_upon o2 (fun k hk => by omega) hB.size)
              go_wp2_with (first | ((with_reducible refine gate_store (p := 6) rfl ?_); go_loud (refine wpList_put rfl 80 _ _ rfl (w.heap.size + 1 + 1) 0 [.int .i64 1, .int .i64 0, .int .i64 0, .int .i64 0] rfl rfl th1.out (by kernel_rfl) rfl ?_; rw [hw1.out])) | ((with_reducible refine gate_store (p := 7) rfl ?_); go_loud (refine wpList_put rfl 80 _ _ rfl (w.heap.size + 1 + 1 + 1) 0 [.int .i64 1, .int .i64 0, .int .i64 0, .int .i64 0] rfl rfl th2.out (by kernel_rfl) rfl ?_; rw [hw2.out])))
              obtain ⟨q0, q1, q2, q3⟩ := rat y2
              obtain ⟨p0, p1, p2, p3⟩ := rat y3
              refine bodyPost_ret (v := .tuple #[.agg #[.int .i64 1, .int .i64 0, .int .i64 0, .int .i64 0], .agg #[.int .i64 1, .int .i64 0, .int .i64 0, .int .i64 0], .bool false]) (by simp [results, Try.results117, go_sem, q0, q1, q2, q3, p0, p1, p2, p3]) rfl ⟨Rg.no, Rg.no, false, rfl, HM.out, hB⟩
            | true =>
              have HM : Hid (Rg.below ⟨al, ah, ab, ao⟩ ⟨bl, bh, bb, bo⟩ d = ifTwo true (⟨al, h, ab, ao⟩ : Rg).tidy (⟨l, bh, bb, bo⟩ : Rg).tidy) := by
                show _ = _
                rw [hM, RI.fit_yes (sA.trans hs), RI.fit_yes (sB.trans hs')]
                simp only [RI.nat, hl, hh, Int.toNat_natCast]
                rfl
              have cTa := l2Tidy_calls ⟨al, h, ab, ao⟩ fa
              have cTb := l2Tidy_calls ⟨l, bh, bb, bo⟩ fb
              rw [hs'] at cB
              clear hM hM0 hX hY hs hs' sA sB hh hl
              go_enter Try.func117, Try.ntmps117
              go_wp2_with fail
              refine (cA _).mono ?_
              rintro e w1 ⟨rfl, hb⟩
              have hB := bnext hB hb
              have z0 := hb.size
              have y2 := Below.keep hb y2
              have y3 := Below.keep hb y3
              have x0 := Below.keep hb x0
              have x1 := Below.keep hb x1
              obtain ⟨q0, q1, q2, q3⟩ := rat x1
              clear hb cA
              go_wp2_with fail
              refine (cB _).mono ?_
              rintro e w2 ⟨rfl, hb⟩
              have hB := bnext hB hb
              have z1 := hb.size
              have y2 := Below.keep hb y2
              have y3 := Below.keep hb y3
              have x0 := Below.keep hb x0
              have x1 := Below.keep hb x1
              clear hb cB q0 q1 q2 q3
              rw [K1.out] at x0
              rw [K2.out] at x1
              go_wp2_with fail
              have q0 := cell_regrown (rat x0).1
              have q1 := cell_regrown (rat x0).2.1
              have q2 := cell_regrown (rat x0).2.2.1
              have q3 := cell_regrown (rat x0).2.2.2
              have p0 := cell_regrown (rat x1).1
              have p1 := cell_regrown (rat x1).2.1
              have p2 := cell_regrown (rat x1).2.2.1
              have p3 := cell_regrown (rat x1).2.2.2
              refine wp_region_plan [4, 5] (.one 0 .load (.one 2 .load (.one 1 .act (.one 3 .act (.one 4 .last (.one 5 .last (.one 6 .pure .done))))))) (fun w' => ∃ p : Regrown, w' = Sort.grow (redrawn w2 p.d) p.os) (by kernel_rfl) (by kernel_rfl) (fun _ _ d _ _ h => by cases d <;> exact h) ?_
              simp only [Plan.pick, List.getElem?_cons_zero, List.getElem?_cons_succ]
              have hS : Below w2.heap.size w2 w2.drew := below_drewN' (Below.refl _ _) 1
              have hB : Below _ _ w2.drew := below_drewN' hB 1
              refine plan_load (fun K hK => ?_); go_simp; refine ⟨regrown_of_below hS, hK _ _ ?_⟩; clear hK K
              refine plan_load (fun K hK => ?_); go_simp; refine ⟨regrown_of_below hS, hK _ _ ?_⟩; clear hK K
              refine plan_act ?_
              go_wp2_with fail
              refine (cTa _).mono ?_
              rintro e w3 ⟨rfl, hb⟩
              have hS := bnext hS hb
              have hB := bnext hB hb
              clear hb
              go_wp2
              refine ⟨regrown_of_below hS, ?_⟩
              refine plan_act ?_
              go_wp2_with fail
              refine (cTb _).mono ?_
              rintro e w4 ⟨rfl, hb⟩
              have hS := bnext hS hb
              have hB := bnext hB hb
              clear hb
              go_wp2
              refine ⟨regrown_of_below hS, ?_⟩
              refine plan_last_ ?_
              have y2 := Below.keep hS y2
              have y3 := Below.keep hS y3
              have z2 := hS.size
              generalize (⟨al, h, ab, ao⟩ : Rg).tidy = t at *
              generalize (⟨l, bh, bb, bo⟩ : Rg).tidy = u at *
              obtain ⟨th1, V1, hw1, y2, o1⟩ := rput4 y2 t.lo t.hi t.bits t.opn
              have y3 := Only.keep o1 y3 (by omega)
              have hB := hB.trans (below_upon o1 (fun k hk => by omega) hB.size)
              obtain ⟨th2, V2, hw2, y3, o2⟩ := rput4 y3 u.lo u.hi u.bits u.opn
              have y2 := Only.keep o2 y2 (by omega)
              have z3 := o1.size
              have hB := hB.trans (below_upon o2 (fun k hk => by omega) hB.size)
              go_wp2_with ((with_reducible refine gate_store (p := 6) rfl ?_); go_loud (refine wpList_put rfl 80 _ _ rfl (w.heap.size + 1 + 1) 0 [.int .i64 t.lo, .int .i64 t.hi, .int .i64 t.bits, .int .i64 t.opn] rfl rfl th1.out (by kernel_rfl) rfl ?_; rw [hw1.out]))
              refine plan_last_ ?_
              go_wp2_with ((with_reducible refine gate_store (p := 7) rfl ?_); go_loud (refine wpList_put rfl 80 _ _ rfl (w.heap.size + 1 + 1 + 1) 0 [.int .i64 u.lo, .int .i64 u.hi, .int .i64 u.bits, .int .i64 u.opn] rfl rfl th2.out (by kernel_rfl) rfl ?_; rw [hw2.out]))
              refine plan_pure (fun K hK => ?_); go_simp; refine hK _ _ ?_; clear hK K
              refine plan_done ?_
              obtain ⟨g0, g1, g2, g3⟩ := rat y2
              obtain ⟨f0, f1, f2, f3⟩ := rat y3
              go_wp2
              refine bodyPost_ret (v := .tuple #[.agg #[.int .i64 t.lo, .int .i64 t.hi, .int .i64 t.bits, .int .i64 t.opn], .agg #[.int .i64 u.lo, .int .i64 u.hi, .int .i64 u.bits, .int .i64 u.opn], .bool true]) (by simp [results, Try.results117, go_sem, g0, g1, g2, g3, f0, f1, f2, f3]) rfl ⟨t, u, true, rfl, HM.out, hB⟩
        · exfalso; omega
      · exfalso; omega
end Go.Proofs.Ytoimeebildcofaa
