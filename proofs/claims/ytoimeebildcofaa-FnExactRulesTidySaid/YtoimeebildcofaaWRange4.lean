/- The walk of the program's ranges of which the first is told to be less, or not. -/
import Derived.Test.YtoimeebildcofaaWRange3
namespace Go.Proofs.Ytoimeebildcofaa
open Go.RowKit
def two (p q : Option Rg) : Option (Rg × Rg) := match p, q with
  | some x, some y => some (x, y)
  | _, _ => none
theorem two_swap (p q : Option Rg) : swap2 (two p q) = two q p := by cases p <;> cases q <;> rfl
def Rg.belowB (a b : Rg) (less : Bool) : Option (Rg × Rg) := if less then a.below b 1 else swap2 (b.below a 0)
theorem below_yes (a b : Rg) : a.belowB b true = two (⟨a.lo, min (a.hi : Int) (b.hi - 1), a.bits, a.opn⟩ : RI).fit (⟨max (b.lo : Int) (a.lo + 1), b.hi, b.bits, b.opn⟩ : RI).fit := rfl
theorem below_no (a b : Rg) : a.belowB b false = two (⟨max (a.lo : Int) b.lo, a.hi, a.bits, a.opn⟩ : RI).fit (⟨b.lo, min (b.hi : Int) a.hi, b.bits, b.opn⟩ : RI).fit := by
  rw [← two_swap]
  show swap2 (b.below a 0) = _
  have h1 : (a.hi : Int) - 0 = a.hi := by omega
  have h2 : (b.lo : Int) + 0 = b.lo := by omega
  unfold Rg.below
  rw [h1, h2]
  rfl
theorem two_none_left {p q : Option Rg} (h : p = none) : two p q = none := by subst h; rfl
theorem two_none_right {p q : Option Rg} (h : q = none) : two p q = none := by subst h; cases p <;> rfl
theorem RI.fit_no {r : RI} (h : r.someB = false) : r.fit = none := by unfold RI.fit; rw [h]; rfl
theorem RI.fit_yes {r : RI} (h : r.someB = true) : r.fit = some r.nat.tidy := by unfold RI.fit; rw [h]; rfl
set_option maxRecDepth 100000 in
set_option maxHeartbeats 3200000 in
theorem below_calls (a b : Rg) (less : Bool) (oa : a.fits32) (ob : b.fits32) (w : World) :
    Calls Try.prog 99 #[.agg #[.int .i64 a.lo, .int .i64 a.hi, .int .i64 a.bits, .int .i64 a.opn], .agg #[.int .i64 b.lo, .int .i64 b.hi, .int .i64 b.bits, .int .i64 b.opn], .bool less] w fun e w' => ∃ (x y : Rg) (ok : Bool), e = .returned (.tuple #[.agg #[.int .i64 x.lo, .int .i64 x.hi, .int .i64 x.bits, .int .i64 x.opn], .agg #[.int .i64 y.lo, .int .i64 y.hi, .int .i64 y.bits, .int .i64 y.opn], .bool ok]) ∧ a.belowB b less = ifTwo ok x y ∧ Below w.heap.size w w' := by
  obtain ⟨a1, a2, a3, a4⟩ := oa
  obtain ⟨b1, b2, b3, b4⟩ := ob
  obtain ⟨al, ah, ab, ao⟩ := a
  obtain ⟨bl, bh, bb, bo⟩ := b
  simp only at a1 a2 a3 a4 b1 b2 b3 b4
  cases less with
  | true =>
    have hM : (⟨al, ah, ab, ao⟩ : Rg).belowB ⟨bl, bh, bb, bo⟩ true = two (⟨(al : Int), min (ah : Int) (bh - 1), ab, ao⟩ : RI).fit (⟨max (bl : Int) (al + 1), (bh : Int), bb, bo⟩ : RI).fit := below_yes _ _
    obtain ⟨X, hX⟩ : ∃ X : Int, min (ah : Int) (bh - 1) = X := ⟨_, rfl⟩
    obtain ⟨Y, hY⟩ : ∃ Y : Int, max (bl : Int) (al + 1) = Y := ⟨_, rfl⟩
    rw [hX, hY] at hM
    have cA := some_calls al X ab ao (by omega) (by omega)
    have cB := some_calls Y bh bb bo (by omega) (by omega)
    obtain ⟨hB, hs0, x0, x1, y2, y3⟩ := boxes4 w (rcells al X ab ao) (rcells Y bh bb bo) (rcells 0 0 0 0) (rcells 0 0 0 0)
    cases sa : (⟨al, X, ab, ao⟩ : RI).someB with
    | false =>
      rw [sa] at cA
      have HM : Hid ((⟨al, ah, ab, ao⟩ : Rg).belowB ⟨bl, bh, bb, bo⟩ true = ifTwo false Rg.no Rg.no) := by show _ = _; rw [hM, two_none_left (RI.fit_no sa)]; rfl
      clear hM sa cB
      go_enter Try.func99, Try.ntmps99
      go_wp2_with fail
      refine (cA _).mono ?_
      rintro e w1 ⟨rfl, hb⟩
      have hB := bnext hB hb
      have z0 := hb.size
      have y2 := Below.keep hb y2
      have y3 := Below.keep hb y3
      clear hb x0 x1
      go_wp2_with fail
      refine (noRange_calls _).mono ?_
      rintro e w2 ⟨rfl, hb⟩
      have hB := bnext hB hb
      have z1 := hb.size
      have y2 := Below.keep hb y2
      have y3 := Below.keep hb y3
      clear hb
      go_wp2_with fail
      refine (noRange_calls _).mono ?_
      rintro e w3 ⟨rfl, hb⟩
      have hB := bnext hB hb
      have z2 := hb.size
      have y2 := Below.keep hb y2
      have y3 := Below.keep hb y3
      clear hb
      obtain ⟨th1, V1, hw1, y2, o1⟩ := rput4 y2 1 0 0 0
      have y3 := Only.keep o1 y3 (by omega)
      have hB := hB.trans (below_upon o1 (fun k hk => by omega) hB.size)
      obtain ⟨th2, V2, hw2, y3, o2⟩ := rput4 y3 1 0 0 0
      have y2 := Only.keep o2 y2 (by omega)
      have z3 := o1.size
      have hB := hB.trans (below_upon o2 (fun k hk => by omega) hB.size)
      go_wp2_with (first | ((with_reducible refine gate_store (p := 6) rfl ?_); go_loud (refine wpList_put rfl 80 _ _ rfl (w.heap.size + 1 + 1) 0 [.int .i64 1, .int .i64 0, .int .i64 0, .int .i64 0] rfl rfl th1.out (by kernel_rfl) rfl ?_; rw [hw1.out])) | ((with_reducible refine gate_store (p := 7) rfl ?_); go_loud (refine wpList_put rfl 80 _ _ rfl (w.heap.size + 1 + 1 + 1) 0 [.int .i64 1, .int .i64 0, .int .i64 0, .int .i64 0] rfl rfl th2.out (by kernel_rfl) rfl ?_; rw [hw2.out])))
      obtain ⟨q0, q1, q2, q3⟩ := rat y2
      obtain ⟨p0, p1, p2, p3⟩ := rat y3
      refine bodyPost_ret (v := .tuple #[.agg #[.int .i64 1, .int .i64 0, .int .i64 0, .int .i64 0], .agg #[.int .i64 1, .int .i64 0, .int .i64 0, .int .i64 0], .bool false]) (by simp [results, Try.results99, go_sem, q0, q1, q2, q3, p0, p1, p2, p3]) rfl ⟨Rg.no, Rg.no, false, rfl, HM.out, hB⟩
    | true =>
      rw [sa] at cA
      cases sb : (⟨Y, bh, bb, bo⟩ : RI).someB with
      | false =>
        rw [sb] at cB
        have HM : Hid ((⟨al, ah, ab, ao⟩ : Rg).belowB ⟨bl, bh, bb, bo⟩ true = ifTwo false Rg.no Rg.no) := by show _ = _; rw [hM, two_none_right (RI.fit_no sb)]; rfl
        clear hM sa sb
        go_enter Try.func99, Try.ntmps99
        go_wp2_with fail
        refine (cA _).mono ?_
        rintro e w1 ⟨rfl, hb⟩
        have hB := bnext hB hb
        have z0 := hb.size
        have y2 := Below.keep hb y2
        have y3 := Below.keep hb y3
        obtain ⟨q0, q1, q2, q3⟩ := rat (Below.keep hb x1)
        clear hb x0 x1
        go_wp2_with fail
        refine (cB _).mono ?_
        rintro e w2 ⟨rfl, hb⟩
        have hB := bnext hB hb
        have zz := hb.size
        have y2 := Below.keep hb y2
        have y3 := Below.keep hb y3
        clear hb q0 q1 q2 q3
        go_wp2_with fail
        refine (noRange_calls _).mono ?_
        rintro e w3 ⟨rfl, hb⟩
        have hB := bnext hB hb
        have z1 := hb.size
        have y2 := Below.keep hb y2
        have y3 := Below.keep hb y3
        clear hb
        go_wp2_with fail
        refine (noRange_calls _).mono ?_
        rintro e w4 ⟨rfl, hb⟩
        have hB := bnext hB hb
        have z2 := hb.size
        have y2 := Below.keep hb y2
        have y3 := Below.keep hb y3
        clear hb
        obtain ⟨th1, V1, hw1, y2, o1⟩ := rput4 y2 1 0 0 0
        have y3 := Only.keep o1 y3 (by omega)
        have hB := hB.trans (below_upon o1 (fun k hk => by omega) hB.size)
        obtain ⟨th2, V2, hw2, y3, o2⟩ := rput4 y3 1 0 0 0
        have y2 := Only.keep o2 y2 (by omega)
        have z3 := o1.size
        have hB := hB.trans (below_upon o2 (fun k hk => by omega) hB.size)
        go_wp2_with (first | ((with_reducible refine gate_store (p := 6) rfl ?_); go_loud (refine wpList_put rfl 80 _ _ rfl (w.heap.size + 1 + 1) 0 [.int .i64 1, .int .i64 0, .int .i64 0, .int .i64 0] rfl rfl th1.out (by kernel_rfl) rfl ?_; rw [hw1.out])) | ((with_reducible refine gate_store (p := 7) rfl ?_); go_loud (refine wpList_put rfl 80 _ _ rfl (w.heap.size + 1 + 1 + 1) 0 [.int .i64 1, .int .i64 0, .int .i64 0, .int .i64 0] rfl rfl th2.out (by kernel_rfl) rfl ?_; rw [hw2.out])))
        obtain ⟨q0, q1, q2, q3⟩ := rat y2
        obtain ⟨p0, p1, p2, p3⟩ := rat y3
        refine bodyPost_ret (v := .tuple #[.agg #[.int .i64 1, .int .i64 0, .int .i64 0, .int .i64 0], .agg #[.int .i64 1, .int .i64 0, .int .i64 0, .int .i64 0], .bool false]) (by simp [results, Try.results99, go_sem, q0, q1, q2, q3, p0, p1, p2, p3]) rfl ⟨Rg.no, Rg.no, false, rfl, HM.out, hB⟩
      | true =>
        rw [sb] at cB
        obtain ⟨l, h, k1, k2, hok, hnat⟩ := Rg.Ok.someNat (r := ⟨0, 0, ab, ao⟩) sa
        obtain ⟨l', h', k1', k2', hok', hnat'⟩ := Rg.Ok.someNat (r := ⟨0, 0, bb, bo⟩) sb
        have HM : Hid ((⟨al, ah, ab, ao⟩ : Rg).belowB ⟨bl, bh, bb, bo⟩ true = ifTwo true (⟨l, h, ab, ao⟩ : Rg).tidy (⟨l', h', bb, bo⟩ : Rg).tidy) := by show _ = _; rw [hM, RI.fit_yes sa, RI.fit_yes sb, hnat, hnat']; rfl
        have cTa := tidy_calls ⟨l, h, ab, ao⟩ hok.fits
        have cTb := tidy_calls ⟨l', h', bb, bo⟩ hok'.fits
        have K1 : Hid ((al : Int) = (l : Int)) := k1
        have K2 : Hid (X = (h : Int)) := k2
        have K3 : Hid (Y = (l' : Int)) := k1'
        have K4 : Hid ((bh : Int) = (h' : Int)) := k2'
        clear hM sa sb hok hok' hnat hnat' k1 k2 k1' k2'
        go_enter Try.func99, Try.ntmps99
        go_wp2_with fail
        refine (cA _).mono ?_
        rintro e w1 ⟨rfl, hb⟩
        have hB := bnext hB hb
        have z0 := hb.size
        have y2 := Below.keep hb y2
        have y3 := Below.keep hb y3
        have x0 := Below.keep hb x0
        have x1 := Below.keep hb x1
        obtain ⟨q0, q1, q2, q3⟩ := rat x1
        clear hb cA
        go_wp2_with fail
        refine (cB _).mono ?_
        rintro e w2 ⟨rfl, hb⟩
        have hB := bnext hB hb
        have zz := hb.size
        have y2 := Below.keep hb y2
        have y3 := Below.keep hb y3
        have x0 := Below.keep hb x0
        have x1 := Below.keep hb x1
        clear hb cB q0 q1 q2 q3
        rw [K1.out, K2.out] at x0
        rw [K3.out, K4.out] at x1
        go_wp2_with fail
        have q0 := cell_regrown (rat x0).1
        have q1 := cell_regrown (rat x0).2.1
        have q2 := cell_regrown (rat x0).2.2.1
        have q3 := cell_regrown (rat x0).2.2.2
        have p0 := cell_regrown (rat x1).1
        have p1 := cell_regrown (rat x1).2.1
        have p2 := cell_regrown (rat x1).2.2.1
        have p3 := cell_regrown (rat x1).2.2.2
        refine wp_region_plan [4, 5] (.one 0 .load (.one 2 .load (.one 1 .act (.one 3 .act (.one 4 .last (.one 5 .last (.one 6 .pure .done))))))) (fun w' => ∃ p : Regrown, w' = Sort.grow (redrawn w2 p.d) p.os) (by kernel_rfl) (by kernel_rfl) (fun _ _ d _ _ h => by cases d <;> exact h) ?_
        simp only [Plan.pick, List.getElem?_cons_zero, List.getElem?_cons_succ]
        have hS : Below w2.heap.size w2 w2.drew := below_drewN' (Below.refl _ _) 1
        have hB : Below _ _ w2.drew := below_drewN' hB 1
        refine plan_load (fun K hK => ?_); go_simp; refine ⟨regrown_of_below hS, hK _ _ ?_⟩; clear hK K
        refine plan_load (fun K hK => ?_); go_simp; refine ⟨regrown_of_below hS, hK _ _ ?_⟩; clear hK K
        refine plan_act ?_
        go_wp2_with fail
        refine (cTa _).mono ?_
        rintro e w3 ⟨rfl, hb⟩
        have hS := bnext hS hb
        have hB := bnext hB hb
        clear hb
        go_wp2
        refine ⟨regrown_of_below hS, ?_⟩
        refine plan_act ?_
        go_wp2_with fail
        refine (cTb _).mono ?_
        rintro e w4 ⟨rfl, hb⟩
        have hS := bnext hS hb
        have hB := bnext hB hb
        clear hb
        go_wp2
        refine ⟨regrown_of_below hS, ?_⟩
        refine plan_last_ ?_
        have y2 := Below.keep hS y2
        have y3 := Below.keep hS y3
        have z1 := hS.size
        generalize (⟨l, h, ab, ao⟩ : Rg).tidy = t at *
        generalize (⟨l', h', bb, bo⟩ : Rg).tidy = u at *
        obtain ⟨th1, V1, hw1, y2, o1⟩ := rput4 y2 t.lo t.hi t.bits t.opn
        have y3 := Only.keep o1 y3 (by omega)
        have hB := hB.trans (below_upon o1 (fun k hk => by omega) hB.size)
        obtain ⟨th2, V2, hw2, y3, o2⟩ := rput4 y3 u.lo u.hi u.bits u.opn
        have y2 := Only.keep o2 y2 (by omega)
        have z3 := o1.size
        have hB := hB.trans (below_upon o2 (fun k hk => by omega) hB.size)
        go_wp2_with ((with_reducible refine gate_store (p := 6) rfl ?_); go_loud (refine wpList_put rfl 80 _ _ rfl (w.heap.size + 1 + 1) 0 [.int .i64 t.lo, .int .i64 t.hi, .int .i64 t.bits, .int .i64 t.opn] rfl rfl th1.out (by kernel_rfl) rfl ?_; rw [hw1.out]))
        refine plan_last_ ?_
        go_wp2_with ((with_reducible refine gate_store (p := 7) rfl ?_); go_loud (refine wpList_put rfl 80 _ _ rfl (w.heap.size + 1 + 1 + 1) 0 [.int .i64 u.lo, .int .i64 u.hi, .int .i64 u.bits, .int .i64 u.opn] rfl rfl th2.out (by kernel_rfl) rfl ?_; rw [hw2.out]))
        refine plan_pure (fun K hK => ?_); go_simp; refine hK _ _ ?_; clear hK K
        refine plan_done ?_
        obtain ⟨g0, g1, g2, g3⟩ := rat y2
        obtain ⟨f0, f1, f2, f3⟩ := rat y3
        go_wp2
        refine bodyPost_ret (v := .tuple #[.agg #[.int .i64 t.lo, .int .i64 t.hi, .int .i64 t.bits, .int .i64 t.opn], .agg #[.int .i64 u.lo, .int .i64 u.hi, .int .i64 u.bits, .int .i64 u.opn], .bool true]) (by simp [results, Try.results99, go_sem, g0, g1, g2, g3, f0, f1, f2, f3]) rfl ⟨t, u, true, rfl, HM.out, hB⟩
  | false =>
    have hM : (⟨al, ah, ab, ao⟩ : Rg).belowB ⟨bl, bh, bb, bo⟩ false = two (⟨max (al : Int) bl, (ah : Int), ab, ao⟩ : RI).fit (⟨(bl : Int), min (bh : Int) ah, bb, bo⟩ : RI).fit := below_no _ _
    obtain ⟨X, hX⟩ : ∃ X : Int, max (al : Int) bl = X := ⟨_, rfl⟩
    obtain ⟨Y, hY⟩ : ∃ Y : Int, min (bh : Int) ah = Y := ⟨_, rfl⟩
    rw [hX, hY] at hM
    have cA := some_calls X ah ab ao (by omega) (by omega)
    have cB := some_calls bl Y bb bo (by omega) (by omega)
    obtain ⟨hB, hs0, x0, x1, y2, y3⟩ := boxes4 w (rcells X ah ab ao) (rcells bl Y bb bo) (rcells 0 0 0 0) (rcells 0 0 0 0)
    cases sa : (⟨X, ah, ab, ao⟩ : RI).someB with
    | false =>
      rw [sa] at cA
      have HM : Hid ((⟨al, ah, ab, ao⟩ : Rg).belowB ⟨bl, bh, bb, bo⟩ false = ifTwo false Rg.no Rg.no) := by show _ = _; rw [hM, two_none_left (RI.fit_no sa)]; rfl
      clear hM sa cB
      go_enter Try.func99, Try.ntmps99
      go_wp2_with fail
      refine (cA _).mono ?_
      rintro e w1 ⟨rfl, hb⟩
      have hB := bnext hB hb
      have z0 := hb.size
      have y2 := Below.keep hb y2
      have y3 := Below.keep hb y3
      clear hb x0 x1
      go_wp2_with fail
      refine (noRange_calls _).mono ?_
      rintro e w2 ⟨rfl, hb⟩
      have hB := bnext hB hb
      have z1 := hb.size
      have y2 := Below.keep hb y2
      have y3 := Below.keep hb y3
      clear hb
      go_wp2_with fail
      refine (noRange_calls _).mono ?_
      rintro e w3 ⟨rfl, hb⟩
      have hB := bnext hB hb
      have z2 := hb.size
      have y2 := Below.keep hb y2
      have y3 := Below.keep hb y3
      clear hb
      obtain ⟨th1, V1, hw1, y2, o1⟩ := rput4 y2 1 0 0 0
      have y3 := Only.keep o1 y3 (by omega)
      have hB := hB.trans (below_upon o1 (fun k hk => by omega) hB.size)
      obtain ⟨th2, V2, hw2, y3, o2⟩ := rput4 y3 1 0 0 0
      have y2 := Only.keep o2 y2 (by omega)
      have z3 := o1.size
      have hB := hB.trans (below_upon o2 (fun k hk => by omega) hB.size)
      go_wp2_with (first | ((with_reducible refine gate_store (p := 6) rfl ?_); go_loud (refine wpList_put rfl 80 _ _ rfl (w.heap.size + 1 + 1) 0 [.int .i64 1, .int .i64 0, .int .i64 0, .int .i64 0] rfl rfl th1.out (by kernel_rfl) rfl ?_; rw [hw1.out])) | ((with_reducible refine gate_store (p := 7) rfl ?_); go_loud (refine wpList_put rfl 80 _ _ rfl (w.heap.size + 1 + 1 + 1) 0 [.int .i64 1, .int .i64 0, .int .i64 0, .int .i64 0] rfl rfl th2.out (by kernel_rfl) rfl ?_; rw [hw2.out])))
      obtain ⟨q0, q1, q2, q3⟩ := rat y2
      obtain ⟨p0, p1, p2, p3⟩ := rat y3
      refine bodyPost_ret (v := .tuple #[.agg #[.int .i64 1, .int .i64 0, .int .i64 0, .int .i64 0], .agg #[.int .i64 1, .int .i64 0, .int .i64 0, .int .i64 0], .bool false]) (by simp [results, Try.results99, go_sem, q0, q1, q2, q3, p0, p1, p2, p3]) rfl ⟨Rg.no, Rg.no, false, rfl, HM.out, hB⟩
    | true =>
      rw [sa] at cA
      cases sb : (⟨bl, Y, bb, bo⟩ : RI).someB with
      | false =>
        rw [sb] at cB
        have HM : Hid ((⟨al, ah, ab, ao⟩ : Rg).belowB ⟨bl, bh, bb, bo⟩ false = ifTwo false Rg.no Rg.no) := by show _ = _; rw [hM, two_none_right (RI.fit_no sb)]; rfl
        clear hM sa sb
        go_enter Try.func99, Try.ntmps99
        go_wp2_with fail
        refine (cA _).mono ?_
        rintro e w1 ⟨rfl, hb⟩
        have hB := bnext hB hb
        have z0 := hb.size
        have y2 := Below.keep hb y2
        have y3 := Below.keep hb y3
        obtain ⟨q0, q1, q2, q3⟩ := rat (Below.keep hb x1)
        clear hb x0 x1
        go_wp2_with fail
        refine (cB _).mono ?_
        rintro e w2 ⟨rfl, hb⟩
        have hB := bnext hB hb
        have zz := hb.size
        have y2 := Below.keep hb y2
        have y3 := Below.keep hb y3
        clear hb q0 q1 q2 q3
        go_wp2_with fail
        refine (noRange_calls _).mono ?_
        rintro e w3 ⟨rfl, hb⟩
        have hB := bnext hB hb
        have z1 := hb.size
        have y2 := Below.keep hb y2
        have y3 := Below.keep hb y3
        clear hb
        go_wp2_with fail
        refine (noRange_calls _).mono ?_
        rintro e w4 ⟨rfl, hb⟩
        have hB := bnext hB hb
        have z2 := hb.size
        have y2 := Below.keep hb y2
        have y3 := Below.keep hb y3
        clear hb
        obtain ⟨th1, V1, hw1, y2, o1⟩ := rput4 y2 1 0 0 0
        have y3 := Only.keep o1 y3 (by omega)
        have hB := hB.trans (below_upon o1 (fun k hk => by omega) hB.size)
        obtain ⟨th2, V2, hw2, y3, o2⟩ := rput4 y3 1 0 0 0
        have y2 := Only.keep o2 y2 (by omega)
        have z3 := o1.size
        have hB := hB.trans (below_upon o2 (fun k hk => by omega) hB.size)
        go_wp2_with (first | ((with_reducible refine gate_store (p := 6) rfl ?_); go_loud (refine wpList_put rfl 80 _ _ rfl (w.heap.size + 1 + 1) 0 [.int .i64 1, .int .i64 0, .int .i64 0, .int .i64 0] rfl rfl th1.out (by kernel_rfl) rfl ?_; rw [hw1.out])) | ((with_reducible refine gate_store (p := 7) rfl ?_); go_loud (refine wpList_put rfl 80 _ _ rfl (w.heap.size + 1 + 1 + 1) 0 [.int .i64 1, .int .i64 0, .int .i64 0, .int .i64 0] rfl rfl th2.out (by kernel_rfl) rfl ?_; rw [hw2.out])))
        obtain ⟨q0, q1, q2, q3⟩ := rat y2
        obtain ⟨p0, p1, p2, p3⟩ := rat y3
        refine bodyPost_ret (v := .tuple #[.agg #[.int .i64 1, .int .i64 0, .int .i64 0, .int .i64 0], .agg #[.int .i64 1, .int .i64 0, .int .i64 0, .int .i64 0], .bool false]) (by simp [results, Try.results99, go_sem, q0, q1, q2, q3, p0, p1, p2, p3]) rfl ⟨Rg.no, Rg.no, false, rfl, HM.out, hB⟩
      | true =>
        rw [sb] at cB
        obtain ⟨l, h, k1, k2, hok, hnat⟩ := Rg.Ok.someNat (r := ⟨0, 0, ab, ao⟩) sa
        obtain ⟨l', h', k1', k2', hok', hnat'⟩ := Rg.Ok.someNat (r := ⟨0, 0, bb, bo⟩) sb
        have HM : Hid ((⟨al, ah, ab, ao⟩ : Rg).belowB ⟨bl, bh, bb, bo⟩ false = ifTwo true (⟨l, h, ab, ao⟩ : Rg).tidy (⟨l', h', bb, bo⟩ : Rg).tidy) := by show _ = _; rw [hM, RI.fit_yes sa, RI.fit_yes sb, hnat, hnat']; rfl
        have cTa := tidy_calls ⟨l, h, ab, ao⟩ hok.fits
        have cTb := tidy_calls ⟨l', h', bb, bo⟩ hok'.fits
        have K1 : Hid (X = (l : Int)) := k1
        have K2 : Hid ((ah : Int) = (h : Int)) := k2
        have K3 : Hid ((bl : Int) = (l' : Int)) := k1'
        have K4 : Hid (Y = (h' : Int)) := k2'
        clear hM sa sb hok hok' hnat hnat' k1 k2 k1' k2'
        go_enter Try.func99, Try.ntmps99
        go_wp2_with fail
        refine (cA _).mono ?_
        rintro e w1 ⟨rfl, hb⟩
        have hB := bnext hB hb
        have z0 := hb.size
        have y2 := Below.keep hb y2
        have y3 := Below.keep hb y3
        have x0 := Below.keep hb x0
        have x1 := Below.keep hb x1
        obtain ⟨q0, q1, q2, q3⟩ := rat x1
        clear hb cA
        go_wp2_with fail
        refine (cB _).mono ?_
        rintro e w2 ⟨rfl, hb⟩
        have hB := bnext hB hb
        have zz := hb.size
        have y2 := Below.keep hb y2
        have y3 := Below.keep hb y3
        have x0 := Below.keep hb x0
        have x1 := Below.keep hb x1
        clear hb cB q0 q1 q2 q3
        rw [K1.out, K2.out] at x0
        rw [K3.out, K4.out] at x1
        go_wp2_with fail
        have q0 := cell_regrown (rat x0).1
        have q1 := cell_regrown (rat x0).2.1
        have q2 := cell_regrown (rat x0).2.2.1
        have q3 := cell_regrown (rat x0).2.2.2
        have p0 := cell_regrown (rat x1).1
        have p1 := cell_regrown (rat x1).2.1
        have p2 := cell_regrown (rat x1).2.2.1
        have p3 := cell_regrown (rat x1).2.2.2
        refine wp_region_plan [4, 5] (.one 0 .load (.one 2 .load (.one 1 .act (.one 3 .act (.one 4 .last (.one 5 .last (.one 6 .pure .done))))))) (fun w' => ∃ p : Regrown, w' = Sort.grow (redrawn w2 p.d) p.os) (by kernel_rfl) (by kernel_rfl) (fun _ _ d _ _ h => by cases d <;> exact h) ?_
        simp only [Plan.pick, List.getElem?_cons_zero, List.getElem?_cons_succ]
        have hS : Below w2.heap.size w2 w2.drew := below_drewN' (Below.refl _ _) 1
        have hB : Below _ _ w2.drew := below_drewN' hB 1
        refine plan_load (fun K hK => ?_); go_simp; refine ⟨regrown_of_below hS, hK _ _ ?_⟩; clear hK K
        refine plan_load (fun K hK => ?_); go_simp; refine ⟨regrown_of_below hS, hK _ _ ?_⟩; clear hK K
        refine plan_act ?_
        go_wp2_with fail
        refine (cTa _).mono ?_
        rintro e w3 ⟨rfl, hb⟩
        have hS := bnext hS hb
        have hB := bnext hB hb
        clear hb
        go_wp2
        refine ⟨regrown_of_below hS, ?_⟩
        refine plan_act ?_
        go_wp2_with fail
        refine (cTb _).mono ?_
        rintro e w4 ⟨rfl, hb⟩
        have hS := bnext hS hb
        have hB := bnext hB hb
        clear hb
        go_wp2
        refine ⟨regrown_of_below hS, ?_⟩
        refine plan_last_ ?_
        have y2 := Below.keep hS y2
        have y3 := Below.keep hS y3
        have z1 := hS.size
        generalize (⟨l, h, ab, ao⟩ : Rg).tidy = t at *
        generalize (⟨l', h', bb, bo⟩ : Rg).tidy = u at *
        obtain ⟨th1, V1, hw1, y2, o1⟩ := rput4 y2 t.lo t.hi t.bits t.opn
        have y3 := Only.keep o1 y3 (by omega)
        have hB := hB.trans (below_upon o1 (fun k hk => by omega) hB.size)
        obtain ⟨th2, V2, hw2, y3, o2⟩ := rput4 y3 u.lo u.hi u.bits u.opn
        have y2 := Only.keep o2 y2 (by omega)
        have z3 := o1.size
        have hB := hB.trans (below_upon o2 (fun k hk => by omega) hB.size)
        go_wp2_with ((with_reducible refine gate_store (p := 6) rfl ?_); go_loud (refine wpList_put rfl 80 _ _ rfl (w.heap.size + 1 + 1) 0 [.int .i64 t.lo, .int .i64 t.hi, .int .i64 t.bits, .int .i64 t.opn] rfl rfl th1.out (by kernel_rfl) rfl ?_; rw [hw1.out]))
        refine plan_last_ ?_
        go_wp2_with ((with_reducible refine gate_store (p := 7) rfl ?_); go_loud (refine wpList_put rfl 80 _ _ rfl (w.heap.size + 1 + 1 + 1) 0 [.int .i64 u.lo, .int .i64 u.hi, .int .i64 u.bits, .int .i64 u.opn] rfl rfl th2.out (by kernel_rfl) rfl ?_; rw [hw2.out]))
        refine plan_pure (fun K hK => ?_); go_simp; refine hK _ _ ?_; clear hK K
        refine plan_done ?_
        obtain ⟨g0, g1, g2, g3⟩ := rat y2
        obtain ⟨f0, f1, f2, f3⟩ := rat y3
        go_wp2
        refine bodyPost_ret (v := .tuple #[.agg #[.int .i64 t.lo, .int .i64 t.hi, .int .i64 t.bits, .int .i64 t.opn], .agg #[.int .i64 u.lo, .int .i64 u.hi, .int .i64 u.bits, .int .i64 u.opn], .bool true]) (by simp [results, Try.results99, go_sem, g0, g1, g2, g3, f0, f1, f2, f3]) rfl ⟨t, u, true, rfl, HM.out, hB⟩
end Go.Proofs.Ytoimeebildcofaa
