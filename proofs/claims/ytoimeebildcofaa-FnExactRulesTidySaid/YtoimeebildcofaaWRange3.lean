/- The walks of the program's ranges: without a number, told to be less, at a branch. -/
import Derived.Test.YtoimeebildcofaaWRange2
namespace Go.Proofs.Ytoimeebildcofaa
open Go.RowKit
theorem boxes5 (w : World) (o1 o2 o3 o4 o5 : Obj) : Below w.heap.size w (((((w.alloc o1).alloc o2).alloc o3).alloc o4).alloc o5) ∧ (((((w.alloc o1).alloc o2).alloc o3).alloc o4).alloc o5).heap.size = w.heap.size + 5 ∧
    (((((w.alloc o1).alloc o2).alloc o3).alloc o4).alloc o5).heap[w.heap.size]? = some o1 ∧ (((((w.alloc o1).alloc o2).alloc o3).alloc o4).alloc o5).heap[w.heap.size + 1]? = some o2 ∧ (((((w.alloc o1).alloc o2).alloc o3).alloc o4).alloc o5).heap[w.heap.size + 1 + 1]? = some o3 ∧ (((((w.alloc o1).alloc o2).alloc o3).alloc o4).alloc o5).heap[w.heap.size + 1 + 1 + 1]? = some o4 ∧ (((((w.alloc o1).alloc o2).alloc o3).alloc o4).alloc o5).heap[w.heap.size + 1 + 1 + 1 + 1]? = some o5 := by
  obtain ⟨hb, hs, h1, h2, h3, h4⟩ := boxes4 w o1 o2 o3 o4
  have h5 := alloc_at' ((((w.alloc o1).alloc o2).alloc o3).alloc o4) o5
  rw [hs] at h5
  exact ⟨below_alloc' hb _, by rw [alloc_size, hs], alloc_keep _ h1, alloc_keep _ h2, alloc_keep _ h3, alloc_keep _ h4, h5⟩
theorem Rg.Ok.someNat {r : Rg} {lo hi : Int} (h : (⟨lo, hi, r.bits, r.opn⟩ : RI).someB = true) : ∃ l k : Nat, lo = l ∧ hi = k ∧ (⟨l, k, r.bits, r.opn⟩ : Rg).Ok ∧ (⟨lo, hi, r.bits, r.opn⟩ : RI).nat = ⟨l, k, r.bits, r.opn⟩ :=
  ⟨_, _, (RI.nats h).1, (RI.nats h).2, (RI.some_of h).1, rfl⟩
set_option maxRecDepth 100000 in
set_option maxHeartbeats 3200000 in
theorem but_calls (a b : Rg) (oa : a.Ok) (ob : b.Ok) (w : World) :
    Calls Try.prog 101 #[.agg #[.int .i64 a.lo, .int .i64 a.hi, .int .i64 a.bits, .int .i64 a.opn], .agg #[.int .i64 b.lo, .int .i64 b.hi, .int .i64 b.bits, .int .i64 b.opn]] w fun e w' => ∃ (x : Rg) (ok : Bool), e = .returned (.tuple #[.agg #[.int .i64 x.lo, .int .i64 x.hi, .int .i64 x.bits, .int .i64 x.opn], .bool ok]) ∧ a.but b = ifSome ok x ∧ Below w.heap.size w w' := by
  obtain ⟨a1, a2, a3, a4⟩ := oa.fits
  obtain ⟨b1, b2, b3, b4⟩ := ob.fits
  obtain ⟨al, ah, ab, ao⟩ := a
  obtain ⟨bl, bh, bb, bo⟩ := b
  clear oa ob
  simp only at a1 a2 a3 a4 b1 b2 b3 b4
  have hM : (⟨al, ah, ab, ao⟩ : Rg).but ⟨bl, bh, bb, bo⟩ = if bl = bh then (Rg.butI ⟨al, ah, ab, ao⟩ bl).fit else some ⟨al, ah, ab, ao⟩ := rfl
  by_cases hn : bl = bh
  · rw [if_pos hn] at hM
    subst hn
    by_cases h1 : bl = al
    · subst h1
      by_cases h2 : bl = ah
      · subst h2
        have hI : Rg.butI ⟨bl, bl, ab, ao⟩ bl = ⟨(bl : Int) + 1, (bl : Int) - 1, ab, ao⟩ := by simp only [Rg.butI, if_true]
        rw [hI] at hM
        clear hI
        have cSome := some_calls ((bl : Int) + 1) ((bl : Int) - 1) ab ao (by omega) (by omega)
        have fit : (⟨(bl : Int) + 1, (bl : Int) - 1, ab, ao⟩ : RI).fit = if (⟨(bl : Int) + 1, (bl : Int) - 1, ab, ao⟩ : RI).someB then some (⟨(bl : Int) + 1, (bl : Int) - 1, ab, ao⟩ : RI).nat.tidy else none := rfl
        obtain ⟨hB0, hs0, x0, x1, x2, x3⟩ := boxes4 w (rcells bl bl ab ao) (rcells bl bl bb bo) (rcells 0 0 0 0) (rcells ((bl : Int) + 1) ((bl : Int) - 1) ab ao)
        cases hs : (⟨(bl : Int) + 1, (bl : Int) - 1, ab, ao⟩ : RI).someB with
        | false =>
          rw [hs] at cSome fit
          have HM : Hid ((⟨bl, bl, ab, ao⟩ : Rg).but (⟨bl, bl, bb, bo⟩ : Rg) = ifSome false Rg.no) := by show _ = _; rw [hM, fit]; rfl
          clear hM fit hs
          go_enter Try.func101, Try.ntmps101
          go_wp2_with fail
          refine (cSome _).mono ?_
          rintro e w1 ⟨rfl, hb⟩
          have hB1 := bnext hB0 hb
          have z1 := hb.size
          have y2 := Below.keep hb x2
          clear hb x0 x1 x2 x3
          go_wp2_with fail
          refine (noRange_calls _).mono ?_
          rintro e w2 ⟨rfl, hb⟩
          have hB2 := bnext hB1 hb
          have z2 := hb.size
          have y2 := Below.keep hb y2
          clear hb
          obtain ⟨th1, V1, hw1, y1, o1⟩ := rput4 y2 1 0 0 0
          go_wp2_with ((with_reducible refine gate_store (p := 4) rfl ?_); go_loud (refine wpList_put rfl 80 _ _ rfl (w.heap.size + 1 + 1) 0 [.int .i64 1, .int .i64 0, .int .i64 0, .int .i64 0] rfl rfl th1.out (by kernel_rfl) rfl ?_; rw [hw1.out]))
          obtain ⟨q0, q1, q2, q3⟩ := rat y1
          refine bodyPost_ret (v := .tuple #[.agg #[.int .i64 1, .int .i64 0, .int .i64 0, .int .i64 0], .bool false]) (by simp [results, Try.results101, go_sem, q0, q1, q2, q3]) rfl ⟨Rg.no, false, rfl, HM.out, hB2.trans (below_upon o1 (fun k hk => by omega) hB2.size)⟩
        | true =>
          rw [hs] at cSome fit
          obtain ⟨l, h, k1, k2, hok, hnat⟩ := Rg.Ok.someNat (r := ⟨0, 0, ab, ao⟩) hs
          have hf := hok.fits
          have HM : Hid ((⟨bl, bl, ab, ao⟩ : Rg).but (⟨bl, bl, bb, bo⟩ : Rg) = ifSome true (⟨l, h, ab, ao⟩ : Rg).tidy) := by show _ = _; rw [hM, fit, hnat]; rfl
          have K1 : Hid ((bl : Int) + 1 = (l : Int)) := k1
          have K2 : Hid ((bl : Int) - 1 = (h : Int)) := k2
          clear hM fit hs hok hnat k1 k2
          go_enter Try.func101, Try.ntmps101
          go_wp2_with fail
          refine (cSome _).mono ?_
          rintro e w1 ⟨rfl, hb⟩
          have hB1 := bnext hB0 hb
          have z1 := hb.size
          have y2 := Below.keep hb x2
          obtain ⟨q0, q1, q2, q3⟩ := rat (Below.keep hb x3)
          rw [K1.out] at q0
          rw [K2.out] at q1
          clear hb x0 x1 x2 x3
          go_wp2_with fail
          refine (tidy_calls ⟨l, h, ab, ao⟩ hf _).mono ?_
          rintro e w2 ⟨rfl, hb⟩
          have hB2 := bnext hB1 hb
          have z2 := hb.size
          have y2 := Below.keep hb y2
          generalize (⟨l, h, ab, ao⟩ : Rg).tidy = t at *
          clear hb q0 q1 q2 q3
          obtain ⟨th1, V1, hw1, y1, o1⟩ := rput4 y2 t.lo t.hi t.bits t.opn
          go_wp2_with ((with_reducible refine gate_store (p := 4) rfl ?_); go_loud (refine wpList_put rfl 80 _ _ rfl (w.heap.size + 1 + 1) 0 [.int .i64 t.lo, .int .i64 t.hi, .int .i64 t.bits, .int .i64 t.opn] rfl rfl th1.out (by kernel_rfl) rfl ?_; rw [hw1.out]))
          obtain ⟨q0, q1, q2, q3⟩ := rat y1
          refine bodyPost_ret (v := .tuple #[.agg #[.int .i64 t.lo, .int .i64 t.hi, .int .i64 t.bits, .int .i64 t.opn], .bool true]) (by simp [results, Try.results101, go_sem, q0, q1, q2, q3]) rfl ⟨t, true, rfl, HM.out, hB2.trans (below_upon o1 (fun k hk => by omega) hB2.size)⟩
      · have i2 : ¬ (ah : Int) = (bl : Int) := by omega
        have hI : Rg.butI ⟨bl, ah, ab, ao⟩ bl = ⟨(bl : Int) + 1, (ah : Int), ab, ao⟩ := by simp only [Rg.butI, if_true]; rw [if_neg (by omega)]
        rw [hI] at hM
        clear hI h2
        have cSome := some_calls ((bl : Int) + 1) ((ah : Int)) ab ao (by omega) (by omega)
        have fit : (⟨(bl : Int) + 1, (ah : Int), ab, ao⟩ : RI).fit = if (⟨(bl : Int) + 1, (ah : Int), ab, ao⟩ : RI).someB then some (⟨(bl : Int) + 1, (ah : Int), ab, ao⟩ : RI).nat.tidy else none := rfl
        obtain ⟨hB0, hs0, x0, x1, x2, x3⟩ := boxes4 w (rcells bl ah ab ao) (rcells bl bl bb bo) (rcells 0 0 0 0) (rcells ((bl : Int) + 1) ((ah : Int)) ab ao)
        cases hs : (⟨(bl : Int) + 1, (ah : Int), ab, ao⟩ : RI).someB with
        | false =>
          rw [hs] at cSome fit
          have HM : Hid ((⟨bl, ah, ab, ao⟩ : Rg).but (⟨bl, bl, bb, bo⟩ : Rg) = ifSome false Rg.no) := by show _ = _; rw [hM, fit]; rfl
          clear hM fit hs
          go_enter Try.func101, Try.ntmps101
          go_wp2_with fail
          refine (cSome _).mono ?_
          rintro e w1 ⟨rfl, hb⟩
          have hB1 := bnext hB0 hb
          have z1 := hb.size
          have y2 := Below.keep hb x2
          clear hb x0 x1 x2 x3
          go_wp2_with fail
          refine (noRange_calls _).mono ?_
          rintro e w2 ⟨rfl, hb⟩
          have hB2 := bnext hB1 hb
          have z2 := hb.size
          have y2 := Below.keep hb y2
          clear hb
          obtain ⟨th1, V1, hw1, y1, o1⟩ := rput4 y2 1 0 0 0
          go_wp2_with ((with_reducible refine gate_store (p := 4) rfl ?_); go_loud (refine wpList_put rfl 80 _ _ rfl (w.heap.size + 1 + 1) 0 [.int .i64 1, .int .i64 0, .int .i64 0, .int .i64 0] rfl rfl th1.out (by kernel_rfl) rfl ?_; rw [hw1.out]))
          obtain ⟨q0, q1, q2, q3⟩ := rat y1
          refine bodyPost_ret (v := .tuple #[.agg #[.int .i64 1, .int .i64 0, .int .i64 0, .int .i64 0], .bool false]) (by simp [results, Try.results101, go_sem, q0, q1, q2, q3]) rfl ⟨Rg.no, false, rfl, HM.out, hB2.trans (below_upon o1 (fun k hk => by omega) hB2.size)⟩
        | true =>
          rw [hs] at cSome fit
          obtain ⟨l, h, k1, k2, hok, hnat⟩ := Rg.Ok.someNat (r := ⟨0, 0, ab, ao⟩) hs
          have hf := hok.fits
          have HM : Hid ((⟨bl, ah, ab, ao⟩ : Rg).but (⟨bl, bl, bb, bo⟩ : Rg) = ifSome true (⟨l, h, ab, ao⟩ : Rg).tidy) := by show _ = _; rw [hM, fit, hnat]; rfl
          have K1 : Hid ((bl : Int) + 1 = (l : Int)) := k1
          have K2 : Hid ((ah : Int) = (h : Int)) := k2
          clear hM fit hs hok hnat k1 k2
          go_enter Try.func101, Try.ntmps101
          go_wp2_with fail
          refine (cSome _).mono ?_
          rintro e w1 ⟨rfl, hb⟩
          have hB1 := bnext hB0 hb
          have z1 := hb.size
          have y2 := Below.keep hb x2
          obtain ⟨q0, q1, q2, q3⟩ := rat (Below.keep hb x3)
          rw [K1.out] at q0
          rw [K2.out] at q1
          clear hb x0 x1 x2 x3
          go_wp2_with fail
          refine (tidy_calls ⟨l, h, ab, ao⟩ hf _).mono ?_
          rintro e w2 ⟨rfl, hb⟩
          have hB2 := bnext hB1 hb
          have z2 := hb.size
          have y2 := Below.keep hb y2
          generalize (⟨l, h, ab, ao⟩ : Rg).tidy = t at *
          clear hb q0 q1 q2 q3
          obtain ⟨th1, V1, hw1, y1, o1⟩ := rput4 y2 t.lo t.hi t.bits t.opn
          go_wp2_with ((with_reducible refine gate_store (p := 4) rfl ?_); go_loud (refine wpList_put rfl 80 _ _ rfl (w.heap.size + 1 + 1) 0 [.int .i64 t.lo, .int .i64 t.hi, .int .i64 t.bits, .int .i64 t.opn] rfl rfl th1.out (by kernel_rfl) rfl ?_; rw [hw1.out]))
          obtain ⟨q0, q1, q2, q3⟩ := rat y1
          refine bodyPost_ret (v := .tuple #[.agg #[.int .i64 t.lo, .int .i64 t.hi, .int .i64 t.bits, .int .i64 t.opn], .bool true]) (by simp [results, Try.results101, go_sem, q0, q1, q2, q3]) rfl ⟨t, true, rfl, HM.out, hB2.trans (below_upon o1 (fun k hk => by omega) hB2.size)⟩
    · have i1 : ¬ (al : Int) = (bl : Int) := by omega
      by_cases h2 : bl = ah
      · subst h2
        have hI : Rg.butI ⟨al, bl, ab, ao⟩ bl = ⟨(al : Int), (bl : Int) - 1, ab, ao⟩ := by simp only [Rg.butI, if_true]; rw [if_neg (by omega)]
        rw [hI] at hM
        clear hI h1
        have cSome := some_calls ((al : Int)) ((bl : Int) - 1) ab ao (by omega) (by omega)
        have fit : (⟨(al : Int), (bl : Int) - 1, ab, ao⟩ : RI).fit = if (⟨(al : Int), (bl : Int) - 1, ab, ao⟩ : RI).someB then some (⟨(al : Int), (bl : Int) - 1, ab, ao⟩ : RI).nat.tidy else none := rfl
        obtain ⟨hB0, hs0, x0, x1, x2, x3⟩ := boxes4 w (rcells al bl ab ao) (rcells bl bl bb bo) (rcells 0 0 0 0) (rcells ((al : Int)) ((bl : Int) - 1) ab ao)
        cases hs : (⟨(al : Int), (bl : Int) - 1, ab, ao⟩ : RI).someB with
        | false =>
          rw [hs] at cSome fit
          have HM : Hid ((⟨al, bl, ab, ao⟩ : Rg).but (⟨bl, bl, bb, bo⟩ : Rg) = ifSome false Rg.no) := by show _ = _; rw [hM, fit]; rfl
          clear hM fit hs
          go_enter Try.func101, Try.ntmps101
          go_wp2_with fail
          refine (cSome _).mono ?_
          rintro e w1 ⟨rfl, hb⟩
          have hB1 := bnext hB0 hb
          have z1 := hb.size
          have y2 := Below.keep hb x2
          clear hb x0 x1 x2 x3
          go_wp2_with fail
          refine (noRange_calls _).mono ?_
          rintro e w2 ⟨rfl, hb⟩
          have hB2 := bnext hB1 hb
          have z2 := hb.size
          have y2 := Below.keep hb y2
          clear hb
          obtain ⟨th1, V1, hw1, y1, o1⟩ := rput4 y2 1 0 0 0
          go_wp2_with ((with_reducible refine gate_store (p := 4) rfl ?_); go_loud (refine wpList_put rfl 80 _ _ rfl (w.heap.size + 1 + 1) 0 [.int .i64 1, .int .i64 0, .int .i64 0, .int .i64 0] rfl rfl th1.out (by kernel_rfl) rfl ?_; rw [hw1.out]))
          obtain ⟨q0, q1, q2, q3⟩ := rat y1
          refine bodyPost_ret (v := .tuple #[.agg #[.int .i64 1, .int .i64 0, .int .i64 0, .int .i64 0], .bool false]) (by simp [results, Try.results101, go_sem, q0, q1, q2, q3]) rfl ⟨Rg.no, false, rfl, HM.out, hB2.trans (below_upon o1 (fun k hk => by omega) hB2.size)⟩
        | true =>
          rw [hs] at cSome fit
          obtain ⟨l, h, k1, k2, hok, hnat⟩ := Rg.Ok.someNat (r := ⟨0, 0, ab, ao⟩) hs
          have hf := hok.fits
          have HM : Hid ((⟨al, bl, ab, ao⟩ : Rg).but (⟨bl, bl, bb, bo⟩ : Rg) = ifSome true (⟨l, h, ab, ao⟩ : Rg).tidy) := by show _ = _; rw [hM, fit, hnat]; rfl
          have K1 : Hid ((al : Int) = (l : Int)) := k1
          have K2 : Hid ((bl : Int) - 1 = (h : Int)) := k2
          clear hM fit hs hok hnat k1 k2
          go_enter Try.func101, Try.ntmps101
          go_wp2_with fail
          refine (cSome _).mono ?_
          rintro e w1 ⟨rfl, hb⟩
          have hB1 := bnext hB0 hb
          have z1 := hb.size
          have y2 := Below.keep hb x2
          obtain ⟨q0, q1, q2, q3⟩ := rat (Below.keep hb x3)
          rw [K1.out] at q0
          rw [K2.out] at q1
          clear hb x0 x1 x2 x3
          go_wp2_with fail
          refine (tidy_calls ⟨l, h, ab, ao⟩ hf _).mono ?_
          rintro e w2 ⟨rfl, hb⟩
          have hB2 := bnext hB1 hb
          have z2 := hb.size
          have y2 := Below.keep hb y2
          generalize (⟨l, h, ab, ao⟩ : Rg).tidy = t at *
          clear hb q0 q1 q2 q3
          obtain ⟨th1, V1, hw1, y1, o1⟩ := rput4 y2 t.lo t.hi t.bits t.opn
          go_wp2_with ((with_reducible refine gate_store (p := 4) rfl ?_); go_loud (refine wpList_put rfl 80 _ _ rfl (w.heap.size + 1 + 1) 0 [.int .i64 t.lo, .int .i64 t.hi, .int .i64 t.bits, .int .i64 t.opn] rfl rfl th1.out (by kernel_rfl) rfl ?_; rw [hw1.out]))
          obtain ⟨q0, q1, q2, q3⟩ := rat y1
          refine bodyPost_ret (v := .tuple #[.agg #[.int .i64 t.lo, .int .i64 t.hi, .int .i64 t.bits, .int .i64 t.opn], .bool true]) (by simp [results, Try.results101, go_sem, q0, q1, q2, q3]) rfl ⟨t, true, rfl, HM.out, hB2.trans (below_upon o1 (fun k hk => by omega) hB2.size)⟩
      · have i2 : ¬ (ah : Int) = (bl : Int) := by omega
        have hI : Rg.butI ⟨al, ah, ab, ao⟩ bl = ⟨(al : Int), (ah : Int), ab, ao⟩ := by simp only [Rg.butI]; rw [if_neg (by omega), if_neg (by omega)]
        rw [hI] at hM
        clear hI h1 h2
        have cSome := some_calls ((al : Int)) ((ah : Int)) ab ao (by omega) (by omega)
        have fit : (⟨(al : Int), (ah : Int), ab, ao⟩ : RI).fit = if (⟨(al : Int), (ah : Int), ab, ao⟩ : RI).someB then some (⟨(al : Int), (ah : Int), ab, ao⟩ : RI).nat.tidy else none := rfl
        obtain ⟨hB0, hs0, x0, x1, x2, x3⟩ := boxes4 w (rcells al ah ab ao) (rcells bl bl bb bo) (rcells 0 0 0 0) (rcells ((al : Int)) ((ah : Int)) ab ao)
        cases hs : (⟨(al : Int), (ah : Int), ab, ao⟩ : RI).someB with
        | false =>
          rw [hs] at cSome fit
          have HM : Hid ((⟨al, ah, ab, ao⟩ : Rg).but (⟨bl, bl, bb, bo⟩ : Rg) = ifSome false Rg.no) := by show _ = _; rw [hM, fit]; rfl
          clear hM fit hs
          go_enter Try.func101, Try.ntmps101
          go_wp2_with fail
          refine (cSome _).mono ?_
          rintro e w1 ⟨rfl, hb⟩
          have hB1 := bnext hB0 hb
          have z1 := hb.size
          have y2 := Below.keep hb x2
          clear hb x0 x1 x2 x3
          go_wp2_with fail
          refine (noRange_calls _).mono ?_
          rintro e w2 ⟨rfl, hb⟩
          have hB2 := bnext hB1 hb
          have z2 := hb.size
          have y2 := Below.keep hb y2
          clear hb
          obtain ⟨th1, V1, hw1, y1, o1⟩ := rput4 y2 1 0 0 0
          go_wp2_with ((with_reducible refine gate_store (p := 4) rfl ?_); go_loud (refine wpList_put rfl 80 _ _ rfl (w.heap.size + 1 + 1) 0 [.int .i64 1, .int .i64 0, .int .i64 0, .int .i64 0] rfl rfl th1.out (by kernel_rfl) rfl ?_; rw [hw1.out]))
          obtain ⟨q0, q1, q2, q3⟩ := rat y1
          refine bodyPost_ret (v := .tuple #[.agg #[.int .i64 1, .int .i64 0, .int .i64 0, .int .i64 0], .bool false]) (by simp [results, Try.results101, go_sem, q0, q1, q2, q3]) rfl ⟨Rg.no, false, rfl, HM.out, hB2.trans (below_upon o1 (fun k hk => by omega) hB2.size)⟩
        | true =>
          rw [hs] at cSome fit
          obtain ⟨l, h, k1, k2, hok, hnat⟩ := Rg.Ok.someNat (r := ⟨0, 0, ab, ao⟩) hs
          have hf := hok.fits
          have HM : Hid ((⟨al, ah, ab, ao⟩ : Rg).but (⟨bl, bl, bb, bo⟩ : Rg) = ifSome true (⟨l, h, ab, ao⟩ : Rg).tidy) := by show _ = _; rw [hM, fit, hnat]; rfl
          have K1 : Hid ((al : Int) = (l : Int)) := k1
          have K2 : Hid ((ah : Int) = (h : Int)) := k2
          clear hM fit hs hok hnat k1 k2
          go_enter Try.func101, Try.ntmps101
          go_wp2_with fail
          refine (cSome _).mono ?_
          rintro e w1 ⟨rfl, hb⟩
          have hB1 := bnext hB0 hb
          have z1 := hb.size
          have y2 := Below.keep hb x2
          obtain ⟨q0, q1, q2, q3⟩ := rat (Below.keep hb x3)
          rw [K1.out] at q0
          rw [K2.out] at q1
          clear hb x0 x1 x2 x3
          go_wp2_with fail
          refine (tidy_calls ⟨l, h, ab, ao⟩ hf _).mono ?_
          rintro e w2 ⟨rfl, hb⟩
          have hB2 := bnext hB1 hb
          have z2 := hb.size
          have y2 := Below.keep hb y2
          generalize (⟨l, h, ab, ao⟩ : Rg).tidy = t at *
          clear hb q0 q1 q2 q3
          obtain ⟨th1, V1, hw1, y1, o1⟩ := rput4 y2 t.lo t.hi t.bits t.opn
          go_wp2_with ((with_reducible refine gate_store (p := 4) rfl ?_); go_loud (refine wpList_put rfl 80 _ _ rfl (w.heap.size + 1 + 1) 0 [.int .i64 t.lo, .int .i64 t.hi, .int .i64 t.bits, .int .i64 t.opn] rfl rfl th1.out (by kernel_rfl) rfl ?_; rw [hw1.out]))
          obtain ⟨q0, q1, q2, q3⟩ := rat y1
          refine bodyPost_ret (v := .tuple #[.agg #[.int .i64 t.lo, .int .i64 t.hi, .int .i64 t.bits, .int .i64 t.opn], .bool true]) (by simp [results, Try.results101, go_sem, q0, q1, q2, q3]) rfl ⟨t, true, rfl, HM.out, hB2.trans (below_upon o1 (fun k hk => by omega) hB2.size)⟩
  · rw [if_neg hn] at hM
    have hn' : ¬ (bl : Int) = (bh : Int) := by omega
    have HM : Hid ((⟨al, ah, ab, ao⟩ : Rg).but ⟨bl, bh, bb, bo⟩ = ifSome true ⟨al, ah, ab, ao⟩) := hM
    clear hM hn
    go_enter Try.func101, Try.ntmps101
    go_wp2
    refine bodyPost_ret (v := .tuple #[.agg #[.int .i64 al, .int .i64 ah, .int .i64 ab, .int .i64 ao], .bool true]) (by simp [results, Try.results101, go_sem]) rfl ⟨⟨al, ah, ab, ao⟩, true, rfl, HM.out, ?_⟩
    repeat (first | exact Below.refl _ _ | refine below_alloc' ?_ _)
end Go.Proofs.Ytoimeebildcofaa
