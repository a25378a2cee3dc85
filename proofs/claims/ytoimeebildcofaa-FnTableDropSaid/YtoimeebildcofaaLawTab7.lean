/- The law of a table's drop: what was dropped is not there, or is nought in a row. -/
import Derived.Test.YtoimeebildcofaaLawTab6
import Derived.Test.YtoimeebildcofaaDraws6
import Derived.Test.YtoimeebildcofaaTabDrop
namespace Go.Proofs.Ytoimeebildcofaa
open Go.RowKit
set_option maxRecDepth 100000 in
set_option maxHeartbeats 6400000 in
theorem lawTableDrop (v : Value) (vs : List Int) (L : Blocks) (w : World) (h : Row 1 v (vs.map byteCell) L) (H : Holds w L) (hs : ∀ v, v ∈ vs → 0 ≤ v ∧ v ≤ 255) :
    Calls Try.prog 4 #[v] w fun e w' => e = .returned (.bool true) ∧ Below w.heap.size w w' := by
  obtain ⟨A, n, cc, rfl⟩ := h.slice
  by_cases hbig : (1048576 : Int) < (n : Int)
  · go_enter Try.func4, Try.ntmps4
    go_wp2
    go_ret
    exact ⟨rfl, Below.refl _ _⟩
  go_enter Try.func4, Try.ntmps4
  go_wp2_with fail
  refine (drawTableDrop_calls _ vs L _ h H hs).mono ?_
  rintro e w1 ⟨u, k1, s1, x, rfl, hsk, hss, ⟨M1, M2, T5⟩, hb⟩
  obtain ⟨A1, n1, c1, rfl⟩ := T5.1.row.slice
  obtain ⟨A2, n2, c2, rfl⟩ := T5.2.1.row.slice
  have hB := hb
  clear hb
  obtain ⟨hu1, hu2⟩ := Table.drop_lens u x
  have laws1 := fun u' hok h => Table.drop_laws (t := u) (u := u') (x := x) hok h
  have laws2 := fun hok h => Table.drop_else (t := u) (x := x) hok h
  generalize hps : u.drop x = R at *
  have HP := Lib.hid hps
  obtain ⟨u', c⟩ := R
  simp only at hu1 hu2
  clear hps
  have hbne : (c != c) = false := by simp
  have hbeq : (c == c) = true := by simp
  go_wp2_with ((with_reducible refine gate_store (p := 3) rfl ?_); go_loud (
         refine wpList_put rfl 27 _ _ rfl w1.heap.size 0 [.int .i64 u.kind, .int .i64 u.size, .int .i64 u.most, (.slice A1 n1 c1), (.slice A2 n2 c2)] rfl rfl (newbox w1 u (.slice A1 n1 c1) (.slice A2 n2 c2)).1 (by kernel_rfl) rfl ?_
         obtain ⟨_, b3, hb, s3⟩ := newbox w1 u (.slice A1 n1 c1) (.slice A2 n2 c2)
         have T5 := T5.below hb
         have hB := bnext hB hb
         generalize (w1.alloc zcells).setCells w1.heap.size 0 [.int .i64 u.kind, .int .i64 u.size, .int .i64 u.most, (.slice A1 n1 c1), (.slice A2 n2 c2)] = w2 at *
         clear hb
         obtain ⟨d0, d1, d2, d3, d4⟩ := tbox_cells b3.get))
  have hPut := tableDrop_calls u _ _ M1 M2 x w2 T5.1.row T5.2.2.1 T5.2.1.row T5.2.2.2.1
  rw [HP.out] at hPut
  refine (hPut).mono ?_
  rintro e w3 ⟨k8, s8, rfl, ⟨N1, N2, T8⟩, hb⟩
  obtain ⟨A3, n3, c3, rfl⟩ := T8.1.row.slice
  obtain ⟨A4, n4, c4, rfl⟩ := T8.2.1.row.slice
  have T5 := T5.below hb
  have b3 := b3.below hb
  have hB := bnext hB hb
  clear hPut d0 d1 d2 d3 d4
  clear hb
  go_wp2_with ((with_reducible refine gate_store (p := 5) rfl ?_); go_loud (
         refine wpList_put rfl 27 _ _ rfl w3.heap.size 0 [.int .i64 u'.kind, .int .i64 u'.size, .int .i64 u'.most, (.slice A3 n3 c3), (.slice A4 n4 c4)] rfl rfl (newbox w3 u' (.slice A3 n3 c3) (.slice A4 n4 c4)).1 (by kernel_rfl) rfl ?_
         obtain ⟨_, b5, hb, s5⟩ := newbox w3 u' (.slice A3 n3 c3) (.slice A4 n4 c4)
         have T5 := T5.below hb
         have b3 := b3.below hb
         have T8 := T8.below hb
         have hB := bnext hB hb
         generalize (w3.alloc zcells).setCells w3.heap.size 0 [.int .i64 u'.kind, .int .i64 u'.size, .int .i64 u'.most, (.slice A3 n3 c3), (.slice A4 n4 c4)] = w4 at *
         clear hb
         obtain ⟨d0, d1, d2, d3, d4⟩ := tbox_cells b3.get))
  have hPut := specTableDrop_calls u _ _ M1 M2 x w4 T5.1.row T5.2.2.1 T5.2.1.row T5.2.2.2.1
  rw [HP.out] at hPut
  refine (hPut).mono ?_
  rintro e w5 ⟨k10, s10, rfl, ⟨P1, P2, T10⟩, hb⟩
  obtain ⟨A5, n5, c5, rfl⟩ := T10.1.row.slice
  obtain ⟨A6, n6, c6, rfl⟩ := T10.2.1.row.slice
  have T5 := T5.below hb
  have b3 := b3.below hb
  have T8 := T8.below hb
  have b5 := b5.below hb
  have hB := bnext hB hb
  clear hPut d0 d1 d2 d3 d4
  clear hb
  go_wp2_with ((with_reducible refine gate_store (p := 7) rfl ?_); go_loud (
         refine wpList_put rfl 27 _ _ rfl w5.heap.size 0 [.int .i64 u'.kind, .int .i64 u'.size, .int .i64 u'.most, (.slice A5 n5 c5), (.slice A6 n6 c6)] rfl rfl (newbox w5 u' (.slice A5 n5 c5) (.slice A6 n6 c6)).1 (by kernel_rfl) rfl ?_
         obtain ⟨_, b7, hb, s7⟩ := newbox w5 u' (.slice A5 n5 c5) (.slice A6 n6 c6)
         have T5 := T5.below hb
         have b3 := b3.below hb
         have T8 := T8.below hb
         have b5 := b5.below hb
         have T10 := T10.below hb
         have hB := bnext hB hb
         generalize (w5.alloc zcells).setCells w5.heap.size 0 [.int .i64 u'.kind, .int .i64 u'.size, .int .i64 u'.most, (.slice A5 n5 c5), (.slice A6 n6 c6)] = w6 at *
         clear hb
         obtain ⟨d0, d1, d2, d3, d4⟩ := tbox_cells b5.get
         obtain ⟨e0, e1, e2, e3, e4⟩ := tbox_cells b7.get
         obtain ⟨f0, f1, f2, f3, f4⟩ := tbox_cells b3.get))
  cases hok : u.ok with
  | false =>
    have HK := Lib.hid hok
    clear hok laws1 laws2
    have cX := sgTable_calls u' u' (.slice A3 n3 c3) (.slice A4 n4 c4) (.slice A5 n5 c5) (.slice A6 n6 c6) _ _ _ _ _ T8.1.row T8.2.2.1 T8.2.1.row T8.2.2.2.1 T10.1.row T10.2.2.1 T10.2.1.row T10.2.2.2.1
    rw [decide_eq_true (rfl : u' = u')] at cX
    refine cX.mono ?_
    rintro e w7 ⟨rfl, hb⟩
    have T5 := T5.below hb
    have T8 := T8.below hb
    have T10 := T10.below hb
    have b3 := b3.below hb
    have b5 := b5.below hb
    have b7 := b7.below hb
    have hB := bnext hB hb
    clear hb cX
    clear d0 d1 d2 d3 d4 e0 e1 e2 e3 e4 f0 f1 f2 f3 f4
    obtain ⟨d0, d1, d2, d3, d4⟩ := tbox_cells b5.get
    obtain ⟨e0, e1, e2, e3, e4⟩ := tbox_cells b7.get
    obtain ⟨f0, f1, f2, f3, f4⟩ := tbox_cells b3.get
    go_wp2_with fail
    have cX := tableOk_calls u (.slice A1 n1 c1) (.slice A2 n2 c2) _ _ _ T5.1.row T5.2.2.1 T5.2.1.row T5.2.2.2.1
    rw [HK.out] at cX
    refine cX.mono ?_
    rintro e w8 ⟨rfl, hb⟩
    have T5 := T5.below hb
    have T8 := T8.below hb
    have T10 := T10.below hb
    have b3 := b3.below hb
    have b5 := b5.below hb
    have b7 := b7.below hb
    have hB := bnext hB hb
    clear hb cX
    clear d0 d1 d2 d3 d4 e0 e1 e2 e3 e4 f0 f1 f2 f3 f4
    obtain ⟨d0, d1, d2, d3, d4⟩ := tbox_cells b5.get
    obtain ⟨e0, e1, e2, e3, e4⟩ := tbox_cells b7.get
    obtain ⟨f0, f1, f2, f3, f4⟩ := tbox_cells b3.get
    go_wp2_with fail
    have cX := sgTable_calls u' u' (.slice A3 n3 c3) (.slice A4 n4 c4) (.slice A5 n5 c5) (.slice A6 n6 c6) _ _ _ _ _ T8.1.row T8.2.2.1 T8.2.1.row T8.2.2.2.1 T10.1.row T10.2.2.1 T10.2.1.row T10.2.2.2.1
    rw [decide_eq_true (rfl : u' = u')] at cX
    refine cX.mono ?_
    rintro e w9 ⟨rfl, hb⟩
    have T5 := T5.below hb
    have T8 := T8.below hb
    have T10 := T10.below hb
    have b3 := b3.below hb
    have b5 := b5.below hb
    have b7 := b7.below hb
    have hB := bnext hB hb
    clear hb cX
    go_wp2
    go_ret
    exact ⟨rfl, hB⟩
  | true =>
    have HK := Lib.hid hok
    have L1 := fun h => laws1 u' hok h
    have L2 := fun h => laws2 hok h
    clear laws1 laws2 hok
    have cX := sgTable_calls u' u' (.slice A3 n3 c3) (.slice A4 n4 c4) (.slice A5 n5 c5) (.slice A6 n6 c6) _ _ _ _ _ T8.1.row T8.2.2.1 T8.2.1.row T8.2.2.2.1 T10.1.row T10.2.2.1 T10.2.1.row T10.2.2.2.1
    rw [decide_eq_true (rfl : u' = u')] at cX
    refine cX.mono ?_
    rintro e w7 ⟨rfl, hb⟩
    have T5 := T5.below hb
    have T8 := T8.below hb
    have T10 := T10.below hb
    have b3 := b3.below hb
    have b5 := b5.below hb
    have b7 := b7.below hb
    have hB := bnext hB hb
    clear hb cX
    clear d0 d1 d2 d3 d4 e0 e1 e2 e3 e4 f0 f1 f2 f3 f4
    obtain ⟨d0, d1, d2, d3, d4⟩ := tbox_cells b5.get
    obtain ⟨e0, e1, e2, e3, e4⟩ := tbox_cells b7.get
    obtain ⟨f0, f1, f2, f3, f4⟩ := tbox_cells b3.get
    go_wp2_with fail
    have cX := tableOk_calls u (.slice A1 n1 c1) (.slice A2 n2 c2) _ _ _ T5.1.row T5.2.2.1 T5.2.1.row T5.2.2.2.1
    rw [HK.out] at cX
    refine cX.mono ?_
    rintro e w8 ⟨rfl, hb⟩
    have T5 := T5.below hb
    have T8 := T8.below hb
    have T10 := T10.below hb
    have b3 := b3.below hb
    have b5 := b5.below hb
    have b7 := b7.below hb
    have hB := bnext hB hb
    clear hb cX
    clear d0 d1 d2 d3 d4 e0 e1 e2 e3 e4 f0 f1 f2 f3 f4
    obtain ⟨d0, d1, d2, d3, d4⟩ := tbox_cells b3.get
    cases c with
    | false =>
      obtain ⟨l1, l2⟩ := L2 rfl
      have HU : Hid (u' = u) := l1
      generalize hlk : u.look x = lk at *
      obtain ⟨lk1, lk2⟩ := lk
      subst l2
      have HL := Lib.hid hlk
      clear L1 L2 l1 hlk
      go_wp2_with fail
      have cX := tableLook_calls u _ _ M1 M2 x w8 T5.1.row T5.2.2.1 T5.2.1.row T5.2.2.2.1
      rw [HL.out] at cX
      refine cX.mono ?_
      rintro e w9 ⟨rfl, hb⟩
      have T5 := T5.below hb
      have T8 := T8.below hb
      have b3 := b3.below hb
      have b5 := b5.below hb
      have hB := bnext hB hb
      clear hb cX d0 d1 d2 d3 d4
      obtain ⟨d0, d1, d2, d3, d4⟩ := tbox_cells b5.get
      obtain ⟨e0, e1, e2, e3, e4⟩ := tbox_cells b3.get
      go_wp2_with fail
      have cX := sgTable_calls u' u (.slice A3 n3 c3) (.slice A4 n4 c4) (.slice A1 n1 c1) (.slice A2 n2 c2) _ _ _ _ _ T8.1.row T8.2.2.1 T8.2.1.row T8.2.2.2.1 T5.1.row T5.2.2.1 T5.2.1.row T5.2.2.2.1
      rw [decide_eq_true HU.out] at cX
      refine cX.mono ?_
      rintro e w11 ⟨rfl, hb⟩
      have hB := bnext hB hb
      go_wp2
      go_ret
      exact ⟨rfl, hB⟩
    | true =>
      obtain ⟨val, y, l1, l2, l3, l4, l5, l6, l7⟩ := L1 rfl
      have HL1 := Lib.hid l1
      have HL2 := Lib.hid l2
      have HL4 := Lib.hid l4
      have HL5 := Lib.hid l5
      have HL6 := Lib.hid l6
      generalize hlk : u'.look x = lk at *
      obtain ⟨lk1, lk2⟩ := lk
      subst l3
      have HL3 := Lib.hid hlk
      clear L1 L2 l1 l2 l4 l5 l6 hlk
      go_wp2_with fail
      have cX := tableLook_calls u _ _ M1 M2 x w8 T5.1.row T5.2.2.1 T5.2.1.row T5.2.2.2.1
      rw [HL1.out] at cX
      refine cX.mono ?_
      rintro e w9 ⟨rfl, hb⟩
      have T5 := T5.below hb
      have T8 := T8.below hb
      have b3 := b3.below hb
      have b5 := b5.below hb
      have hB := bnext hB hb
      clear hb cX d0 d1 d2 d3 d4
      obtain ⟨d0, d1, d2, d3, d4⟩ := tbox_cells b5.get
      go_wp2_with fail
      have cX := tableLook_calls u' _ _ N1 N2 x w9 T8.1.row T8.2.2.1 T8.2.1.row T8.2.2.2.1
      rw [HL3.out] at cX
      refine cX.mono ?_
      rintro e w10 ⟨rfl, hb⟩
      have T5 := T5.below hb
      have T8 := T8.below hb
      have b3 := b3.below hb
      have b5 := b5.below hb
      have hB := bnext hB hb
      clear hb cX d0 d1 d2 d3 d4
      obtain ⟨d0, d1, d2, d3, d4⟩ := tbox_cells b5.get
      go_wp2_with fail
      have hPut := tablePut_calls u' _ _ N1 N2 x val w10 T8.1.row T8.2.2.1 T8.2.1.row T8.2.2.2.1 (by omega)
      rw [HL4.out] at hPut
      refine (hPut).mono ?_
      rintro e w11 ⟨k12, s12, rfl, ⟨Q1, Q2, T12⟩, hb⟩
      obtain ⟨A7, n7, c7, rfl⟩ := T12.1.row.slice
      obtain ⟨A8, n8, c8, rfl⟩ := T12.2.1.row.slice
      have T5 := T5.below hb
      have b3 := b3.below hb
      have T8 := T8.below hb
      have b5 := b5.below hb
      have hB := bnext hB hb
      clear hPut d0 d1 d2 d3 d4
      clear hb
      go_wp2_with ((with_reducible refine gate_store (p := 13) rfl ?_); go_loud (
         refine wpList_put rfl 27 _ _ rfl w11.heap.size 0 [.int .i64 y.kind, .int .i64 y.size, .int .i64 y.most, (.slice A7 n7 c7), (.slice A8 n8 c8)] rfl rfl (newbox w11 y (.slice A7 n7 c7) (.slice A8 n8 c8)).1 (by kernel_rfl) rfl ?_
         obtain ⟨_, b13, hb, s13⟩ := newbox w11 y (.slice A7 n7 c7) (.slice A8 n8 c8)
         have T5 := T5.below hb
         have b3 := b3.below hb
         have T8 := T8.below hb
         have b5 := b5.below hb
         have T12 := T12.below hb
         have hB := bnext hB hb
         generalize (w11.alloc zcells).setCells w11.heap.size 0 [.int .i64 y.kind, .int .i64 y.size, .int .i64 y.most, (.slice A7 n7 c7), (.slice A8 n8 c8)] = w12 at *
         clear hb
         obtain ⟨d0, d1, d2, d3, d4⟩ := tbox_cells b13.get))
      have cX := tableLook_calls y _ _ Q1 Q2 x w12 T12.1.row T12.2.2.1 T12.2.1.row T12.2.2.2.1
      rw [HL5.out] at cX
      refine cX.mono ?_
      rintro e w13 ⟨rfl, hb⟩
      have T5 := T5.below hb
      have T8 := T8.below hb
      have T12 := T12.below hb
      have b3 := b3.below hb
      have b5 := b5.below hb
      have b13 := b13.below hb
      have hB := bnext hB hb
      clear hb cX d0 d1 d2 d3 d4
      obtain ⟨d0, d1, d2, d3, d4⟩ := tbox_cells b5.get
      obtain ⟨e0, e1, e2, e3, e4⟩ := tbox_cells b13.get
      obtain ⟨f0, f1, f2, f3, f4⟩ := tbox_cells b3.get
      have hl12 := T12.1.row.len'.1
      have hl5 := T5.1.row.len'.1
      rw [List.length_map] at hl12 hl5
      have hn71 : n7 = n1 := by rw [← hl12, ← hl5, HL6.out]
      subst hn71
      clear hl12 hl5
      go_wp2_with fail
      have cX := tableOk_calls u' _ _ N1 N2 w13 T8.1.row T8.2.2.1 T8.2.1.row T8.2.2.2.1
      rw [HL2.out] at cX
      refine cX.mono ?_
      rintro e w14 ⟨rfl, hb⟩
      have T12 := T12.below hb
      have b3 := b3.below hb
      have b13 := b13.below hb
      have hB := bnext hB hb
      clear hb cX d0 d1 d2 d3 d4 e0 e1 e2 e3 e4 f0 f1 f2 f3 f4
      obtain ⟨e0, e1, e2, e3, e4⟩ := tbox_cells b13.get
      obtain ⟨f0, f1, f2, f3, f4⟩ := tbox_cells b3.get
      go_wp2
      go_ret
      exact ⟨bool_of (by simp), hB⟩
end Go.Proofs.Ytoimeebildcofaa
