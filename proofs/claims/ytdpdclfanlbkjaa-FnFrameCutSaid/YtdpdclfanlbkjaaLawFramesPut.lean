/- The walks of the laws FnFramePut and FnFrameCut. -/
import Derived.Test.YtdpdclfanlbkjaaCuts
namespace Go.Proofs.Ytdpdclfanlbkjaa
open Go.RowKit
set_option maxRecDepth 100000 in
theorem lawFramePut (v : Value) (vs : List Int) (L : Blocks) (w : World) (h : Row 1 v (vs.map byteCell) L) (H : Holds w L) (hs : ∀ v, v ∈ vs → 0 ≤ v ∧ v ≤ 255) :
    Calls Try.prog 6 #[v] w fun e w' => e = .returned (.bool true) ∧ Below w.heap.size w w' := by
  obtain ⟨A, n, c, rfl⟩ := h.slice
  obtain ⟨hnl, hn⟩ := h.len'
  by_cases hbig : 1048576 < n
  · go_enter Try.func6, Try.ntmps6
    go_wp2
    go_ret
    exact ⟨rfl, Below.refl _ _⟩
  · go_enter Try.func6, Try.ntmps6
    go_wp2_with fail
    refine (drawFramePut_calls _ vs L w h H hs).mono ?_
    rintro e w1 ⟨⟨x, rfl, hx⟩, hb1⟩
    have hps := framePut_size x
    cases hin : inB (x.size : Int) 1 12 with
    | false =>
      have hf := framePut_out hin
      have hx2 : x.size = 0 ∨ 12 < x.size := by simp [inB] at hin; omega
      have HF := Lib.hid hf
      have HX := Lib.hid hx2
      clear hf hps hx2
      go_wp2_with fail
      refine (implFramePut_calls x _ (by omega)).mono ?_
      rintro e w2 ⟨rfl, hb2⟩
      rw [HF.out]
      go_wp2_with fail
      refine (specFramePut_calls x _ (by omega)).mono ?_
      rintro e w3 ⟨rfl, hb3⟩
      rw [HF.out]
      go_wp2_with fail
      refine (specFramePut_calls x _ (by omega)).mono ?_
      rintro e w4 ⟨rfl, hb4⟩
      rw [HF.out]
      go_wp2
      all_goals go_ret
      all_goals exact ⟨bool_of (by have := HX.out; first | rfl | (rw [Bool.or_eq_true, beq_iff_eq, decide_eq_true_eq]; omega)), bnext (bnext (bnext hb1 hb2) hb3) hb4⟩
    | true =>
      have hz := framePut_size_in hin
      have ht := cut_thrice hin
      rw [hz, Nat.add_sub_cancel_left] at ht
      have hne := toList_ne (s := framePut x) (by omega)
      generalize hu : framePut x = u at *
      have HU := Lib.hid hu
      have HT := Lib.hid ht
      clear ht hu
      go_wp2_with fail
      refine (implFramePut_calls x _ (by omega)).mono ?_
      rintro e w2 ⟨rfl, hb2⟩
      rw [HU.out]
      go_wp2_with fail
      refine (specFramePut_calls x _ (by omega)).mono ?_
      rintro e w3 ⟨rfl, hb3⟩
      rw [HU.out]
      go_wp2_with fail
      refine (frameCut_calls _ _).mono ?_
      rw [HT.out]
      rintro e w4 ⟨v4, L4, rfl, ho4, hH4, hb4⟩
      have hB4 := bnext (bnext (bnext hb1 hb2) hb3) hb4
      obtain ⟨hrow, hrowH⟩ := row_new w4 #[.string x, .string x] 9 2 ([x, x].map strCell) rfl (by omega) (by simp [strCell]) rfl
      go_wp2_with fail
      refine (sgTexts_calls _ _ [x, x] [x, x] L4 _ _ ho4.row (hH4.alloc _) hrow hrowH).mono ?_
      rintro e w5 ⟨rfl, n5, rfl⟩
      go_wp2
      go_ret
      exact ⟨rfl, below_drewN' (below_alloc' hB4 _) n5⟩
set_option maxRecDepth 100000 in
set_option maxHeartbeats 1000000 in
theorem lawFrameCut (v : Value) (vs : List Int) (L : Blocks) (u : Value) (us : List Int) (M : Blocks) (w : World) (h : Row 1 v (vs.map byteCell) L) (H : Holds w L) (hs : ∀ v, v ∈ vs → 0 ≤ v ∧ v ≤ 255) (h' : Row 1 u (us.map byteCell) M) :
    Calls Try.prog 7 #[v, u] w fun e w' => e = .returned (.bool true) ∧ Below w.heap.size w w' := by
  obtain ⟨A, n, c, rfl⟩ := h.slice
  obtain ⟨hnl, hn⟩ := h.len'
  obtain ⟨A', n', c', rfl⟩ := h'.slice
  obtain ⟨hnl', hn'⟩ := h'.len'
  by_cases hbig : 1048576 < n
  · go_enter Try.func7, Try.ntmps7
    go_wp2
    go_ret
    exact ⟨rfl, Below.refl _ _⟩
  by_cases hbig' : 1048576 < n'
  · go_enter Try.func7, Try.ntmps7
    go_wp2
    go_ret
    exact ⟨rfl, Below.refl _ _⟩
  go_enter Try.func7, Try.ntmps7
  go_wp2_with fail
  refine (drawFrameCut_calls _ vs L w h H hs).mono ?_
  rintro e w1 ⟨⟨b, rfl, hbs⟩, hb1⟩
  have hcut : frameCut b = cut b := by unfold frameCut; rw [if_neg (by omega)]
  have hpieces := cut_pieces b
  have hjoin := cut_joined b
  have hlen := cut_len b
  have hsmall := cut_small b
  have hrs : (cut b).2.1.size ≤ 100 := by
    have := congrArg ByteArray.size hjoin
    rw [ByteArray.size_append] at this
    omega
  generalize hC : cut b = C at *
  obtain ⟨fs, rest, ok⟩ := C
  simp only at hpieces hjoin hlen hrs hsmall
  have HC := Lib.hid hcut
  have HP := Lib.hid hpieces
  have HJ := Lib.hid hjoin
  have HS := Lib.hid hsmall
  clear hcut hpieces hjoin hsmall hC
  go_wp2_with fail
  refine (frameCut_calls b _).mono ?_
  rw [HC.out]
  rintro e w2 ⟨v2, L2, rfl, ho2, hH2, hb2⟩
  go_wp2_with fail
  refine (specFrameCut_calls b _).mono ?_
  rw [HC.out]
  rintro e w3 ⟨v3, L3, rfl, ho3, hH3, hb3⟩
  have hB3 := bnext (bnext hb1 hb2) hb3
  simp only at ho2 ho3
  have hH2b := hH2.below hb3
  go_wp2_with fail
  refine (sgTexts_calls _ _ fs fs L2 L3 _ ho2.row hH2b ho3.row hH3).mono ?_
  rintro e w4 ⟨rfl, n4, rfl⟩
  cases ok with
  | false =>
    go_wp2_with fail
    refine (sgTexts_calls _ _ fs fs L2 L3 _ ho2.row (hH2b.drewN n4) ho3.row (hH3.drewN n4)).mono ?_
    rintro e w5 ⟨rfl, n5, rfl⟩
    go_wp2
    go_ret
    exact ⟨rfl, below_drewN' hB3 (n4 + n5)⟩
  | true =>
    have hB4 := below_drewN' hB3 n4
    obtain ⟨A2, m2, c2, rfl⟩ := ho2.row.slice
    obtain ⟨hnl2, hn2⟩ := ho2.row.len'
    rw [List.length_map] at hnl2
    have HN := Lib.hid hnl2
    have hm2 : m2 ≤ 100 := by omega
    have hH2c := hH2b.drewN n4
    have hH3c := hH3.drewN n4
    clear hnl2 hlen
    generalize w3.drewN n4 = w5 at *
    go_wp2
    go_loopw [12, 13] (fun y i wr => ∃ (j : Nat) (acc : ByteArray), j ≤ m2 ∧ i = .int .i64 j ∧ y = .string acc ∧ Hid (acc = joined ⟨#[]⟩ (fs.take j)) ∧ acc.size ≤ 13 * j ∧ Below w5.heap.size w5 wr) (fun _ i _ => m2 - (intOf i).toNat)
    case atStart => exact ⟨0, ⟨#[]⟩, Nat.zero_le _, rfl, rfl, rfl, Nat.le_refl _, Below.refl _ _⟩
    case round =>
      obtain ⟨j, acc, hj, rfl, rfl, hacc, has, hb5⟩ := hrel
      by_cases hlt : j < m2
      · obtain ⟨f, hf⟩ : ∃ f, fs[j]? = some f := ⟨_, List.getElem?_eq_getElem (by rw [HN.out]; exact hlt)⟩
        have HF := Lib.hid hf
        clear hf
        obtain ⟨g, off, rfl, hq⟩ := ho2.row.at_ (hH2c.below hb5) (k := j) (cs := strCell f) (by simp [HF.out])
        have q0 : wr.cell? ⟨g, off + j * 1, none⟩ = some (.string f) := hq 0 _ rfl
        rw [Nat.mul_one] at q0
        clear hq
        have hfs : f.size ≤ 9223372036854775807 := by have := HS.out f (List.mem_of_getElem? HF.out); omega
        have hps := framePut_size f
        go_wp2_with fail
        refine (implFramePut_calls f _ hfs).mono ?_
        rintro e w6 ⟨rfl, hb6⟩
        go_wp2
        go_roundw
        case rel => exact ⟨j + 1, acc ++ framePut f, by omega, by go_num, rfl, by show _ = _; rw [joined_take HF.out, ← hacc.out], by rw [ByteArray.size_append]; omega, bnext hb5 hb6⟩
        case measure => simp [intOf]; omega
      · have hjm : j = m2 := by omega
        subst hjm
        have hacc2 : acc ++ rest = b := by
          have h1 := hacc.out
          rw [List.take_of_length_le (by rw [HN.out]; exact Nat.le_refl _)] at h1
          rw [h1]
          exact HJ.out
        have HA := Lib.hid hacc2
        clear hacc2 hacc
        have k0 : 0 ≤ (n' : Int) % ((b.size : Int) + 1) := Int.emod_nonneg _ (by omega)
        have k1 : (n' : Int) % ((b.size : Int) + 1) ≤ b.size := by have := Int.emod_lt_of_pos (n' : Int) (show 0 < (b.size : Int) + 1 by omega); omega
        have hkb : n' % (b.size + 1) ≤ b.size := by have := Nat.mod_lt n' (show 0 < b.size + 1 by omega); omega
        obtain ⟨f1, r1, g, hp1, hp2, hp3, hp4⟩ : ∃ f1 r1 g, frameCut (b.extract 0 (n' % (b.size + 1))) = (f1, r1, true) ∧ frameCut (r1 ++ b.extract (n' % (b.size + 1)) b.size) = (g, rest, true) ∧ f1 ++ g = fs ∧ r1.size ≤ 100 := by
          obtain ⟨e1, g, e2, e3⟩ := HP.out _ hkb (by trivial)
          have e4 := cut_joined (b.extract 0 (n' % (b.size + 1)))
          have e5 := congrArg ByteArray.size e4
          rw [ByteArray.size_append, ByteArray.size_extract] at e5
          generalize hq : cut (b.extract 0 (n' % (b.size + 1))) = q at *
          obtain ⟨f1, r1, o1⟩ := q
          simp only at e1 e2 e3 e5
          subst e1
          refine ⟨f1, r1, g, ?_, ?_, e3, by omega⟩
          · unfold frameCut
            rw [if_neg (by rw [ByteArray.size_extract]; omega), hq]
          · unfold frameCut
            rw [if_neg (by rw [ByteArray.size_append, ByteArray.size_extract]; omega), e2]
        have H1 := Lib.hid hp1
        have H2 := Lib.hid hp2
        have hl1 : f1.length + g.length ≤ 100 := by rw [← List.length_append, hp3, HN.out]; exact hm2
        have H3 := Lib.hid hp3
        clear hp1 hp2 hp3
        go_wp2_with fail
        refine (frameCut_calls _ _).mono ?_
        rw [H1.out]
        rintro e w6 ⟨v6, L6, rfl, ho6, hH6, hb6⟩
        go_wp2_with fail
        refine (frameCut_calls _ _).mono ?_
        rw [H2.out]
        rintro e w7 ⟨v7, L7, rfl, ho7, hH7, hb7⟩
        simp only at ho6 ho7
        have hB7 := bnext (bnext hb5 hb6) hb7
        have hH6b := hH6.below hb7
        have hacc2 := HA.out
        obtain ⟨i0, hi0, hz0, hs0, hb0⟩ := info_of infoStr
        have HI := Lib.hid hi0
        clear hi0
        have hH2d := hH2c.below hB7
        have hone : ∀ (xs : List ByteArray), ∀ u ∈ (xs.map strCell).flatten, u.oneCell' = true := fun xs u hu => by
          obtain ⟨c, hc, hu⟩ := List.mem_flatten.1 hu
          obtain ⟨x, _, rfl⟩ := List.mem_map.1 hc
          rw [List.mem_singleton.1 hu]
          rfl
        have ownE : Own w7.heap.size 9 1 (.slice (some ⟨w7.heap.size, 0, none⟩) 0 0) [] [(w7.heap.size, .cells #[] 9 (0, 0))] := ⟨by simp, .inr ⟨_, 0, #[], rfl, Nat.le_refl _, Nat.le_refl _, by omega, by simp, rfl, rfl⟩⟩
        go_wp2_with (first | ((with_reducible refine gate_dst (N := 130) rfl ?_); refine wpList_append_row rfl _ _ 31 rfl w7.heap.size 9 i0 _ 1 16 Try.underlying31 HI.out hz0 hs0 hb0 rfl (by decide) _ [] _ rfl ownE (Holds.one (heap_alloc_new w7 _)) _ (f1.map strCell) L6 rfl ho6.row (hH6b.alloc _) (hone f1) (by simp; omega) (by decide) (by simp) ?_; intro v8 w8 L8 ho8 hH8 hon8 hat8; have hH7b := (hH7.alloc (.cells #[] 9)).only hon8 (fun p hp ⟨q, hq, hqp⟩ => by have := hH7.lt hp; rw [List.mem_singleton.1 hq] at hqp; simp at hqp; omega)) | ((with_reducible refine gate_dst (N := 132) rfl ?_); refine wpList_append_row rfl _ _ 31 rfl w7.heap.size 9 i0 _ 1 16 Try.underlying31 HI.out hz0 hs0 hb0 rfl (by decide) _ _ L8 rfl ho8 hH8 _ (g.map strCell) L7 rfl ho7.row hH7b (hone g) (by simp; omega) (by decide) (by have := hon8.size; simp at this; omega) ?_; intro v9 w9 L9 ho9 hH9 hon9 hat9))
        have hap8 : ∀ p, p ∈ L2 → ¬ Blk [(w7.heap.size, .cells #[] 9 (0, 0))] p.1 := fun p hp ⟨q, hq, hqp⟩ => by have := hH2d.lt hp; rw [List.mem_singleton.1 hq] at hqp; simp at hqp; omega
        have hap9 : ∀ p, p ∈ L2 → ¬ Blk L8 p.1 := fun p hp ⟨q, hq, hqp⟩ => by have := hH2d.lt hp; have := ho8.base q hq; omega
        have hH2e := ((hH2d.alloc (.cells #[] 9)).only hon8 hap8).only hon9 hap9
        have hR9 : Row 1 v9 (fs.map strCell) L9 := by
          have := ho9.row
          rw [List.nil_append, ← List.map_append, H3.out] at this
          exact this
        have hB9 : Below w.heap.size w w9 := by
          have hBw7 := bnext hB4 hB7
          refine Only.below (Only.below (below_alloc' hBw7 _) (by have := hBw7.size; simp; omega) hon8 (fun k ⟨q, hq, hqk⟩ => by rw [List.mem_singleton.1 hq] at hqk; simp at hqk; have := hBw7.size; omega)) (by have := hBw7.size; have := hon8.size; simp at this; omega) hon9 (fun k ⟨q, hq, hqk⟩ => by have := ho8.base q hq; have := hBw7.size; omega)
        refine (sgTexts_calls _ _ fs fs L9 L2 _ hR9 hH9 ho2.row hH2e).mono ?_
        rintro e w10 ⟨rfl, n10, rfl⟩
        go_wp2
        go_ret
        exact ⟨bool_of (by simp), below_drewN' hB9 n10⟩
end Go.Proofs.Ytdpdclfanlbkjaa
