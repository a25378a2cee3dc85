/- The walks of the functions that make frames, of the program, of the reference and of its draws; and what is cut out of what was put, in plain words. -/
import Derived.Test.YtdpdclfanlbkjaaLawFrames
import Derived.Test.YtdpdclfanlbkjaaDraws
namespace Go.Proofs.Ytdpdclfanlbkjaa
open Go.RowKit
/-- A frame: its length ahead of it; nothing if it is too short or too long. -/
def framePut (s : ByteArray) : ByteArray := if inB s.size 1 12 then ⟨#[UInt8.ofNat s.size]⟩ ++ s else ⟨#[]⟩
theorem framePut_size (s : ByteArray) : (framePut s).size ≤ 13 := by
  unfold framePut
  split
  · rename_i h
    simp only [inB, Bool.and_eq_true, decide_eq_true_eq] at h
    rw [ByteArray.size_append]
    show 1 + s.size ≤ 13
    omega
  · show 0 ≤ 13
    omega
set_option maxRecDepth 100000 in
theorem specFramePut_calls (s : ByteArray) (w : World) (hs : s.size ≤ 9223372036854775807) : Calls Try.prog 14 #[.string s] w fun e w' => e = .returned (.string (framePut s)) ∧ Below w.heap.size w w' := by
  cases hin : inB (s.size : Int) 1 12 with
  | false =>
    have hf : framePut s = ⟨#[]⟩ := by simp [framePut, hin]
    have HF := Lib.hid hf
    clear hf
    go_enter Try.func14, Try.ntmps14
    go_wp2_with (first | (go_at_call 53; refine (l1In_calls _ _ _ _).mono ?_; rintro e w' ⟨rfl, hw'⟩; subst w') | ((with_reducible refine gate_dst (N := 11) rfl ?_); refine wpList_conv rfl 36 9 _ rfl _ _ rfl (hcv _) ?_))
    go_ret
    exact ⟨by rw [HF.out]; rfl, Below.refl _ _⟩
  | true =>
    have hin2 := hin
    simp only [inB, Bool.and_eq_true, decide_eq_true_eq] at hin2
    obtain ⟨c1, hc1⟩ : ∃ c1 : ByteArray, c1 = ⟨#[UInt8.ofNat s.size]⟩ := ⟨_, rfl⟩
    have hcv : ∀ W : World, (convert 36 9 (.slice (some ⟨W.heap.size, 0, none⟩) 1 1)).run Try.prog (W.alloc (.cells #[.int .u8 s.size] 5)) = .ok (.string c1) (W.alloc (.cells #[.int .u8 s.size] 5)) := fun W => by
      rw [run_convert_bytes_arg _ 36 5 Try.underlying36 Try.underlying5 _ 0 1 1 [(s.size : Int)] rfl (fun i hi => by
        have : i = 0 := by omega
        subst this
        exact cells_new W _ _ 0 _ rfl) 9 Try.underlying9, hc1]
      simp [strOfNums]
    have hf : framePut s = c1 ++ s := by simp [framePut, hin, hc1]
    have hc2 : c1.size = 1 := by rw [hc1]; rfl
    have HF := Lib.hid hf
    clear hf hc1
    obtain ⟨hb1, hb2⟩ := hin2
    go_enter Try.func14, Try.ntmps14
    go_wp2_with (first | (go_at_call 53; refine (l1In_calls _ _ _ _).mono ?_; rintro e w' ⟨rfl, hw'⟩; subst w') | ((with_reducible refine gate_dst (N := 11) rfl ?_); refine wpList_conv rfl 36 9 _ rfl _ _ rfl (hcv _) ?_))
    go_ret
    exact ⟨by rw [HF.out]; rfl, (Below.refl _ _).alloc (Nat.le_refl _) _⟩
set_option maxRecDepth 100000 in
theorem implFramePut_calls (s : ByteArray) (w : World) (hs : s.size ≤ 9223372036854775807) : Calls Try.prog 15 #[.string s] w fun e w' => e = .returned (.string (framePut s)) ∧ Below w.heap.size w w' := by
  cases hin : inB (s.size : Int) 1 12 with
  | false =>
    have hf : framePut s = ⟨#[]⟩ := by simp [framePut, hin]
    have HF := Lib.hid hf
    clear hf
    go_enter Try.func15, Try.ntmps15
    go_wp2_with (first | (go_at_call 54; refine (frameLong_calls _ _).mono ?_; rintro e w' ⟨rfl, hw'⟩; subst w') | ((with_reducible refine gate_dst (N := 11) rfl ?_); refine wpList_conv rfl 36 9 _ rfl _ _ rfl (hcv _) ?_))
    go_ret
    exact ⟨by rw [HF.out]; rfl, Below.refl _ _⟩
  | true =>
    have hin2 := hin
    simp only [inB, Bool.and_eq_true, decide_eq_true_eq] at hin2
    obtain ⟨c1, hc1⟩ : ∃ c1 : ByteArray, c1 = ⟨#[UInt8.ofNat s.size]⟩ := ⟨_, rfl⟩
    have hcv : ∀ W : World, (convert 36 9 (.slice (some ⟨W.heap.size, 0, none⟩) 1 1)).run Try.prog (W.alloc (.cells #[.int .u8 s.size] 5)) = .ok (.string c1) (W.alloc (.cells #[.int .u8 s.size] 5)) := fun W => by
      rw [run_convert_bytes_arg _ 36 5 Try.underlying36 Try.underlying5 _ 0 1 1 [(s.size : Int)] rfl (fun i hi => by
        have : i = 0 := by omega
        subst this
        exact cells_new W _ _ 0 _ rfl) 9 Try.underlying9, hc1]
      simp [strOfNums]
    have hf : framePut s = c1 ++ s := by simp [framePut, hin, hc1]
    have hc2 : c1.size = 1 := by rw [hc1]; rfl
    have HF := Lib.hid hf
    clear hf hc1
    obtain ⟨hb1, hb2⟩ := hin2
    go_enter Try.func15, Try.ntmps15
    go_wp2_with (first | (go_at_call 54; refine (frameLong_calls _ _).mono ?_; rintro e w' ⟨rfl, hw'⟩; subst w') | ((with_reducible refine gate_dst (N := 11) rfl ?_); refine wpList_conv rfl 36 9 _ rfl _ _ rfl (hcv _) ?_))
    go_ret
    exact ⟨by rw [HF.out]; rfl, (Below.refl _ _).alloc (Nat.le_refl _) _⟩
set_option maxRecDepth 100000 in
theorem drawFramePut_calls (v : Value) (vs : List Int) (L : Blocks) (w : World) (h : Row 1 v (vs.map byteCell) L) (H : Holds w L) (hs : ∀ v, v ∈ vs → 0 ≤ v ∧ v ≤ 255) :
    Calls Try.prog 26 #[v] w fun e w' => (∃ x : ByteArray, e = .returned (.string x) ∧ x.size ≤ 13) ∧ Below w.heap.size w w' := by
  go_enter Try.func26, Try.ntmps26
  go_wp2_with fail
  refine (openRd_calls v vs L _ h H hs).mono ?_
  rintro e w1 ⟨rfl, s, us, R1, hb1⟩
  have hg1 := R1.lt
  go_wp2_with fail
  refine (l20Frame_calls _ _ s us L 0 R1 (by omega)).mono ?_
  rintro e w2 ⟨⟨x, rfl, hx⟩, ⟨k2, hk2, R2⟩, o2⟩
  go_wp2_with fail
  refine (l20Frame_calls _ _ s us L k2 R2 (by omega)).mono ?_
  rintro e w3 ⟨⟨y, rfl, hy⟩, ⟨k3, hk3, R3⟩, o3⟩
  obtain ⟨hrow, hrowH⟩ := row_new w3 #[.string x, .string y, .string ⟨#[]⟩, .string "thirteenbytes".toUTF8, .string "twelve bytes".toUTF8] 9 5 ([x, y, ⟨#[]⟩, "thirteenbytes".toUTF8, "twelve bytes".toUTF8].map strCell) rfl (by omega) (by simp [strCell]) rfl
  have R3a := R3.below ((Below.refl _ _).alloc (Nat.le_refl _) (.cells #[.string x, .string y, .string ⟨#[]⟩, .string "thirteenbytes".toUTF8, .string "twelve bytes".toUTF8] 9))
  have hg3 := R3.lt
  go_wp2_with fail
  refine (of_calls _ [x, y, ⟨#[]⟩, "thirteenbytes".toUTF8, "twelve bytes".toUTF8] _ _ _ s us L k3 R3a (by omega) hrow hrowH (fun p hp => by rw [List.mem_singleton.1 hp]; show w3.heap.size ≠ w.heap.size; omega) (by simp) (by simp)).mono ?_
  rintro e w4 ⟨⟨z, rfl, hz⟩, R4, o4⟩
  have hzs : z.size ≤ 13 := by
    simp only [List.mem_cons, List.not_mem_nil, or_false] at hz
    rcases hz with rfl | rfl | rfl | rfl | rfl
    · omega
    · omega
    · decide
    · decide
    · decide
  clear hz
  go_wp2
  go_ret
  exact ⟨⟨z, rfl, hzs⟩, Only.below hb1 hb1.size (((o2.trans o3).alloc _).trans o4) (fun x hx => by omega)⟩
set_option maxRecDepth 100000 in
theorem l20Frames_calls (w : World) (g : Nat) (s : Value) (vs : List Int) (L : Blocks) (k : Nat) (R : Rd w g s vs L k) (hk : k ≤ 1099511620000) :
    Calls Try.prog 70 #[.pointer (some ⟨g, 0, none⟩)] w fun e w' => (∃ x : ByteArray, e = .returned (.string x) ∧ x.size ≤ 100) ∧ (∃ k', k' ≤ k + 100 ∧ Rd w' g s vs L k') ∧ Only (· = g) w w' := by
  go_enter Try.func70, Try.ntmps70
  go_wp2_with fail
  refine (pick_calls 6 _ g s vs L k R (by omega) (by omega)).mono ?_
  rintro e w1 ⟨⟨r, rfl, hr⟩, R1, o1⟩
  have hr1 : r ≤ 5 := by omega
  have hg := R.lt
  clear hr
  go_wp2
  go_loopw [3, 4] (fun v i wr => ∃ (j k' : Nat) (y : ByteArray), j ≤ 5 ∧ i = .int .i64 j ∧ v = .string y ∧ y.size + 13 * j ≤ 65 ∧ k' + 6 * j ≤ k + 31 ∧ Rd wr g s vs L k' ∧ Only (· = g) w wr) (fun _ i _ => (intOf i).toNat)
  case atStart => exact ⟨r, k + 1, ⟨#[]⟩, hr1, rfl, rfl, by show 0 + 13 * r ≤ 65; omega, by omega, R1, o1⟩
  case round =>
    obtain ⟨j, k', y, hj, rfl, rfl, hl, hkj, hR, hon⟩ := hrel
    by_cases hj0 : j = 0
    · subst hj0
      go_wp2_with fail
      refine (pick_calls 6 _ g s vs L k' hR (by omega) (by omega)).mono ?_
      rintro e w2 ⟨⟨r2, rfl, hr2⟩, R2, o2⟩
      by_cases h0 : r2 = 0
      · subst h0
        clear hr2
        go_wp2_with fail
        refine (pick_calls (y.size + 1) _ g s vs L _ R2 (by omega) (by omega)).mono ?_
        rintro e w3 ⟨⟨r3, rfl, hr3⟩, R3, o3⟩
        have hr4 : r3 ≤ y.size := by omega
        clear hr3
        go_wp2
        go_ret
        exact ⟨⟨_, rfl, by simp only [ByteArray.size_extract]; omega⟩, ⟨_, by omega, R3⟩, (hon.trans o2).trans o3⟩
      · by_cases h1 : r2 = 1
        · subst h1
          obtain ⟨hrow, hrowH⟩ := row_new w2 #[.string ⟨#[0]⟩, .string ⟨#[13]⟩, .string ⟨#[5, 97, 98]⟩] 9 3 ([⟨#[0]⟩, ⟨#[13]⟩, ⟨#[5, 97, 98]⟩].map strCell) rfl (by omega) (by simp [strCell]) rfl
          have R2a := R2.below ((Below.refl _ _).alloc (Nat.le_refl _) (.cells #[.string ⟨#[0]⟩, .string ⟨#[13]⟩, .string ⟨#[5, 97, 98]⟩] 9))
          have hg2 := R2.lt
          go_wp2_with fail
          refine (of_calls _ [⟨#[0]⟩, ⟨#[13]⟩, ⟨#[5, 97, 98]⟩] _ _ g s vs L _ R2a (by omega) hrow hrowH (fun p hp => by rw [List.mem_singleton.1 hp]; show w2.heap.size ≠ g; omega) (by simp) (by simp)).mono ?_
          rintro e w3 ⟨⟨z, rfl, hz⟩, R3, o3⟩
          have hzs : z.size ≤ 3 := by
            simp only [List.mem_cons, List.not_mem_nil, or_false] at hz
            rcases hz with rfl | rfl | rfl <;> decide
          clear hz
          go_wp2
          go_ret
          exact ⟨⟨_, rfl, by rw [ByteArray.size_append]; omega⟩, ⟨_, by omega, R3⟩, (hon.trans o2).trans (((Only.refl _ _).alloc _).trans o3)⟩
        · go_wp2
          go_ret
          exact ⟨⟨_, rfl, by omega⟩, ⟨_, by omega, R2⟩, hon.trans o2⟩
    · go_wp2_with fail
      refine (l20Frame_calls _ g s vs L k' hR (by omega)).mono ?_
      rintro e w2 ⟨⟨x, rfl, hx⟩, ⟨k2, hk2, R2⟩, o2⟩
      have hps := framePut_size x
      go_wp2_with fail
      refine (specFramePut_calls x _ (by omega)).mono ?_
      rintro e w3 ⟨rfl, hb3⟩
      go_wp2
      go_roundw
      case rel => exact ⟨j - 1, k2, _, by omega, by go_num, rfl, by rw [ByteArray.size_append]; omega, by omega, R2.below hb3, hon.trans (o2.then_below hb3)⟩
      case measure => simp [intOf]; omega
theorem drawFrameCut_calls (v : Value) (vs : List Int) (L : Blocks) (w : World) (h : Row 1 v (vs.map byteCell) L) (H : Holds w L) (hs : ∀ v, v ∈ vs → 0 ≤ v ∧ v ≤ 255) :
    Calls Try.prog 28 #[v] w fun e w' => (∃ x : ByteArray, e = .returned (.string x) ∧ x.size ≤ 100) ∧ Below w.heap.size w w' := by
  go_enter Try.func28, Try.ntmps28
  go_wp2_with fail
  refine (openRd_calls v vs L _ h H hs).mono ?_
  rintro e w1 ⟨rfl, s, us, R1, hb1⟩
  go_wp2_with fail
  refine (l20Frames_calls _ _ s us L 0 R1 (by omega)).mono ?_
  rintro e w2 ⟨⟨x, rfl, hx⟩, _, o2⟩
  go_wp2
  go_ret
  exact ⟨⟨x, rfl, hx⟩, Only.below hb1 hb1.size o2 (fun x hx => by omega)⟩
end Go.Proofs.Ytdpdclfanlbkjaa
