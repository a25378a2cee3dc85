/- The walks of the functions on frames, of the program and of the reference. -/
import Derived.Test.YtdpdclfanlbkjaaWRules
import Derived.Test.YtdpdclfanlbkjaaShelf
namespace Go.Proofs.Ytdpdclfanlbkjaa
open Go.RowKit
/-- The first byte, 0 if there is none. -/
def hd (s : ByteArray) : Nat := if h : 0 < s.size then s[0].toNat else 0
theorem hd_lt (s : ByteArray) : hd s ≤ 255 := by
  unfold hd
  split
  · have := s[0].toNat_lt; omega
  · omega
theorem hd_at (s : ByteArray) (h : 0 < s.size) : s[0].toNat = hd s := by simp [hd, h]
def frameOk (s : ByteArray) : Bool := decide (0 < s.size) && inB (hd s) 1 12 && decide (hd s < s.size)
def isBroken (s : ByteArray) : Bool := decide (0 < s.size) && !inB (hd s) 1 12
def frameOf (s : ByteArray) : ByteArray × ByteArray × Bool := if frameOk s then (s.extract 1 (1 + hd s), s.extract (1 + hd s) s.size, true) else (⟨#[]⟩, s, false)
theorem frameLong_calls (a : Int) (w : World) : Calls Try.prog 54 #[.int .i64 a] w fun e w' => e = .returned (.bool (inB a 1 12)) ∧ w' = w := by
  go_enter Try.func54, Try.ntmps54
  go_wp2_with (first | (go_at_call 103; refine (within_calls _ _ _ _).mono ?_; rintro e w' ⟨rfl, hw'⟩; subst w'))
  go_ret
  exact ⟨rfl, rfl⟩
theorem toList_empty {s : ByteArray} (h : s.size = 0) : s.toList.isEmpty = true := by
  rw [Lib.toList_data, List.isEmpty_iff_length_eq_zero]
  exact h
theorem toList_ne {s : ByteArray} (h : 0 < s.size) : s.toList.isEmpty = false := by
  rw [Lib.toList_data]
  have : s.data.toList.length ≠ 0 := by show s.size ≠ 0; omega
  cases hq : s.data.toList with
  | nil => simp [hq] at this
  | cons => rfl
set_option maxRecDepth 100000 in
theorem broken_calls (s : ByteArray) (w : World) : Calls Try.prog 65 #[.string s] w fun e w' => e = .returned (.bool (isBroken s)) ∧ w' = w := by
  by_cases h0 : s.size = 0
  · have hb : isBroken s = false := by simp [isBroken, h0]
    have HB := Lib.hid hb
    clear hb
    have h2 := toList_empty h0
    go_enter Try.func65, Try.ntmps65
    go_wp2
    go_ret
    exact ⟨bool_of (by rw [HB.out]), rfl⟩
  · have h1 : 0 < s.size := by omega
    have h2 := toList_ne h1
    have h3 : (s[0].toNat : Int) ≤ 255 := by have := s[0].toNat_lt; omega
    have h4 : (0 : Int) ≤ (s[0].toNat : Int) := by omega
    go_enter Try.func65, Try.ntmps65
    go_wp2_with (first | (go_at_call 54; refine (frameLong_calls _ _).mono ?_; rintro e w' ⟨rfl, hw'⟩; subst w'))
    go_ret
    exact ⟨bool_of (by simp [isBroken, h1, hd_at s h1]), rfl⟩
set_option maxRecDepth 100000 in
theorem frame_calls (s : ByteArray) (w : World) (hs : s.size ≤ 140737488355328) : Calls Try.prog 62 #[.string s] w fun e w' => e = .returned (.tuple #[.string (frameOf s).1, .string (frameOf s).2.1, .bool (frameOf s).2.2]) ∧ ∃ n, w' = w.drewN n := by
  by_cases h0 : s.size = 0
  · have hb : frameOf s = (⟨#[]⟩, s, false) := by simp [frameOf, frameOk, h0]
    have HB := Lib.hid hb
    clear hb
    have h2 := toList_empty h0
    go_enter Try.func62, Try.ntmps62
    go_wp2
    go_ret3
    exact ⟨by rw [HB.out]; rfl, 0, rfl⟩
  · have h1 : 0 < s.size := by omega
    have h2 := toList_ne h1
    have h3 : (s[0].toNat : Int) ≤ 255 := by have := s[0].toNat_lt; omega
    have h4 : (0 : Int) ≤ (s[0].toNat : Int) := by omega
    have h5 := hd_at s h1
    have H5 := Lib.hid h5
    clear h5
    go_enter Try.func62, Try.ntmps62
    go_wp2_with (first | (go_at_call 54; refine (frameLong_calls _ _).mono ?_; rintro e w' ⟨rfl, hw'⟩; subst w'))
    · go_ret3
      have hb : frameOf s = (⟨#[]⟩, s, false) := by simp [frameOf, frameOk, ← H5.out]; omega
      exact ⟨by rw [hb]; rfl, 0, rfl⟩
    · have hq1 : ¬ s.size ≤ s[0].toNat := by assumption
      have hq2 : (1 : Int) ≤ (s[0].toNat : Int) := by
        have : inB (s[0].toNat : Int) 1 12 = true := by assumption
        simp [inB] at this; omega
      have hb : frameOf s = (s.extract 1 (1 + s[0].toNat), s.extract (1 + s[0].toNat) s.size, true) := by
        have : inB (s[0].toNat : Int) 1 12 = true := by assumption
        rw [H5.out] at this hq1
        simp [frameOf, frameOk, this, h1, H5.out]; omega
      have HB := Lib.hid hb
      clear hb
      have hq3 : (1 : Int) + (s[0].toNat : Int) ≤ (s.size : Int) := by omega
      go_quiet (fail)
      go_wp2
      go_ret3
      exact ⟨by rw [HB.out]; rfl, _, rfl⟩
    · go_ret3
      have hb : frameOf s = (⟨#[]⟩, s, false) := by simp [frameOf, frameOk, ← H5.out]; simp_all
      exact ⟨by rw [hb]; rfl, 0, rfl⟩

/-- Frames of bytes, what is left, and whether that is none that cannot be. -/
def cutAll : Nat → ByteArray → List ByteArray × ByteArray × Bool
  | 0, s => ([], s, !isBroken s)
  | k + 1, s => if frameOk s then ((frameOf s).1 :: (cutAll k (frameOf s).2.1).1, (cutAll k (frameOf s).2.1).2) else ([], s, !isBroken s)
theorem frameOk_rest {s : ByteArray} (h : frameOk s = true) : (frameOf s).2.1.size + 2 ≤ s.size := by
  simp only [frameOk, inB, Bool.and_eq_true, decide_eq_true_eq] at h
  simp only [frameOf, frameOk, inB, h]
  simp [ByteArray.size_extract]
  omega
theorem cutAll_stop {s : ByteArray} (h : frameOk s = false) (k : Nat) : cutAll k s = ([], s, !isBroken s) := by
  cases k <;> simp [cutAll, h]
theorem cutAll_step {s : ByteArray} (h : frameOk s = true) (k : Nat) : cutAll (k + 1) s = ((frameOf s).1 :: (cutAll k (frameOf s).2.1).1, (cutAll k (frameOf s).2.1).2) := by
  simp [cutAll, h]
theorem cutAll_more (k : Nat) : ∀ (s : ByteArray), s.size ≤ k → ∀ m, k ≤ m → cutAll m s = cutAll k s := by
  induction k with
  | zero =>
    intro s hs m _
    have h0 : frameOk s = false := by simp [frameOk]; omega
    rw [cutAll_stop h0, cutAll_stop h0]
  | succ k ih =>
    intro s hs m hm
    cases hf : frameOk s with
    | false => rw [cutAll_stop hf, cutAll_stop hf]
    | true =>
      obtain ⟨m, rfl⟩ : ∃ m', m = m' + 1 := ⟨m - 1, by omega⟩
      have hr := frameOk_rest hf
      rw [cutAll_step hf, cutAll_step hf, ih _ (by omega) m (by omega)]
/-- The frames of s. -/
def cut (s : ByteArray) : List ByteArray × ByteArray × Bool := cutAll s.size s
theorem cut_stop {s : ByteArray} (h : frameOk s = false) : cut s = ([], s, !isBroken s) := cutAll_stop h _
theorem cut_step {s : ByteArray} (h : frameOk s = true) : cut s = ((frameOf s).1 :: (cut (frameOf s).2.1).1, (cut (frameOf s).2.1).2) := by
  have hr := frameOk_rest h
  unfold cut
  obtain ⟨m, hm⟩ : ∃ m, s.size = m + 1 := ⟨s.size - 1, by omega⟩
  rw [hm, cutAll_step h, cutAll_more (frameOf s).2.1.size _ (Nat.le_refl _) m (by omega)]
def frameCut (s : ByteArray) : List ByteArray × ByteArray × Bool := if s.size > 120 then ([], ⟨#[]⟩, false) else cut s
theorem frameOf_ok (s : ByteArray) : (frameOf s).2.2 = frameOk s := by
  unfold frameOf; split <;> simp_all
theorem frameOf_no {s : ByteArray} (h : frameOk s = false) : frameOf s = (⟨#[]⟩, s, false) := by simp [frameOf, h]
theorem cutAll_len : ∀ (k : Nat) (s : ByteArray), (cutAll k s).1.length ≤ s.size
  | 0, s => by simp [cutAll]
  | k + 1, s => by
    cases hf : frameOk s with
    | false => rw [cutAll_stop hf]; simp
    | true =>
      rw [cutAll_step hf]
      have := cutAll_len k (frameOf s).2.1
      have := frameOk_rest hf
      simp only [List.length_cons]
      omega
theorem cut_len (s : ByteArray) : (cut s).1.length ≤ s.size := cutAll_len _ s
theorem frameCut_len (s : ByteArray) : (frameCut s).1.length ≤ 120 := by
  unfold frameCut
  split
  · simp
  · have := cut_len s; omega
/-! ### slices.Clip, strings.Clone -/
set_option maxRecDepth 100000 in
theorem clipStr_calls (v : Value) (css : List (List Value)) (L : Blocks) (B : Nat) (w : World) (h : Own B 9 1 v css L) :
    Calls Try.prog 63 #[v] w fun e w' => (∃ v', e = .returned v' ∧ Own B 9 1 v' css L) ∧ w' = w := by
  obtain ⟨h0, ⟨rfl, rfl, rfl⟩ | ⟨b, cap, cur, rfl, hb, hl, hm, hs, rfl, ht⟩⟩ := h
  · go_enter Try.func63, Try.ntmps63
    go_wp2
    go_ret
    exact ⟨⟨_, rfl, Own.nil _ _ _⟩, rfl⟩
  · have HT := Lib.hid ht
    clear ht
    go_enter Try.func63, Try.ntmps63
    go_wp2
    go_ret
    exact ⟨⟨_, rfl, h0, .inr ⟨b, css.length, cur, rfl, hb, Nat.le_refl _, by omega, Nat.le_trans (Nat.mul_le_mul_right _ hl) hs, rfl, HT.out⟩⟩, rfl⟩
theorem cloneStr_calls (s : ByteArray) (w : World) (h : s.size ≤ 281474976710656) : Calls Try.prog 64 #[.string s] w fun e w' => e = .returned (.string s) ∧ Below w.heap.size w w' := by
  go_enter Try.func64, Try.ntmps64
  go_wp2_with (go_at_call 107; refine (Try.stringslite_Clone s _ h).mono ?_; rintro e w' ⟨rfl, hb⟩)
  go_ret
  exact ⟨rfl, hb⟩
theorem infoStr : (Try.prog.info? 9).map (fun i => (i.zero, i.size, i.bytes)) = some (some (.string ⟨#[]⟩), 1, 16) := by kernel_rfl
set_option maxRecDepth 100000 in
theorem frameCut_calls (s : ByteArray) (w : World) : Calls Try.prog 22 #[.string s] w fun e w' =>
    ∃ v L, e = .returned (.tuple #[v, .string (frameCut s).2.1, .bool (frameCut s).2.2]) ∧ Own w.heap.size 9 1 v ((frameCut s).1.map strCell) L ∧ Holds w' L ∧ Below w.heap.size w w' := by
  by_cases hs : s.size > 120
  · have hf : frameCut s = ([], ⟨#[]⟩, false) := by simp [frameCut, hs]
    have HF := Lib.hid hf
    clear hf
    go_enter Try.func22, Try.ntmps22
    go_wp2
    go_ret3
    exact ⟨_, [], by rw [HF.out]; rfl, by rw [HF.out]; exact Own.nil _ _ _, Holds.nil _, Below.refl _ _⟩
  · have hf : frameCut s = cut s := by simp [frameCut, hs]
    have HF := Lib.hid hf
    clear hf
    obtain ⟨i0, hi0, hz0, hs0, hb0⟩ := info_of infoStr
    have HI := Lib.hid hi0
    clear hi0
    go_enter Try.func22, Try.ntmps22
    go_wp2
    go_loopw [0, 5] (fun x v wr => ∃ (y : ByteArray) (acc : List ByteArray) (L : Blocks), x = .string y ∧ Own w.heap.size 9 1 v (acc.map strCell) L ∧ Holds wr L ∧ Below w.heap.size w wr ∧ Hid (cut s = (acc ++ (cut y).1, (cut y).2)) ∧ acc.length + y.size ≤ s.size) (fun x _ _ => (match x with | .string y => y.size | _ => 0))
    case atStart => exact ⟨s, [], _, rfl, ⟨by simp, .inr ⟨_, 0, #[], rfl, Nat.le_refl _, Nat.le_refl _, by omega, by simp, rfl, rfl⟩⟩, Holds.one (heap_alloc_new w _), (Below.refl _ _).alloc (Nat.le_refl _) _, rfl, by simp⟩
    case round =>
      obtain ⟨y, acc, L, rfl, ho, hH, hb, hc, hl⟩ := hrel
      have hsz := hb.size
      cases hfr : frameOk y with
      | false =>
        have h1 := frameOf_no hfr
        have h2 := cut_stop hfr
        have H1 := Lib.hid h1
        have H2 := Lib.hid h2
        clear h1 h2 hfr
        have hcf : (frameCut s) = (acc, y, !isBroken y) := by rw [HF.out, hc.out, H2.out]; simp
        have HC := Lib.hid hcf
        clear hcf hc
        go_wp2_with fail
        refine (frame_calls y _ (by omega)).mono ?_
        rintro e w1 ⟨rfl, nd, rfl⟩
        rw [H1.out]
        go_wp2_with fail
        refine (clipStr_calls _ _ L _ _ ho).mono ?_
        rintro e w2 ⟨⟨v', rfl, ho'⟩, rfl⟩
        go_wp2_with fail
        refine (cloneStr_calls y _ (by omega)).mono ?_
        rintro e w3 ⟨rfl, hb3⟩
        go_wp2_with (go_at_call 65; refine (broken_calls y _).mono ?_; rintro e w' ⟨rfl, hw'⟩; subst w')
        go_ret3
        exact ⟨v', L, by rw [HC.out]; rfl, by rw [HC.out]; exact ho', (hH.drewN nd).below hb3, (below_drewN' hb nd).trans (hb3.mono hsz)⟩
      | true =>
        have h1 := cut_step hfr
        have h2 := frameOk_rest hfr
        have h3 := frameOf_ok y
        rw [hfr] at h3
        have H1 := Lib.hid h1
        have H3 := Lib.hid h3
        clear h1 h3 hfr
        go_wp2_with fail
        refine (frame_calls y _ (by omega)).mono ?_
        rintro e w1 ⟨rfl, nd, rfl⟩
        rw [H3.out]
        generalize hone : (frameOf y).1 = one at *
        generalize hrest : (frameOf y).2.1 = rest at *
        have hos : one.size ≤ 281474976710656 := by
          rw [← hone]
          unfold frameOf
          split
          · rw [ByteArray.size_extract]; omega
          · simp [ByteArray.size]
        clear hone hrest
        go_wp2_with fail
        refine (cloneStr_calls one _ hos).mono ?_
        rintro e w3 ⟨rfl, hb3⟩
        have hH3 := (hH.drewN nd).below hb3
        have hb4 := (below_drewN' hb nd).trans (hb3.mono hsz)
        have hs3 : w.heap.size ≤ w3.heap.size := hb4.size
        go_wp2_with (first | ((with_reducible refine gate_dst (N := 32) rfl ?_); refine wpList_append' rfl _ _ 31 rfl w.heap.size 9 i0 _ 1 16 Try.underlying31 HI.out hz0 hs0 hb0 rfl (by decide) _ (acc.map strCell) L rfl ho (hH3.alloc _) ⟨w3.heap.size, 0, none⟩ 1 1 [[.string one]] rfl (by simp) rfl (cells_new _ _ _) (by simp [Value.oneCell']) (by simp; omega) (by decide) (by simp; omega) ?_; intro v2 w4 L2 ho2 hH2 hon hat))
        go_roundw
        case rel => exact ⟨rest, acc ++ [one], L2, rfl, by simpa [strCell] using ho2, hH2, Only.below (below_alloc' hb4 _) (by simp; omega) hon (fun k ⟨p, hp, hpk⟩ => by rw [← hpk]; exact ho.base p hp), by show _ = _; rw [hc.out, H1.out]; simp, by simp; omega⟩
        case measure => simp; omega
end Go.Proofs.Ytdpdclfanlbkjaa
