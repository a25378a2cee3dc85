/- The walks of the functions on frames, of the program and of the reference. -/
import Derived.Test.YtoimeebildcofaaWRules
import Derived.Test.YtoimeebildcofaaShelf
namespace Go.Proofs.Ytoimeebildcofaa
open Go.RowKit
/-- The first byte, 0 if there is none. -/
def hd (s : ByteArray) : Nat := if h : 0 < s.size then s[0].toNat else 0
theorem hd_lt (s : ByteArray) : hd s ≤ 255 := by
  unfold hd
  split
  · have := s[0].toNat_lt; omega
  · omega
theorem hd_at (s : ByteArray) (h : 0 < s.size) : s[0].toNat = hd s := by simp [hd, h]
def frameOk (s : ByteArray) : Bool := decide (0 < s.size) && inB (hd s) 1 12 && decide (hd s < s.size)
def isBroken (s : ByteArray) : Bool := decide (0 < s.size) && !inB (hd s) 1 12
def frameOf (s : ByteArray) : ByteArray × ByteArray × Bool := if frameOk s then (s.extract 1 (1 + hd s), s.extract (1 + hd s) s.size, true) else (⟨#[]⟩, s, false)
theorem toList_empty {s : ByteArray} (h : s.size = 0) : s.toList.isEmpty = true := by
  rw [Lib.toList_data, List.isEmpty_iff_length_eq_zero]
  exact h
theorem toList_ne {s : ByteArray} (h : 0 < s.size) : s.toList.isEmpty = false := by
  rw [Lib.toList_data]
  have : s.data.toList.length ≠ 0 := by show s.size ≠ 0; omega
  cases hq : s.data.toList with
  | nil => simp [hq] at this
  | cons => rfl
/-- Frames of bytes, what is left, and whether that is none that cannot be. -/
def cutAll : Nat → ByteArray → List ByteArray × ByteArray × Bool
  | 0, s => ([], s, !isBroken s)
  | k + 1, s => if frameOk s then ((frameOf s).1 :: (cutAll k (frameOf s).2.1).1, (cutAll k (frameOf s).2.1).2) else ([], s, !isBroken s)
theorem frameOk_rest {s : ByteArray} (h : frameOk s = true) : (frameOf s).2.1.size + 2 ≤ s.size := by
  simp only [frameOk, inB, Bool.and_eq_true, decide_eq_true_eq] at h
  simp only [frameOf, frameOk, inB, h]
  simp [ByteArray.size_extract]
  omega
theorem cutAll_stop {s : ByteArray} (h : frameOk s = false) (k : Nat) : cutAll k s = ([], s, !isBroken s) := by
  cases k <;> simp [cutAll, h]
theorem cutAll_step {s : ByteArray} (h : frameOk s = true) (k : Nat) : cutAll (k + 1) s = ((frameOf s).1 :: (cutAll k (frameOf s).2.1).1, (cutAll k (frameOf s).2.1).2) := by
  simp [cutAll, h]
theorem cutAll_more (k : Nat) : ∀ (s : ByteArray), s.size ≤ k → ∀ m, k ≤ m → cutAll m s = cutAll k s := by
  induction k with
  | zero =>
    intro s hs m _
    have h0 : frameOk s = false := by simp [frameOk]; omega
    rw [cutAll_stop h0, cutAll_stop h0]
  | succ k ih =>
    intro s hs m hm
    cases hf : frameOk s with
    | false => rw [cutAll_stop hf, cutAll_stop hf]
    | true =>
      obtain ⟨m, rfl⟩ : ∃ m', m = m' + 1 := ⟨m - 1, by omega⟩
      have hr := frameOk_rest hf
      rw [cutAll_step hf, cutAll_step hf, ih _ (by omega) m (by omega)]
/-- The frames of s. -/
def cut (s : ByteArray) : List ByteArray × ByteArray × Bool := cutAll s.size s
theorem cut_stop {s : ByteArray} (h : frameOk s = false) : cut s = ([], s, !isBroken s) := cutAll_stop h _
theorem cut_step {s : ByteArray} (h : frameOk s = true) : cut s = ((frameOf s).1 :: (cut (frameOf s).2.1).1, (cut (frameOf s).2.1).2) := by
  have hr := frameOk_rest h
  unfold cut
  obtain ⟨m, hm⟩ : ∃ m, s.size = m + 1 := ⟨s.size - 1, by omega⟩
  rw [hm, cutAll_step h, cutAll_more (frameOf s).2.1.size _ (Nat.le_refl _) m (by omega)]
def frameCut (s : ByteArray) : List ByteArray × ByteArray × Bool := if s.size > 120 then ([], ⟨#[]⟩, false) else cut s
theorem frameOf_ok (s : ByteArray) : (frameOf s).2.2 = frameOk s := by
  unfold frameOf; split <;> simp_all
theorem frameOf_no {s : ByteArray} (h : frameOk s = false) : frameOf s = (⟨#[]⟩, s, false) := by simp [frameOf, h]
theorem cutAll_len : ∀ (k : Nat) (s : ByteArray), (cutAll k s).1.length ≤ s.size
  | 0, s => by simp [cutAll]
  | k + 1, s => by
    cases hf : frameOk s with
    | false => rw [cutAll_stop hf]; simp
    | true =>
      rw [cutAll_step hf]
      have := cutAll_len k (frameOf s).2.1
      have := frameOk_rest hf
      simp only [List.length_cons]
      omega
theorem cut_len (s : ByteArray) : (cut s).1.length ≤ s.size := cutAll_len _ s
theorem frameCut_len (s : ByteArray) : (frameCut s).1.length ≤ 120 := by
  unfold frameCut
  split
  · simp
  · have := cut_len s; omega
/-! ### slices.Clip, strings.Clone -/
set_option maxRecDepth 100000 in
theorem clipStr_calls (v : Value) (css : List (List Value)) (L : Blocks) (B : Nat) (w : World) (h : Own B 9 1 v css L) :
    Calls Try.prog 79 #[v] w fun e w' => (∃ v', e = .returned v' ∧ Own B 9 1 v' css L) ∧ w' = w := by
  obtain ⟨h0, ⟨rfl, rfl, rfl⟩ | ⟨b, cap, cur, rfl, hb, hl, hm, hs, rfl, ht⟩⟩ := h
  · go_enter Try.func79, Try.ntmps79
    go_wp2
    go_ret
    exact ⟨⟨_, rfl, Own.nil _ _ _⟩, rfl⟩
  · have HT := Lib.hid ht
    clear ht
    go_enter Try.func79, Try.ntmps79
    go_wp2
    go_ret
    exact ⟨⟨_, rfl, h0, .inr ⟨b, css.length, cur, rfl, hb, Nat.le_refl _, by omega, Nat.le_trans (Nat.mul_le_mul_right _ hl) hs, rfl, HT.out⟩⟩, rfl⟩
theorem cloneStr_calls (s : ByteArray) (w : World) (h : s.size ≤ 281474976710656) : Calls Try.prog 57 #[.string s] w fun e w' => e = .returned (.string s) ∧ Below w.heap.size w w' := by
  go_enter Try.func57, Try.ntmps57
  go_wp2_with (go_at_call 88; refine (Try.stringslite_Clone s _ h).mono ?_; rintro e w' ⟨rfl, hb⟩)
  go_ret
  exact ⟨rfl, hb⟩
theorem infoStr : (Try.prog.info? 9).map (fun i => (i.zero, i.size, i.bytes)) = some (some (.string ⟨#[]⟩), 1, 16) := by kernel_rfl
end Go.Proofs.Ytoimeebildcofaa
