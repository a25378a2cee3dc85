/- What is cut out of what was put, and out of pieces: plain words, no program. -/
import Derived.Test.YtdpdclfanlbkjaaPuts
namespace Go.Proofs.Ytdpdclfanlbkjaa
theorem framePut_in {x : ByteArray} (h : inB x.size 1 12 = true) : framePut x = ⟨#[UInt8.ofNat x.size]⟩ ++ x := by simp [framePut, h]
theorem framePut_out {x : ByteArray} (h : inB x.size 1 12 = false) : framePut x = ⟨#[]⟩ := by simp [framePut, h]
theorem framePut_size_in {x : ByteArray} (h : inB x.size 1 12 = true) : (framePut x).size = 1 + x.size := by
  rw [framePut_in h, ByteArray.size_append]
  rfl
theorem hd_append {x t : ByteArray} (h : 0 < x.size) : hd (x ++ t) = hd x := by
  have h1 : 0 < (x ++ t).size := by rw [ByteArray.size_append]; omega
  rw [← hd_at _ h1, ← hd_at _ h, ByteArray.getElem_append_left h]
theorem hd_put {x : ByteArray} (h : inB x.size 1 12 = true) : hd (framePut x) = x.size := by
  have h0 : 0 < (framePut x).size := by rw [framePut_size_in h]; omega
  have h2 := h
  simp only [inB, Bool.and_eq_true, decide_eq_true_eq] at h2
  have h1 : (0 : Nat) < (⟨#[UInt8.ofNat x.size]⟩ : ByteArray).size := Nat.zero_lt_one
  rw [framePut_in h, hd_append h1, ← hd_at _ h1]
  show (UInt8.ofNat x.size).toNat = x.size
  rw [UInt8.toNat_ofNat_of_lt']
  show x.size < 256
  omega
theorem hd_put_append {x t : ByteArray} (h : inB x.size 1 12 = true) : hd (framePut x ++ t) = x.size := by
  rw [hd_append (by rw [framePut_size_in h]; omega), hd_put h]
theorem put_ok {x : ByteArray} (t : ByteArray) (h : inB x.size 1 12 = true) : frameOk (framePut x ++ t) = true := by
  have h2 := framePut_size_in h
  simp only [frameOk, hd_put_append h, h, ByteArray.size_append, h2, Bool.and_true, Bool.and_eq_true, decide_eq_true_eq]
  omega
theorem put_frame {x : ByteArray} (t : ByteArray) (h : inB x.size 1 12 = true) : frameOf (framePut x ++ t) = (x, t, true) := by
  have h2 := framePut_size_in h
  simp only [frameOf, put_ok t h, if_true, hd_put_append h]
  have e1 : (framePut x ++ t).extract (1 + x.size) (framePut x ++ t).size = t := ByteArray.extract_append_eq_right (by rw [h2]) (by rw [ByteArray.size_append])
  have e2 : (framePut x ++ t).extract 1 (1 + x.size) = x := by
    rw [framePut_in h, ByteArray.append_assoc, ByteArray.extract_append]
    have : (⟨#[UInt8.ofNat x.size]⟩ : ByteArray).size = 1 := rfl
    rw [this, Nat.sub_self, Nat.add_sub_cancel_left, ByteArray.extract_append_eq_left rfl]
    have e3 : (⟨#[UInt8.ofNat x.size]⟩ : ByteArray).extract 1 (1 + x.size) = ByteArray.empty := by
      apply ByteArray.ext_getElem
      · rw [ByteArray.size_extract, this]
        show _ = 0
        omega
      · intro i hi
        rw [ByteArray.size_extract, this] at hi
        omega
    rw [e3, ByteArray.empty_append]
  rw [e1, e2]
theorem cut_put {x : ByteArray} (t : ByteArray) (h : inB x.size 1 12 = true) : cut (framePut x ++ t) = (x :: (cut t).1, (cut t).2) := by
  rw [cut_step (put_ok t h), put_frame t h]
theorem frame_put {s : ByteArray} (h : frameOk s = true) : inB (frameOf s).1.size 1 12 = true ∧ s = framePut (frameOf s).1 ++ (frameOf s).2.1 := by
  have h0 := h
  simp only [frameOk, Bool.and_eq_true, decide_eq_true_eq] at h0
  obtain ⟨⟨h1, h2⟩, h3⟩ := h0
  have e1 : (frameOf s).1 = s.extract 1 (1 + hd s) := by simp [frameOf, h]
  have e2 : (frameOf s).2.1 = s.extract (1 + hd s) s.size := by simp [frameOf, h]
  have hz : (frameOf s).1.size = hd s := by rw [e1, ByteArray.size_extract]; omega
  have hin : inB (frameOf s).1.size 1 12 = true := by rw [hz]; exact h2
  refine ⟨hin, ?_⟩
  rw [framePut_in hin, hz, e1, e2]
  have e3 : s.extract 0 1 = ⟨#[UInt8.ofNat (hd s)]⟩ := by
    apply ByteArray.ext_getElem
    · rw [ByteArray.size_extract]
      show _ = 1
      omega
    · intro i hi hi'
      rw [ByteArray.getElem_extract]
      have hi0 : i = 0 := by rw [ByteArray.size_extract] at hi; omega
      subst hi0
      show s[0] = UInt8.ofNat (hd s)
      rw [← hd_at s h1, UInt8.ofNat_toNat]
  rw [← e3, ← ByteArray.extract_eq_extract_append_extract 1 (by omega) (by omega), ← ByteArray.extract_eq_extract_append_extract (1 + hd s) (by omega) (by omega), ByteArray.extract_zero_size]
/-- All frames, put one behind the other. -/
def joined : ByteArray → List ByteArray → ByteArray
  | acc, [] => acc
  | acc, f :: fs => joined (acc ++ framePut f) fs
theorem joined_acc (fs : List ByteArray) : ∀ a b : ByteArray, joined (a ++ b) fs = a ++ joined b fs := by
  induction fs with
  | nil => intro a b; rfl
  | cons f fs ih => intro a b; rw [joined, joined, ByteArray.append_assoc, ih]
theorem joined_take {fs : List ByteArray} {k : Nat} {f : ByteArray} (h : fs[k]? = some f) : ∀ acc, joined acc (fs.take (k + 1)) = joined acc (fs.take k) ++ framePut f := by
  induction fs generalizing k with
  | nil => simp at h
  | cons x xs ih =>
    intro acc
    cases k with
    | zero =>
      simp only [List.getElem?_cons_zero, Option.some.injEq] at h
      subst h
      rfl
    | succ k =>
      simp only [List.getElem?_cons_succ] at h
      simp only [List.take_succ_cons, joined]
      exact ih h _
theorem cut_induct {p : ByteArray → Prop} (h0 : ∀ s, frameOk s = false → p s) (h1 : ∀ s, frameOk s = true → p (frameOf s).2.1 → p s) : ∀ s, p s := by
  have : ∀ n s, s.size ≤ n → p s := by
    intro n
    induction n with
    | zero => exact fun s hs => h0 s (by simp [frameOk]; omega)
    | succ n ih =>
      intro s hs
      cases hf : frameOk s with
      | false => exact h0 s hf
      | true => exact h1 s hf (ih _ (by have := frameOk_rest hf; omega))
  exact fun s => this s.size s (Nat.le_refl _)
theorem cut_joined : ∀ s, joined ⟨#[]⟩ (cut s).1 ++ (cut s).2.1 = s := by
  refine cut_induct (fun s h => ?_) (fun s h ih => ?_)
  · rw [cut_stop h]
    exact ByteArray.empty_append
  · rw [cut_step h]
    simp only [joined]
    have e : (⟨#[]⟩ : ByteArray) ++ framePut (frameOf s).1 = framePut (frameOf s).1 ++ ⟨#[]⟩ := by
      rw [show (⟨#[]⟩ : ByteArray) = ByteArray.empty from rfl, ByteArray.empty_append, ByteArray.append_empty]
    rw [e, joined_acc, ByteArray.append_assoc, ih]
    exact (frame_put h).2.symm
theorem cut_small : ∀ s, ∀ f, f ∈ (cut s).1 → f.size ≤ 12 := by
  refine cut_induct (fun s h => ?_) (fun s h ih => ?_)
  · rw [cut_stop h]
    simp
  · rw [cut_step h]
    intro f hf
    rcases List.mem_cons.1 hf with rfl | hf
    · have := (frame_put h).1
      simp only [inB, Bool.and_eq_true, decide_eq_true_eq] at this
      omega
    · exact ih f hf
theorem extract_whole (s : ByteArray) {k : Nat} (h : k ≤ s.size) : s.extract 0 k ++ s.extract k s.size = s := by
  rw [← ByteArray.extract_eq_extract_append_extract k (by omega) h, ByteArray.extract_zero_size]
/-- A piece that ends within its first frame: all of it is left. -/
theorem cut_short {s : ByteArray} {k : Nat} (hk : k ≤ s.size) (hb : isBroken s = false) (hn : k ≤ hd s) : cut (s.extract 0 k) = ([], s.extract 0 k, true) := by
  have hz : (s.extract 0 k).size = k := by rw [ByteArray.size_extract]; omega
  by_cases h0 : k = 0
  · subst h0
    rw [cut_stop (by simp [frameOk])]
    simp [isBroken]
  · have e : hd (s.extract 0 k) = hd s := by
      rw [← hd_at _ (by omega : 0 < (s.extract 0 k).size), ← hd_at _ (by omega : 0 < s.size), ByteArray.getElem_extract]
    have hs : 0 < s.size := by omega
    simp only [isBroken, hs, decide_true, Bool.true_and, Bool.not_eq_false'] at hb
    rw [cut_stop (by simp [frameOk, hz, e, hn])]
    simp [isBroken, e, hb]
theorem extract_more (p t : ByteArray) (m : Nat) : (p ++ t).extract 0 (p.size + m) = p ++ t.extract 0 m := by
  rw [ByteArray.extract_append, Nat.add_sub_cancel_left, Nat.zero_sub]
  congr 1
  rw [ByteArray.extract_eq_extract_append_extract p.size (by omega) (by omega), ByteArray.extract_zero_size]
  have : p.extract p.size (p.size + m) = ByteArray.empty := by
    apply ByteArray.ext_getElem
    · rw [ByteArray.size_extract]
      show _ = 0
      omega
    · intro i hi
      rw [ByteArray.size_extract] at hi
      omega
  rw [this, ByteArray.append_empty]
theorem cut_pieces : ∀ s, ∀ k, k ≤ s.size → (cut s).2.2 = true →
    (cut (s.extract 0 k)).2.2 = true ∧ ∃ g, cut ((cut (s.extract 0 k)).2.1 ++ s.extract k s.size) = (g, (cut s).2.1, true) ∧ (cut (s.extract 0 k)).1 ++ g = (cut s).1 := by
  refine cut_induct (fun s h => ?_) (fun s h ih => ?_)
  · intro k hk hok
    rw [cut_stop h] at hok
    have hb : isBroken s = false := by simpa using hok
    by_cases h0 : k = 0
    · subst h0
      have e0 : cut (s.extract 0 0) = ([], s.extract 0 0, true) := cut_short (by omega) hb (by omega)
      rw [e0]
      refine ⟨rfl, [], ?_, by rw [cut_stop h]; rfl⟩
      show cut (s.extract 0 0 ++ s.extract 0 s.size) = _
      rw [extract_whole s (by omega), cut_stop h, hb]
      rfl
    · have hs : 0 < s.size := by omega
      have hin : inB (hd s) 1 12 = true := by simpa [isBroken, hs] using hb
      have hge : s.size ≤ hd s := by simp only [frameOk, hs, hin, decide_true, Bool.true_and, decide_eq_false_iff_not] at h; omega
      rw [cut_short hk hb (by omega)]
      refine ⟨rfl, [], ?_, by rw [cut_stop h]; rfl⟩
      show cut (s.extract 0 k ++ s.extract k s.size) = _
      rw [extract_whole s hk, cut_stop h, hb]
      rfl
  · intro k hk hok
    obtain ⟨hin, hsp⟩ := frame_put h
    rw [cut_step h] at hok
    have hb : isBroken s = false := by
      have h0 := h
      simp only [frameOk, Bool.and_eq_true] at h0
      simp [isBroken, h0.1.2]
    have hhd : hd s = (frameOf s).1.size := by rw [hsp, hd_put_append hin, ← hsp]
    by_cases hlt : k ≤ hd s
    · rw [cut_short hk hb hlt]
      refine ⟨rfl, (cut s).1, ?_, rfl⟩
      show cut (s.extract 0 k ++ s.extract k s.size) = _
      rw [extract_whole s hk, cut_step h]
      have : (cut (frameOf s).2.1).2 = ((cut (frameOf s).2.1).2.1, (cut (frameOf s).2.1).2.2) := rfl
      rw [this, show (cut (frameOf s).2.1).2.2 = true from hok]
    · have hz := framePut_size_in hin
      obtain ⟨m, rfl⟩ : ∃ m, k = (framePut (frameOf s).1).size + m := ⟨k - (framePut (frameOf s).1).size, by omega⟩
      have hsz : s.size = (framePut (frameOf s).1).size + (frameOf s).2.1.size := by
        have := congrArg ByteArray.size hsp
        rw [ByteArray.size_append] at this
        exact this
      have e1 : s.extract 0 ((framePut (frameOf s).1).size + m) = framePut (frameOf s).1 ++ (frameOf s).2.1.extract 0 m := by
        exact (congrArg (fun z : ByteArray => z.extract 0 ((framePut (frameOf s).1).size + m)) hsp).trans (extract_more _ _ _)
      have e2 : s.extract ((framePut (frameOf s).1).size + m) s.size = (frameOf s).2.1.extract m (frameOf s).2.1.size := by
        rw [hsz]
        exact (congrArg (fun z : ByteArray => z.extract ((framePut (frameOf s).1).size + m) ((framePut (frameOf s).1).size + (frameOf s).2.1.size)) hsp).trans ByteArray.extract_append_size_add
      obtain ⟨i1, g, i2, i3⟩ := ih m (by omega) hok
      rw [e1, e2, cut_put _ hin, cut_step h]
      exact ⟨i1, g, i2, by rw [List.cons_append, i3]⟩
/-- Three puts in a row, the last one byte short. -/
theorem cut_thrice {x : ByteArray} (h : inB x.size 1 12 = true) :
    frameCut (framePut x ++ framePut x ++ (framePut x).extract 0 ((framePut x).size - 1)) = ([x, x], (framePut x).extract 0 ((framePut x).size - 1), true) := by
  have hz := framePut_size_in h
  have h2 := h
  simp only [inB, Bool.and_eq_true, decide_eq_true_eq] at h2
  have hsz : (framePut x ++ framePut x ++ (framePut x).extract 0 ((framePut x).size - 1)).size ≤ 120 := by
    rw [ByteArray.size_append, ByteArray.size_append, ByteArray.size_extract, hz]
    omega
  have hb : isBroken (framePut x) = false := by simp [isBroken, hd_put h, h]
  have e1 := cut_short (s := framePut x) (k := (framePut x).size - 1) (by omega) hb (by rw [hd_put h]; omega)
  unfold frameCut
  rw [if_neg (by omega), ByteArray.append_assoc, cut_put _ h, cut_put _ h, e1]
end Go.Proofs.Ytdpdclfanlbkjaa
