/- The walks of TableLook, of the copies of a table, and of the laws' own comparisons. -/
import Derived.Test.YtoimeebildcofaaWTab2
import Derived.Test.YtoimeebildcofaaWFrames
import Derived.Lib.SliceRun
namespace Go.Proofs.Ytoimeebildcofaa
open Go.RowKit
set_option maxRecDepth 100000 in
theorem tableLook_calls (t : Table) (kv sv : Value) (L1 L2 : Blocks) (x : Int) (w : World) (h1 : Row 1 kv (t.keys.map intCell) L1) (H1 : Holds w L1) (h2 : Row 1 sv (t.slots.map strCell) L2) (H2 : Holds w L2) :
    Calls Try.prog 17 #[.agg #[.int .i64 t.kind, .int .i64 t.size, .int .i64 t.most, kv, sv], .int .i64 x] w fun e w' => e = .returned (.tuple #[.string (t.look x).1, .bool (t.look x).2]) ∧ Below w.heap.size w w' := by
  obtain ⟨A2, n2, c2, rfl⟩ := h2.slice
  have l2 := h2.len'.1
  rw [List.length_map] at l2
  cases hok : t.ok with
  | false =>
    have HL : Hid (t.look x = (⟨#[]⟩, false)) := by show _ = _; simp [Table.look, hok]
    have HK := Lib.hid hok
    clear hok
    go_enter Try.func17, Try.ntmps17
    go_wp2_with fail
    refine (find_calls t kv _ L1 x _ h1 (H1.alloc _)).mono ?_
    rintro e w1 ⟨rfl, hb1⟩
    have hB1 := bnext (below_alloc' (Below.refl _ _) _) hb1
    obtain ⟨c0, c1', c2', c3, c4⟩ := tbox_cells (((holds_new (w := w) rfl).below hb1) (_, _) (List.mem_singleton.2 rfl))
    go_wp2_with fail
    refine (tableOk_calls t kv _ L1 L2 _ h1 (H1.below hB1) h2 (H2.below hB1)).mono ?_
    rw [HK.out]
    rintro e w2 ⟨rfl, hb2⟩
    go_wp2
    go_ret2
    exact ⟨by rw [HL.out]; rfl, bnext hB1 hb2⟩
  | true =>
    have hlen := (Table.ok_lens hok).1
    have hlt := indexOf_lt (· == x) t.keys
    rw [← hlen, l2] at hlt
    by_cases hneg : 0 ≤ indexOf (· == x) t.keys
    · obtain ⟨i, hi⟩ : ∃ i : Nat, indexOf (· == x) t.keys = i := ⟨(indexOf (· == x) t.keys).toNat, by omega⟩
      rw [hi] at hlt
      have hi2 : i < n2 := by omega
      obtain ⟨s, hs⟩ : ∃ s, t.slots[i]? = some s := ⟨_, List.getElem?_eq_getElem (by omega)⟩
      have HL : Hid (t.look x = (s, true)) := by
        show _ = _
        have h0 : (0 : Int) ≤ (i : Int) := by omega
        simp [Table.look, hok, hi, List.getD, hs]
      have HK := Lib.hid hok
      have HI := Lib.hid hi
      have HS := Lib.hid hs
      clear hok hneg hi hlt hs
      go_enter Try.func17, Try.ntmps17
      go_wp2_with fail
      refine (find_calls t kv _ L1 x _ h1 (H1.alloc _)).mono ?_
      rw [HI.out]
      rintro e w1 ⟨rfl, hb1⟩
      have hB1 := bnext (below_alloc' (Below.refl _ _) _) hb1
      have hBX := ((holds_new (w := w) (o := .cells #[.int .i64 t.kind, .int .i64 t.size, .int .i64 t.most, kv, .slice A2 n2 c2] 27) rfl).below hb1)
      obtain ⟨c0, c1', c2', c3, c4⟩ := tbox_cells hBX.get
      go_wp2_with fail
      refine (tableOk_calls t kv _ L1 L2 _ h1 (H1.below hB1) h2 (H2.below hB1)).mono ?_
      rw [HK.out]
      rintro e w2 ⟨rfl, hb2⟩
      have hB2 := bnext hB1 hb2
      obtain ⟨d0, d1, d2, d3, d4⟩ := tbox_cells (hBX.below hb2).get
      obtain ⟨b2, o2, rfl, q2⟩ := h2.at_ (H2.below hB2) (k := i) (cs := strCell s) (by simp [HS.out])
      have p2 : w2.cell? ⟨b2, o2 + i * 1, none⟩ = some (.string s) := q2 0 _ rfl
      rw [Nat.mul_one] at p2
      clear q2
      go_wp2
      go_ret2
      exact ⟨by rw [HL.out]; rfl, hB2⟩
    · have HL : Hid (t.look x = (⟨#[]⟩, false)) := by show _ = _; simp [Table.look, hneg]
      have HK := Lib.hid hok
      obtain ⟨I, hI⟩ : ∃ I, indexOf (· == x) t.keys = I := ⟨_, rfl⟩
      have hI0 : I < 0 := by omega
      have HI := Lib.hid hI
      clear hok hlt hneg hI
      go_enter Try.func17, Try.ntmps17
      go_wp2_with fail
      refine (find_calls t kv _ L1 x _ h1 (H1.alloc _)).mono ?_
      rw [HI.out]
      rintro e w1 ⟨rfl, hb1⟩
      have hB1 := bnext (below_alloc' (Below.refl _ _) _) hb1
      obtain ⟨c0, c1', c2', c3, c4⟩ := tbox_cells (((holds_new (w := w) rfl).below hb1) (_, _) (List.mem_singleton.2 rfl))
      go_wp2_with fail
      refine (tableOk_calls t kv _ L1 L2 _ h1 (H1.below hB1) h2 (H2.below hB1)).mono ?_
      rw [HK.out]
      rintro e w2 ⟨rfl, hb2⟩
      go_wp2
      go_ret2
      exact ⟨by rw [HL.out]; rfl, bnext hB1 hb2⟩
theorem infoInt : (Try.prog.info? 3).map (fun i => (i.zero, i.size, i.bytes)) = some (some (.int .i64 0), 1, 8) := by kernel_rfl
theorem oneCell_ints (xs : List Int) : ∀ u ∈ (xs.map intCell).flatten, u.oneCell' = true := fun u hu => by
  obtain ⟨c, hc, hu⟩ := List.mem_flatten.1 hu
  obtain ⟨x, _, rfl⟩ := List.mem_map.1 hc
  rw [List.mem_singleton.1 hu]
  rfl
theorem oneCell_strs (xs : List ByteArray) : ∀ u ∈ (xs.map strCell).flatten, u.oneCell' = true := fun u hu => by
  obtain ⟨c, hc, hu⟩ := List.mem_flatten.1 hu
  obtain ⟨x, _, rfl⟩ := List.mem_map.1 hc
  rw [List.mem_singleton.1 hu]
  rfl
/-- An empty row of the call's own, in block b. -/
theorem own_empty (b B e sz : Nat) (hB : B ≤ b) : Own B e sz (.slice (some ⟨b, 0, none⟩) 0 0) [] [(b, .cells #[] e (0, 0))] := ⟨by simp, .inr ⟨_, 0, #[], rfl, hB, Nat.le_refl _, by omega, by simp, rfl, by simp⟩⟩
set_option maxRecDepth 100000 in
theorem cloneSInt_calls (v : Value) (xs : List Int) (L : Blocks) (w : World) (h : Row 1 v (xs.map intCell) L) (H : Holds w L) (hl : xs.length ≤ 1048576) :
    Calls Try.prog 78 #[v] w fun e w' => ∃ v', e = .returned v' ∧ ∃ M, Own w.heap.size 3 1 v' (xs.map intCell) M ∧ Holds w' M ∧ Below w.heap.size w w' := by
  obtain ⟨i0, hi0, hz0, hs0, hb0⟩ := info_of infoInt
  have HI := Lib.hid hi0
  clear hi0
  have heq : ∀ (w : World) (a : Option Addr) (n c n' c' : Nat), (binOp .eql 22 (.slice a n c) (.slice none n' c')).run Try.prog w = .ok (.bool a.isNone) w := fun w a n c n' c' => Lib.run_eql_slice_nil w _ _ a n c n' c' Try.underlying22
  obtain ⟨A, n, c, rfl⟩ := h.slice
  have hnl := h.len'.1
  rw [List.length_map] at hnl
  cases A with
  | none =>
    have h0 : n = 0 := by
      rcases Nat.eq_zero_or_pos n with h' | h'
      · exact h'
      · obtain ⟨x, hx⟩ : ∃ x, xs[0]? = some x := ⟨_, List.getElem?_eq_getElem (by omega)⟩
        obtain ⟨b, o, hA, _⟩ := h.at_ H (k := 0) (cs := intCell x) (by simp [hx])
        cases hA
    subst h0
    obtain rfl : xs = [] := List.eq_nil_of_length_eq_zero hnl
    go_enter Try.func78, Try.ntmps78
    go_wp2
    go_ret
    exact ⟨_, rfl, [], Own.nil _ _ _, Holds.nil _, Below.refl _ _⟩
  | some a =>
    have HN := Lib.hid hnl
    clear hnl
    go_enter Try.func78, Try.ntmps78
    go_wp2_with ((with_reducible refine gate_dst (N := 7) rfl ?_); refine wpList_append_row rfl _ _ 22 rfl w.heap.size 3 i0 _ 1 8 Try.underlying22 HI.out hz0 hs0 hb0 rfl (by decide) _ [] _ rfl (own_empty w.heap.size _ _ _ (Nat.le_refl _)) (holds_new rfl) _ (xs.map intCell) L rfl h (H.alloc _) (oneCell_ints xs) (by simp; omega) (by decide) (by simp) ?_; intro v2 w2 L2 ho2 hH2 hon2 hat2)
    go_ret
    exact ⟨_, rfl, L2, by simpa using ho2, hH2, Only.below (below_alloc' (Below.refl _ _) _) (by simp) hon2 (fun k ⟨p, hp, hpk⟩ => by rw [List.mem_singleton.1 hp] at hpk; simp only at hpk; omega)⟩
set_option maxRecDepth 100000 in
theorem cloneSStr_calls (v : Value) (xs : List ByteArray) (L : Blocks) (w : World) (h : Row 1 v (xs.map strCell) L) (H : Holds w L) (hl : xs.length ≤ 1048576) :
    Calls Try.prog 80 #[v] w fun e w' => ∃ v', e = .returned v' ∧ ∃ M, Own w.heap.size 9 1 v' (xs.map strCell) M ∧ Holds w' M ∧ Below w.heap.size w w' := by
  obtain ⟨i0, hi0, hz0, hs0, hb0⟩ := info_of infoStr
  have HI := Lib.hid hi0
  clear hi0
  have heq : ∀ (w : World) (a : Option Addr) (n c n' c' : Nat), (binOp .eql 23 (.slice a n c) (.slice none n' c')).run Try.prog w = .ok (.bool a.isNone) w := fun w a n c n' c' => Lib.run_eql_slice_nil w _ _ a n c n' c' Try.underlying23
  obtain ⟨A, n, c, rfl⟩ := h.slice
  have hnl := h.len'.1
  rw [List.length_map] at hnl
  cases A with
  | none =>
    have h0 : n = 0 := by
      rcases Nat.eq_zero_or_pos n with h' | h'
      · exact h'
      · obtain ⟨x, hx⟩ : ∃ x, xs[0]? = some x := ⟨_, List.getElem?_eq_getElem (by omega)⟩
        obtain ⟨b, o, hA, _⟩ := h.at_ H (k := 0) (cs := strCell x) (by simp [hx])
        cases hA
    subst h0
    obtain rfl : xs = [] := List.eq_nil_of_length_eq_zero hnl
    go_enter Try.func80, Try.ntmps80
    go_wp2
    go_ret
    exact ⟨_, rfl, [], Own.nil _ _ _, Holds.nil _, Below.refl _ _⟩
  | some a =>
    have HN := Lib.hid hnl
    clear hnl
    go_enter Try.func80, Try.ntmps80
    go_wp2_with ((with_reducible refine gate_dst (N := 7) rfl ?_); refine wpList_append_row rfl _ _ 23 rfl w.heap.size 9 i0 _ 1 16 Try.underlying23 HI.out hz0 hs0 hb0 rfl (by decide) _ [] _ rfl (own_empty w.heap.size _ _ _ (Nat.le_refl _)) (holds_new rfl) _ (xs.map strCell) L rfl h (H.alloc _) (oneCell_strs xs) (by simp; omega) (by decide) (by simp) ?_; intro v2 w2 L2 ho2 hH2 hon2 hat2)
    go_ret
    exact ⟨_, rfl, L2, by simpa using ho2, hH2, Only.below (below_alloc' (Below.refl _ _) _) (by simp) hon2 (fun k ⟨p, hp, hpk⟩ => by rw [List.mem_singleton.1 hp] at hpk; simp only at hpk; omega)⟩
set_option maxRecDepth 100000 in
theorem clipInt_calls (v : Value) (css : List (List Value)) (L : Blocks) (B : Nat) (w : World) (h : Own B 3 1 v css L) :
    Calls Try.prog 77 #[v] w fun e w' => (∃ v', e = .returned v' ∧ Own B 3 1 v' css L) ∧ w' = w := by
  obtain ⟨h0, ⟨rfl, rfl, rfl⟩ | ⟨b, cap, cur, rfl, hb, hl, hm, hs, rfl, ht⟩⟩ := h
  · go_enter Try.func77, Try.ntmps77
    go_wp2
    go_ret
    exact ⟨⟨_, rfl, Own.nil _ _ _⟩, rfl⟩
  · have HT := Lib.hid ht
    clear ht
    go_enter Try.func77, Try.ntmps77
    go_wp2
    go_ret
    exact ⟨⟨_, rfl, h0, .inr ⟨b, css.length, cur, rfl, hb, Nat.le_refl _, by omega, Nat.le_trans (Nat.mul_le_mul_right _ hl) hs, rfl, HT.out⟩⟩, rfl⟩
end Go.Proofs.Ytoimeebildcofaa
