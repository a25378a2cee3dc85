/- The laws' own functions on rows of ints and of texts, and on tables. -/
import Derived.Test.YtoimeebildcofaaWTab8
import Derived.Test.YtoimeebildcofaaLawFrames
namespace Go.Proofs.Ytoimeebildcofaa
open Go.RowKit
abbrev imark (k : Nat) : Int := (k : Int)
set_option maxRecDepth 100000 in
theorem eqIntS_calls (u v : Value) (rs ss : List Int) (L M : Blocks) (w : World) (h : Row 1 u (rs.map intCell) L) (H : Holds w L) (h' : Row 1 v (ss.map intCell) M) (H' : Holds w M) :
    Calls Try.prog 43 #[u, v] w fun e w' => e = .returned (.bool (decide (rs = ss))) ∧ ∃ n, w' = w.drewN n := by
  obtain ⟨A, n, c, rfl⟩ := h.slice
  obtain ⟨hnl, hn⟩ := h.len'
  obtain ⟨A', n', c', rfl⟩ := h'.slice
  obtain ⟨hnl', hn'⟩ := h'.len'
  rw [List.length_map] at hnl hnl'
  by_cases hne : n = n'
  · subst hne
    have HN := Lib.hid hnl
    have HN' := Lib.hid hnl'
    clear hnl hnl' hn'
    go_enter Try.func43, Try.ntmps43
    go_wp2
    go_loopw [5] (fun i wr => ∃ k : Nat, k ≤ n ∧ i = .int .i64 k ∧ Hid (rs.take k = ss.take k) ∧ ∃ m, wr = w.drewN m) (fun i _ => n - (intOf i).toNat)
    case atStart => exact ⟨0, Nat.zero_le _, rfl, rfl, 0, rfl⟩
    case round =>
      obtain ⟨k, hk, rfl, hf, m, rfl⟩ := hrel
      by_cases hlt : k < n
      · obtain ⟨r, hr⟩ : ∃ r, rs[k]? = some r := ⟨_, List.getElem?_eq_getElem (by rw [HN.out]; exact hlt)⟩
        obtain ⟨s, hs⟩ : ∃ s, ss[k]? = some s := ⟨_, List.getElem?_eq_getElem (by rw [HN'.out]; exact hlt)⟩
        have HR := Lib.hid hr
        have HS := Lib.hid hs
        clear hr hs
        obtain ⟨b, off, rfl, hq⟩ := h.at_ H (k := k) (cs := intCell r) (by simp [HR.out])
        obtain ⟨b', off', rfl, hq'⟩ := h'.at_ H' (k := k) (cs := intCell s) (by simp [HS.out])
        have q0 : w.cell? ⟨b, off + k * 1, none⟩ = some (.int .i64 r) := hq 0 _ rfl
        have p0 : w.cell? ⟨b', off' + k * 1, none⟩ = some (.int .i64 s) := hq' 0 _ rfl
        rw [Nat.mul_one] at q0 p0
        clear hq hq'
        go_wp2
        go_quiet (fail)
        go_wp2
        · go_ret
          refine ⟨bool_of ?_, _, World.drewN_drewN ..⟩
          have hrs : r ≠ s := by simp_all
          symm
          rw [decide_eq_false_iff_not]
          rintro rfl
          exact hrs (by have := HR.out.symm.trans HS.out; simpa using this)
        · skip
          have hrs : r = s := by simp_all
          go_roundw
          case rel => exact ⟨k + 1, by omega, by go_num, by show _ = _; rw [List.take_add_one, List.take_add_one, hf.out, HR.out, HS.out, hrs], _, rfl⟩
          case measure => simp [intOf]; omega
      · go_wp2
        go_ret
        refine ⟨bool_of ?_, m, rfl⟩
        have h1 := hf.out
        rw [List.take_of_length_le (by rw [HN.out]; omega), List.take_of_length_le (by rw [HN'.out]; omega)] at h1
        rw [h1]
        simp
  · have HN := Lib.hid hnl
    have HN' := Lib.hid hnl'
    have hb : ((n : Int) != (n' : Int)) = true := by rw [bne_iff_ne]; omega
    clear hnl hnl'
    go_enter Try.func43, Try.ntmps43
    go_wp2
    go_ret
    refine ⟨bool_of ?_, 0, rfl⟩
    symm
    rw [decide_eq_false_iff_not]
    rintro rfl
    exact hne (HN.out.symm.trans HN'.out)
set_option maxRecDepth 100000 in
theorem sgInts_calls (u v : Value) (rs ss : List Int) (L M : Blocks) (w : World) (h : Row 1 u (rs.map intCell) L) (H : Holds w L) (h' : Row 1 v (ss.map intCell) M) (H' : Holds w M) :
    Calls Try.prog 52 #[u, v] w fun e w' => e = .returned (.bool (decide (rs = ss))) ∧ ∃ n, w' = w.drewN n := by
  obtain ⟨A, n, c, rfl⟩ := h.slice
  obtain ⟨hnl, hn⟩ := h.len'
  obtain ⟨A', n', c', rfl⟩ := h'.slice
  obtain ⟨hnl', hn'⟩ := h'.len'
  rw [List.length_map] at hnl hnl'
  by_cases hne : n = n'
  · subst hne
    have HN := Lib.hid hnl
    have HN' := Lib.hid hnl'
    clear hnl hnl' hn'
    go_enter Try.func52, Try.ntmps52
    go_wp2
    go_loopw [5] (fun i wr => ∃ k : Nat, k ≤ n ∧ i = .int .i64 k ∧ Hid (rs.take k = ss.take k) ∧ ∃ m, wr = w.drewN m) (fun i _ => n - (intOf i).toNat)
    case atStart => exact ⟨0, Nat.zero_le _, rfl, rfl, 0, rfl⟩
    case round =>
      obtain ⟨k, hk, rfl, hf, m, rfl⟩ := hrel
      by_cases hlt : k < n
      · obtain ⟨r, hr⟩ : ∃ r, rs[k]? = some r := ⟨_, List.getElem?_eq_getElem (by rw [HN.out]; exact hlt)⟩
        obtain ⟨s, hs⟩ : ∃ s, ss[k]? = some s := ⟨_, List.getElem?_eq_getElem (by rw [HN'.out]; exact hlt)⟩
        have HR := Lib.hid hr
        have HS := Lib.hid hs
        clear hr hs
        obtain ⟨b, off, rfl, hq⟩ := h.at_ H (k := k) (cs := intCell r) (by simp [HR.out])
        obtain ⟨b', off', rfl, hq'⟩ := h'.at_ H' (k := k) (cs := intCell s) (by simp [HS.out])
        have q0 : w.cell? ⟨b, off + k * 1, none⟩ = some (.int .i64 r) := hq 0 _ rfl
        have p0 : w.cell? ⟨b', off' + k * 1, none⟩ = some (.int .i64 s) := hq' 0 _ rfl
        rw [Nat.mul_one] at q0 p0
        clear hq hq'
        go_wp2
        go_quiet (fail)
        go_wp2
        · go_ret
          refine ⟨bool_of ?_, _, World.drewN_drewN ..⟩
          have hrs : r ≠ s := by simp_all
          symm
          rw [decide_eq_false_iff_not]
          rintro rfl
          exact hrs (by have := HR.out.symm.trans HS.out; simpa using this)
        · skip
          have hrs : r = s := by simp_all
          go_roundw
          case rel => exact ⟨k + 1, by omega, by go_num, by show _ = _; rw [List.take_add_one, List.take_add_one, hf.out, HR.out, HS.out, hrs], _, rfl⟩
          case measure => simp [intOf]; omega
      · go_wp2
        go_ret
        refine ⟨bool_of ?_, m, rfl⟩
        have h1 := hf.out
        rw [List.take_of_length_le (by rw [HN.out]; omega), List.take_of_length_le (by rw [HN'.out]; omega)] at h1
        rw [h1]
        simp
  · have HN := Lib.hid hnl
    have HN' := Lib.hid hnl'
    have hb : ((n : Int) != (n' : Int)) = true := by rw [bne_iff_ne]; omega
    clear hnl hnl'
    go_enter Try.func52, Try.ntmps52
    go_wp2
    go_ret
    refine ⟨bool_of ?_, 0, rfl⟩
    symm
    rw [decide_eq_false_iff_not]
    rintro rfl
    exact hne (HN.out.symm.trans HN'.out)
set_option maxRecDepth 100000 in
theorem markIntS_calls (v : Value) (ss : List Int) (L : Blocks) (B k : Nat) (q : Int) (hq : (k : Int) = q) (w : World) (h : Own B 3 1 v (ss.map intCell) L) (H : Holds w L) (hk : k + ss.length ≤ 1099511627776) :
    Calls Try.prog 45 #[v, .int .i64 q] w fun e w' => e = .returned (.int .i64 (q + ss.length)) ∧ ∃ L', Own B 3 1 v ((marksOf imark k ss.length).map intCell) L' ∧ Holds w' L' ∧ Only (Blk L) w w' ∧ L'.map (·.1) = L.map (·.1) := by
  subst hq
  obtain ⟨A, n, c, rfl⟩ := h.row.slice
  obtain ⟨hnl, hn⟩ := h.row.len'
  rw [List.length_map] at hnl
  have HN := Lib.hid hnl
  have hkn : k + n ≤ 1099511627776 := by omega
  clear hnl hn hk
  go_enter Try.func45, Try.ntmps45
  go_wp2
  go_loopw [5, 1] (fun i q wr => ∃ (j g : Nat) (M : Blocks), j ≤ n ∧ i = .int .i64 j ∧ q = .int .i64 g ∧ Hid (g = k + j) ∧ g ≤ 1099511627776 ∧ Hid (Own B 3 1 (.slice A n c) ((marksOf imark k j ++ ss.drop j).map intCell) M) ∧ Holds wr M ∧ Only (Blk L) w wr ∧ M.map (·.1) = L.map (·.1)) (fun i _ _ => n - (intOf i).toNat)
  case atStart => exact ⟨0, k, L, Nat.zero_le _, rfl, rfl, rfl, by omega, by show Own _ _ _ _ ((marksOf imark k 0 ++ ss.drop 0).map intCell) _; rw [marks_zero]; exact h, H, Only.refl _ _, rfl⟩
  case round =>
    obtain ⟨j, g, M, hj, rfl, rfl, hg, hg1, hO, hH, ho, hM⟩ := hrel
    by_cases hlt : j < n
    · obtain ⟨b, rfl, hbB, hMb, hat⟩ := hO.out.at_ (k := j) (by simp [HN.out, marksOf_len]; omega)
      go_wp2_with ((with_reducible refine gate_store (p := 15) rfl ?_); refine wpList_put rfl 3 _ _ rfl b j (intCell (imark g)) rfl rfl ?st (by kernel_rfl) rfl ?_; (case st => have := (hat _ hH).1; rw [Nat.mul_one] at this; exact this))
      go_roundw
      case rel =>
        obtain ⟨M2, h1, h2, h3⟩ := (hat _ hH).2 (intCell (imark g)) rfl
        rw [Nat.mul_one] at h2
        refine ⟨j + 1, g + 1, M2, by omega, by go_num, by go_num, by show _ = _; rw [hg.out]; omega, by have := hg.out; omega, ?_, h2, ?_, h3.trans (hMb.symm.trans hM)⟩
        · show Own _ _ _ _ _ _
          have hs := marks_set imark k ss j (by rw [HN.out]; exact hlt)
          rw [← hs, List.map_set, ← hg.out]
          exact h1
        · refine ho.trans (only_setCells _ _ _ _ (Only.refl _ _) (.inl ?_))
          have h4 : b ∈ L.map (·.1) := by rw [← hM, hMb]; exact List.mem_singleton.2 rfl
          obtain ⟨p, hp, hpb⟩ := List.mem_map.1 h4
          exact ⟨p, hp, hpb⟩
      case measure => simp [intOf]; omega
    · go_wp2
      go_ret
      have hjn : j = n := by omega
      subst hjn
      refine ⟨int_of (by rw [hg.out, HN.out]; omega), M, ?_, hH, ho, hM⟩
      have h4 := hO.out
      rw [List.drop_of_length_le (by rw [HN.out]; exact Nat.le_refl _), List.append_nil] at h4
      rw [HN.out]
      exact h4
set_option maxRecDepth 100000 in
theorem heldIntS_calls (v : Value) (L : Blocks) (k n : Nat) (q : Int) (hq : (k : Int) = q) (w : World) (h : Row 1 v ((marksOf imark k n).map intCell) L) (H : Holds w L) (hk : k + n ≤ 1099511627776) :
    Calls Try.prog 47 #[v, .int .i64 q] w fun e w' => e = .returned (.int .i64 (q + n)) ∧ Below w.heap.size w w' := by
  subst hq
  obtain ⟨A, n', c, rfl⟩ := h.slice
  obtain ⟨hnl, hn⟩ := h.len'
  rw [List.length_map, marksOf_len] at hnl
  subst hnl
  go_enter Try.func47, Try.ntmps47
  go_wp2
  go_loopw [5, 1] (fun i q wr => ∃ (j g : Nat), j ≤ n ∧ i = .int .i64 j ∧ q = .int .i64 g ∧ Hid (g = k + j) ∧ g ≤ 1099511627776 ∧ Below w.heap.size w wr) (fun i _ _ => n - (intOf i).toNat)
  case atStart => exact ⟨0, k, Nat.zero_le _, rfl, rfl, rfl, by omega, Below.refl _ _⟩
  case round =>
    obtain ⟨j, g, hj, rfl, rfl, hg, hg1, hb⟩ := hrel
    by_cases hlt : j < n
    · obtain ⟨b, off, rfl, hq⟩ := h.at_ (H.below hb) (k := j) (cs := intCell (imark g)) (by rw [List.getElem?_map, marksOf_get _ hlt, hg.out]; rfl)
      have q0 : wr.cell? ⟨b, off + j * 1, none⟩ = some (.int .i64 (imark g)) := hq 0 _ rfl
      rw [Nat.mul_one] at q0
      clear hq
      have q1 := cell_regrown q0
      go_wp2
      go_wp2
      go_roundw
      case rel => exact ⟨j + 1, g + 1, by omega, by go_num, by go_num, by show _ = _; rw [hg.out]; omega, by have := hg.out; omega, hb⟩
      case measure => simp [intOf]; omega
    · go_wp2
      go_ret
      exact ⟨int_of (by rw [hg.out]; omega), hb⟩

set_option maxRecDepth 100000 in
theorem toIntS_calls (v : Value) (rs : List Int) (L : Blocks) (w : World) (h : Row 1 v (rs.map intCell) L) (H : Holds w L) (hn : rs.length ≤ 1048576) :
    Calls Try.prog 36 #[v] w fun e w' => ∃ v' L', e = .returned v' ∧ Own w.heap.size 3 1 v' (rs.map intCell) L' ∧ Holds w' L' ∧ Below w.heap.size w w' := by
  obtain ⟨i0, hi0, hz0, hs0, hb0⟩ := info_of infoInt
  have HI := Lib.hid hi0
  clear hi0
  obtain ⟨A, n, c, rfl⟩ := h.slice
  obtain ⟨hnl, _⟩ := h.len'
  rw [List.length_map] at hnl
  have HN := Lib.hid hnl
  have hn1 : n ≤ 1048576 := by omega
  clear hnl hn
  go_enter Try.func36, Try.ntmps36
  go_wp2_with (refine wpList_make_full _ rfl (.tmp 6) (.tmp 6) 22 rfl w.heap.size 3 i0 _ 1 Try.underlying22 HI.out hz0 hs0 .i64 .i64 _ _ n rfl rfl rfl rfl (by rw [hb0]; omega) (by simp only [maxLen]; omega) (Nat.le_refl _) ?_; intro w1 ho hg)
  go_loopw [4] (fun i wr => ∃ k : Nat, k ≤ n ∧ i = .int .i64 k ∧ Fill wr w.heap.size 3 1 n ((rs.take k).map intCell) ∧ Below w.heap.size w wr) (fun i _ => n - (intOf i).toNat)
  case atStart => exact ⟨0, Nat.zero_le _, rfl, Fill.of_owns ho, below_of_grown hg⟩
  case round =>
    obtain ⟨k, hk, rfl, hf, hb⟩ := hrel
    have HF := Lib.hid hf
    clear hf ho hg
    by_cases hlt : k < n
    · obtain ⟨r, hr⟩ : ∃ r, rs[k]? = some r := ⟨_, List.getElem?_eq_getElem (by rw [HN.out]; exact hlt)⟩
      have HR := Lib.hid hr
      clear hr
      obtain ⟨b, off, rfl, hq⟩ := h.at_ (H.below hb) (k := k) (cs := intCell r) (by simp [HR.out])
      have q0 := hq 0 _ rfl
      rw [Nat.mul_one, Nat.add_zero] at q0
      have hfl : ((rs.take k).map intCell).length = k := by simp [HN.out]; omega
      have HFL := Lib.hid hfl
      have hth := HF.out.there (by rw [hfl]; exact hlt)
      rw [hfl, Nat.mul_one] at hth
      clear hfl hq
      go_wp2_with ((with_reducible refine gate_store (p := 20) rfl ?_); refine wpList_put rfl 3 _ _ rfl w.heap.size k (intCell r) rfl rfl hth (by kernel_rfl) rfl ?_)
      go_roundw
      case rel =>
        have h1 := HF.out.store (by rw [HFL.out]; exact hlt) (c := intCell r) rfl
        rw [HFL.out, Nat.mul_one] at h1
        have h2 : (rs.take (k + 1)).map intCell = (rs.take k).map intCell ++ [intCell r] := by
          rw [List.take_add_one, HR.out]; simp
        exact ⟨k + 1, by omega, by go_num, by rw [h2]; exact h1, Only.below hb hb.size (only_setCells (S := fun x => x = w.heap.size) _ _ _ _ (Only.refl _ _) (.inl rfl)) (fun _ h => by omega)⟩
      case measure => simp [intOf]; omega
    · go_wp2
      go_ret
      have h1 := HF.out
      rw [List.take_of_length_le (by rw [HN.out]; omega)] at h1
      obtain ⟨L', o1, o2, _⟩ := h1.own (by simp [HN.out]) (Nat.le_refl _) (by omega)
      exact ⟨_, L', rfl, o1, o2, hb⟩
set_option maxRecDepth 100000 in
theorem toStringS_calls (v : Value) (rs : List ByteArray) (L : Blocks) (w : World) (h : Row 1 v (rs.map strCell) L) (H : Holds w L) (hn : rs.length ≤ 1048576) :
    Calls Try.prog 37 #[v] w fun e w' => ∃ v' L', e = .returned v' ∧ Own w.heap.size 9 1 v' (rs.map strCell) L' ∧ Holds w' L' ∧ Below w.heap.size w w' := by
  obtain ⟨i0, hi0, hz0, hs0, hb0⟩ := info_of infoStr
  have HI := Lib.hid hi0
  clear hi0
  obtain ⟨A, n, c, rfl⟩ := h.slice
  obtain ⟨hnl, _⟩ := h.len'
  rw [List.length_map] at hnl
  have HN := Lib.hid hnl
  have hn1 : n ≤ 1048576 := by omega
  clear hnl hn
  go_enter Try.func37, Try.ntmps37
  go_wp2_with (refine wpList_make_full _ rfl (.tmp 6) (.tmp 6) 23 rfl w.heap.size 9 i0 _ 1 Try.underlying23 HI.out hz0 hs0 .i64 .i64 _ _ n rfl rfl rfl rfl (by rw [hb0]; omega) (by simp only [maxLen]; omega) (Nat.le_refl _) ?_; intro w1 ho hg)
  go_loopw [4] (fun i wr => ∃ k : Nat, k ≤ n ∧ i = .int .i64 k ∧ Fill wr w.heap.size 9 1 n ((rs.take k).map strCell) ∧ Below w.heap.size w wr) (fun i _ => n - (intOf i).toNat)
  case atStart => exact ⟨0, Nat.zero_le _, rfl, Fill.of_owns ho, below_of_grown hg⟩
  case round =>
    obtain ⟨k, hk, rfl, hf, hb⟩ := hrel
    have HF := Lib.hid hf
    clear hf ho hg
    by_cases hlt : k < n
    · obtain ⟨r, hr⟩ : ∃ r, rs[k]? = some r := ⟨_, List.getElem?_eq_getElem (by rw [HN.out]; exact hlt)⟩
      have HR := Lib.hid hr
      clear hr
      obtain ⟨b, off, rfl, hq⟩ := h.at_ (H.below hb) (k := k) (cs := strCell r) (by simp [HR.out])
      have q0 := hq 0 _ rfl
      rw [Nat.mul_one, Nat.add_zero] at q0
      have hfl : ((rs.take k).map strCell).length = k := by simp [HN.out]; omega
      have HFL := Lib.hid hfl
      have hth := HF.out.there (by rw [hfl]; exact hlt)
      rw [hfl, Nat.mul_one] at hth
      clear hfl hq
      go_wp2_with ((with_reducible refine gate_store (p := 20) rfl ?_); refine wpList_put rfl 9 _ _ rfl w.heap.size k (strCell r) rfl rfl hth (by kernel_rfl) rfl ?_)
      go_roundw
      case rel =>
        have h1 := HF.out.store (by rw [HFL.out]; exact hlt) (c := strCell r) rfl
        rw [HFL.out, Nat.mul_one] at h1
        have h2 : (rs.take (k + 1)).map strCell = (rs.take k).map strCell ++ [strCell r] := by
          rw [List.take_add_one, HR.out]; simp
        exact ⟨k + 1, by omega, by go_num, by rw [h2]; exact h1, Only.below hb hb.size (only_setCells (S := fun x => x = w.heap.size) _ _ _ _ (Only.refl _ _) (.inl rfl)) (fun _ h => by omega)⟩
      case measure => simp [intOf]; omega
    · go_wp2
      go_ret
      have h1 := HF.out
      rw [List.take_of_length_le (by rw [HN.out]; omega)] at h1
      obtain ⟨L', o1, o2, _⟩ := h1.own (by simp [HN.out]) (Nat.le_refl _) (by omega)
      exact ⟨_, L', rfl, o1, o2, hb⟩
theorem szIntS_calls (A : Option Addr) (n c : Nat) (left : Int) (w : World) (h0 : n ≤ 9223372036854775807) (hl : 0 ≤ left) (hl2 : left ≤ 1048576) :
    Calls Try.prog 30 #[.slice A n c, .int .i64 left] w fun e w' => (∃ r : Int, e = .returned (.int .i64 r) ∧ r ≤ left ∧ (0 ≤ r → (n : Int) ≤ left)) ∧ w' = w := by
  go_enter Try.func30, Try.ntmps30
  go_wp2
  all_goals (go_ret; exact ⟨⟨_, rfl, by omega, by omega⟩, rfl⟩)
set_option maxRecDepth 100000 in
theorem szStringS_calls (v : Value) (rs : List ByteArray) (L : Blocks) (left : Int) (w : World) (h : Row 1 v (rs.map strCell) L) (H : Holds w L) (hl : 0 ≤ left) (hl2 : left ≤ 1048576) (hsz : ∀ s ∈ rs, s.size ≤ 9223372036854775807) :
    Calls Try.prog 31 #[v, .int .i64 left] w fun e w' => (∃ r : Int, e = .returned (.int .i64 r) ∧ r ≤ left ∧ (0 ≤ r → (rs.length : Int) ≤ left)) ∧ w' = w := by
  obtain ⟨A, n, c, rfl⟩ := h.slice
  obtain ⟨hnl, hn⟩ := h.len'
  rw [List.length_map] at hnl
  have HN := Lib.hid hnl
  clear hnl
  go_enter Try.func31, Try.ntmps31
  go_wp2
  · go_ret
    exact ⟨⟨_, rfl, by omega, by omega⟩, rfl⟩
  · go_loopw [5, 1] (fun i q wr => ∃ (k : Nat) (m : Int), k ≤ n ∧ i = .int .i64 k ∧ q = .int .i64 m ∧ 0 ≤ m ∧ m ≤ left ∧ wr = w) (fun i _ _ => n - (intOf i).toNat)
    case atStart => exact ⟨0, left - n, Nat.zero_le _, rfl, by go_num, by omega, by omega, rfl⟩
    case round =>
      obtain ⟨k, m, hk, rfl, rfl, hm0, hm1, hwr⟩ := hrel
      by_cases hlt : k < n
      · obtain ⟨s, hs⟩ : ∃ s, rs[k]? = some s := ⟨_, List.getElem?_eq_getElem (by rw [HN.out]; exact hlt)⟩
        have hss := hsz s (List.mem_of_getElem? hs)
        obtain ⟨b, off, rfl, hq⟩ := h.at_ (w := wr) (by rw [hwr]; exact H) (k := k) (cs := strCell s) (by simp [hs])
        have q0 : wr.cell? ⟨b, off + k * 1, none⟩ = some (.string s) := hq 0 _ rfl
        rw [Nat.mul_one] at q0
        have HW := Lib.hid hwr
        clear hq hwr hs
        go_wp2
        · go_ret
          exact ⟨⟨_, rfl, by omega, by omega⟩, HW.out⟩
        · go_roundw
          case rel => exact ⟨k + 1, m - s.size, by omega, by go_num, by go_num, by omega, by omega, HW.out⟩
          case measure => simp [intOf]; omega
      · have HW := Lib.hid hwr
        clear hwr
        go_wp2
        go_ret
        exact ⟨⟨_, rfl, by omega, fun _ => by rw [HN.out]; omega⟩, HW.out⟩
set_option maxRecDepth 100000 in
theorem eqTable_calls (t u : Table) (kv sv kv' sv' : Value) (L1 L2 M1 M2 : Blocks) (w : World) (h1 : Row 1 kv (t.keys.map intCell) L1) (H1 : Holds w L1) (h2 : Row 1 sv (t.slots.map strCell) L2) (H2 : Holds w L2)
    (g1 : Row 1 kv' (u.keys.map intCell) M1) (G1 : Holds w M1) (g2 : Row 1 sv' (u.slots.map strCell) M2) (G2 : Holds w M2) :
    Calls Try.prog 11 #[.agg #[.int .i64 t.kind, .int .i64 t.size, .int .i64 t.most, kv, sv], .agg #[.int .i64 u.kind, .int .i64 u.size, .int .i64 u.most, kv', sv']] w fun e w' => e = .returned (.bool (decide (t = u))) ∧ Below w.heap.size w w' := by
  obtain ⟨A1, n1, c1, rfl⟩ := h1.slice
  obtain ⟨A2, n2, c2, rfl⟩ := h2.slice
  obtain ⟨A3, n3, c3, rfl⟩ := g1.slice
  obtain ⟨A4, n4, c4, rfl⟩ := g2.slice
  have hE : decide (t = u) = (t.kind == u.kind && t.size == u.size && t.most == u.most && decide (t.keys = u.keys) && decide (t.slots = u.slots)) := by
    cases t
    cases u
    simp only [Table.mk.injEq]
    simp only [Bool.decide_and, Bool.and_assoc, beq_iff_eq, BEq.beq, decide_eq_true_eq]
  rw [hE]
  clear hE
  go_enter Try.func11, Try.ntmps11
  go_wp2_with (first
    | (go_at_call 43; refine (eqIntS_calls _ _ t.keys u.keys L1 M1 _ h1 (by first | exact (H1.alloc _).alloc _ | exact Holds.drewN ((H1.alloc _).alloc _) _) g1 (by first | exact (G1.alloc _).alloc _ | exact Holds.drewN ((G1.alloc _).alloc _) _)).mono ?_; rintro e w' ⟨rfl, m1, hw'⟩; subst w')
    | (go_at_call 44; refine (eqStringS_calls _ _ t.slots u.slots L2 M2 _ h2 (by first | exact (H2.alloc _).alloc _ | exact Holds.drewN ((H2.alloc _).alloc _) _) g2 (by first | exact (G2.alloc _).alloc _ | exact Holds.drewN ((G2.alloc _).alloc _) _)).mono ?_; rintro e w' ⟨rfl, m2, hw'⟩; subst w'))
  all_goals (go_ret; refine ⟨bool_of ?_, by first | exact below_drewN' (below_drewN' (below_alloc' (below_alloc' (Below.refl _ _) _) _) _) _ | exact below_drewN' (below_alloc' (below_alloc' (Below.refl _ _) _) _) _ | exact below_alloc' (below_alloc' (Below.refl _ _) _) _⟩)
  all_goals simp_all
set_option maxRecDepth 100000 in
theorem sgTable_calls (t u : Table) (kv sv kv' sv' : Value) (L1 L2 M1 M2 : Blocks) (w : World) (h1 : Row 1 kv (t.keys.map intCell) L1) (H1 : Holds w L1) (h2 : Row 1 sv (t.slots.map strCell) L2) (H2 : Holds w L2)
    (g1 : Row 1 kv' (u.keys.map intCell) M1) (G1 : Holds w M1) (g2 : Row 1 sv' (u.slots.map strCell) M2) (G2 : Holds w M2) :
    Calls Try.prog 15 #[.agg #[.int .i64 t.kind, .int .i64 t.size, .int .i64 t.most, kv, sv], .agg #[.int .i64 u.kind, .int .i64 u.size, .int .i64 u.most, kv', sv']] w fun e w' => e = .returned (.bool (decide (t = u))) ∧ Below w.heap.size w w' := by
  obtain ⟨A1, n1, c1, rfl⟩ := h1.slice
  obtain ⟨A2, n2, c2, rfl⟩ := h2.slice
  obtain ⟨A3, n3, c3, rfl⟩ := g1.slice
  obtain ⟨A4, n4, c4, rfl⟩ := g2.slice
  have hE : decide (t = u) = (t.kind == u.kind && t.size == u.size && t.most == u.most && decide (t.keys = u.keys) && decide (t.slots = u.slots)) := by
    cases t
    cases u
    simp only [Table.mk.injEq]
    simp only [Bool.decide_and, Bool.and_assoc, beq_iff_eq, BEq.beq, decide_eq_true_eq]
  rw [hE]
  clear hE
  go_enter Try.func15, Try.ntmps15
  go_wp2_with (first
    | (go_at_call 52; refine (sgInts_calls _ _ t.keys u.keys L1 M1 _ h1 (by first | exact (H1.alloc _).alloc _ | exact Holds.drewN ((H1.alloc _).alloc _) _) g1 (by first | exact (G1.alloc _).alloc _ | exact Holds.drewN ((G1.alloc _).alloc _) _)).mono ?_; rintro e w' ⟨rfl, m1, hw'⟩; subst w')
    | (go_at_call 53; refine (sgTexts_calls _ _ t.slots u.slots L2 M2 _ h2 (by first | exact (H2.alloc _).alloc _ | exact Holds.drewN ((H2.alloc _).alloc _) _) g2 (by first | exact (G2.alloc _).alloc _ | exact Holds.drewN ((G2.alloc _).alloc _) _)).mono ?_; rintro e w' ⟨rfl, m2, hw'⟩; subst w'))
  all_goals (go_ret; refine ⟨bool_of ?_, by first | exact below_drewN' (below_drewN' (below_alloc' (below_alloc' (Below.refl _ _) _) _) _) _ | exact below_drewN' (below_alloc' (below_alloc' (Below.refl _ _) _) _) _ | exact below_alloc' (below_alloc' (Below.refl _ _) _) _⟩)
  all_goals simp_all
theorem szTable_calls (t : Table) (kv sv : Value) (L1 L2 : Blocks) (left : Int) (w : World) (h1 : Row 1 kv (t.keys.map intCell) L1) (h2 : Row 1 sv (t.slots.map strCell) L2) (H2 : Holds w L2) (hl : 0 ≤ left) (hl2 : left ≤ 1048576) (hsz : ∀ s ∈ t.slots, s.size ≤ 9223372036854775807) :
    Calls Try.prog 7 #[.agg #[.int .i64 t.kind, .int .i64 t.size, .int .i64 t.most, kv, sv], .int .i64 left] w fun e w' => (∃ r : Int, e = .returned (.int .i64 r) ∧ (0 ≤ r → t.keys.length ≤ 1048576 ∧ t.slots.length ≤ 1048576)) ∧ Below w.heap.size w w' := by
  obtain ⟨A1, n1, c1, rfl⟩ := h1.slice
  obtain ⟨hn1, hm1⟩ := h1.len'
  rw [List.length_map] at hn1
  have HN := Lib.hid hn1
  clear hn1
  go_enter Try.func7, Try.ntmps7
  go_wp2_with (first
    | (go_at_call 30; refine (szIntS_calls _ _ _ _ _ hm1 hl hl2).mono ?_; rintro e w' ⟨⟨r, rfl, hr1, hr2⟩, hw'⟩; subst w')
    | (go_at_call 31; refine (szStringS_calls _ t.slots L2 _ _ h2 (H2.alloc _) (by omega) (by omega) hsz).mono ?_; rintro e w' ⟨⟨r2, rfl, hr3, hr4⟩, hw'⟩; subst w'))
  all_goals (go_ret; refine ⟨⟨_, rfl, fun h => ?_⟩, below_alloc' (Below.refl _ _) _⟩)
  all_goals first | (exfalso; omega) | (rw [HN.out]; have := hr2 (by omega); have := hr4 (by omega); omega)
theorem toTable_calls (t : Table) (kv sv : Value) (L1 L2 : Blocks) (w : World) (h1 : Row 1 kv (t.keys.map intCell) L1) (H1 : Holds w L1) (h2 : Row 1 sv (t.slots.map strCell) L2) (H2 : Holds w L2) (hl1 : t.keys.length ≤ 1048576) (hl2 : t.slots.length ≤ 1048576) :
    Calls Try.prog 9 #[.agg #[.int .i64 t.kind, .int .i64 t.size, .int .i64 t.most, kv, sv]] w fun e w' => ∃ kv' sv', e = .returned (.agg #[.int .i64 t.kind, .int .i64 t.size, .int .i64 t.most, kv', sv']) ∧ (∃ M1 M2, OwnT w.heap.size t kv' sv' M1 M2 w') ∧ Below w.heap.size w w' := by
  go_enter Try.func9, Try.ntmps9
  go_wp2_with (first
    | (go_at_call 36; go_loud (
       refine (toIntS_calls _ t.keys L1 _ h1 (((H1.alloc _).alloc _).alloc _) hl1).mono ?_
       rintro e w1 ⟨k1, M1, rfl, o1, hM1, hb1⟩
       obtain ⟨A5, n5, c5, rfl⟩ := o1.row.slice
       have hbox := (((holds_new (w := w) (o := .cells #[.int .i64 t.kind, .int .i64 t.size, .int .i64 t.most, kv, sv] 25) rfl).alloc zcells).alloc (tcells t (.slice none 0 0) (.slice none 0 0))).below hb1
       have hres := ((holds_new (w := w.alloc (.cells #[.int .i64 t.kind, .int .i64 t.size, .int .i64 t.most, kv, sv] 25)) (o := zcells) (k := w.heap.size + 1) (by simp)).alloc (tcells t (.slice none 0 0) (.slice none 0 0))).below hb1
       have hloc := (holds_new (w := (w.alloc (.cells #[.int .i64 t.kind, .int .i64 t.size, .int .i64 t.most, kv, sv] 25)).alloc zcells) (o := tcells t (.slice none 0 0) (.slice none 0 0)) (k := w.heap.size + 1 + 1) (by simp)).below hb1
       have hB1 : Below w.heap.size w w1 := bnext (below_alloc' (below_alloc' (below_alloc' (Below.refl _ _) _) _) _) hb1
       have hlo := hloc.lt (List.mem_singleton.2 rfl)
       have b1 := o1.base
       simp only [heap_size_alloc'] at b1
       obtain ⟨hth, hbx, hon⟩ := tput3 hloc.get (.slice A5 n5 c5)))
    | ((with_reducible refine gate_store (p := 16) rfl ?_); go_loud (
       refine wpList_put rfl 22 _ _ rfl (w.heap.size + 1 + 1) 3 [.slice A5 n5 c5] rfl rfl hth (by kernel_rfl) rfl ?_
       have hM1 := hM1.only hon (fun p hp e => by have := b1 p hp; omega)
       have hbox := hbox.only hon (fun p hp e => by rw [List.mem_singleton.1 hp] at e; simp only at e; omega)
       have hres := hres.only hon (fun p hp e => by rw [List.mem_singleton.1 hp] at e; simp only at e; omega)
       have hB2 := hB1.trans (below_only hon (fun k hk => by omega) hB1.size)
       generalize w1.setCells (w.heap.size + 1 + 1) 3 [.slice A5 n5 c5] = V at *
       have s2 := hB2.size
       obtain ⟨_, _, _, _, d4⟩ : V.cell? ⟨w.heap.size, 0, none⟩ = some (.int .i64 t.kind) ∧ V.cell? ⟨w.heap.size, 1, none⟩ = some (.int .i64 t.size) ∧ V.cell? ⟨w.heap.size, 2, none⟩ = some (.int .i64 t.most) ∧ V.cell? ⟨w.heap.size, 3, none⟩ = some kv ∧ V.cell? ⟨w.heap.size, 4, none⟩ = some sv := by
         have := hbox.get
         simp [World.cell?, this]
       have hlo := (Holds.one hbx).lt (List.mem_singleton.2 rfl)
       clear hth hon))
    | (go_at_call 37; go_loud (
       refine (toStringS_calls _ t.slots L2 _ h2 (H2.below hB2) hl2).mono ?_
       rintro e w3 ⟨s1, M2, rfl, o2, hM2, hb3⟩
       obtain ⟨A6, n6, c6, rfl⟩ := o2.row.slice
       have hM1lt : ∀ p ∈ M1, p.1 < V.heap.size := fun p hp => hM1.lt hp
       have hM1 := hM1.below hb3
       have hres := hres.below hb3
       have hB3 := bnext hB2 hb3
       have b2 := o2.base
       obtain ⟨hth, hbx, hon⟩ := tput4 ((Holds.one hbx).below hb3).get (.slice A6 n6 c6)
       clear d4))
    | ((with_reducible refine gate_store (p := 20) rfl ?_); go_loud (
       refine wpList_put rfl 23 _ _ rfl (w.heap.size + 1 + 1) 4 [.slice A6 n6 c6] rfl rfl hth (by kernel_rfl) rfl ?_
       have hM1 := hM1.only hon (fun p hp e => by have := b1 p hp; omega)
       have hM2 := hM2.only hon (fun p hp e => by have := b2 p hp; omega)
       have hres := hres.only hon (fun p hp e => by rw [List.mem_singleton.1 hp] at e; simp only at e; omega)
       have hB4 := hB3.trans (below_only hon (fun k hk => by omega) hB3.size)
       generalize w3.setCells (w.heap.size + 1 + 1) 4 [.slice A6 n6 c6] = V2 at *
       obtain ⟨d0, d1, d2, d3, d4⟩ := tbox_cells hbx
       clear hth hon
       obtain ⟨hth, hfin, hon⟩ := tput (t0 := Table.zero) hres.get t (.slice A5 n5 c5) (.slice A6 n6 c6)))
    | ((with_reducible refine gate_store (p := 2) rfl ?_); refine wpList_put rfl 27 _ _ rfl (w.heap.size + 1) 0 [.int .i64 t.kind, .int .i64 t.size, .int .i64 t.most, .slice A5 n5 c5, .slice A6 n6 c6] rfl rfl hth (by kernel_rfl) rfl ?_))
  have hT : OwnT w.heap.size t (.slice A5 n5 c5) (.slice A6 n6 c6) M1 M2 V2 := ⟨o1.lower (by simp; omega), o2.lower (by omega), hM1, hM2, fun p hp q hq e => by have := b2 q hq; have := hM1lt p hp; omega⟩
  have hTf := hT.beside hon (fun p hp e => by have := b1 p hp; omega) (fun p hp e => by have := b2 p hp; omega)
  generalize V2.setCells (w.heap.size + 1) 0 [.int .i64 t.kind, .int .i64 t.size, .int .i64 t.most, .slice A5 n5 c5, .slice A6 n6 c6] = V4 at *
  obtain ⟨g0, g1, g2, g3, g4⟩ := tbox_cells hfin
  refine bodyPost_ret (v := .agg #[.int .i64 t.kind, .int .i64 t.size, .int .i64 t.most, .slice A5 n5 c5, .slice A6 n6 c6]) (by simp [results, Try.results9, go_sem, g0, g1, g2, g3, g4]) rfl ⟨_, _, rfl, ⟨M1, M2, hTf⟩, hB4.trans (below_only hon (fun k hk => by omega) hB4.size)⟩
def Table.marked (t : Table) (k : Nat) : Table := { t with keys := marksOf imark k t.keys.length, slots := marksOf mark (k + t.keys.length) t.slots.length }
theorem apart_same {M N M' N' : Blocks} (h : Apart M N) (h1 : M'.map (·.1) = M.map (·.1)) (h2 : N'.map (·.1) = N.map (·.1)) : Apart M' N' := fun p hp q hq e => by
  have a := List.mem_map_of_mem (f := Prod.fst) hp
  have b := List.mem_map_of_mem (f := Prod.fst) hq
  rw [h1] at a
  rw [h2] at b
  obtain ⟨p', hp', e1⟩ := List.mem_map.1 a
  obtain ⟨q', hq', e2⟩ := List.mem_map.1 b
  exact h p' hp' q' hq' (by rw [e1, e2, e])
set_option maxRecDepth 100000 in
theorem markTable_calls (t : Table) (kv sv : Value) (M1 M2 : Blocks) (B k : Nat) (q : Int) (hq : (k : Int) = q) (w : World) (hT : OwnT B t kv sv M1 M2 w) (hk : k + t.keys.length + t.slots.length ≤ 1099511627776) :
    Calls Try.prog 12 #[.agg #[.int .i64 t.kind, .int .i64 t.size, .int .i64 t.most, kv, sv], .int .i64 q] w fun e w' => e = .returned (.int .i64 (q + t.keys.length + t.slots.length)) ∧ (∃ N1 N2, OwnT B (t.marked k) kv sv N1 N2 w' ∧ N1.map (·.1) = M1.map (·.1) ∧ N2.map (·.1) = M2.map (·.1)) ∧ Only (Blk (M1 ++ M2)) w w' := by
  subst hq
  have hTlt := hT.lt
  go_enter Try.func12, Try.ntmps12
  go_wp2_with (first
    | (go_at_call 45; go_loud (
       refine (markIntS_calls kv t.keys M1 B k _ rfl _ hT.1 (hT.2.2.1.alloc _) (by omega)).mono ?_
       rintro e w1 ⟨rfl, N1, o1, hN1, hon1, hm1⟩
       have hbox := (holds_new (w := w) (o := tcells t kv sv) rfl).only hon1 (fun p hp ⟨q, hq, e⟩ => by rw [List.mem_singleton.1 hp] at e; have := hTlt q (List.mem_append_left _ hq); simp only at e; omega)
       obtain ⟨d0, d1, d2, d3, d4⟩ := tbox_cells hbox.get
       have hM2 := (hT.2.2.2.1.alloc (tcells t kv sv)).only hon1 (fun q hq ⟨p, hp, e⟩ => hT.2.2.2.2 p hp q hq e)))
    | (go_at_call 46; go_loud (
       refine (markStringS_calls sv t.slots M2 B (k + t.keys.length) _ (by omega) _ hT.2.1 hM2 (by omega)).mono ?_
       rintro e w2 ⟨rfl, N2, o2, hN2, hon2, hm2⟩)))
  go_ret
  refine ⟨int_of (by omega), ⟨N1, N2, ⟨o1, o2, hN1.only hon2 (fun p hp ⟨q, hq, e⟩ => apart_same hT.2.2.2.2 hm1 rfl p hp q hq e.symm), hN2, apart_same hT.2.2.2.2 hm1 hm2⟩, hm1, hm2⟩, (((Only.refl _ w).alloc (tcells t kv sv)).trans (hon1.mono (fun k _ ⟨p, hp, e⟩ => ⟨p, List.mem_append_left _ hp, e⟩))).trans (hon2.mono (fun k _ ⟨p, hp, e⟩ => ⟨p, List.mem_append_right _ hp, e⟩))⟩
set_option maxRecDepth 100000 in
theorem heldTable_calls (t : Table) (kv sv : Value) (L1 L2 : Blocks) (k : Nat) (q : Int) (hq : (k : Int) = q) (w : World) (h1 : Row 1 kv ((t.marked k).keys.map intCell) L1) (H1 : Holds w L1) (h2 : Row 1 sv ((t.marked k).slots.map strCell) L2) (H2 : Holds w L2) (hk : k + t.keys.length + t.slots.length ≤ 1099511627776) :
    Calls Try.prog 13 #[.agg #[.int .i64 t.kind, .int .i64 t.size, .int .i64 t.most, kv, sv], .int .i64 q] w fun e w' => e = .returned (.int .i64 (q + t.keys.length + t.slots.length)) ∧ Below w.heap.size w w' := by
  subst hq
  go_enter Try.func13, Try.ntmps13
  go_wp2_with (first
    | (go_at_call 47; go_loud (
       refine (heldIntS_calls kv L1 k t.keys.length _ rfl _ h1 (H1.alloc _) (by omega)).mono ?_
       rintro e w1 ⟨rfl, hb1⟩
       have hbox := (holds_new (w := w) (o := tcells t kv sv) rfl).below hb1
       have hB1 := bnext (below_alloc' (Below.refl _ w) (tcells t kv sv)) hb1
       obtain ⟨d0, d1, d2, d3, d4⟩ := tbox_cells hbox.get))
    | (go_at_call 48; go_loud (
       refine (heldStringS_calls sv L2 (k + t.keys.length) t.slots.length _ (by omega) _ h2 (H2.below hB1) (by omega)).mono ?_
       rintro e w2 ⟨rfl, hb2⟩)))
  go_ret
  exact ⟨int_of (by omega), bnext hB1 hb2⟩
end Go.Proofs.Ytoimeebildcofaa
