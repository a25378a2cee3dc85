import Derived.Test.YtoimeebildcofaaWFrames
namespace Go.Proofs.Ytoimeebildcofaa
open Go.RowKit
/-! ### The laws' helpers on texts -/
set_option maxRecDepth 100000 in
theorem eqStringS_calls (u v : Value) (rs ss : List ByteArray) (L M : Blocks) (w : World) (h : Row 1 u (rs.map strCell) L) (H : Holds w L) (h' : Row 1 v (ss.map strCell) M) (H' : Holds w M) :
    Calls Try.prog 44 #[u, v] w fun e w' => e = .returned (.bool (decide (rs = ss))) ∧ ∃ n, w' = w.drewN n := by
  obtain ⟨A, n, c, rfl⟩ := h.slice
  obtain ⟨hnl, hn⟩ := h.len'
  obtain ⟨A', n', c', rfl⟩ := h'.slice
  obtain ⟨hnl', hn'⟩ := h'.len'
  rw [List.length_map] at hnl hnl'
  by_cases hne : n = n'
  · subst hne
    have HN := Lib.hid hnl
    have HN' := Lib.hid hnl'
    clear hnl hnl' hn'
    go_enter Try.func44, Try.ntmps44
    go_wp2
    go_loopw [5] (fun i wr => ∃ k : Nat, k ≤ n ∧ i = .int .i64 k ∧ Hid (rs.take k = ss.take k) ∧ ∃ m, wr = w.drewN m) (fun i _ => n - (intOf i).toNat)
    case atStart => exact ⟨0, Nat.zero_le _, rfl, rfl, 0, rfl⟩
    case round =>
      obtain ⟨k, hk, rfl, hf, m, rfl⟩ := hrel
      by_cases hlt : k < n
      · obtain ⟨r, hr⟩ : ∃ r, rs[k]? = some r := ⟨_, List.getElem?_eq_getElem (by rw [HN.out]; exact hlt)⟩
        obtain ⟨s, hs⟩ : ∃ s, ss[k]? = some s := ⟨_, List.getElem?_eq_getElem (by rw [HN'.out]; exact hlt)⟩
        have HR := Lib.hid hr
        have HS := Lib.hid hs
        clear hr hs
        obtain ⟨b, off, rfl, hq⟩ := h.at_ H (k := k) (cs := strCell r) (by simp [HR.out])
        obtain ⟨b', off', rfl, hq'⟩ := h'.at_ H' (k := k) (cs := strCell s) (by simp [HS.out])
        have q0 : w.cell? ⟨b, off + k * 1, none⟩ = some (.string r) := hq 0 _ rfl
        have p0 : w.cell? ⟨b', off' + k * 1, none⟩ = some (.string s) := hq' 0 _ rfl
        rw [Nat.mul_one] at q0 p0
        clear hq hq'
        go_wp2
        go_quiet (fail)
        go_wp2
        · go_ret
          refine ⟨bool_of ?_, _, World.drewN_drewN ..⟩
          have hrs : r ≠ s := by rintro rfl; simp_all
          symm
          rw [decide_eq_false_iff_not]
          rintro rfl
          exact hrs (by have := HR.out.symm.trans HS.out; simpa using this)
        · skip
          have hrs : r = s := by
            have hq : r.toList = s.toList := by
              have : (!r.toList == s.toList) = false := by assumption
              simpa using this
            rw [Lib.toList_data, Lib.toList_data] at hq
            exact ByteArray.ext (Array.toList_inj.1 hq)
          go_roundw
          case rel => exact ⟨k + 1, by omega, by go_num, by show _ = _; rw [List.take_add_one, List.take_add_one, hf.out, HR.out, HS.out, hrs], _, rfl⟩
          case measure => simp [intOf]; omega
      · go_wp2
        go_ret
        refine ⟨bool_of ?_, m, rfl⟩
        have h1 := hf.out
        rw [List.take_of_length_le (by rw [HN.out]; omega), List.take_of_length_le (by rw [HN'.out]; omega)] at h1
        rw [h1]
        simp
  · have HN := Lib.hid hnl
    have HN' := Lib.hid hnl'
    have hb : ((n : Int) != (n' : Int)) = true := by rw [bne_iff_ne]; omega
    clear hnl hnl'
    go_enter Try.func44, Try.ntmps44
    go_wp2
    go_ret
    refine ⟨bool_of ?_, 0, rfl⟩
    symm
    rw [decide_eq_false_iff_not]
    rintro rfl
    exact hne (HN.out.symm.trans HN'.out)
set_option maxRecDepth 100000 in
theorem sgTexts_calls (u v : Value) (rs ss : List ByteArray) (L M : Blocks) (w : World) (h : Row 1 u (rs.map strCell) L) (H : Holds w L) (h' : Row 1 v (ss.map strCell) M) (H' : Holds w M) :
    Calls Try.prog 53 #[u, v] w fun e w' => e = .returned (.bool (decide (rs = ss))) ∧ ∃ n, w' = w.drewN n := by
  obtain ⟨A, n, c, rfl⟩ := h.slice
  obtain ⟨hnl, hn⟩ := h.len'
  obtain ⟨A', n', c', rfl⟩ := h'.slice
  obtain ⟨hnl', hn'⟩ := h'.len'
  rw [List.length_map] at hnl hnl'
  by_cases hne : n = n'
  · subst hne
    have HN := Lib.hid hnl
    have HN' := Lib.hid hnl'
    clear hnl hnl' hn'
    go_enter Try.func53, Try.ntmps53
    go_wp2
    go_loopw [5] (fun i wr => ∃ k : Nat, k ≤ n ∧ i = .int .i64 k ∧ Hid (rs.take k = ss.take k) ∧ ∃ m, wr = w.drewN m) (fun i _ => n - (intOf i).toNat)
    case atStart => exact ⟨0, Nat.zero_le _, rfl, rfl, 0, rfl⟩
    case round =>
      obtain ⟨k, hk, rfl, hf, m, rfl⟩ := hrel
      by_cases hlt : k < n
      · obtain ⟨r, hr⟩ : ∃ r, rs[k]? = some r := ⟨_, List.getElem?_eq_getElem (by rw [HN.out]; exact hlt)⟩
        obtain ⟨s, hs⟩ : ∃ s, ss[k]? = some s := ⟨_, List.getElem?_eq_getElem (by rw [HN'.out]; exact hlt)⟩
        have HR := Lib.hid hr
        have HS := Lib.hid hs
        clear hr hs
        obtain ⟨b, off, rfl, hq⟩ := h.at_ H (k := k) (cs := strCell r) (by simp [HR.out])
        obtain ⟨b', off', rfl, hq'⟩ := h'.at_ H' (k := k) (cs := strCell s) (by simp [HS.out])
        have q0 : w.cell? ⟨b, off + k * 1, none⟩ = some (.string r) := hq 0 _ rfl
        have p0 : w.cell? ⟨b', off' + k * 1, none⟩ = some (.string s) := hq' 0 _ rfl
        rw [Nat.mul_one] at q0 p0
        clear hq hq'
        go_wp2
        go_quiet (fail)
        go_wp2
        · go_ret
          refine ⟨bool_of ?_, _, World.drewN_drewN ..⟩
          have hrs : r ≠ s := by rintro rfl; simp_all
          symm
          rw [decide_eq_false_iff_not]
          rintro rfl
          exact hrs (by have := HR.out.symm.trans HS.out; simpa using this)
        · skip
          have hrs : r = s := by
            have hq : r.toList = s.toList := by
              have : (!r.toList == s.toList) = false := by assumption
              simpa using this
            rw [Lib.toList_data, Lib.toList_data] at hq
            exact ByteArray.ext (Array.toList_inj.1 hq)
          go_roundw
          case rel => exact ⟨k + 1, by omega, by go_num, by show _ = _; rw [List.take_add_one, List.take_add_one, hf.out, HR.out, HS.out, hrs], _, rfl⟩
          case measure => simp [intOf]; omega
      · go_wp2
        go_ret
        refine ⟨bool_of ?_, m, rfl⟩
        have h1 := hf.out
        rw [List.take_of_length_le (by rw [HN.out]; omega), List.take_of_length_le (by rw [HN'.out]; omega)] at h1
        rw [h1]
        simp
  · have HN := Lib.hid hnl
    have HN' := Lib.hid hnl'
    have hb : ((n : Int) != (n' : Int)) = true := by rw [bne_iff_ne]; omega
    clear hnl hnl'
    go_enter Try.func53, Try.ntmps53
    go_wp2
    go_ret
    refine ⟨bool_of ?_, 0, rfl⟩
    symm
    rw [decide_eq_false_iff_not]
    rintro rfl
    exact hne (HN.out.symm.trans HN'.out)
/-- The digits of k, ahead of s. -/
def digits (k : Nat) (s : ByteArray) : ByteArray := if _h : k = 0 then s else digits (k / 10) (⟨#[UInt8.ofNat (48 + k % 10)]⟩ ++ s)
termination_by k
decreasing_by omega
def mark (k : Nat) : ByteArray := if k = 0 then ⟨#[109, 48]⟩ else ⟨#[109]⟩ ++ digits k ⟨#[]⟩
set_option maxRecDepth 100000 in
theorem markText_calls (k : Nat) (w : World) (hk : k ≤ 1099511627776) : Calls Try.prog 83 #[.int .i64 k] w fun e w' => e = .returned (.string (mark k)) ∧ Below w.heap.size w w' := by
  by_cases h0 : k = 0
  · subst h0
    go_enter Try.func83, Try.ntmps83
    go_wp2
    go_ret
    exact ⟨rfl, Below.refl _ _⟩
  · go_enter Try.func83, Try.ntmps83
    go_wp2
    go_loopw [0, 3] (fun i s wr => ∃ (j : Nat) (y : ByteArray), i = .int .i64 j ∧ s = .string y ∧ digits j y = digits k ⟨#[]⟩ ∧ y.size + j ≤ k ∧ Below w.heap.size w wr) (fun i _ _ => (intOf i).toNat)
    case atStart => exact ⟨k, ⟨#[]⟩, rfl, rfl, rfl, by show 0 + k ≤ k; omega, Below.refl _ _⟩
    case round =>
      obtain ⟨j, y, rfl, rfl, hd, hl, hb⟩ := hrel
      by_cases hj : j = 0
      · subst hj
        have hy : y = digits k ⟨#[]⟩ := by rw [← hd, digits]; rfl
        have HY := Lib.hid hy
        clear hy hd
        go_wp2
        go_ret
        exact ⟨by rw [HY.out]; simp only [mark, h0, if_false]; rfl, hb⟩
      · have hd2 := hd
        rw [digits] at hd2
        simp only [hj, dite_false] at hd2
        have HD := Lib.hid hd2
        clear hd hd2
        have hj1 : (0 : Int) ≤ (j : Int) % 10 := by omega
        have hj2 : (j : Int) % 10 ≤ 9 := by omega
        obtain ⟨c1, hc1⟩ : ∃ c1 : ByteArray, c1 = ⟨#[UInt8.ofNat (48 + j % 10)]⟩ := ⟨_, rfl⟩
        have hcv : ∀ W : World, (convert 34 9 (.slice (some ⟨W.heap.size, 0, none⟩) 1 1)).run Try.prog (W.alloc (.cells #[.int .u8 (48 + (j : Int) % 10)] 5)) = .ok (.string c1) (W.alloc (.cells #[.int .u8 (48 + (j : Int) % 10)] 5)) := fun W => by
          rw [run_convert_bytes_arg _ 34 5 Try.underlying34 Try.underlying5 _ 0 1 1 [48 + (j : Int) % 10] rfl (fun i hi => by
            have : i = 0 := by omega
            subst this
            exact cells_new W _ _ 0 _ rfl) 9 Try.underlying9, hc1]
          have e1 : (48 + (j : Int) % 10).toNat = 48 + j % 10 := by omega
          simp only [strOfNums, List.map_cons, List.map_nil, e1]
        have hc2 : c1.size = 1 := by rw [hc1]; rfl
        have HC1 := Lib.hid hc1
        clear hc1
        go_wp2_with ((with_reducible refine gate_dst (N := 13) rfl ?_); refine wpList_conv rfl 34 9 _ rfl _ _ rfl (hcv _) ?_)
        go_roundw
        case rel => exact ⟨j / 10, _, by go_num, rfl, by rw [← HD.out, HC1.out], by rw [ByteArray.size_append, hc2]; omega, hb.alloc hb.size _⟩
        case measure => simp [intOf]; omega
theorem flatten_map_strCell (ss : List ByteArray) : (ss.map strCell).length = ss.length := by simp
set_option maxRecDepth 100000 in
theorem markStringS_calls (v : Value) (ss : List ByteArray) (L : Blocks) (B k : Nat) (q : Int) (hq : (k : Int) = q) (w : World) (h : Own B 9 1 v (ss.map strCell) L) (H : Holds w L) (hk : k + ss.length ≤ 1099511627776) :
    Calls Try.prog 46 #[v, .int .i64 q] w fun e w' => e = .returned (.int .i64 (q + ss.length)) ∧ ∃ L', Own B 9 1 v ((marksOf mark k ss.length).map strCell) L' ∧ Holds w' L' ∧ Only (Blk L) w w' ∧ L'.map (·.1) = L.map (·.1) := by
  subst hq
  obtain ⟨A, n, c, rfl⟩ := h.row.slice
  obtain ⟨hnl, hn⟩ := h.row.len'
  rw [List.length_map] at hnl
  have HN := Lib.hid hnl
  have hkn : k + n ≤ 1099511627776 := by omega
  clear hnl hn hk
  go_enter Try.func46, Try.ntmps46
  go_wp2
  go_loopw [5, 1] (fun i q wr => ∃ (j g : Nat) (M : Blocks), j ≤ n ∧ i = .int .i64 j ∧ q = .int .i64 g ∧ Hid (g = k + j) ∧ g ≤ 1099511627776 ∧ Hid (Own B 9 1 (.slice A n c) ((marksOf mark k j ++ ss.drop j).map strCell) M) ∧ Holds wr M ∧ Only (Blk L) w wr ∧ M.map (·.1) = L.map (·.1)) (fun i _ _ => n - (intOf i).toNat)
  case atStart => exact ⟨0, k, L, Nat.zero_le _, rfl, rfl, rfl, by omega, by show Own _ _ _ _ ((marksOf mark k 0 ++ ss.drop 0).map strCell) _; rw [marks_zero]; exact h, H, Only.refl _ _, rfl⟩
  case round =>
    obtain ⟨j, g, M, hj, rfl, rfl, hg, hg1, hO, hH, ho, hM⟩ := hrel
    by_cases hlt : j < n
    · obtain ⟨b, rfl, hbB, hMb, hat⟩ := hO.out.at_ (k := j) (by simp [HN.out, marksOf_len]; omega)
      go_wp2_with (first | ((with_reducible refine gate_store (p := 16) rfl ?_); refine wpList_put rfl 9 _ _ rfl b j (strCell (mark g)) rfl rfl ?st (by kernel_rfl) rfl ?_; (case st => have := (hat _ (hH.below hb')).1; rw [Nat.mul_one] at this; exact this)) | (go_at_call 83; refine (markText_calls g _ (by omega)).mono ?_; rintro e w' ⟨rfl, hb'⟩))
      go_roundw
      case rel =>
        obtain ⟨M2, h1, h2, h3⟩ := (hat _ (hH.below hb')).2 (strCell (mark g)) rfl
        rw [Nat.mul_one] at h2
        refine ⟨j + 1, g + 1, M2, by omega, by go_num, by go_num, by show _ = _; rw [hg.out]; omega, by have := hg.out; omega, ?_, h2, ?_, h3.trans (hMb.symm.trans hM)⟩
        · show Own _ _ _ _ _ _
          have hs := marks_set mark k ss j (by rw [HN.out]; exact hlt)
          rw [← hs, List.map_set, ← hg.out]
          exact h1
        · refine (ho.then_below hb').trans (only_setCells _ _ _ _ (Only.refl _ _) (.inl ?_))
          have h4 : b ∈ L.map (·.1) := by rw [← hM, hMb]; exact List.mem_singleton.2 rfl
          obtain ⟨p, hp, hpb⟩ := List.mem_map.1 h4
          exact ⟨p, hp, hpb⟩
      case measure => simp [intOf]; omega
    · go_wp2
      go_ret
      have hjn : j = n := by omega
      subst hjn
      refine ⟨int_of (by rw [hg.out, HN.out]; omega), M, ?_, hH, ho, hM⟩
      have h4 := hO.out
      rw [List.drop_of_length_le (by rw [HN.out]; exact Nat.le_refl _), List.append_nil] at h4
      rw [HN.out]
      exact h4
set_option maxRecDepth 100000 in
theorem heldStringS_calls (v : Value) (L : Blocks) (k n : Nat) (q : Int) (hq : (k : Int) = q) (w : World) (h : Row 1 v ((marksOf mark k n).map strCell) L) (H : Holds w L) (hk : k + n ≤ 1099511627776) :
    Calls Try.prog 48 #[v, .int .i64 q] w fun e w' => e = .returned (.int .i64 (q + n)) ∧ Below w.heap.size w w' := by
  subst hq
  obtain ⟨A, n', c, rfl⟩ := h.slice
  obtain ⟨hnl, hn⟩ := h.len'
  rw [List.length_map, marksOf_len] at hnl
  subst hnl
  go_enter Try.func48, Try.ntmps48
  go_wp2
  go_loopw [5, 1] (fun i q wr => ∃ (j g : Nat), j ≤ n ∧ i = .int .i64 j ∧ q = .int .i64 g ∧ Hid (g = k + j) ∧ g ≤ 1099511627776 ∧ Below w.heap.size w wr) (fun i _ _ => n - (intOf i).toNat)
  case atStart => exact ⟨0, k, Nat.zero_le _, rfl, rfl, rfl, by omega, Below.refl _ _⟩
  case round =>
    obtain ⟨j, g, hj, rfl, rfl, hg, hg1, hb⟩ := hrel
    by_cases hlt : j < n
    · obtain ⟨b, off, rfl, hq⟩ := h.at_ (H.below hb) (k := j) (cs := strCell (mark g)) (by rw [List.getElem?_map, marksOf_get _ hlt, hg.out]; rfl)
      have q0 : wr.cell? ⟨b, off + j * 1, none⟩ = some (.string (mark g)) := hq 0 _ rfl
      rw [Nat.mul_one] at q0
      clear hq
      have q1 := cell_regrown q0
      go_wp2
      refine wp_region_quiet_below (w := wr) (by kernel_rfl) (by kernel_rfl) ?_
      repeat (any_goals (first | go_big_quiet_step ((go_at_call 83; refine Calls.regrown_of (markText_calls g _ (by omega)))) | quiet_step ((go_at_call 83; refine Calls.regrown_of (markText_calls g _ (by omega)))) | (refine wpQuiet_step (fun K hK => ?_); go_simp; split <;> (refine hK _ ?_; clear hK K))))
      all_goals (refine wpQuiet_nil ?_; intro _ hw'; obtain ⟨⟨dq, osq⟩, hw''⟩ := hw'; subst hw''; have hq := below_regrown wr dq osq; generalize Sort.grow (redrawn wr dq) osq = wq at *)
      go_wp2
      go_roundw
      case rel => exact ⟨j + 1, g + 1, by omega, by go_num, by go_num, by show _ = _; rw [hg.out]; omega, by have := hg.out; omega, below_trans' hb hb.size hq⟩
      case measure => simp [intOf]; omega
    · go_wp2
      go_ret
      exact ⟨int_of (by rw [hg.out]; omega), hb⟩
end Go.Proofs.Ytoimeebildcofaa
