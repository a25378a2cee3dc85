/- The laws' own functions on rows of structs that have ints alone: they are alike; they are written over; what is written over still stands. -/
import Derived.Test.YtdpdclfanlbkjaaLawRules
namespace Go.Proofs.Ytdpdclfanlbkjaa
open Go.RowKit
def Ins.cells (r : Ins) : List Value := [.int .i64 r.op, .int .i64 r.dst, .int .i64 r.src, .int .i64 r.off, .int .i64 r.imm, .int .i64 r.size]
def markRule (k : Nat) : Rule := ⟨(k : Int), (k : Int) + 1, (k : Int) + 2, (k : Int) + 3, (k : Int) + 4⟩
/-- The marks of n elements, from the k-th number on. -/
def marksRule (k n : Nat) : List Rule := (List.range n).map (fun i => markRule (k + 5 * i))
set_option maxRecDepth 100000 in
theorem markRuleS_calls (v : Value) (ss : List Rule) (L : Blocks) (B k : Nat) (q : Int) (hq : (k : Int) = q) (w : World) (h : Own B 71 5 v (ss.map Rule.cells) L) (H : Holds w L) (hk : k + 5 * ss.length ≤ 1099511627776) :
    Calls Try.prog 34 #[v, .int .i64 q] w fun e w' => e = .returned (.int .i64 (q + 5 * ss.length)) ∧ ∃ L', Own B 71 5 v ((marksRule k ss.length).map Rule.cells) L' ∧ Holds w' L' ∧ Only (Blk L) w w' ∧ L'.map (·.1) = L.map (·.1) := by
  subst hq
  obtain ⟨A, n, c, rfl⟩ := h.row.slice
  obtain ⟨hnl, hn⟩ := h.row.len'
  rw [List.length_map] at hnl
  have HN := Lib.hid hnl
  have hkn : k + 5 * n ≤ 1099511627776 := by omega
  clear hnl hn hk
  go_enter Try.func34, Try.ntmps34
  go_wp2
  go_loopw [5, 1] (fun i q wr => ∃ (j g : Nat) (M : Blocks), j ≤ n ∧ i = .int .i64 j ∧ q = .int .i64 g ∧ Hid (g = k + 5 * j) ∧ g ≤ 1099511627776 ∧ Hid (Own B 71 5 (.slice A n c) ((marksRule k j ++ ss.drop j).map Rule.cells) M) ∧ Holds wr M ∧ Only (Blk L) w wr ∧ M.map (·.1) = L.map (·.1)) (fun i _ _ => n - (intOf i).toNat)
  case atStart => exact ⟨0, k, L, Nat.zero_le _, rfl, rfl, rfl, by omega, by show Own _ _ _ _ ((marksRule k 0 ++ ss.drop 0).map Rule.cells) _; rw [show marksRule k 0 ++ ss.drop 0 = ss by simp [marksRule]]; exact h, H, Only.refl _ _, rfl⟩
  case round =>
    obtain ⟨j, g, M, hj, rfl, rfl, hg, hg1, hO, hH, ho, hM⟩ := hrel
    have hml : (marksRule k j).length = j := by simp [marksRule]
    by_cases hlt : j < n
    · obtain ⟨b, rfl, hbB, hMb, hat⟩ := hO.out.at_ (k := j) (by simp [HN.out, hml]; omega)
      have hth0 := (hat wr hH).1
      have hth : ∀ f, f < 5 → wr.there b (j * 5 + f) 1 := fun f hf i hi => by have := hth0 (f + i) (by omega); rwa [← Nat.add_assoc] at this
      have HML := Lib.hid hml
      clear hth0 hml
      go_wp2_with (first | ((with_reducible refine gate_store (p := 16) rfl ?_); refine wpList_put rfl 3 _ _ rfl b (j * 5) [.int .i64 (g)] rfl rfl ?st (by kernel_rfl) rfl ?_; (case st => exact hth 0 (by omega))) | ((with_reducible refine gate_store (p := 23) rfl ?_); refine wpList_put rfl 3 _ _ rfl b (j * 5 + 1) [.int .i64 (g + 1)] rfl rfl ?st (by kernel_rfl) rfl ?_; (case st => exact there_put (hth 1 (by omega)))) | ((with_reducible refine gate_store (p := 30) rfl ?_); refine wpList_put rfl 3 _ _ rfl b (j * 5 + 2) [.int .i64 (g + 2)] rfl rfl ?st (by kernel_rfl) rfl ?_; (case st => exact there_put (there_put (hth 2 (by omega))))) | ((with_reducible refine gate_store (p := 37) rfl ?_); refine wpList_put rfl 3 _ _ rfl b (j * 5 + 3) [.int .i64 (g + 3)] rfl rfl ?st (by kernel_rfl) rfl ?_; (case st => exact there_put (there_put (there_put (hth 3 (by omega)))))) | ((with_reducible refine gate_store (p := 44) rfl ?_); refine wpList_put rfl 3 _ _ rfl b (j * 5 + 4) [.int .i64 (g + 4)] rfl rfl ?st (by kernel_rfl) rfl ?_; (case st => exact there_put (there_put (there_put (there_put (hth 4 (by omega))))))))
      go_roundw
      case rel =>
        obtain ⟨M2, h1, h2, h3⟩ := (hat _ hH).2 [.int .i64 ((g : Int)), .int .i64 ((g : Int) + 1), .int .i64 ((g : Int) + 2), .int .i64 ((g : Int) + 3), .int .i64 ((g : Int) + 4)] rfl
        have h5 : Only (Blk L) w (wr.setCells b (j * 5) [.int .i64 ((g : Int)), .int .i64 ((g : Int) + 1), .int .i64 ((g : Int) + 2), .int .i64 ((g : Int) + 3), .int .i64 ((g : Int) + 4)]) := by
          refine ho.trans (only_setCells [.int .i64 ((g : Int)), .int .i64 ((g : Int) + 1), .int .i64 ((g : Int) + 2), .int .i64 ((g : Int) + 3), .int .i64 ((g : Int) + 4)] (j * 5) _ _ (Only.refl _ _) (.inl ?_))
          have h4 : b ∈ L.map (·.1) := by rw [← hM, hMb]; exact List.mem_singleton.2 rfl
          obtain ⟨p, hp, hpb⟩ := List.mem_map.1 h4
          exact ⟨p, hp, hpb⟩
        simp only [setCells_more, Nat.add_assoc, Nat.reduceAdd] at h2 h5
        refine ⟨j + 1, g + 5, M2, by omega, by go_num, by go_num, by show _ = _; rw [hg.out]; omega, by have := hg.out; omega, ?_, h2, h5, h3.trans (hMb.symm.trans hM)⟩
        show Own _ _ _ _ _ _
        have hs : (marksRule k j ++ ss.drop j).set j (markRule (k + 5 * j)) = marksRule k (j + 1) ++ ss.drop (j + 1) := by
            rw [List.set_append_right _ _ (by rw [HML.out]; omega), HML.out, Nat.sub_self, List.drop_eq_getElem_cons (by rw [HN.out]; exact hlt), List.set_cons_zero, marksRule, marksRule, List.range_succ, List.map_append]
            simp
        rw [← hs, List.map_set, ← hg.out]
        exact h1
      case measure => simp [intOf]; omega
    · go_wp2
      go_ret
      have hjn : j = n := by omega
      subst hjn
      refine ⟨int_of (by rw [hg.out, HN.out]; omega), M, ?_, hH, ho, hM⟩
      have h4 := hO.out
      rw [List.drop_of_length_le (by rw [HN.out]; exact Nat.le_refl _), List.append_nil] at h4
      rw [HN.out]
      exact h4
set_option maxRecDepth 100000 in
theorem eqIns_calls (r s : Ins) (w : World) :
    Calls Try.prog 77 #[.agg #[.int .i64 r.op, .int .i64 r.dst, .int .i64 r.src, .int .i64 r.off, .int .i64 r.imm, .int .i64 r.size], .agg #[.int .i64 s.op, .int .i64 s.dst, .int .i64 s.src, .int .i64 s.off, .int .i64 s.imm, .int .i64 s.size]] w fun e w' => e = .returned (.bool (decide (r = s))) ∧ Below w.heap.size w w' := by
  obtain ⟨a0, a1, a2, a3, a4, a5⟩ := r
  obtain ⟨b0, b1, b2, b3, b4, b5⟩ := s
  go_enter Try.func77, Try.ntmps77
  go_wp2
  all_goals (go_ret; refine ⟨bool_of ?_, below_alloc' (below_alloc' (Below.refl _ _) _) _⟩)
  all_goals simp_all
set_option maxRecDepth 100000 in
theorem eqInsS_calls (u v : Value) (rs ss : List Ins) (L M : Blocks) (w : World) (h : Row 6 u (rs.map Ins.cells) L) (H : Holds w L) (h' : Row 6 v (ss.map Ins.cells) M) (H' : Holds w M) :
    Calls Try.prog 33 #[u, v] w fun e w' => e = .returned (.bool (decide (rs = ss))) ∧ Below w.heap.size w w' := by
  obtain ⟨A, n, c, rfl⟩ := h.slice
  obtain ⟨hnl, hn⟩ := h.len'
  obtain ⟨A', n', c', rfl⟩ := h'.slice
  obtain ⟨hnl', hn'⟩ := h'.len'
  rw [List.length_map] at hnl hnl'
  by_cases hne : n = n'
  · subst hne
    have HN := Lib.hid hnl
    have HN' := Lib.hid hnl'
    clear hnl hnl' hn'
    go_enter Try.func33, Try.ntmps33
    go_wp2
    go_loopw [5] (fun i wr => ∃ k : Nat, k ≤ n ∧ i = .int .i64 k ∧ Hid (rs.take k = ss.take k) ∧ Below w.heap.size w wr) (fun i _ => n - (intOf i).toNat)
    case atStart => exact ⟨0, Nat.zero_le _, rfl, rfl, Below.refl _ _⟩
    case round =>
      obtain ⟨k, hk, rfl, hf, hb⟩ := hrel
      by_cases hlt : k < n
      · obtain ⟨r, hr⟩ : ∃ r, rs[k]? = some r := ⟨_, List.getElem?_eq_getElem (by rw [HN.out]; exact hlt)⟩
        obtain ⟨s, hs⟩ : ∃ s, ss[k]? = some s := ⟨_, List.getElem?_eq_getElem (by rw [HN'.out]; exact hlt)⟩
        have HR := Lib.hid hr
        have HS := Lib.hid hs
        clear hr hs
        obtain ⟨b, off, rfl, hq⟩ := h.at_ (H.below hb) (k := k) (cs := r.cells) (by simp [HR.out])
        obtain ⟨b', off', rfl, hq'⟩ := h'.at_ (H'.below hb) (k := k) (cs := s.cells) (by simp [HS.out])
        have q0 : wr.cell? ⟨b, off + k * 6, none⟩ = some (.int .i64 r.op) := hq 0 _ rfl
        have q1 := hq 1 _ rfl
        have q2 := hq 2 _ rfl
        have q3 := hq 3 _ rfl
        have q4 := hq 4 _ rfl
        have q5 := hq 5 _ rfl
        have p0 : wr.cell? ⟨b', off' + k * 6, none⟩ = some (.int .i64 s.op) := hq' 0 _ rfl
        have p1 := hq' 1 _ rfl
        have p2 := hq' 2 _ rfl
        have p3 := hq' 3 _ rfl
        have p4 := hq' 4 _ rfl
        have p5 := hq' 5 _ rfl
        clear hq hq'
        go_wp2
        go_still_tail 8, (by kernel_rfl)
        change wpList _ _ _ _ _ wr.drew
        go_wp2_with (go_at_call 77; refine (eqIns_calls r s _).mono ?_; rintro e w' ⟨rfl, hb'⟩)
        · go_ret
          refine ⟨bool_of ?_, hb.drew.trans (hb'.mono hb.size)⟩
          have hrs : r ≠ s := by simp_all
          symm
          rw [decide_eq_false_iff_not]
          rintro rfl
          exact hrs (by have := HR.out.symm.trans HS.out; simpa using this)
        · have hrs : r = s := by simp_all
          go_roundw
          case rel => exact ⟨k + 1, by omega, by go_num, by show _ = _; rw [List.take_add_one, List.take_add_one, hf.out, HR.out, HS.out, hrs], hb.drew.trans (hb'.mono hb.size)⟩
          case measure => simp [intOf]; omega
      · go_wp2
        go_ret
        refine ⟨bool_of ?_, hb⟩
        have h1 := hf.out
        rw [List.take_of_length_le (by rw [HN.out]; omega), List.take_of_length_le (by rw [HN'.out]; omega)] at h1
        rw [h1]
        simp
  · have HN := Lib.hid hnl
    have HN' := Lib.hid hnl'
    have hb : ((n : Int) != (n' : Int)) = true := by rw [bne_iff_ne]; omega
    clear hnl hnl'
    go_enter Try.func33, Try.ntmps33
    go_wp2
    go_ret
    refine ⟨bool_of ?_, Below.refl _ _⟩
    symm
    rw [decide_eq_false_iff_not]
    rintro rfl
    exact hne (HN.out.symm.trans HN'.out)
def markIns (k : Nat) : Ins := ⟨(k : Int), (k : Int) + 1, (k : Int) + 2, (k : Int) + 3, (k : Int) + 4, (k : Int) + 5⟩
/-- The marks of n elements, from the k-th number on. -/
def marksIns (k n : Nat) : List Ins := (List.range n).map (fun i => markIns (k + 6 * i))
set_option maxRecDepth 100000 in
theorem markInsS_calls (v : Value) (ss : List Ins) (L : Blocks) (B k : Nat) (q : Int) (hq : (k : Int) = q) (w : World) (h : Own B 87 6 v (ss.map Ins.cells) L) (H : Holds w L) (hk : k + 6 * ss.length ≤ 1099511627776) :
    Calls Try.prog 35 #[v, .int .i64 q] w fun e w' => e = .returned (.int .i64 (q + 6 * ss.length)) ∧ ∃ L', Own B 87 6 v ((marksIns k ss.length).map Ins.cells) L' ∧ Holds w' L' ∧ Only (Blk L) w w' ∧ L'.map (·.1) = L.map (·.1) := by
  subst hq
  obtain ⟨A, n, c, rfl⟩ := h.row.slice
  obtain ⟨hnl, hn⟩ := h.row.len'
  rw [List.length_map] at hnl
  have HN := Lib.hid hnl
  have hkn : k + 6 * n ≤ 1099511627776 := by omega
  clear hnl hn hk
  go_enter Try.func35, Try.ntmps35
  go_wp2
  go_loopw [5, 1] (fun i q wr => ∃ (j g : Nat) (M : Blocks), j ≤ n ∧ i = .int .i64 j ∧ q = .int .i64 g ∧ Hid (g = k + 6 * j) ∧ g ≤ 1099511627776 ∧ Hid (Own B 87 6 (.slice A n c) ((marksIns k j ++ ss.drop j).map Ins.cells) M) ∧ Holds wr M ∧ Only (Blk L) w wr ∧ M.map (·.1) = L.map (·.1)) (fun i _ _ => n - (intOf i).toNat)
  case atStart => exact ⟨0, k, L, Nat.zero_le _, rfl, rfl, rfl, by omega, by show Own _ _ _ _ ((marksIns k 0 ++ ss.drop 0).map Ins.cells) _; rw [show marksIns k 0 ++ ss.drop 0 = ss by simp [marksIns]]; exact h, H, Only.refl _ _, rfl⟩
  case round =>
    obtain ⟨j, g, M, hj, rfl, rfl, hg, hg1, hO, hH, ho, hM⟩ := hrel
    have hml : (marksIns k j).length = j := by simp [marksIns]
    by_cases hlt : j < n
    · obtain ⟨b, rfl, hbB, hMb, hat⟩ := hO.out.at_ (k := j) (by simp [HN.out, hml]; omega)
      have hth0 := (hat wr hH).1
      have hth : ∀ f, f < 6 → wr.there b (j * 6 + f) 1 := fun f hf i hi => by have := hth0 (f + i) (by omega); rwa [← Nat.add_assoc] at this
      have HML := Lib.hid hml
      clear hth0 hml
      go_wp2_with (first | ((with_reducible refine gate_store (p := 16) rfl ?_); refine wpList_put rfl 3 _ _ rfl b (j * 6) [.int .i64 (g)] rfl rfl ?st (by kernel_rfl) rfl ?_; (case st => exact hth 0 (by omega))) | ((with_reducible refine gate_store (p := 23) rfl ?_); refine wpList_put rfl 3 _ _ rfl b (j * 6 + 1) [.int .i64 (g + 1)] rfl rfl ?st (by kernel_rfl) rfl ?_; (case st => exact there_put (hth 1 (by omega)))) | ((with_reducible refine gate_store (p := 30) rfl ?_); refine wpList_put rfl 3 _ _ rfl b (j * 6 + 2) [.int .i64 (g + 2)] rfl rfl ?st (by kernel_rfl) rfl ?_; (case st => exact there_put (there_put (hth 2 (by omega))))) | ((with_reducible refine gate_store (p := 37) rfl ?_); refine wpList_put rfl 3 _ _ rfl b (j * 6 + 3) [.int .i64 (g + 3)] rfl rfl ?st (by kernel_rfl) rfl ?_; (case st => exact there_put (there_put (there_put (hth 3 (by omega)))))) | ((with_reducible refine gate_store (p := 44) rfl ?_); refine wpList_put rfl 3 _ _ rfl b (j * 6 + 4) [.int .i64 (g + 4)] rfl rfl ?st (by kernel_rfl) rfl ?_; (case st => exact there_put (there_put (there_put (there_put (hth 4 (by omega))))))) | ((with_reducible refine gate_store (p := 51) rfl ?_); refine wpList_put rfl 3 _ _ rfl b (j * 6 + 5) [.int .i64 (g + 5)] rfl rfl ?st (by kernel_rfl) rfl ?_; (case st => exact there_put (there_put (there_put (there_put (there_put (hth 5 (by omega)))))))))
      go_roundw
      case rel =>
        obtain ⟨M2, h1, h2, h3⟩ := (hat _ hH).2 [.int .i64 ((g : Int)), .int .i64 ((g : Int) + 1), .int .i64 ((g : Int) + 2), .int .i64 ((g : Int) + 3), .int .i64 ((g : Int) + 4), .int .i64 ((g : Int) + 5)] rfl
        have h5 : Only (Blk L) w (wr.setCells b (j * 6) [.int .i64 ((g : Int)), .int .i64 ((g : Int) + 1), .int .i64 ((g : Int) + 2), .int .i64 ((g : Int) + 3), .int .i64 ((g : Int) + 4), .int .i64 ((g : Int) + 5)]) := by
          refine ho.trans (only_setCells [.int .i64 ((g : Int)), .int .i64 ((g : Int) + 1), .int .i64 ((g : Int) + 2), .int .i64 ((g : Int) + 3), .int .i64 ((g : Int) + 4), .int .i64 ((g : Int) + 5)] (j * 6) _ _ (Only.refl _ _) (.inl ?_))
          have h4 : b ∈ L.map (·.1) := by rw [← hM, hMb]; exact List.mem_singleton.2 rfl
          obtain ⟨p, hp, hpb⟩ := List.mem_map.1 h4
          exact ⟨p, hp, hpb⟩
        simp only [setCells_more, Nat.add_assoc, Nat.reduceAdd] at h2 h5
        refine ⟨j + 1, g + 6, M2, by omega, by go_num, by go_num, by show _ = _; rw [hg.out]; omega, by have := hg.out; omega, ?_, h2, h5, h3.trans (hMb.symm.trans hM)⟩
        show Own _ _ _ _ _ _
        have hs : (marksIns k j ++ ss.drop j).set j (markIns (k + 6 * j)) = marksIns k (j + 1) ++ ss.drop (j + 1) := by
            rw [List.set_append_right _ _ (by rw [HML.out]; omega), HML.out, Nat.sub_self, List.drop_eq_getElem_cons (by rw [HN.out]; exact hlt), List.set_cons_zero, marksIns, marksIns, List.range_succ, List.map_append]
            simp
        rw [← hs, List.map_set, ← hg.out]
        exact h1
      case measure => simp [intOf]; omega
    · go_wp2
      go_ret
      have hjn : j = n := by omega
      subst hjn
      refine ⟨int_of (by rw [hg.out, HN.out]; omega), M, ?_, hH, ho, hM⟩
      have h4 := hO.out
      rw [List.drop_of_length_le (by rw [HN.out]; exact Nat.le_refl _), List.append_nil] at h4
      rw [HN.out]
      exact h4
set_option maxRecDepth 100000 in
theorem heldInsS_calls (v : Value) (L : Blocks) (k n : Nat) (q : Int) (hq : (k : Int) = q) (w : World) (h : Row 6 v ((marksIns k n).map Ins.cells) L) (H : Holds w L) (hk : k + 6 * n ≤ 1099511627776) :
    Calls Try.prog 36 #[v, .int .i64 q] w fun e w' => e = .returned (.int .i64 (q + 6 * n)) ∧ Below w.heap.size w w' := by
  subst hq
  obtain ⟨A, n', c, rfl⟩ := h.slice
  obtain ⟨hnl, hn⟩ := h.len'
  rw [List.length_map, show (marksIns k n).length = n by simp [marksIns]] at hnl
  subst hnl
  go_enter Try.func36, Try.ntmps36
  go_wp2
  go_loopw [5, 1] (fun i q wr => ∃ (j g : Nat), j ≤ n ∧ i = .int .i64 j ∧ q = .int .i64 g ∧ Hid (g = k + 6 * j) ∧ g ≤ 1099511627776 ∧ Below w.heap.size w wr) (fun i _ _ => n - (intOf i).toNat)
  case atStart => exact ⟨0, k, Nat.zero_le _, rfl, rfl, rfl, by omega, Below.refl _ _⟩
  case round =>
    obtain ⟨j, g, hj, rfl, rfl, hg, hg1, hb⟩ := hrel
    by_cases hlt : j < n
    · obtain ⟨b, off, rfl, hq⟩ := h.at_ (H.below hb) (k := j) (cs := (markIns g).cells) (by rw [List.getElem?_map, marksIns, List.getElem?_map, List.getElem?_range hlt, hg.out]; rfl)
      have q0 : wr.cell? ⟨b, off + j * 6, none⟩ = some (.int .i64 g) := hq 0 _ rfl
      have q1 : wr.cell? ⟨b, off + j * 6 + 1, none⟩ = some (.int .i64 ((g : Int) + 1)) := (hq 1 _ rfl).trans (congrArg (fun z => some (Value.int .i64 z)) (show (g : Int) + 1 = _ by omega))
      have q2 : wr.cell? ⟨b, off + j * 6 + 2, none⟩ = some (.int .i64 ((g : Int) + 1 + 1)) := (hq 2 _ rfl).trans (congrArg (fun z => some (Value.int .i64 z)) (show (g : Int) + 2 = _ by omega))
      have q3 : wr.cell? ⟨b, off + j * 6 + 3, none⟩ = some (.int .i64 ((g : Int) + 1 + 1 + 1)) := (hq 3 _ rfl).trans (congrArg (fun z => some (Value.int .i64 z)) (show (g : Int) + 3 = _ by omega))
      have q4 : wr.cell? ⟨b, off + j * 6 + 4, none⟩ = some (.int .i64 ((g : Int) + 1 + 1 + 1 + 1)) := (hq 4 _ rfl).trans (congrArg (fun z => some (Value.int .i64 z)) (show (g : Int) + 4 = _ by omega))
      have q5 : wr.cell? ⟨b, off + j * 6 + 5, none⟩ = some (.int .i64 ((g : Int) + 1 + 1 + 1 + 1 + 1)) := (hq 5 _ rfl).trans (congrArg (fun z => some (Value.int .i64 z)) (show (g : Int) + 5 = _ by omega))
      clear hq
      go_wp2
      go_roundw
      case rel => exact ⟨j + 1, g + 6, by omega, by go_num, by go_num, by show _ = _; rw [hg.out]; omega, by have := hg.out; omega, hb⟩
      case measure => simp [intOf]; omega
    · go_wp2
      go_ret
      exact ⟨int_of (by rw [hg.out]; omega), hb⟩
end Go.Proofs.Ytdpdclfanlbkjaa
