/- The walks of TableOk and of what it calls, of the program and of the reference. -/
import Derived.Test.YtoimeebildcofaaWRules
import Derived.Test.YtoimeebildcofaaShelf
namespace Go.Proofs.Ytoimeebildcofaa
open Go.RowKit
/-- A table as Go has it: the rows of its keys and of its slots. -/
def tabV (t : Table) (kv sv : Value) : Value := .agg #[.int .i64 t.kind, .int .i64 t.size, .int .i64 t.most, kv, sv]
theorem shaped_calls (t : Table) (kv sv : Value) (w : World) : Calls Try.prog 54 #[.agg #[.int .i64 t.kind, .int .i64 t.size, .int .i64 t.most, kv, sv]] w fun e w' => e = .returned (.bool t.shape) ∧ Below w.heap.size w w' := by
  go_enter Try.func54, Try.ntmps54
  go_wp2_with (first | (go_at_call 87; refine (within_calls _ _ _ _).mono ?_; rintro e w' ⟨rfl, hw'⟩; subst w'))
  all_goals (go_ret; refine ⟨bool_of ?_, below_alloc' (Below.refl _ _) _⟩)
  all_goals (simp only [Table.shape]; simp_all)
theorem l3Shape_calls (t : Table) (kv sv : Value) (L1 L2 : Blocks) (w : World) (h1 : Row 1 kv (t.keys.map intCell) L1) (h2 : Row 1 sv (t.slots.map strCell) L2) :
    Calls Try.prog 74 #[.agg #[.int .i64 t.kind, .int .i64 t.size, .int .i64 t.most, kv, sv]] w fun e w' => e = .returned (.bool (t.shape && (t.slots.length == t.keys.length && decide ((t.keys.length : Int) ≤ t.most)))) ∧ Below w.heap.size w w' := by
  obtain ⟨A1, n1, c1, rfl⟩ := h1.slice
  obtain ⟨A2, n2, c2, rfl⟩ := h2.slice
  have l1 := h1.len'.1
  have l2 := h2.len'.1
  rw [List.length_map] at l1 l2
  have HL1 := Lib.hid l1
  have HL2 := Lib.hid l2
  clear l1 l2
  go_enter Try.func74, Try.ntmps74
  go_wp2_with (first | (go_at_call 75; refine (l1In_calls _ _ _ _).mono ?_; rintro e w' ⟨rfl, hw'⟩; subst w'))
  all_goals (go_ret; refine ⟨bool_of ?_, below_alloc' (Below.refl _ _) _⟩)
  all_goals (simp only [Table.shape, HL1.out, HL2.out]; first | (simp_all; done) | (simp_all; omega))
theorem tbox_cells {w : World} {g : Nat} {t : Table} {kv sv : Value} {e : Nat} (h : w.heap[g]? = some (.cells #[.int .i64 t.kind, .int .i64 t.size, .int .i64 t.most, kv, sv] e)) :
    w.cell? ⟨g, 0, none⟩ = some (.int .i64 t.kind) ∧ w.cell? ⟨g, 1, none⟩ = some (.int .i64 t.size) ∧ w.cell? ⟨g, 2, none⟩ = some (.int .i64 t.most) ∧ w.cell? ⟨g, 3, none⟩ = some kv ∧ w.cell? ⟨g, 4, none⟩ = some sv := by
  simp [World.cell?, h]
theorem Table.ok_no {t : Table} (h : t.shape = false ∨ t.lens = false) : t.ok = false := by
  unfold Table.ok
  rcases h with h | h <;> simp [h]
theorem Table.ok_all {t : Table} (h1 : t.shape = true) (h2 : t.lens = true) : t.ok = (List.range t.keys.length).all t.okAt := by
  simp [Table.ok, h1, h2]
theorem Table.okAt_at {t : Table} {i : Nat} {k : Int} {s : ByteArray} (hk : t.keys[i]? = some k) (hs : t.slots[i]? = some s) :
    t.okAt i = ((s.size : Int) == t.size && inB k 0 4294967295 && (t.kind != 1 || k == (i : Int)) && (t.keys.take i).all (· != k)) := by
  simp only [Table.okAt, hk, hs]
set_option maxRecDepth 100000 in
set_option maxHeartbeats 1600000 in
theorem l3Ok_calls (t : Table) (kv sv : Value) (L1 L2 : Blocks) (w : World) (h1 : Row 1 kv (t.keys.map intCell) L1) (H1 : Holds w L1) (h2 : Row 1 sv (t.slots.map strCell) L2) (H2 : Holds w L2) :
    Calls Try.prog 32 #[.agg #[.int .i64 t.kind, .int .i64 t.size, .int .i64 t.most, kv, sv]] w fun e w' => e = .returned (.bool t.ok) ∧ Below w.heap.size w w' := by
  obtain ⟨A1, n1, c1, rfl⟩ := h1.slice
  obtain ⟨A2, n2, c2, rfl⟩ := h2.slice
  have l1 := h1.len'.1
  have l2 := h2.len'.1
  have hn1 := h1.len'.2
  rw [List.length_map] at l1 l2
  cases hS : (t.shape && (t.slots.length == t.keys.length && decide ((t.keys.length : Int) ≤ t.most))) with
  | false =>
    have hno : t.ok = false := Table.ok_no (by
      cases h : t.shape with
      | false => exact .inl rfl
      | true => right; rw [h, Bool.true_and] at hS; unfold Table.lens; rw [hS]; rfl)
    have HS := Lib.hid hS
    have HO := Lib.hid hno
    clear hS hno l1 l2
    go_enter Try.func32, Try.ntmps32
    go_wp2_with fail
    refine (l3Shape_calls t _ _ L1 L2 _ h1 h2).mono ?_
    rw [HS.out]
    rintro e w1 ⟨rfl, hb1⟩
    go_wp2
    go_ret
    exact ⟨bool_of (by rw [HO.out]), bnext (below_alloc' (Below.refl _ _) _) hb1⟩
  | true =>
    have HS := Lib.hid hS
    simp only [Bool.and_eq_true, beq_iff_eq, decide_eq_true_eq] at hS
    obtain ⟨hs1, hs2, hs3⟩ := hS
    by_cases hk1 : t.kind = 1 ∧ (n1 : Int) ≠ t.most
    · obtain ⟨hk1, hk2⟩ := hk1
      have hno : t.ok = false := Table.ok_no (.inr (by
        have e1 : (t.keys.length : Int) ≠ t.most := by rw [l1]; exact hk2
        simp [Table.lens, hk1, e1]))
      have HO := Lib.hid hno
      have hk3 : (t.kind == 1) = true := by rw [hk1]; rfl
      have hk4 : ((n1 : Int) != t.most) = true := by rw [bne_iff_ne]; exact hk2
      clear hno l1 l2 hk1 hk2 hs1 hs2 hs3
      go_enter Try.func32, Try.ntmps32
      go_wp2_with fail
      refine (l3Shape_calls t _ _ L1 L2 _ h1 h2).mono ?_
      rw [HS.out]
      rintro e w1 ⟨rfl, hb1⟩
      obtain ⟨c0, c1', c2', c3, c4⟩ := tbox_cells (((holds_new (w := w) rfl).below hb1) (_, _) (List.mem_singleton.2 rfl))
      go_wp2
      go_ret
      exact ⟨bool_of (by rw [HO.out]), bnext (below_alloc' (Below.refl _ _) _) hb1⟩
    · have hlens : t.lens = true := by
        simp only [Table.lens, Bool.and_eq_true, beq_iff_eq, decide_eq_true_eq, Bool.or_eq_true, bne_iff_ne]
        refine ⟨⟨hs2, hs3⟩, ?_⟩
        rw [l1]
        by_cases h : t.kind = 1
        · right
          rcases Decidable.em ((n1 : Int) = t.most) with h' | h'
          · exact h'
          · exact absurd ⟨h, h'⟩ hk1
        · exact .inl h
      have HA := Lib.hid (Table.ok_all hs1 hlens)
      have HK1 : Hid (¬ (t.kind = 1 ∧ (n1 : Int) ≠ t.most)) := hk1
      have HL1 := Lib.hid l1
      have HL2 : Hid (t.slots.length = n1) := by show _ = _; rw [hs2, l1]
      obtain rfl : n2 = n1 := by rw [← l2, ← l1]; exact hs2
      have hcond2 : (t.kind == 1) = true → ((n2 : Int) != t.most) = false := fun h => by
        rcases Decidable.em ((n2 : Int) = t.most) with h' | h'
        · simp [h']
        · exact absurd ⟨by simpa using h, h'⟩ hk1
      have HC := Lib.hid hcond2
      clear hlens l1 l2 hs1 hs2 hs3 hk1 HK1 hcond2
      cases hk : (t.kind == 1)
      · skip
        go_enter Try.func32, Try.ntmps32
        go_wp2_with fail
        refine (l3Shape_calls t _ _ L1 L2 _ h1 h2).mono ?_
        rw [HS.out]
        rintro e w1 ⟨rfl, hb1⟩
        have hBX := ((holds_new (w := w) (o := .cells #[.int .i64 t.kind, .int .i64 t.size, .int .i64 t.most, .slice A1 n2 c1, .slice A2 n2 c2] 27) rfl).below hb1)
        have hB1 := bnext (below_alloc' (Below.refl _ _) _) hb1
        obtain ⟨c0, c1', c2', c3, c4⟩ := tbox_cells hBX.get
        go_wp2
        clear c0 c1' c2' c3 c4
        go_loopw [3] (fun i wr => ∃ k : Nat, k ≤ n2 ∧ i = .int .i64 k ∧ Hid ((List.range k).all t.okAt = true) ∧ Below w1.heap.size w1 wr) (fun i _ => n2 - (intOf i).toNat)
        case atStart => exact ⟨0, Nat.zero_le _, rfl, rfl, Below.refl _ _⟩
        case round =>
          obtain ⟨k, hkn, rfl, hf, hb⟩ := hrel
          obtain ⟨c0, c1', c2', c3, c4⟩ := tbox_cells (hBX.below hb).get
          have hB := bnext hB1 hb
          by_cases hlt : k < n2
          · obtain ⟨key, hkey⟩ : ∃ x, t.keys[k]? = some x := ⟨_, List.getElem?_eq_getElem (by rw [HL1.out]; exact hlt)⟩
            obtain ⟨slot, hslot⟩ : ∃ x, t.slots[k]? = some x := ⟨_, List.getElem?_eq_getElem (by rw [HL2.out]; exact hlt)⟩
            obtain ⟨b1, o1, hA1, q1⟩ := h1.at_ (H1.below hB) (k := k) (cs := intCell key) (by simp [hkey])
            obtain ⟨b2, o2, hA2, q2⟩ := h2.at_ (H2.below hB) (k := k) (cs := strCell slot) (by simp [hslot])
            have p1 : wr.cell? ⟨b1, o1 + k * 1, none⟩ = some (.int .i64 key) := q1 0 _ rfl
            have p2 : wr.cell? ⟨b2, o2 + k * 1, none⟩ = some (.string slot) := q2 0 _ rfl
            rw [Nat.mul_one] at p1 p2
            have HOK := Lib.hid (Table.okAt_at hkey hslot)
            have HKEY := Lib.hid hkey
            subst hA1 hA2
            clear q1 q2 hslot hkey
            go_wp2
            refine wp_region_quiet_lit (by kernel_rfl) (by kernel_rfl) ?_
            repeat (any_goals (first | go_big_quiet_step (first | (go_at_call 75; exact Calls.quiet_of_same (l1In_calls _ _ _ _)) | (go_at_call 76; exact Calls.quiet_of_same (l2Top_calls _))) | quiet_step (first | (go_at_call 75; exact Calls.quiet_of_same (l1In_calls _ _ _ _)) | (go_at_call 76; exact Calls.quiet_of_same (l2Top_calls _))) | (refine wpQuiet_step (fun K hK => ?_); go_simp; split <;> (refine hK _ ?_; clear hK K))))
            all_goals (refine wpQuiet_nil ?_; intro _ hw'; obtain ⟨nq, hw''⟩ := hw'; subst hw'')
            all_goals go_wp2
            all_goals first
              | (go_ret
                 refine ⟨bool_of ?_, below_drewN' hB _⟩
                 symm
                 rw [HA.out, HL1.out]
                 refine range_all_false hlt ?_
                 rw [HOK.out]
                 simp_all
                 done)
              | skip
            have hpre : Hid (t.okAt k = (t.keys.take k).all (· != key)) := by
              show _ = _
              rw [HOK.out]
              simp_all
            clear p2 c0 c1' c2' c3 c4 HOK
            go_loopw [4] (fun i wv => ∃ j : Nat, j ≤ k ∧ i = .int .i64 j ∧ Hid ((t.keys.take j).all (· != key) = true) ∧ Below wr.heap.size wr wv) (fun i _ => k - (intOf i).toNat)
            case atStart => exact ⟨0, Nat.zero_le _, rfl, rfl, below_drewN' (Below.refl _ _) _⟩
            case round =>
              obtain ⟨j, hj, rfl, hg, hbv⟩ := hrel
              have hBv := bnext hB hbv
              by_cases hjk : j < k
              · obtain ⟨key2, hkey2⟩ : ∃ x, t.keys[j]? = some x := ⟨_, List.getElem?_eq_getElem (by rw [HL1.out]; omega)⟩
                obtain ⟨b1', o1', hA1, q1⟩ := h1.at_ (H1.below hBv) (k := j) (cs := intCell key2) (by simp [hkey2])
                obtain ⟨b1'', o1'', hA1'', q1'⟩ := h1.at_ (H1.below hBv) (k := k) (cs := intCell key) (by simp [HKEY.out])
                simp only [Option.some.injEq, Addr.mk.injEq, and_true] at hA1 hA1''
                obtain ⟨rfl, rfl⟩ := hA1
                obtain ⟨rfl, rfl⟩ := hA1''
                have p1 := q1 0 _ rfl
                have p2 := q1' 0 _ rfl
                rw [Nat.mul_one, Nat.add_zero] at p1 p2
                obtain ⟨c0, c1', c2', c3, c4⟩ := tbox_cells (hBX.below (bnext hb hbv)).get
                have HK2 := Lib.hid hkey2
                clear q1 q1' hkey2
                go_wp2
                refine wp_region_quiet_lit (by kernel_rfl) (by kernel_rfl) ?_
                repeat (any_goals (first | go_big_quiet_step (fail) | quiet_step (fail) | (refine wpQuiet_step (fun K hK => ?_); go_simp; split <;> (refine hK _ ?_; clear hK K))))
                all_goals (refine wpQuiet_nil ?_; intro _ hw'; obtain ⟨nq, hw''⟩ := hw'; subst hw'')
                go_wp2
                · go_ret
                  refine ⟨bool_of ?_, below_drewN' hBv _⟩
                  symm
                  rw [HA.out, HL1.out]
                  refine range_all_false hlt ?_
                  rw [hpre.out, List.all_eq_false]
                  exact ⟨key2, List.mem_take_iff_getElem.2 ⟨j, by rw [HL1.out]; omega, (List.getElem?_eq_some_iff.1 HK2.out).2⟩, by simp_all⟩
                · go_roundw
                  case rel => exact ⟨j + 1, by omega, by go_num, by show _ = _; rw [all_take_succ HK2.out, hg.out]; simp_all, below_drewN' hbv _⟩
                  case measure => simp [intOf]; omega
              · have hjk' : j = k := by omega
                subst hjk'
                obtain ⟨c0, c1', c2', c3, c4⟩ := tbox_cells (hBX.below (bnext hb hbv)).get
                go_wp2
                go_roundw
                case rel => exact ⟨j + 1, by omega, by go_num, range_all_succ hf.out (by rw [hpre.out]; exact hg.out), bnext hb hbv⟩
                case measure => simp [intOf]; omega
          · go_wp2
            go_ret
            have hkn' : k = n2 := by omega
            subst hkn'
            exact ⟨bool_of (by rw [HA.out, HL1.out]; exact hf.out.symm), hB⟩
      · have hm := HC.out hk
        go_enter Try.func32, Try.ntmps32
        go_wp2_with fail
        refine (l3Shape_calls t _ _ L1 L2 _ h1 h2).mono ?_
        rw [HS.out]
        rintro e w1 ⟨rfl, hb1⟩
        have hBX := ((holds_new (w := w) (o := .cells #[.int .i64 t.kind, .int .i64 t.size, .int .i64 t.most, .slice A1 n2 c1, .slice A2 n2 c2] 27) rfl).below hb1)
        have hB1 := bnext (below_alloc' (Below.refl _ _) _) hb1
        obtain ⟨c0, c1', c2', c3, c4⟩ := tbox_cells hBX.get
        go_wp2
        clear c0 c1' c2' c3 c4
        go_loopw [3] (fun i wr => ∃ k : Nat, k ≤ n2 ∧ i = .int .i64 k ∧ Hid ((List.range k).all t.okAt = true) ∧ Below w1.heap.size w1 wr) (fun i _ => n2 - (intOf i).toNat)
        case atStart => exact ⟨0, Nat.zero_le _, rfl, rfl, Below.refl _ _⟩
        case round =>
          obtain ⟨k, hkn, rfl, hf, hb⟩ := hrel
          obtain ⟨c0, c1', c2', c3, c4⟩ := tbox_cells (hBX.below hb).get
          have hB := bnext hB1 hb
          by_cases hlt : k < n2
          · obtain ⟨key, hkey⟩ : ∃ x, t.keys[k]? = some x := ⟨_, List.getElem?_eq_getElem (by rw [HL1.out]; exact hlt)⟩
            obtain ⟨slot, hslot⟩ : ∃ x, t.slots[k]? = some x := ⟨_, List.getElem?_eq_getElem (by rw [HL2.out]; exact hlt)⟩
            obtain ⟨b1, o1, hA1, q1⟩ := h1.at_ (H1.below hB) (k := k) (cs := intCell key) (by simp [hkey])
            obtain ⟨b2, o2, hA2, q2⟩ := h2.at_ (H2.below hB) (k := k) (cs := strCell slot) (by simp [hslot])
            have p1 : wr.cell? ⟨b1, o1 + k * 1, none⟩ = some (.int .i64 key) := q1 0 _ rfl
            have p2 : wr.cell? ⟨b2, o2 + k * 1, none⟩ = some (.string slot) := q2 0 _ rfl
            rw [Nat.mul_one] at p1 p2
            have HOK := Lib.hid (Table.okAt_at hkey hslot)
            have HKEY := Lib.hid hkey
            subst hA1 hA2
            clear q1 q2 hslot hkey
            go_wp2
            refine wp_region_quiet_lit (by kernel_rfl) (by kernel_rfl) ?_
            repeat (any_goals (first | go_big_quiet_step (first | (go_at_call 75; exact Calls.quiet_of_same (l1In_calls _ _ _ _)) | (go_at_call 76; exact Calls.quiet_of_same (l2Top_calls _))) | quiet_step (first | (go_at_call 75; exact Calls.quiet_of_same (l1In_calls _ _ _ _)) | (go_at_call 76; exact Calls.quiet_of_same (l2Top_calls _))) | (refine wpQuiet_step (fun K hK => ?_); go_simp; split <;> (refine hK _ ?_; clear hK K))))
            all_goals (refine wpQuiet_nil ?_; intro _ hw'; obtain ⟨nq, hw''⟩ := hw'; subst hw'')
            all_goals go_wp2
            all_goals first
              | (go_ret
                 refine ⟨bool_of ?_, below_drewN' hB _⟩
                 symm
                 rw [HA.out, HL1.out]
                 refine range_all_false hlt ?_
                 rw [HOK.out]
                 simp_all
                 done)
              | skip
            have hpre : Hid (t.okAt k = (t.keys.take k).all (· != key)) := by
              show _ = _
              rw [HOK.out]
              simp_all
            clear p2 c0 c1' c2' c3 c4 HOK
            go_loopw [4] (fun i wv => ∃ j : Nat, j ≤ k ∧ i = .int .i64 j ∧ Hid ((t.keys.take j).all (· != key) = true) ∧ Below wr.heap.size wr wv) (fun i _ => k - (intOf i).toNat)
            case atStart => exact ⟨0, Nat.zero_le _, rfl, rfl, below_drewN' (Below.refl _ _) _⟩
            case round =>
              obtain ⟨j, hj, rfl, hg, hbv⟩ := hrel
              have hBv := bnext hB hbv
              by_cases hjk : j < k
              · obtain ⟨key2, hkey2⟩ : ∃ x, t.keys[j]? = some x := ⟨_, List.getElem?_eq_getElem (by rw [HL1.out]; omega)⟩
                obtain ⟨b1', o1', hA1, q1⟩ := h1.at_ (H1.below hBv) (k := j) (cs := intCell key2) (by simp [hkey2])
                obtain ⟨b1'', o1'', hA1'', q1'⟩ := h1.at_ (H1.below hBv) (k := k) (cs := intCell key) (by simp [HKEY.out])
                simp only [Option.some.injEq, Addr.mk.injEq, and_true] at hA1 hA1''
                obtain ⟨rfl, rfl⟩ := hA1
                obtain ⟨rfl, rfl⟩ := hA1''
                have p1 := q1 0 _ rfl
                have p2 := q1' 0 _ rfl
                rw [Nat.mul_one, Nat.add_zero] at p1 p2
                obtain ⟨c0, c1', c2', c3, c4⟩ := tbox_cells (hBX.below (bnext hb hbv)).get
                have HK2 := Lib.hid hkey2
                clear q1 q1' hkey2
                go_wp2
                refine wp_region_quiet_lit (by kernel_rfl) (by kernel_rfl) ?_
                repeat (any_goals (first | go_big_quiet_step (fail) | quiet_step (fail) | (refine wpQuiet_step (fun K hK => ?_); go_simp; split <;> (refine hK _ ?_; clear hK K))))
                all_goals (refine wpQuiet_nil ?_; intro _ hw'; obtain ⟨nq, hw''⟩ := hw'; subst hw'')
                go_wp2
                · go_ret
                  refine ⟨bool_of ?_, below_drewN' hBv _⟩
                  symm
                  rw [HA.out, HL1.out]
                  refine range_all_false hlt ?_
                  rw [hpre.out, List.all_eq_false]
                  exact ⟨key2, List.mem_take_iff_getElem.2 ⟨j, by rw [HL1.out]; omega, (List.getElem?_eq_some_iff.1 HK2.out).2⟩, by simp_all⟩
                · go_roundw
                  case rel => exact ⟨j + 1, by omega, by go_num, by show _ = _; rw [all_take_succ HK2.out, hg.out]; simp_all, below_drewN' hbv _⟩
                  case measure => simp [intOf]; omega
              · have hjk' : j = k := by omega
                subst hjk'
                obtain ⟨c0, c1', c2', c3, c4⟩ := tbox_cells (hBX.below (bnext hb hbv)).get
                go_wp2
                go_roundw
                case rel => exact ⟨j + 1, by omega, by go_num, range_all_succ hf.out (by rw [hpre.out]; exact hg.out), bnext hb hbv⟩
                case measure => simp [intOf]; omega
          · go_wp2
            go_ret
            have hkn' : k = n2 := by omega
            subst hkn'
            exact ⟨bool_of (by rw [HA.out, HL1.out]; exact hf.out.symm), hB⟩
set_option maxRecDepth 100000 in
theorem indexInt_calls (v : Value) (ks : List Int) (L : Blocks) (x : Int) (w : World) (h : Row 1 v (ks.map intCell) L) (H : Holds w L) :
    Calls Try.prog 81 #[v, .int .i64 x] w fun e w' => e = .returned (.int .i64 (indexOf (· == x) ks)) ∧ w' = w := by
  obtain ⟨A, n, c, rfl⟩ := h.slice
  obtain ⟨hnl, hn⟩ := h.len'
  rw [List.length_map] at hnl
  have HN := Lib.hid hnl
  clear hnl
  go_enter Try.func81, Try.ntmps81
  go_wp2
  go_loopw [8] (fun i wr => ∃ k : Nat, k ≤ n ∧ i = .int .i64 k ∧ Hid ((ks.take k).any (· == x) = false) ∧ wr = w) (fun i _ => n - (intOf i).toNat)
  case atStart => exact ⟨0, Nat.zero_le _, rfl, rfl, rfl⟩
  case round =>
    obtain ⟨k, hk, rfl, hf, hwr⟩ := hrel
    by_cases hlt : k < n
    · obtain ⟨y, hy⟩ : ∃ y, ks[k]? = some y := ⟨_, List.getElem?_eq_getElem (by rw [HN.out]; exact hlt)⟩
      obtain ⟨b, off, rfl, hq⟩ := h.at_ (w := wr) (by rw [hwr]; exact H) (k := k) (cs := intCell y) (by simp [hy])
      have q0 : wr.cell? ⟨b, off + k * 1, none⟩ = some (.int .i64 y) := hq 0 _ rfl
      rw [Nat.mul_one] at q0
      have HY := Lib.hid hy
      have HW := Lib.hid hwr
      clear hq hy hwr
      by_cases hxy : x = y
      · have HX : Hid (ks.findIdx? (· == x) = some k) := findIdx_take HY.out hf.out (by simp [hxy])
        have hb : (x == y) = true := by simp [hxy]
        clear hxy
        go_wp2
        go_ret
        exact ⟨int_of (by simp only [indexOf, HX.out]), HW.out⟩
      · have HX : Hid ((ks.take (k + 1)).any (· == x) = false) := by
          show _ = _
          rw [any_take_succ HY.out, hf.out]
          simp
          exact fun h => hxy h.symm
        have hb : (x == y) = false := by simp [hxy]
        clear hxy
        go_wp2
        go_roundw
        case rel => exact ⟨k + 1, by omega, by go_num, HX, HW.out⟩
        case measure => simp [intOf]; omega
    · go_wp2
      go_ret
      have h3 := hf.out
      rw [List.take_of_length_le (by rw [HN.out]; omega)] at h3
      exact ⟨int_of (by simp only [indexOf, findIdx_none h3]), rfl⟩
theorem find_calls (t : Table) (kv sv : Value) (L1 : Blocks) (x : Int) (w : World) (h1 : Row 1 kv (t.keys.map intCell) L1) (H1 : Holds w L1) :
    Calls Try.prog 39 #[.agg #[.int .i64 t.kind, .int .i64 t.size, .int .i64 t.most, kv, sv], .int .i64 x] w fun e w' => e = .returned (.int .i64 (indexOf (· == x) t.keys)) ∧ Below w.heap.size w w' := by
  go_enter Try.func39, Try.ntmps39
  go_wp2_with (go_at_call 81; refine (indexInt_calls _ _ L1 x _ h1 (H1.alloc _)).mono ?_; rintro e w' ⟨rfl, hw'⟩; subst w')
  go_ret
  exact ⟨rfl, below_alloc' (Below.refl _ _) _⟩
end Go.Proofs.Ytoimeebildcofaa
