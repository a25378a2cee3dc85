/- The walks of the program's TableOk and TableLook. -/
import Derived.Test.YtoimeebildcofaaWTab
namespace Go.Proofs.Ytoimeebildcofaa
open Go.RowKit
set_option maxRecDepth 100000 in
set_option maxHeartbeats 1600000 in
theorem tableOk_calls (t : Table) (kv sv : Value) (L1 L2 : Blocks) (w : World) (h1 : Row 1 kv (t.keys.map intCell) L1) (H1 : Holds w L1) (h2 : Row 1 sv (t.slots.map strCell) L2) (H2 : Holds w L2) :
    Calls Try.prog 16 #[.agg #[.int .i64 t.kind, .int .i64 t.size, .int .i64 t.most, kv, sv]] w fun e w' => e = .returned (.bool t.ok) ∧ Below w.heap.size w w' := by
  obtain ⟨A1, n1, c1, rfl⟩ := h1.slice
  obtain ⟨A2, n2, c2, rfl⟩ := h2.slice
  have l1 := h1.len'.1
  have l2 := h2.len'.1
  have hn1 := h1.len'.2
  have hn2 := h2.len'.2
  rw [List.length_map] at l1 l2
  cases hS : (t.shape && t.lens) with
  | false =>
    have hno : t.ok = false := Table.ok_no (by
      cases h : t.shape with
      | false => exact .inl rfl
      | true => right; rw [h, Bool.true_and] at hS; exact hS)
    have HO := Lib.hid hno
    have HS : Hid (t.shape = true → n2 = n1 → (n1 : Int) ≤ t.most → (t.kind = 1 ∧ (n1 : Int) ≠ t.most)) := by
      intro g1 g2 g3
      rw [g1, Bool.true_and] at hS
      simp only [Table.lens, l1, l2] at hS
      subst g2
      simp only [beq_self_eq_true, g3, decide_true, Bool.true_and] at hS
      simpa using hS
    clear hS hno l1 l2
    go_enter Try.func16, Try.ntmps16
    go_wp2_with fail
    refine (shaped_calls t _ _ _).mono ?_
    rintro e w1 ⟨rfl, hb1⟩
    obtain ⟨c0, c1', c2', c3, c4⟩ := tbox_cells (((holds_new (w := w) rfl).below hb1) (_, _) (List.mem_singleton.2 rfl))
    go_wp2
    all_goals first
      | (go_ret; exact ⟨bool_of (by rw [HO.out]), bnext (below_alloc' (Below.refl _ _) _) hb1⟩)
      | (exfalso; have := HS.out (by assumption) (by omega) (by omega); simp_all)
  | true =>
    simp only [Bool.and_eq_true] at hS
    obtain ⟨hs1, hlens⟩ := hS
    have HA := Lib.hid (Table.ok_all hs1 hlens)
    have HL1 := Lib.hid l1
    simp only [Table.lens, Bool.and_eq_true, beq_iff_eq, decide_eq_true_eq, Bool.or_eq_true, bne_iff_ne, l1, l2] at hlens
    obtain ⟨⟨hs2, hs3⟩, hs4⟩ := hlens
    subst hs2
    have HL2 := Lib.hid l2
    have HS1 := Lib.hid hs1
    have HC : Hid ((t.kind == 1) = true → ((n2 : Int) != t.most) = false) := by
      intro h
      have h' : t.kind = 1 := by simpa using h
      rcases hs4 with h4 | h4
      · exact absurd h' h4
      · simp [h4]
    have hs5 : ¬ (t.most < (n2 : Int)) := by omega
    clear hs1 hs4 l1 l2
    cases hk : (t.kind == 1)
    · skip
      go_enter Try.func16, Try.ntmps16
      go_wp2_with fail
      refine (shaped_calls t _ _ _).mono ?_
      rw [HS1.out]
      rintro e w1 ⟨rfl, hb1⟩
      have hBX := ((holds_new (w := w) (o := .cells #[.int .i64 t.kind, .int .i64 t.size, .int .i64 t.most, .slice A1 n2 c1, .slice A2 n2 c2] 27) rfl).below hb1)
      have hB1 := bnext (below_alloc' (Below.refl _ _) _) hb1
      obtain ⟨c0, c1', c2', c3, c4⟩ := tbox_cells hBX.get
      go_wp2
      clear c0 c1' c2' c3 c4
      go_loopw [41] (fun i wr => ∃ k : Nat, k ≤ n2 ∧ i = .int .i64 k ∧ Hid ((List.range k).all t.okAt = true) ∧ Below w1.heap.size w1 wr) (fun i _ => n2 - (intOf i).toNat)
      case atStart => exact ⟨0, Nat.zero_le _, rfl, rfl, Below.refl _ _⟩
      case round =>
        obtain ⟨k, hkn, rfl, hf, hb⟩ := hrel
        have hB := bnext hB1 hb
        by_cases hlt : k < n2
        · obtain ⟨key, hkey⟩ : ∃ x, t.keys[k]? = some x := ⟨_, List.getElem?_eq_getElem (by rw [HL1.out]; exact hlt)⟩
          obtain ⟨slot, hslot⟩ : ∃ x, t.slots[k]? = some x := ⟨_, List.getElem?_eq_getElem (by rw [HL2.out]; exact hlt)⟩
          obtain ⟨b1, o1, hA1, q1⟩ := h1.at_ (H1.below hB) (k := k) (cs := intCell key) (by simp [hkey])
          obtain ⟨b2, o2, hA2, q2⟩ := h2.at_ (H2.below hB) (k := k) (cs := strCell slot) (by simp [hslot])
          have p1 : wr.cell? ⟨b1, o1 + k * 1, none⟩ = some (.int .i64 key) := q1 0 _ rfl
          have p2 : wr.cell? ⟨b2, o2 + k * 1, none⟩ = some (.string slot) := q2 0 _ rfl
          rw [Nat.mul_one] at p1 p2
          obtain ⟨c0, c1', c2', c3, c4⟩ := tbox_cells (hBX.below hb).get
          have r0 := cell_regrown c0
          have r1 := cell_regrown c1'
          have r2 := cell_regrown c2'
          have r3 := cell_regrown c3
          have r4 := cell_regrown c4
          have r5 := cell_regrown p2
          have HOK := Lib.hid (Table.okAt_at hkey hslot)
          have HIX := Lib.hid (indexOf_at hkey)
          subst hA1 hA2
          clear q1 q2 hslot hkey
          go_wp2
          refine wp_region_quiet_below (w := wr) (by kernel_rfl) (by kernel_rfl) ?_
          repeat (any_goals (first | go_big_quiet_step (first | (go_at_call 55; refine Calls.regrown_of ((numOk_calls _ _).mono (fun e w' ⟨he, hw'⟩ => ⟨he, by rw [hw']; exact Below.refl _ _⟩))) | (go_at_call 39; refine Calls.regrown_of (find_calls t _ _ L1 _ _ h1 ((H1.below hB).below (below_regrown _ _ _))))) | quiet_step (first | (go_at_call 55; refine Calls.regrown_of ((numOk_calls _ _).mono (fun e w' ⟨he, hw'⟩ => ⟨he, by rw [hw']; exact Below.refl _ _⟩))) | (go_at_call 39; refine Calls.regrown_of (find_calls t _ _ L1 _ _ h1 ((H1.below hB).below (below_regrown _ _ _))))) | (refine wpQuiet_step (fun K hK => ?_); go_simp; split <;> (refine hK _ ?_; clear hK K))))
          all_goals (refine wpQuiet_nil ?_; intro _ hw'; obtain ⟨⟨dq, osq⟩, hw''⟩ := hw'; subst hw''; have hq := below_regrown wr dq osq; generalize Sort.grow (redrawn wr dq) osq = wq at *)
          all_goals go_wp2
          all_goals have hix := HIX.out
          all_goals first
            | (go_ret
               refine ⟨bool_of ?_, bnext hB hq⟩
               symm
               rw [HA.out, HL1.out]
               refine range_all_false hlt ?_
               rw [HOK.out, ← hix]
               simp_all
               done)
            | skip
          go_roundw
          case rel => exact ⟨k + 1, by omega, by go_num, range_all_succ hf.out (by rw [HOK.out, ← hix]; simp_all), bnext hb hq⟩
          case measure => simp [intOf]; omega
        · go_wp2
          go_ret
          have hkn' : k = n2 := by omega
          subst hkn'
          exact ⟨bool_of (by rw [HA.out, HL1.out]; exact hf.out.symm), hB⟩
    · have hm := HC.out hk
      go_enter Try.func16, Try.ntmps16
      go_wp2_with fail
      refine (shaped_calls t _ _ _).mono ?_
      rw [HS1.out]
      rintro e w1 ⟨rfl, hb1⟩
      have hBX := ((holds_new (w := w) (o := .cells #[.int .i64 t.kind, .int .i64 t.size, .int .i64 t.most, .slice A1 n2 c1, .slice A2 n2 c2] 27) rfl).below hb1)
      have hB1 := bnext (below_alloc' (Below.refl _ _) _) hb1
      obtain ⟨c0, c1', c2', c3, c4⟩ := tbox_cells hBX.get
      go_wp2
      clear c0 c1' c2' c3 c4
      go_loopw [41] (fun i wr => ∃ k : Nat, k ≤ n2 ∧ i = .int .i64 k ∧ Hid ((List.range k).all t.okAt = true) ∧ Below w1.heap.size w1 wr) (fun i _ => n2 - (intOf i).toNat)
      case atStart => exact ⟨0, Nat.zero_le _, rfl, rfl, Below.refl _ _⟩
      case round =>
        obtain ⟨k, hkn, rfl, hf, hb⟩ := hrel
        have hB := bnext hB1 hb
        by_cases hlt : k < n2
        · obtain ⟨key, hkey⟩ : ∃ x, t.keys[k]? = some x := ⟨_, List.getElem?_eq_getElem (by rw [HL1.out]; exact hlt)⟩
          obtain ⟨slot, hslot⟩ : ∃ x, t.slots[k]? = some x := ⟨_, List.getElem?_eq_getElem (by rw [HL2.out]; exact hlt)⟩
          obtain ⟨b1, o1, hA1, q1⟩ := h1.at_ (H1.below hB) (k := k) (cs := intCell key) (by simp [hkey])
          obtain ⟨b2, o2, hA2, q2⟩ := h2.at_ (H2.below hB) (k := k) (cs := strCell slot) (by simp [hslot])
          have p1 : wr.cell? ⟨b1, o1 + k * 1, none⟩ = some (.int .i64 key) := q1 0 _ rfl
          have p2 : wr.cell? ⟨b2, o2 + k * 1, none⟩ = some (.string slot) := q2 0 _ rfl
          rw [Nat.mul_one] at p1 p2
          obtain ⟨c0, c1', c2', c3, c4⟩ := tbox_cells (hBX.below hb).get
          have r0 := cell_regrown c0
          have r1 := cell_regrown c1'
          have r2 := cell_regrown c2'
          have r3 := cell_regrown c3
          have r4 := cell_regrown c4
          have r5 := cell_regrown p2
          have HOK := Lib.hid (Table.okAt_at hkey hslot)
          have HIX := Lib.hid (indexOf_at hkey)
          subst hA1 hA2
          clear q1 q2 hslot hkey
          go_wp2
          refine wp_region_quiet_below (w := wr) (by kernel_rfl) (by kernel_rfl) ?_
          repeat (any_goals (first | go_big_quiet_step (first | (go_at_call 55; refine Calls.regrown_of ((numOk_calls _ _).mono (fun e w' ⟨he, hw'⟩ => ⟨he, by rw [hw']; exact Below.refl _ _⟩))) | (go_at_call 39; refine Calls.regrown_of (find_calls t _ _ L1 _ _ h1 ((H1.below hB).below (below_regrown _ _ _))))) | quiet_step (first | (go_at_call 55; refine Calls.regrown_of ((numOk_calls _ _).mono (fun e w' ⟨he, hw'⟩ => ⟨he, by rw [hw']; exact Below.refl _ _⟩))) | (go_at_call 39; refine Calls.regrown_of (find_calls t _ _ L1 _ _ h1 ((H1.below hB).below (below_regrown _ _ _))))) | (refine wpQuiet_step (fun K hK => ?_); go_simp; split <;> (refine hK _ ?_; clear hK K))))
          all_goals (refine wpQuiet_nil ?_; intro _ hw'; obtain ⟨⟨dq, osq⟩, hw''⟩ := hw'; subst hw''; have hq := below_regrown wr dq osq; generalize Sort.grow (redrawn wr dq) osq = wq at *)
          all_goals go_wp2
          all_goals have hix := HIX.out
          all_goals first
            | (go_ret
               refine ⟨bool_of ?_, bnext hB hq⟩
               symm
               rw [HA.out, HL1.out]
               refine range_all_false hlt ?_
               rw [HOK.out, ← hix]
               simp_all
               done)
            | skip
          go_roundw
          case rel => exact ⟨k + 1, by omega, by go_num, range_all_succ hf.out (by rw [HOK.out, ← hix]; simp_all), bnext hb hq⟩
          case measure => simp [intOf]; omega
        · go_wp2
          go_ret
          have hkn' : k = n2 := by omega
          subst hkn'
          exact ⟨bool_of (by rw [HA.out, HL1.out]; exact hf.out.symm), hB⟩
end Go.Proofs.Ytoimeebildcofaa
