/- The walks of RulesOf, of the program and of the reference, and of the law FnExactRulesOf. -/
import Derived.Test.YtoimeebildcofaaLawRules
namespace Go.Proofs.Ytoimeebildcofaa
open Go.RowKit
theorem spec.l2Holds_calls (op a b : Int) (w : World) : Calls Try.prog 105 #[.int .i64 op, .int .i64 a, .int .i64 b] w fun e w' => e = .returned (.bool (holdsB op a b)) ∧ w' = w := by
  by_cases h1 : op = 12
  · subst h1
    go_enter Try.func105, Try.ntmps105
    go_wp2
    go_ret
    exact ⟨bool_of (by simp [holdsB]), rfl⟩
  · by_cases h2 : op = 13
    · subst h2
      go_enter Try.func105, Try.ntmps105
      go_wp2
      go_ret
      exact ⟨bool_of (by simp [holdsB]), rfl⟩
    · by_cases h3 : op = 14
      · subst h3
        go_enter Try.func105, Try.ntmps105
        go_wp2
        go_ret
        exact ⟨bool_of (by simp [holdsB]), rfl⟩
      · go_enter Try.func105, Try.ntmps105
        go_wp2
        go_ret
        exact ⟨bool_of (by simp [holdsB, h1, h2, h3]), rfl⟩
theorem impl.holds_calls (op a b : Int) (w : World) : Calls Try.prog 73 #[.int .i64 op, .int .i64 a, .int .i64 b] w fun e w' => e = .returned (.bool (holdsB op a b)) ∧ w' = w := by
  by_cases h1 : op = 12
  · subst h1
    go_enter Try.func73, Try.ntmps73
    go_wp2
    go_ret
    exact ⟨bool_of (by simp [holdsB]), rfl⟩
  · by_cases h2 : op = 13
    · subst h2
      go_enter Try.func73, Try.ntmps73
      go_wp2
      go_ret
      exact ⟨bool_of (by simp [holdsB]), rfl⟩
    · by_cases h3 : op = 14
      · subst h3
        go_enter Try.func73, Try.ntmps73
        go_wp2
        go_ret
        exact ⟨bool_of (by simp [holdsB]), rfl⟩
      · go_enter Try.func73, Try.ntmps73
        go_wp2
        go_ret
        exact ⟨bool_of (by simp [holdsB, h1, h2, h3]), rfl⟩
theorem Rule.ok_at {r : Rule} (h : r.ok = true) : 0 ≤ r.at_ ∧ r.at_ ≤ 11 := by
  simp only [Rule.ok, inB, Bool.and_eq_true, decide_eq_true_eq] at h
  omega
set_option maxRecDepth 100000 in
theorem l9Of_calls (v : Value) (rs : List Rule) (L : Blocks) (x : ByteArray) (w : World) (h : Row 5 v (rs.map Rule.cells) L) (H : Holds w L) (hok : rs.all Rule.ok = true) (hx : x.size = 12) :
    Calls Try.prog 71 #[v, .string x] w fun e w' => e = .returned (.tuple #[.int .i64 (ruled rs x).1, .int .i64 (ruled rs x).2]) ∧ Below w.heap.size w w' := by
  obtain ⟨A, n, c, rfl⟩ := h.slice
  obtain ⟨hnl, hn⟩ := h.len'
  rw [List.length_map] at hnl
  have HN := Lib.hid hnl
  have HO := Lib.hid hok
  have HX := Lib.hid hx
  clear hnl hok hx
  go_enter Try.func71, Try.ntmps71
  go_wp2
  go_loopw [6] (fun i wr => ∃ k : Nat, k ≤ n ∧ i = .int .i64 k ∧ Hid ((rs.take k).any (Rule.holds x) = false) ∧ Below w.heap.size w wr) (fun i _ => n - (intOf i).toNat)
  case atStart => exact ⟨0, Nat.zero_le _, rfl, rfl, Below.refl _ _⟩
  case round =>
    obtain ⟨k, hk, rfl, hf, hb⟩ := hrel
    by_cases hlt : k < n
    · obtain ⟨r, hr⟩ : ∃ r, rs[k]? = some r := ⟨_, List.getElem?_eq_getElem (by rw [HN.out]; exact hlt)⟩
      have hrok := List.all_eq_true.1 HO.out r (List.mem_of_getElem? hr)
      obtain ⟨ha0, ha1⟩ := Rule.ok_at hrok
      have HR := Lib.hid hr
      clear hr hrok
      obtain ⟨b, off, rfl, hq⟩ := h.at_ (H.below hb) (k := k) (cs := r.cells) (by simp [HR.out])
      have q0 : wr.cell? ⟨b, off + k * 5, none⟩ = some (.int .i64 r.at_) := hq 0 _ rfl
      have q1 := hq 1 _ rfl
      have q2 := hq 2 _ rfl
      have q3 := hq 3 _ rfl
      have q4 := hq 4 _ rfl
      obtain ⟨a, ha⟩ : ∃ a : Nat, r.at_ = (a : Int) := ⟨r.at_.toNat, by omega⟩
      have ha2 : a < x.size := by have := HX.out; omega
      have ha3 : (a : Int) < (x.size : Int) := by omega
      have hb0 : (0 : Int) ≤ (x[a].toNat : Int) := by omega
      have hb1 : (x[a].toNat : Int) ≤ 255 := by have := x[a].toNat_lt; omega
      have HB := Lib.hid (byteAt_at ha2)
      have HA := Lib.hid ha
      rw [ha] at q0
      clear hq ha0 ha1 ha
      go_wp2
      refine wp_region_quiet_lit (by kernel_rfl) (by kernel_rfl) ?_
      repeat (any_goals (first | go_big_quiet_step ((go_at_call 105; exact Calls.quiet_of_same (spec.l2Holds_calls _ _ _ _))) | quiet_step ((go_at_call 105; exact Calls.quiet_of_same (spec.l2Holds_calls _ _ _ _))) | (refine wpQuiet_step (fun K hK => ?_); go_simp; split <;> (refine hK _ ?_; clear hK K))))
      all_goals (refine wpQuiet_nil ?_; intro _ hw'; obtain ⟨nq, hw''⟩ := hw'; subst hw'')
      go_wp2
      · refine wp_region_quiet_lit (by kernel_rfl) (by kernel_rfl) ?_
        repeat (any_goals (first | go_big_quiet_step (fail) | quiet_step (fail) | (refine wpQuiet_step (fun K hK => ?_); go_simp; split <;> (refine hK _ ?_; clear hK K))))
        all_goals (refine wpQuiet_nil ?_; intro _ hw'; obtain ⟨nq, hw''⟩ := hw'; subst hw'')
        go_wp2
        go_ret2
        have hp : Rule.holds x r = true := by rw [Rule.holds, HA.out, ← HB.out]; assumption
        refine ⟨?_, below_drewN' (below_drewN' hb _) _⟩
        simp only [ruled, find_take HR.out hf.out hp]
        rfl
      · have hp : Rule.holds x r = false := by rw [Rule.holds, HA.out, ← HB.out]; assumption
        go_roundw
        case rel => exact ⟨k + 1, by omega, by go_num, by show _ = _; rw [any_take_succ HR.out, hf.out, hp]; rfl, below_drewN' hb _⟩
        case measure => simp [intOf]; omega
    · go_wp2
      go_ret2
      refine ⟨?_, hb⟩
      have h3 := hf.out
      rw [List.take_of_length_le (by rw [HN.out]; omega)] at h3
      simp only [ruled, find_none h3]
      rfl
set_option maxRecDepth 100000 in
theorem ruled_calls (v : Value) (rs : List Rule) (L : Blocks) (x : ByteArray) (w : World) (h : Row 5 v (rs.map Rule.cells) L) (H : Holds w L) (hok : rs.all Rule.ok = true) (hx : x.size = 12) :
    Calls Try.prog 70 #[v, .string x] w fun e w' => e = .returned (.tuple #[.int .i64 (ruled rs x).1, .int .i64 (ruled rs x).2]) ∧ Below w.heap.size w w' := by
  obtain ⟨A, n, c, rfl⟩ := h.slice
  obtain ⟨hnl, hn⟩ := h.len'
  rw [List.length_map] at hnl
  have HN := Lib.hid hnl
  have HO := Lib.hid hok
  have HX := Lib.hid hx
  clear hnl hok hx
  go_enter Try.func70, Try.ntmps70
  go_wp2
  go_loopw [10] (fun i wr => ∃ k : Nat, k ≤ n ∧ i = .int .i64 k ∧ Hid ((rs.take k).any (Rule.holds x) = false) ∧ Below w.heap.size w wr) (fun i _ => n - (intOf i).toNat)
  case atStart => exact ⟨0, Nat.zero_le _, rfl, rfl, Below.refl _ _⟩
  case round =>
    obtain ⟨k, hk, rfl, hf, hb⟩ := hrel
    by_cases hlt : k < n
    · obtain ⟨r, hr⟩ : ∃ r, rs[k]? = some r := ⟨_, List.getElem?_eq_getElem (by rw [HN.out]; exact hlt)⟩
      have hrok := List.all_eq_true.1 HO.out r (List.mem_of_getElem? hr)
      obtain ⟨ha0, ha1⟩ := Rule.ok_at hrok
      have HR := Lib.hid hr
      clear hr hrok
      obtain ⟨b, off, rfl, hq⟩ := h.at_ (H.below hb) (k := k) (cs := r.cells) (by simp [HR.out])
      have q0 : wr.cell? ⟨b, off + k * 5, none⟩ = some (.int .i64 r.at_) := hq 0 _ rfl
      have q1 := hq 1 _ rfl
      have q2 := hq 2 _ rfl
      have q3 := hq 3 _ rfl
      have q4 := hq 4 _ rfl
      obtain ⟨a, ha⟩ : ∃ a : Nat, r.at_ = (a : Int) := ⟨r.at_.toNat, by omega⟩
      have ha2 : a < x.size := by have := HX.out; omega
      have ha3 : (a : Int) < (x.size : Int) := by omega
      have hb0 : (0 : Int) ≤ (x[a].toNat : Int) := by omega
      have hb1 : (x[a].toNat : Int) ≤ 255 := by have := x[a].toNat_lt; omega
      have HB := Lib.hid (byteAt_at ha2)
      have HA := Lib.hid ha
      rw [ha] at q0
      clear hq ha0 ha1 ha
      go_wp2
      refine wp_region_quiet_lit (by kernel_rfl) (by kernel_rfl) ?_
      repeat (any_goals (first | go_big_quiet_step ((go_at_call 73; exact Calls.quiet_of_same (impl.holds_calls _ _ _ _))) | quiet_step ((go_at_call 73; exact Calls.quiet_of_same (impl.holds_calls _ _ _ _))) | (refine wpQuiet_step (fun K hK => ?_); go_simp; split <;> (refine hK _ ?_; clear hK K))))
      all_goals (refine wpQuiet_nil ?_; intro _ hw'; obtain ⟨nq, hw''⟩ := hw'; subst hw'')
      go_wp2
      · refine wp_region_quiet_lit (by kernel_rfl) (by kernel_rfl) ?_
        repeat (any_goals (first | go_big_quiet_step (fail) | quiet_step (fail) | (refine wpQuiet_step (fun K hK => ?_); go_simp; split <;> (refine hK _ ?_; clear hK K))))
        all_goals (refine wpQuiet_nil ?_; intro _ hw'; obtain ⟨nq, hw''⟩ := hw'; subst hw'')
        go_wp2
        go_ret2
        have hp : Rule.holds x r = true := by rw [Rule.holds, HA.out, ← HB.out]; assumption
        refine ⟨?_, below_drewN' (below_drewN' (below_alloc' hb _) _) _⟩
        simp only [ruled, find_take HR.out hf.out hp]
        rfl
      · have hp : Rule.holds x r = false := by rw [Rule.holds, HA.out, ← HB.out]; assumption
        go_roundw
        case rel => exact ⟨k + 1, by omega, by go_num, by show _ = _; rw [any_take_succ HR.out, hf.out, hp]; rfl, below_drewN' (below_alloc' hb _) _⟩
        case measure => simp [intOf]; omega
    · go_wp2
      go_ret2
      refine ⟨?_, hb⟩
      have h3 := hf.out
      rw [List.take_of_length_le (by rw [HN.out]; omega)] at h3
      simp only [ruled, find_none h3]
      rfl
set_option maxRecDepth 100000 in
theorem specRulesOf_calls (v : Value) (rs : List Rule) (L : Blocks) (x : ByteArray) (w : World) (h : Row 5 v (rs.map Rule.cells) L) (H : Holds w L) :
    Calls Try.prog 28 #[v, .string x] w fun e w' => e = .returned (.tuple #[.int .i64 (rulesOf rs x).1, .int .i64 (rulesOf rs x).2]) ∧ Below w.heap.size w w' := by
  cases hok : rulesOk rs with
  | false =>
    have hr : rulesOf rs x = (-1, 0) := by simp [rulesOf, hok]
    have HK := Lib.hid hok
    have HR := Lib.hid hr
    clear hok hr
    go_enter Try.func28, Try.ntmps28
    go_wp2_with fail
    refine (l9Ok_calls v rs L _ h H).mono ?_
    rw [HK.out]
    rintro e w1 ⟨rfl, hb1⟩
    go_wp2
    go_ret2
    exact ⟨by rw [HR.out]; rfl, hb1⟩
  | true =>
    have HK := Lib.hid hok
    by_cases hx : x.size = 12
    · have hr : rulesOf rs x = ruled rs x := by simp [rulesOf, hok, hx]
      have hall : rs.all Rule.ok = true := by simp only [rulesOk, Bool.and_eq_true] at hok; exact hok.2
      have HR := Lib.hid hr
      clear hok hr
      go_enter Try.func28, Try.ntmps28
      go_wp2_with fail
      refine (l9Ok_calls v rs L _ h H).mono ?_
      rw [HK.out]
      rintro e w1 ⟨rfl, hb1⟩
      go_wp2_with fail
      refine (l9Of_calls v rs L x _ h (H.below hb1) hall hx).mono ?_
      rintro e w2 ⟨rfl, hb2⟩
      go_wp2
      go_ret2
      exact ⟨by rw [HR.out]; rfl, bnext hb1 hb2⟩
    · have hr : rulesOf rs x = (-1, 0) := by simp [rulesOf, hx]
      have hx2 : ((x.size : Int) != 12) = true := by rw [bne_iff_ne]; omega
      have HR := Lib.hid hr
      clear hok hr
      go_enter Try.func28, Try.ntmps28
      go_wp2_with fail
      refine (l9Ok_calls v rs L _ h H).mono ?_
      rw [HK.out]
      rintro e w1 ⟨rfl, hb1⟩
      go_wp2
      go_ret2
      exact ⟨by rw [HR.out]; rfl, hb1⟩
set_option maxRecDepth 100000 in
theorem implRulesOf_calls (v : Value) (rs : List Rule) (L : Blocks) (x : ByteArray) (w : World) (h : Row 5 v (rs.map Rule.cells) L) (H : Holds w L) :
    Calls Try.prog 27 #[v, .string x] w fun e w' => e = .returned (.tuple #[.int .i64 (rulesOf rs x).1, .int .i64 (rulesOf rs x).2]) ∧ Below w.heap.size w w' := by
  cases hok : rulesOk rs with
  | false =>
    have hr : rulesOf rs x = (-1, 0) := by simp [rulesOf, hok]
    have HK := Lib.hid hok
    have HR := Lib.hid hr
    clear hok hr
    go_enter Try.func27, Try.ntmps27
    go_wp2_with fail
    refine (rulesOk_calls v rs L _ h H).mono ?_
    rw [HK.out]
    rintro e w1 ⟨rfl, hb1⟩
    go_wp2
    go_ret2
    exact ⟨by rw [HR.out]; rfl, hb1⟩
  | true =>
    have HK := Lib.hid hok
    by_cases hx : x.size = 12
    · have hr : rulesOf rs x = ruled rs x := by simp [rulesOf, hok, hx]
      have hall : rs.all Rule.ok = true := by simp only [rulesOk, Bool.and_eq_true] at hok; exact hok.2
      have HR := Lib.hid hr
      clear hok hr
      go_enter Try.func27, Try.ntmps27
      go_wp2_with fail
      refine (rulesOk_calls v rs L _ h H).mono ?_
      rw [HK.out]
      rintro e w1 ⟨rfl, hb1⟩
      go_wp2_with fail
      refine (ruled_calls v rs L x _ h (H.below hb1) hall hx).mono ?_
      rintro e w2 ⟨rfl, hb2⟩
      go_wp2
      go_ret2
      exact ⟨by rw [HR.out]; rfl, bnext hb1 hb2⟩
    · have hr : rulesOf rs x = (-1, 0) := by simp [rulesOf, hx]
      have hx2 : ((x.size : Int) != 12) = true := by rw [bne_iff_ne]; omega
      have HR := Lib.hid hr
      clear hok hr
      go_enter Try.func27, Try.ntmps27
      go_wp2_with fail
      refine (rulesOk_calls v rs L _ h H).mono ?_
      rw [HK.out]
      rintro e w1 ⟨rfl, hb1⟩
      go_wp2
      go_ret2
      exact ⟨by rw [HR.out]; rfl, hb1⟩
end Go.Proofs.Ytoimeebildcofaa
