/- The walk of the law FnExactRulesOk, and of its helpers. -/
import Derived.Test.YtoimeebildcofaaWRules
namespace Go.Proofs.Ytoimeebildcofaa
open Go.RowKit
set_option maxRecDepth 100000 in
theorem eqRule_calls (r s : Rule) (w : World) :
    Calls Try.prog 67 #[.agg #[.int .i64 r.at_, .int .i64 r.op, .int .i64 r.num, .int .i64 r.verdict, .int .i64 r.key], .agg #[.int .i64 s.at_, .int .i64 s.op, .int .i64 s.num, .int .i64 s.verdict, .int .i64 s.key]] w fun e w' =>
      e = .returned (.bool (decide (r = s))) ∧ Below w.heap.size w w' := by
  obtain ⟨a, b, c, d, k⟩ := r
  obtain ⟨a', b', c', d', k'⟩ := s
  go_enter Try.func67, Try.ntmps67
  go_wp2
  all_goals (go_ret; refine ⟨bool_of ?_, below_alloc' (below_alloc' (Below.refl _ _) _) _⟩)
  all_goals simp_all
set_option maxRecDepth 100000 in
theorem eqRuleS_calls (u v : Value) (rs ss : List Rule) (L M : Blocks) (w : World) (h : Row 5 u (rs.map Rule.cells) L) (H : Holds w L) (h' : Row 5 v (ss.map Rule.cells) M) (H' : Holds w M) :
    Calls Try.prog 23 #[u, v] w fun e w' => e = .returned (.bool (decide (rs = ss))) ∧ Below w.heap.size w w' := by
  obtain ⟨A, n, c, rfl⟩ := h.slice
  obtain ⟨hnl, hn⟩ := h.len'
  obtain ⟨A', n', c', rfl⟩ := h'.slice
  obtain ⟨hnl', hn'⟩ := h'.len'
  rw [List.length_map] at hnl hnl'
  by_cases hne : n = n'
  · subst hne
    have HN := Lib.hid hnl
    have HN' := Lib.hid hnl'
    clear hnl hnl' hn'
    go_enter Try.func23, Try.ntmps23
    go_wp2
    go_loopw [5] (fun i wr => ∃ k : Nat, k ≤ n ∧ i = .int .i64 k ∧ Hid (rs.take k = ss.take k) ∧ Below w.heap.size w wr) (fun i _ => n - (intOf i).toNat)
    case atStart => exact ⟨0, Nat.zero_le _, rfl, rfl, Below.refl _ _⟩
    case round =>
      obtain ⟨k, hk, rfl, hf, hb⟩ := hrel
      by_cases hlt : k < n
      · obtain ⟨r, hr⟩ : ∃ r, rs[k]? = some r := ⟨_, List.getElem?_eq_getElem (by rw [HN.out]; exact hlt)⟩
        obtain ⟨s, hs⟩ : ∃ s, ss[k]? = some s := ⟨_, List.getElem?_eq_getElem (by rw [HN'.out]; exact hlt)⟩
        have HR := Lib.hid hr
        have HS := Lib.hid hs
        clear hr hs
        obtain ⟨b, off, rfl, hq⟩ := h.at_ (H.below hb) (k := k) (cs := r.cells) (by simp [HR.out])
        obtain ⟨b', off', rfl, hq'⟩ := h'.at_ (H'.below hb) (k := k) (cs := s.cells) (by simp [HS.out])
        have q0 : wr.cell? ⟨b, off + k * 5, none⟩ = some (.int .i64 r.at_) := hq 0 _ rfl
        have q1 := hq 1 _ rfl
        have q2 := hq 2 _ rfl
        have q3 := hq 3 _ rfl
        have q4 := hq 4 _ rfl
        have p0 : wr.cell? ⟨b', off' + k * 5, none⟩ = some (.int .i64 s.at_) := hq' 0 _ rfl
        have p1 := hq' 1 _ rfl
        have p2 := hq' 2 _ rfl
        have p3 := hq' 3 _ rfl
        have p4 := hq' 4 _ rfl
        clear hq hq'
        go_wp2
        go_still_tail 8, (by kernel_rfl)
        change wpList _ _ _ _ _ wr.drew
        go_wp2_with (go_at_call 67; refine (eqRule_calls r s _).mono ?_; rintro e w' ⟨rfl, hb'⟩)
        · go_ret
          refine ⟨bool_of ?_, hb.drew.trans (hb'.mono hb.size)⟩
          have hrs : r ≠ s := by simp_all
          symm
          rw [decide_eq_false_iff_not]
          rintro rfl
          exact hrs (by have := HR.out.symm.trans HS.out; simpa using this)
        · have hrs : r = s := by simp_all
          go_roundw
          case rel => exact ⟨k + 1, by omega, by go_num, by show _ = _; rw [List.take_add_one, List.take_add_one, hf.out, HR.out, HS.out, hrs], hb.drew.trans (hb'.mono hb.size)⟩
          case measure => simp [intOf]; omega
      · go_wp2
        go_ret
        refine ⟨bool_of ?_, hb⟩
        have h1 := hf.out
        rw [List.take_of_length_le (by rw [HN.out]; omega), List.take_of_length_le (by rw [HN'.out]; omega)] at h1
        rw [h1]
        simp
  · have HN := Lib.hid hnl
    have HN' := Lib.hid hnl'
    have hb : ((n : Int) != (n' : Int)) = true := by rw [bne_iff_ne]; omega
    clear hnl hnl'
    go_enter Try.func23, Try.ntmps23
    go_wp2
    go_ret
    refine ⟨bool_of ?_, Below.refl _ _⟩
    symm
    rw [decide_eq_false_iff_not]
    rintro rfl
    exact hne (HN.out.symm.trans HN'.out)
end Go.Proofs.Ytoimeebildcofaa
