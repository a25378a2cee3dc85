/- The walks of the functions on rules, of the program and of the reference, and of the laws' own helpers. -/
import Derived.Test.YtoimeebildcofaaProg
import Derived.Test.YtoimeebildcofaaLib
import Derived.Test.YtoimeebildcofaaData
namespace Go.Proofs.Ytoimeebildcofaa
open Go.RowKit
def Rule.cells (r : Rule) : List Value := [.int .i64 r.at_, .int .i64 r.op, .int .i64 r.num, .int .i64 r.verdict, .int .i64 r.key]
theorem Rule.cells_len (r : Rule) : r.cells.length = 5 := rfl

theorem l1In_calls (a b c : Int) (w : World) :
    Calls Try.prog 75 #[.int .i64 a, .int .i64 b, .int .i64 c] w fun e w' => e = .returned (.bool (inB a b c)) ∧ w' = w := by
  go_enter Try.func75, Try.ntmps75
  go_wp2
  all_goals (go_ret; exact ⟨bool_of (by simp_all [inB] <;> omega), rfl⟩)
theorem within_calls (a b c : Int) (w : World) :
    Calls Try.prog 87 #[.int .i64 a, .int .i64 b, .int .i64 c] w fun e w' => e = .returned (.bool (inB a b c)) ∧ w' = w := by
  go_enter Try.func87, Try.ntmps87
  go_wp2
  all_goals (go_ret; exact ⟨bool_of (by simp_all [inB] <;> omega), rfl⟩)
theorem l2Top_calls (w : World) : Calls Try.prog 76 #[] w fun e w' => e = .returned (.int .i64 4294967295) ∧ w' = w := by
  go_enter Try.func76, Try.ntmps76
  go_wp2
  go_ret
  exact ⟨rfl, rfl⟩
theorem numOk_calls (a : Int) (w : World) : Calls Try.prog 55 #[.int .i64 a] w fun e w' => e = .returned (.bool (inB a 0 4294967295)) ∧ w' = w := by
  go_enter Try.func55, Try.ntmps55
  go_wp2_with (first | (go_at_call 87; refine (within_calls _ _ _ _).mono ?_; rintro e w' ⟨rfl, hw'⟩; subst w'))
  go_ret
  exact ⟨rfl, rfl⟩
theorem asks_calls (a : Int) (w : World) : Calls Try.prog 72 #[.int .i64 a] w fun e w' => e = .returned (.bool (inB a 12 15)) ∧ w' = w := by
  go_enter Try.func72, Try.ntmps72
  go_wp2_with (first | (go_at_call 87; refine (within_calls _ _ _ _).mono ?_; rintro e w' ⟨rfl, hw'⟩; subst w'))
  go_ret
  exact ⟨rfl, rfl⟩
theorem l9RuleOk_calls (r : Rule) (w : World) :
    Calls Try.prog 89 #[.agg #[.int .i64 r.at_, .int .i64 r.op, .int .i64 r.num, .int .i64 r.verdict, .int .i64 r.key]] w fun e w' => e = .returned (.bool r.ok) ∧ Below w.heap.size w w' := by
  obtain ⟨a, b, c, d, k⟩ := r
  go_enter Try.func89, Try.ntmps89
  go_wp2
  refine wp_region_quiet_lit (by kernel_rfl) (by kernel_rfl) ?_
  repeat (any_goals (first | go_big_quiet_step (first | (go_at_call 75; exact Calls.quiet_of_same (l1In_calls _ _ _ _)) | (go_at_call 76; exact Calls.quiet_of_same (l2Top_calls _))) | quiet_step (first | (go_at_call 75; exact Calls.quiet_of_same (l1In_calls _ _ _ _)) | (go_at_call 76; exact Calls.quiet_of_same (l2Top_calls _))) | (refine wpQuiet_step (fun K hK => ?_); go_simp; split <;> (refine hK _ ?_; clear hK K))))
  all_goals (refine wpQuiet_nil ?_; intro _ hw'; obtain ⟨nq, hw''⟩ := hw'; subst hw'')
  all_goals go_wp2
  all_goals (go_ret; refine ⟨bool_of ?_, below_drewN' ((Below.refl _ _).alloc (Nat.le_refl _) _) _⟩)
  all_goals (simp only [Rule.ok]; simp_all)
theorem valid_calls (r : Rule) (w : World) :
    Calls Try.prog 95 #[.agg #[.int .i64 r.at_, .int .i64 r.op, .int .i64 r.num, .int .i64 r.verdict, .int .i64 r.key]] w fun e w' => e = .returned (.bool r.ok) ∧ Below w.heap.size w w' := by
  obtain ⟨a, b, c, d, k⟩ := r
  go_enter Try.func95, Try.ntmps95
  go_wp2_with (first | (go_at_call 87; refine (within_calls _ _ _ _).mono ?_; rintro e w' ⟨rfl, hw'⟩; subst w') | (go_at_call 55; refine (numOk_calls _ _).mono ?_; rintro e w' ⟨rfl, hw'⟩; subst w') | (go_at_call 72; refine (asks_calls _ _).mono ?_; rintro e w' ⟨rfl, hw'⟩; subst w'))
  all_goals (go_ret; refine ⟨bool_of ?_, (Below.refl _ _).alloc (Nat.le_refl _) _⟩)
  all_goals (simp only [Rule.ok]; simp_all [Bool.or_comm])

theorem l9Ok_calls (v : Value) (rs : List Rule) (L : Blocks) (w : World) (h : Row 5 v (rs.map Rule.cells) L) (H : Holds w L) :
    Calls Try.prog 58 #[v] w fun e w' => e = .returned (.bool (rulesOk rs)) ∧ Below w.heap.size w w' := by
  obtain ⟨_, ⟨h1, rfl, A, c, rfl⟩ | ⟨b, off, cap, cur, e, fr, rfl, hle, rfl, hcm, hc⟩⟩ := h
  · obtain rfl : rs = [] := by simpa using h1
    go_enter Try.func58, Try.ntmps58
    go_wp2
    go_loopw [3] (fun i wr => i = .int .i64 0 ∧ w = wr) (fun _ _ => 0)
    case atStart => exact ⟨rfl, rfl⟩
    case round =>
      obtain ⟨rfl, rfl⟩ := hrel
      go_wp2
      go_ret
      exact ⟨rfl, Below.refl _ _⟩
  · simp only [List.length_map] at *
    go_enter Try.func58, Try.ntmps58
    go_wp2
    go_loopw [3] (fun i wr => ∃ k : Nat, k ≤ rs.length ∧ i = .int .i64 k ∧ (rs.take k).all Rule.ok = true ∧ Below w.heap.size w wr) (fun i _ => rs.length - (intOf i).toNat)
    case atStart => exact ⟨0, Nat.zero_le _, rfl, rfl, Below.refl _ _⟩
    case round =>
      obtain ⟨k, hk, rfl, hok, hb⟩ := hrel
      have HOK := Lib.hid hok
      clear hok
      by_cases hlt : k < rs.length
      · obtain ⟨r, hr⟩ : ∃ r, rs[k]? = some r := ⟨_, List.getElem?_eq_getElem hlt⟩
        have q : ∀ j u, r.cells[j]? = some u → wr.cell? ⟨b, off + k * 5 + j, none⟩ = some u := fun j u hu => (H.below hb).cell (hc k j u (by simp [hr, hu]))
        have q0 : wr.cell? ⟨b, off + k * 5, none⟩ = some (.int .i64 r.at_) := q 0 _ rfl
        have q1 := q 1 _ rfl
        have q2 := q 2 _ rfl
        have q3 := q 3 _ rfl
        have q4 := q 4 _ rfl
        have HR := Lib.hid hr
        clear q hr
        go_wp2_with (go_at_call 89; refine (l9RuleOk_calls r _).mono ?_; rintro e w' ⟨rfl, hb'⟩)
        · go_ret
          refine ⟨bool_of ?_, hb.trans (hb'.mono hb.size)⟩
          have h1 : r ∈ rs := List.mem_of_getElem? HR.out
          have h2 : rs.all Rule.ok = false := by simp only [List.all_eq_false]; exact ⟨r, h1, by simp_all⟩
          simp [rulesOk, h2]
        · go_roundw
          case rel => exact ⟨k + 1, by omega, by go_num, by rw [List.take_succ_eq_append_getElem hlt]; simp only [List.all_append, HOK.out]; rw [List.getElem?_eq_getElem hlt] at HR; have := HR.out; simp at this; simp_all, hb.trans (hb'.mono hb.size)⟩
          case measure => simp [intOf]; omega
      · go_wp2
        go_ret
        refine ⟨bool_of ?_, hb⟩
        have h3 := HOK.out
        rw [List.take_of_length_le (by omega)] at h3
        simp [rulesOk, h3]
        omega

theorem rulesOkFn_calls (r : Rule) (w : World) :
    Calls Try.prog 94 #[.agg #[.int .i64 r.at_, .int .i64 r.op, .int .i64 r.num, .int .i64 r.verdict, .int .i64 r.key]] w fun e w' => e = .returned (.bool (!r.ok)) ∧ Below w.heap.size w w' := by
  go_enter Try.func94, Try.ntmps94
  go_wp2_with (go_at_call 95; refine (valid_calls r _).mono ?_; rintro e w' ⟨rfl, hb⟩)
  go_ret
  exact ⟨rfl, ((Below.refl _ _).alloc (Nat.le_refl _) _).trans (hb.mono (by simp))⟩
theorem indexFunc_calls (v : Value) (rs : List Rule) (L : Blocks) (w : World) (h : Row 5 v (rs.map Rule.cells) L) (H : Holds w L) :
    Calls Try.prog 118 #[v, .func (.func 94) #[] #[]] w fun e w' => e = .returned (.int .i64 (indexOf (fun r => !r.ok) rs)) ∧ Below w.heap.size w w' := by
  obtain ⟨_, ⟨h1, rfl, A, c, rfl⟩ | ⟨b, off, cap, cur, e, fr, rfl, hle, rfl, hcm, hc⟩⟩ := h
  · obtain rfl : rs = [] := by simpa using h1
    go_enter Try.func118, Try.ntmps118
    go_wp2
    go_loopw [8] (fun i wr => i = .int .i64 0 ∧ w = wr) (fun _ _ => 0)
    case atStart => exact ⟨rfl, rfl⟩
    case round =>
      obtain ⟨rfl, rfl⟩ := hrel
      go_wp2
      go_ret
      exact ⟨rfl, Below.refl _ _⟩
  · simp only [List.length_map] at *
    go_enter Try.func118, Try.ntmps118
    go_wp2
    go_loopw [8] (fun i wr => ∃ k : Nat, k ≤ rs.length ∧ i = .int .i64 k ∧ (rs.take k).any (fun r => !r.ok) = false ∧ Below w.heap.size w wr) (fun i _ => rs.length - (intOf i).toNat)
    case atStart => exact ⟨0, Nat.zero_le _, rfl, rfl, Below.refl _ _⟩
    case round =>
      obtain ⟨k, hk, rfl, hok, hb⟩ := hrel
      have HOK := Lib.hid hok
      clear hok
      by_cases hlt : k < rs.length
      · obtain ⟨r, hr⟩ : ∃ r, rs[k]? = some r := ⟨_, List.getElem?_eq_getElem hlt⟩
        have q : ∀ j u, r.cells[j]? = some u → wr.cell? ⟨b, off + k * 5 + j, none⟩ = some u := fun j u hu => (H.below hb).cell (hc k j u (by simp [hr, hu]))
        have q0 : wr.cell? ⟨b, off + k * 5, none⟩ = some (.int .i64 r.at_) := q 0 _ rfl
        have q1 := q 1 _ rfl
        have q2 := q 2 _ rfl
        have q3 := q 3 _ rfl
        have q4 := q 4 _ rfl
        have HR := Lib.hid hr
        clear q hr
        go_wp2_with (go_at_call 94; refine (rulesOkFn_calls r _).mono ?_; rintro e w' ⟨rfl, hb'⟩)
        · go_ret
          exact ⟨int_of (by simp [indexOf, findIdx_take HR.out HOK.out (by assumption)]), hb.trans (hb'.mono hb.size)⟩
        · go_roundw
          case rel => exact ⟨k + 1, by omega, by go_num, by rw [any_take_succ HR.out, HOK.out]; simpa using ‹(!r.ok) = false›, hb.trans (hb'.mono hb.size)⟩
          case measure => simp [intOf]; omega
      · go_wp2
        go_ret
        refine ⟨int_of ?_, hb⟩
        have h3 := HOK.out
        rw [List.take_of_length_le (by omega)] at h3
        simp [indexOf, findIdx_none h3]
theorem containsFunc_calls (v : Value) (rs : List Rule) (L : Blocks) (w : World) (h : Row 5 v (rs.map Rule.cells) L) (H : Holds w L) :
    Calls Try.prog 93 #[v, .func (.func 94) #[] #[]] w fun e w' => e = .returned (.bool (rs.any (fun r => !r.ok))) ∧ Below w.heap.size w w' := by
  go_enter Try.func93, Try.ntmps93
  go_wp2_with (go_at_call 118; refine (indexFunc_calls v rs L _ h H).mono ?_; rintro e w' ⟨rfl, hb⟩)
  go_ret
  exact ⟨bool_of (indexOf_nonneg _ _), hb⟩
theorem rulesOk_calls (v : Value) (rs : List Rule) (L : Blocks) (w : World) (h : Row 5 v (rs.map Rule.cells) L) (H : Holds w L) :
    Calls Try.prog 62 #[v] w fun e w' => e = .returned (.bool (rulesOk rs)) ∧ Below w.heap.size w w' := by
  obtain ⟨A, c, rfl, hm⟩ := h.lens
  simp only [List.length_map] at *
  have hall : rs.all Rule.ok = !rs.any (fun r => !r.ok) := by rw [List.not_any_eq_all_not]; simp
  have H1 := Lib.hid hall
  clear hall
  go_enter Try.func62, Try.ntmps62
  go_wp2_with (go_at_call 93; refine (containsFunc_calls _ rs L _ h H).mono ?_; rintro e w' ⟨rfl, hb⟩)
  all_goals go_ret
  · exact ⟨bool_of (by simp only [rulesOk, H1.out]; have : rs.length ≤ 6 := by omega
                       simp [this]), hb⟩
  · exact ⟨bool_of (by simp only [rulesOk]; have : ¬ rs.length ≤ 6 := by omega
                       simp [this]), Below.refl _ _⟩
/-! ### The laws' helpers -/
theorem szRuleS_calls (A : Option Addr) (n c : Nat) (left : Int) (w : World) (h0 : n ≤ 9223372036854775807) (hl : 0 ≤ left) (hl2 : left ≤ 1048576) :
    Calls Try.prog 19 #[.slice A n c, .int .i64 left] w fun e w' => (∃ r : Int, e = .returned (.int .i64 r) ∧ (0 ≤ r → (n : Int) ≤ left)) ∧ w' = w := by
  go_enter Try.func19, Try.ntmps19
  go_wp2
  all_goals (go_ret; exact ⟨⟨_, rfl, by omega⟩, rfl⟩)
theorem toRule_calls (r : Rule) (w : World) :
    Calls Try.prog 61 #[.agg #[.int .i64 r.at_, .int .i64 r.op, .int .i64 r.num, .int .i64 r.verdict, .int .i64 r.key]] w fun e w' =>
      e = .returned (.agg #[.int .i64 r.at_, .int .i64 r.op, .int .i64 r.num, .int .i64 r.verdict, .int .i64 r.key]) ∧ Below w.heap.size w w' := by
  go_enter Try.func61, Try.ntmps61
  go_wp2
  exact bodyPost_ret (v := .agg #[.int .i64 r.at_, .int .i64 r.op, .int .i64 r.num, .int .i64 r.verdict, .int .i64 r.key]) (by simp [results, Try.results61, go_sem]) rfl ⟨rfl, below_alloc' (below_alloc' (below_alloc' (Below.refl _ _) _) _) _⟩
theorem infoRule : (Try.prog.info? 56).map (fun i => (i.zero, i.size, i.bytes)) = some (some (.agg #[.int .i64 0, .int .i64 0, .int .i64 0, .int .i64 0, .int .i64 0]), 5, 40) := by kernel_rfl
set_option maxRecDepth 100000 in
theorem toRuleS_calls (v : Value) (rs : List Rule) (L : Blocks) (w : World) (h : Row 5 v (rs.map Rule.cells) L) (H : Holds w L) (hn : rs.length ≤ 1048576) :
    Calls Try.prog 21 #[v] w fun e w' => ∃ v' L', e = .returned v' ∧ Own w.heap.size 56 5 v' (rs.map Rule.cells) L' ∧ Holds w' L' ∧ Below w.heap.size w w' := by
  obtain ⟨i0, hi0, hz0, hs0, hb0⟩ := info_of infoRule
  have HI := Lib.hid hi0
  clear hi0
  obtain ⟨A, n, c, rfl⟩ := h.slice
  obtain ⟨hnl, _⟩ := h.len'
  rw [List.length_map] at hnl
  have HN := Lib.hid hnl
  have hn1 : n ≤ 1048576 := by omega
  clear hnl hn
  go_enter Try.func21, Try.ntmps21
  go_wp2_with (refine wpList_make_full _ rfl (.tmp 6) (.tmp 6) 44 rfl w.heap.size 56 i0 _ 5 Try.underlying44 HI.out hz0 hs0 .i64 .i64 _ _ n rfl rfl rfl rfl (by rw [hb0]; omega) (by simp only [maxLen]; omega) (Nat.le_refl _) ?_; intro w1 ho hg)
  go_loopw [4] (fun i wr => ∃ k : Nat, k ≤ n ∧ i = .int .i64 k ∧ Fill wr w.heap.size 56 5 n ((rs.take k).map Rule.cells) ∧ Below w.heap.size w wr) (fun i _ => n - (intOf i).toNat)
  case atStart => exact ⟨0, Nat.zero_le _, rfl, Fill.of_owns ho, below_of_grown hg⟩
  case round =>
    obtain ⟨k, hk, rfl, hf, hb⟩ := hrel
    have HF := Lib.hid hf
    clear hf ho hg
    by_cases hlt : k < n
    · obtain ⟨r, hr⟩ : ∃ r, rs[k]? = some r := ⟨_, List.getElem?_eq_getElem (by rw [HN.out]; exact hlt)⟩
      have HR := Lib.hid hr
      clear hr
      obtain ⟨b, off, rfl, hq⟩ := h.at_ (H.below hb) (k := k) (cs := r.cells) (by simp [HR.out])
      have hfl : ((rs.take k).map Rule.cells).length = k := by simp [HN.out]; omega
      have HFL := Lib.hid hfl
      clear hfl
      go_wp2_with (first | ((with_reducible refine gate_dst (N := 19) rfl ?_); refine wpList_load_mid rfl 85 _ rfl b (off + k * 5) rfl r.cells _ hq Try.underlying85 rfl (by kernel_rfl) ?_) | (go_at_call 61; refine (toRule_calls r _).mono ?_; rintro e w' ⟨rfl, hb'⟩; have HF2 := Lib.hid (HF.out.below hb')) | ((with_reducible refine gate_store (p := 21) rfl ?_); refine wpList_store_mid rfl 56 _ _ rfl w.heap.size (k * 5) r.cells.toArray rfl rfl ?st (by kernel_rfl) (by kernel_rfl) ?_; (case st => have := HF2.out.there (by rw [HFL.out]; exact hlt); rw [HFL.out] at this; exact this)))
      go_roundw
      case rel =>
        have h1 := HF2.out.store (by rw [HFL.out]; exact hlt) r.cells_len
        rw [HFL.out] at h1
        have h2 : (rs.take (k + 1)).map Rule.cells = (rs.take k).map Rule.cells ++ [r.cells] := by
          rw [List.take_add_one, HR.out]; simp
        exact ⟨k + 1, by omega, by go_num, by rw [h2]; exact h1, Only.below (hb.trans (hb'.mono hb.size)) (by have := hb.size; have := hb'.size; omega) (only_setCells (S := fun x => x = w.heap.size) _ _ _ _ (Only.refl _ _) (.inl rfl)) (fun _ h => by omega)⟩
      case measure => simp [intOf]; omega
    · go_wp2
      go_ret
      have h1 := HF.out
      rw [List.take_of_length_le (by rw [HN.out]; omega)] at h1
      obtain ⟨L', o1, o2, _⟩ := h1.own (by simp [HN.out]) (Nat.le_refl _) (by omega)
      exact ⟨_, L', rfl, o1, o2, hb⟩
end Go.Proofs.Ytoimeebildcofaa
