/- The walks of RulesProg, of the program and of the reference: the second half. -/
import Derived.Test.YtdpdclfanlbkjaaWProg
import Derived.Deep.RegionHeld3
namespace Go.Proofs.Ytdpdclfanlbkjaa
open Go.RowKit
theorem piled_two {sz : Nat} {W : World} {v1 v2 : Value} {c1 c2 : List (List Value)} {L1 L2 : Blocks} (e k : Nat) (hk : k = W.heap.size) (h1 : Row sz v1 c1 L1) (H1 : Holds W L1) (h2 : Row sz v2 c2 L2) (H2 : Holds W L2) :
    Piled sz (W.alloc (.cells #[v1, v2] e)) (.slice (some ⟨k, 0, none⟩) 2 2) [(v1, c1, L1), (v2, c2, L2)] [(k, .cells #[v1, v2] e (0, 0))] := by
  subst hk
  obtain ⟨r, hr⟩ := row_new W #[v1, v2] e 2 [[v1], [v2]] rfl (by omega) (by simp) rfl
  refine ⟨r, hr, fun x hx => ?_⟩
  simp only [List.mem_cons, List.not_mem_nil, or_false] at hx
  rcases hx with rfl | rfl
  · exact ⟨h1, H1.alloc _⟩
  · exact ⟨h2, H2.alloc _⟩
set_option maxRecDepth 100000 in
set_option maxHeartbeats 1600000 in
theorem implRule_calls (r : Rule) (w : World) : Calls Try.prog 74 #[.agg #[.int .i64 r.at_, .int .i64 r.op, .int .i64 r.num, .int .i64 r.verdict, .int .i64 r.key]] w fun e w' =>
    ∃ v, e = .returned v ∧ ∃ L, Own w.heap.size 87 6 v (r.prog.map Ins.cells) L ∧ Holds w' L ∧ Below w.heap.size w w' := by
  go_enter Try.func74, Try.ntmps74
  go_wp2
  obtain ⟨V, hV⟩ : ∃ V, V = (w.alloc (.cells #[.int .i64 r.at_, .int .i64 r.op, .int .i64 r.num, .int .i64 r.verdict, .int .i64 r.key] 71)).alloc (.cells #[.int .i64 20, .int .i64 0, .int .i64 (-1), .int .i64 0, .int .i64 0, .int .i64 0] 87) := ⟨_, rfl⟩
  rw [← hV]
  have hB : Below w.heap.size w V := by rw [hV]; exact below_alloc' (below_alloc' (Below.refl _ _) _) _
  have sV : V.heap.size = w.heap.size + 1 + 1 := by rw [hV]; simp
  have hbox : V.heap[w.heap.size]? = some (.cells #[.int .i64 r.at_, .int .i64 r.op, .int .i64 r.num, .int .i64 r.verdict, .int .i64 r.key] 71) := by
    rw [hV]; exact (((holds_new (w := w) rfl).alloc _) (_, _) (List.mem_singleton.2 rfl))
  have hins : V.heap[w.heap.size + 1]? = some (.cells #[.int .i64 20, .int .i64 0, .int .i64 (-1), .int .i64 0, .int .i64 0, .int .i64 0] 87) := by
    rw [hV]; exact (holds_new (by simp)) (_, _) (List.mem_singleton.2 rfl)
  have HBX := Lib.hid hbox
  have HIN := Lib.hid hins
  obtain ⟨b0, b1, b2, b3, b4⟩ := box_cells hbox
  have i0 : V.cell? ⟨w.heap.size + 1, 0, none⟩ = some (.int .i64 20) := by simp [World.cell?, hins]
  have i1 : V.cell? ⟨w.heap.size + 1, 1, none⟩ = some (.int .i64 0) := by simp [World.cell?, hins]
  have i2 : V.cell? ⟨w.heap.size + 1, 2, none⟩ = some (.int .i64 (-1)) := by simp [World.cell?, hins]
  have i3 : V.cell? ⟨w.heap.size + 1, 3, none⟩ = some (.int .i64 0) := by simp [World.cell?, hins]
  have i4 : V.cell? ⟨w.heap.size + 1, 4, none⟩ = some (.int .i64 0) := by simp [World.cell?, hins]
  have i5 : V.cell? ⟨w.heap.size + 1, 5, none⟩ = some (.int .i64 0) := by simp [World.cell?, hins]
  clear hbox hins hV
  go_region_held3 (fun w' => w'.cell? ⟨w.heap.size, 3, none⟩ = some (.int .i64 r.verdict) ∧ w'.cell? ⟨w.heap.size + 1, 0, none⟩ = some (.int .i64 20) ∧ w'.cell? ⟨w.heap.size + 1, 1, none⟩ = some (.int .i64 0) ∧ w'.cell? ⟨w.heap.size + 1, 2, none⟩ = some (.int .i64 (-1)) ∧ w'.cell? ⟨w.heap.size + 1, 3, none⟩ = some (.int .i64 0) ∧ w'.cell? ⟨w.heap.size + 1, 4, none⟩ = some (.int .i64 0) ∧ w'.cell? ⟨w.heap.size + 1, 5, none⟩ = some (.int .i64 0)) (first | exact ⟨b3, i0, i1, i2, i3, i4, i5⟩ | exact ⟨(hb2.cell (block_lt_of_cell b3)).trans b3, (hb2.cell (block_lt_of_cell i0)).trans i0, (hb2.cell (block_lt_of_cell i1)).trans i1, (hb2.cell (block_lt_of_cell i2)).trans i2, (hb2.cell (block_lt_of_cell i3)).trans i3, (hb2.cell (block_lt_of_cell i4)).trans i4, (hb2.cell (block_lt_of_cell i5)).trans i5⟩ | go_keep | (trace_state; fail)) (first | (go_at_call 76; refine (moves_calls 0 r.verdict _).mono ?_; rintro e w2 ⟨rfl, hb2⟩))
  have hBX2 : w2.heap[w.heap.size]? = some (.cells #[.int .i64 r.at_, .int .i64 r.op, .int .i64 r.num, .int .i64 r.verdict, .int .i64 r.key] 71) := (hb2.block _ (by simp; omega)).trans HBX.out
  have hbV : Below V.heap.size V w2 := ⟨hb2.os, hb2.tape, hb2.output, hb2.size, hb2.block⟩
  have hB2 : Below w.heap.size w w2 := bnext hB hbV
  obtain ⟨V2, hV2⟩ : ∃ V2, V2 = w2.alloc (.cells #[.int .i64 1, .int .i64 0, .int .i64 (-1), .int .i64 0, .int .i64 r.verdict, .int .i64 0, .int .i64 20, .int .i64 0, .int .i64 (-1), .int .i64 0, .int .i64 0, .int .i64 0] 87) := ⟨_, rfl⟩
  rw [← hV2]
  have hS2 := hB2.size
  have hB3 : Below w.heap.size w V2 := by rw [hV2]; exact below_alloc' hB2 _
  have hO : Own w.heap.size 87 6 (.slice (some ⟨w2.heap.size, 0, none⟩) 2 2) (([⟨1, 0, -1, 0, r.verdict, 0⟩, ⟨20, 0, -1, 0, 0, 0⟩] : List Ins).map Ins.cells) [(w2.heap.size, .cells #[.int .i64 1, .int .i64 0, .int .i64 (-1), .int .i64 0, .int .i64 r.verdict, .int .i64 0, .int .i64 20, .int .i64 0, .int .i64 (-1), .int .i64 0, .int .i64 0, .int .i64 0] 87 (0, 0))] := own_ins w2.heap.size w.heap.size _ [⟨1, 0, -1, 0, r.verdict, 0⟩, ⟨20, 0, -1, 0, 0, 0⟩] (by simp) rfl hS2
  have hHO : Holds V2 [(w2.heap.size, .cells #[.int .i64 1, .int .i64 0, .int .i64 (-1), .int .i64 0, .int .i64 r.verdict, .int .i64 0, .int .i64 20, .int .i64 0, .int .i64 (-1), .int .i64 0, .int .i64 0, .int .i64 0] 87 (0, 0))] := by rw [hV2]; exact holds_new rfl
  have hBX3 : Holds V2 [(w.heap.size, .cells #[.int .i64 r.at_, .int .i64 r.op, .int .i64 r.num, .int .i64 r.verdict, .int .i64 r.key] 71 (0, 0))] := by rw [hV2]; exact (Holds.one hBX2).alloc _
  obtain ⟨c0, c1, c2, c3, c4⟩ := box_cells hBX3.get
  clear hbV hb2 hBX2 b0 b1 b2 b3 b4 i0 i1 i2 i3 i4 i5 sV hB hV2 HBX HIN
  by_cases hd : r.verdict = 2
  · have ht : ([⟨1, 1, -1, 0, r.key, 0⟩, ⟨19, 0, -1, 0, 6, 0⟩] : List Ins) ++ [⟨1, 0, -1, 0, r.verdict, 0⟩, ⟨20, 0, -1, 0, 0, 0⟩] = r.tail := by simp only [Rule.tail, hd, if_true]
    have HL : Hid (r.tail.length = 4) := by show _ = _; rw [← ht]; rfl
    have HT := Lib.hid ht
    have hd2 : (r.verdict == 2) = true := by rw [hd]; rfl
    clear hd ht
    go_wp2_with fail
    refine (moves_calls 1 r.key _).mono ?_
    rintro e w3 ⟨rfl, hb3⟩
    have hB4 := bnext hB3 hb3
    have hHO3 := hHO.below hb3
    have hBX4 := hBX3.below hb3
    go_wp2_with fail
    refine (concatIns_calls _ _ _ _ (piled_two 43 (w3.heap.size + 1) (by simp) (own_ins w3.heap.size 0 _ [⟨1, 1, -1, 0, r.key, 0⟩, ⟨19, 0, -1, 0, 6, 0⟩] (by simp) rfl (by omega)).row (holds_new rfl) hO.row (hHO3.alloc _)) (by simp [Pile.all]) (fun x hx => ?_)).mono ?_
    · simp only [List.mem_cons, List.not_mem_nil, or_false] at hx
      rcases hx with rfl | rfl <;> exact oneCell_ins _
    rintro e w4 ⟨v4, L4, rfl, ho4, hH4, hb4⟩
    have hB5 := bnext (below_alloc' (below_alloc' hB4 _) _) hb4
    have hBX5 := (((hBX4.alloc _).alloc _).below hb4)
    have hs5 := hB5.size
    obtain ⟨d0, d1, d2, d3, d4⟩ := box_cells hBX5.get
    have ho5 : Own w.heap.size 87 6 v4 (r.tail.map Ins.cells) L4 := by
      have h := ho4.lower (base' := w.heap.size) (by have := hB4.size; simp; omega)
      rw [← HT.out, List.map_append]
      simpa [Pile.all] using h
    obtain ⟨A4, n4, c4', rfl⟩ := ho5.row.slice
    obtain rfl : n4 = 4 := by have := ho5.row.len'.1; rw [List.length_map, HL.out] at this; exact this.symm
    clear ho4 hBX4 hHO3 hHO hBX3 c0 c1 c2 c3 c4
    go_wp2_with fail
    refine (concatIns_calls _ _ _ _ (piled_two 43 (w4.heap.size + 1) (by simp) (own_ins w4.heap.size 0 _ [⟨17, 2, 6, r.at_, 0, 1⟩, ⟨r.op, 2, -1, 1, r.num, 0⟩, ⟨16, 0, -1, 4, 0, 0⟩] (by simp) rfl (by omega)).row (holds_new rfl) ho5.row (hH4.alloc _)) (by simp [Pile.all, HL.out]) (fun x hx => ?_)).mono ?_
    · simp only [List.mem_cons, List.not_mem_nil, or_false] at hx
      rcases hx with rfl | rfl <;> exact oneCell_ins _
    rintro e w5 ⟨v5, L5, rfl, ho6, hH6, hb6⟩
    go_wp2
    go_ret
    have hp : r.prog = [⟨17, 2, 6, r.at_, 0, 1⟩, ⟨r.op, 2, -1, 1, r.num, 0⟩, ⟨16, 0, -1, 4, 0, 0⟩] ++ r.tail := by
      rw [Rule.prog, HL.out]
      rfl
    refine ⟨_, rfl, L5, ?_, hH6, bnext (below_alloc' (below_alloc' hB5 _) _) hb6⟩
    have h := ho6.lower (base' := w.heap.size) (by simp; omega)
    rw [hp, List.map_append]
    simpa [Pile.all] using h
  · have ht : ([⟨1, 0, -1, 0, r.verdict, 0⟩, ⟨20, 0, -1, 0, 0, 0⟩] : List Ins) = r.tail := by simp only [Rule.tail, hd, if_false, List.nil_append]
    have HL : Hid (r.tail.length = 2) := by show _ = _; rw [← ht]; rfl
    have HT := Lib.hid ht
    have hd2 : (r.verdict == 2) = false := by simpa using hd
    have hs2 := hB3.size
    clear hd ht
    go_wp2_with fail
    refine (concatIns_calls _ _ _ _ (piled_two 43 (V2.heap.size + 1) (by simp) (own_ins V2.heap.size 0 _ [⟨17, 2, 6, r.at_, 0, 1⟩, ⟨r.op, 2, -1, 1, r.num, 0⟩, ⟨16, 0, -1, 2, 0, 0⟩] (by simp) rfl (by omega)).row (holds_new rfl) hO.row (hHO.alloc _)) (by simp [Pile.all]) (fun x hx => ?_)).mono ?_
    · simp only [List.mem_cons, List.not_mem_nil, or_false] at hx
      rcases hx with rfl | rfl <;> exact oneCell_ins _
    rintro e w5 ⟨v5, L5, rfl, ho6, hH6, hb6⟩
    go_wp2
    go_ret
    have hp : r.prog = [⟨17, 2, 6, r.at_, 0, 1⟩, ⟨r.op, 2, -1, 1, r.num, 0⟩, ⟨16, 0, -1, 2, 0, 0⟩] ++ [⟨1, 0, -1, 0, r.verdict, 0⟩, ⟨20, 0, -1, 0, 0, 0⟩] := by
      rw [Rule.prog, HL.out, ← HT.out]
      rfl
    refine ⟨_, rfl, L5, ?_, hH6, bnext (below_alloc' (below_alloc' hB3 _) _) hb6⟩
    have h := ho6.lower (base' := w.heap.size) (by simp; omega)
    rw [hp, List.map_append]
    simpa [Pile.all] using h
/-- The ops of the first k rules. -/
def progTo (rs : List Rule) (k : Nat) : List Ins := [⟨1, 6, 1, 0, 0, 0⟩] ++ (rs.take k).flatMap Rule.prog
def progEnd : List Ins := [⟨1, 0, -1, 0, 1, 0⟩, ⟨20, 0, -1, 0, 0, 0⟩]
theorem progTo_next {rs : List Rule} {k : Nat} {r : Rule} (h : rs[k]? = some r) : progTo rs (k + 1) = progTo rs k ++ r.prog := by
  rw [progTo, progTo, List.take_add_one, h, Option.toList_some, List.flatMap_append, List.append_assoc]
  simp
theorem progTo_len (rs : List Rule) (k : Nat) : (progTo rs k).length ≤ 1 + 7 * rs.length := by
  induction k with
  | zero => simp [progTo]
  | succ k ih =>
    have : ∀ (xs : List Rule), (xs.flatMap Rule.prog).length ≤ 7 * xs.length := by
      intro xs
      induction xs with
      | nil => simp
      | cons x xs ih =>
        have := x.prog_len
        simp only [List.flatMap_cons, List.length_append, List.length_cons]
        omega
    have h1 := this (rs.take (k + 1))
    have h2 : (rs.take (k + 1)).length ≤ rs.length := by simp; omega
    simp only [progTo, List.length_append, List.length_cons, List.length_nil]
    omega
set_option maxRecDepth 100000 in
set_option maxHeartbeats 1600000 in
theorem l9Prog_calls (v : Value) (rs : List Rule) (L : Blocks) (w : World) (h : Row 5 v (rs.map Rule.cells) L) (H : Holds w L) (hl : rs.length ≤ 6) :
    Calls Try.prog 73 #[v] w fun e w' => ∃ v', e = .returned v' ∧ ∃ M, Own w.heap.size 87 6 v' ((progTo rs rs.length ++ progEnd).map Ins.cells) M ∧ Holds w' M ∧ Below w.heap.size w w' := by
  obtain ⟨i0, hi0, hz0, hs0, hb0⟩ := info_of infoIns
  have HI := Lib.hid hi0
  clear hi0
  obtain ⟨A, n, c, rfl⟩ := h.slice
  obtain ⟨hnl, hn⟩ := h.len'
  rw [List.length_map] at hnl
  have HN := Lib.hid hnl
  have hn6 : n ≤ 6 := by omega
  clear hnl hl
  go_enter Try.func73, Try.ntmps73
  go_wp2
  go_loopw [3, 4] (fun v i wr => ∃ (k : Nat) (M : Blocks), k ≤ n ∧ i = .int .i64 k ∧ Own w.heap.size 87 6 v ((progTo rs k).map Ins.cells) M ∧ Holds wr M ∧ Below w.heap.size w wr) (fun _ i _ => n - (intOf i).toNat)
  case atStart => exact ⟨0, _, Nat.zero_le _, rfl, own_ins w.heap.size w.heap.size _ [⟨1, 6, 1, 0, 0, 0⟩] (by simp) rfl (Nat.le_refl _), holds_new rfl, below_alloc' (Below.refl _ _) _⟩
  case round =>
    obtain ⟨k, M, hk, rfl, hO, hM, hb⟩ := hrel
    have hsz := hb.size
    have hpl := progTo_len rs k
    rw [HN.out] at hpl
    by_cases hlt : k < n
    · obtain ⟨r, hr⟩ : ∃ r, rs[k]? = some r := ⟨_, List.getElem?_eq_getElem (by rw [HN.out]; exact hlt)⟩
      obtain ⟨b, off, rfl, hq⟩ := h.at_ (H.below hb) (k := k) (cs := r.cells) (by simp [hr])
      have q0 : wr.cell? ⟨b, off + k * 5, none⟩ = some (.int .i64 r.at_) := hq 0 _ rfl
      have q1 := hq 1 _ rfl
      have q2 := hq 2 _ rfl
      have q3 := hq 3 _ rfl
      have q4 := hq 4 _ rfl
      have HP := Lib.hid (progTo_next hr)
      have hrl := r.prog_len
      clear hq hr
      go_wp2_with fail
      refine (specRule_calls r _).mono ?_
      rintro e w1 ⟨v1, L1, rfl, ho1, hH1, hb1⟩
      have hM1 := hM.below hb1
      have hB1 := bnext hb hb1
      have hs1 := hB1.size
      go_wp2_with ((with_reducible refine gate_dst (N := 19) rfl ?_); refine wpList_append_row rfl _ _ 43 rfl w.heap.size 87 i0 _ 6 48 Try.underlying43 HI.out hz0 hs0 hb0 rfl (by decide) _ _ M rfl hO hM1 _ _ L1 rfl ho1.row hH1 (oneCell_ins _) (by rw [List.length_map, List.length_map]; omega) (by decide) hs1 ?_; intro v2 w2 L2 ho2 hH2 hon2 hat2)
      go_roundw
      case rel => exact ⟨k + 1, L2, by omega, by go_num, by rw [HP.out, List.map_append]; exact ho2, hH2, Only.below hB1 hs1 hon2 (fun q ⟨z, hz, hzq⟩ => by have := hO.base z hz; omega)⟩
      case measure => simp [intOf]; omega
    · have hkn : k = n := by omega
      subst hkn
      go_wp2_with ((with_reducible refine gate_dst (N := 24) rfl ?_); refine wpList_append_row rfl _ _ 43 rfl w.heap.size 87 i0 _ 6 48 Try.underlying43 HI.out hz0 hs0 hb0 rfl (by decide) _ _ M rfl hO (hM.alloc _) _ _ _ rfl (own_ins wr.heap.size 0 _ progEnd (by simp [progEnd]) rfl (by omega)).row (holds_new rfl) (oneCell_ins _) (by rw [List.length_map, List.length_map]; simp [progEnd]; omega) (by decide) (by simp; omega) ?_; intro v2 w2 L2 ho2 hH2 hon2 hat2)
      go_ret
      rw [HN.out]
      exact ⟨_, rfl, L2, by first | exact ho2 | (rw [List.map_append]; exact ho2), hH2, Only.below (below_alloc' hb _) (by simp; omega) hon2 (fun q ⟨z, hz, hzq⟩ => by have := hO.base z hz; omega)⟩
theorem rulesProg_ok {rs : List Rule} (h : rulesOk rs = true) : rulesProg rs = progTo rs rs.length ++ progEnd := by
  simp only [rulesProg, h, if_true, progTo, List.take_length, progEnd]
theorem rulesProg_no {rs : List Rule} (h : rulesOk rs = false) : rulesProg rs = [] := by simp [rulesProg, h]
theorem rulesOk_len {rs : List Rule} (h : rulesOk rs = true) : rs.length ≤ 6 := by
  simp only [rulesOk, Bool.and_eq_true, decide_eq_true_eq] at h
  exact h.1
set_option maxRecDepth 100000 in
theorem specRulesProg_calls (v : Value) (rs : List Rule) (L : Blocks) (w : World) (h : Row 5 v (rs.map Rule.cells) L) (H : Holds w L) :
    Calls Try.prog 31 #[v] w fun e w' => ∃ v', e = .returned v' ∧ ∃ M, Own w.heap.size 87 6 v' ((rulesProg rs).map Ins.cells) M ∧ Holds w' M ∧ Below w.heap.size w w' := by
  cases hok : rulesOk rs with
  | false =>
    have HR := Lib.hid (rulesProg_no hok)
    have HK := Lib.hid hok
    clear hok
    go_enter Try.func31, Try.ntmps31
    go_wp2_with fail
    refine (l9Ok_calls v rs L _ h H).mono ?_
    rw [HK.out]
    rintro e w1 ⟨rfl, hb1⟩
    go_wp2
    go_ret
    rw [HR.out]
    exact ⟨_, rfl, [], Own.nil _ _ _, Holds.nil _, hb1⟩
  | true =>
    have HR := Lib.hid (rulesProg_ok hok)
    have HK := Lib.hid hok
    have hl := rulesOk_len hok
    clear hok
    go_enter Try.func31, Try.ntmps31
    go_wp2_with fail
    refine (l9Ok_calls v rs L _ h H).mono ?_
    rw [HK.out]
    rintro e w1 ⟨rfl, hb1⟩
    go_wp2_with fail
    refine (l9Prog_calls v rs L _ h (H.below hb1) hl).mono ?_
    rintro e w2 ⟨v2, rfl, M, ho, hM, hb2⟩
    go_wp2
    go_ret
    rw [HR.out]
    exact ⟨_, rfl, M, ho.lower hb1.size, hM, bnext hb1 hb2⟩
set_option maxRecDepth 100000 in
theorem clipIns_calls (v : Value) (css : List (List Value)) (L : Blocks) (B : Nat) (w : World) (h : Own B 87 6 v css L) :
    Calls Try.prog 75 #[v] w fun e w' => (∃ v', e = .returned v' ∧ Own B 87 6 v' css L) ∧ w' = w := by
  obtain ⟨h0, ⟨rfl, rfl, rfl⟩ | ⟨b, cap, cur, rfl, hb, hl, hm, hs, rfl, ht⟩⟩ := h
  · go_enter Try.func75, Try.ntmps75
    go_wp2
    go_ret
    exact ⟨⟨_, rfl, Own.nil _ _ _⟩, rfl⟩
  · have HT := Lib.hid ht
    clear ht
    go_enter Try.func75, Try.ntmps75
    go_wp2
    go_ret
    exact ⟨⟨_, rfl, h0, .inr ⟨b, css.length, cur, rfl, hb, Nat.le_refl _, by omega, Nat.le_trans (Nat.mul_le_mul_right _ hl) hs, rfl, HT.out⟩⟩, rfl⟩
set_option maxRecDepth 100000 in
set_option maxHeartbeats 1600000 in
theorem implRulesProg_calls (v : Value) (rs : List Rule) (L : Blocks) (w : World) (h : Row 5 v (rs.map Rule.cells) L) (H : Holds w L) :
    Calls Try.prog 32 #[v] w fun e w' => ∃ v', e = .returned v' ∧ ∃ M, Own w.heap.size 87 6 v' ((rulesProg rs).map Ins.cells) M ∧ Holds w' M ∧ Below w.heap.size w w' := by
  cases hok : rulesOk rs with
  | false =>
    have HR := Lib.hid (rulesProg_no hok)
    have HK := Lib.hid hok
    clear hok
    go_enter Try.func32, Try.ntmps32
    go_wp2_with fail
    refine (rulesOk_calls v rs L _ h H).mono ?_
    rw [HK.out]
    rintro e w1 ⟨rfl, hb1⟩
    go_wp2
    go_ret
    rw [HR.out]
    exact ⟨_, rfl, [], Own.nil _ _ _, Holds.nil _, hb1⟩
  | true =>
    have HR := Lib.hid (rulesProg_ok hok)
    have HK := Lib.hid hok
    have hl := rulesOk_len hok
    obtain ⟨i0, hi0, hz0, hs0, hb0⟩ := info_of infoIns
    have HI := Lib.hid hi0
    clear hi0 hok
    obtain ⟨A, n, c, rfl⟩ := h.slice
    obtain ⟨hnl, hn⟩ := h.len'
    rw [List.length_map] at hnl
    have HN := Lib.hid hnl
    have hn6 : n ≤ 6 := by omega
    clear hnl hl
    go_enter Try.func32, Try.ntmps32
    go_wp2_with fail
    refine (rulesOk_calls _ rs L _ h H).mono ?_
    rw [HK.out]
    rintro e w1 ⟨rfl, hb1⟩
    have hs1 := hb1.size
    go_wp2
    go_loopw [3, 13] (fun v i wr => ∃ (k : Nat) (M : Blocks), k ≤ n ∧ i = .int .i64 k ∧ Own w.heap.size 87 6 v ((progTo rs k).map Ins.cells) M ∧ Holds wr M ∧ Below w.heap.size w wr) (fun _ i _ => n - (intOf i).toNat)
    case atStart => exact ⟨0, _, Nat.zero_le _, rfl, own_ins w1.heap.size w.heap.size _ [⟨1, 6, 1, 0, 0, 0⟩] (by simp) rfl hs1, holds_new rfl, (hb1.alloc hs1 _)⟩
    case round =>
      obtain ⟨k, M, hk, rfl, hO, hM, hb⟩ := hrel
      have hsz := hb.size
      have hpl := progTo_len rs k
      rw [HN.out] at hpl
      by_cases hlt : k < n
      · obtain ⟨r, hr⟩ : ∃ r, rs[k]? = some r := ⟨_, List.getElem?_eq_getElem (by rw [HN.out]; exact hlt)⟩
        obtain ⟨b, off, rfl, hq⟩ := h.at_ (H.below hb) (k := k) (cs := r.cells) (by simp [hr])
        have q0 : wr.cell? ⟨b, off + k * 5, none⟩ = some (.int .i64 r.at_) := hq 0 _ rfl
        have q1 := hq 1 _ rfl
        have q2 := hq 2 _ rfl
        have q3 := hq 3 _ rfl
        have q4 := hq 4 _ rfl
        have HP := Lib.hid (progTo_next hr)
        have hrl := r.prog_len
        clear hq hr
        go_wp2_with fail
        refine (implRule_calls r _).mono ?_
        rintro e w2 ⟨v1, rfl, L1, ho1, hH1, hb2⟩
        have hM1 := (hM.alloc _).below hb2
        have hB1 := bnext (below_alloc' hb _) hb2
        have hs2 := hB1.size
        go_wp2_with ((with_reducible refine gate_dst (N := 20) rfl ?_); refine wpList_append_row rfl _ _ 43 rfl w.heap.size 87 i0 _ 6 48 Try.underlying43 HI.out hz0 hs0 hb0 rfl (by decide) _ _ M rfl hO hM1 _ _ L1 rfl ho1.row hH1 (oneCell_ins _) (by rw [List.length_map, List.length_map]; omega) (by decide) hs2 ?_; intro v2 w3 L2 ho2 hH2 hon2 hat2)
        go_roundw
        case rel => exact ⟨k + 1, L2, by omega, by go_num, by rw [HP.out, List.map_append]; exact ho2, hH2, Only.below hB1 hs2 hon2 (fun q ⟨z, hz, hzq⟩ => by have := hO.base z hz; omega)⟩
        case measure => simp [intOf]; omega
      · have hkn : k = n := by omega
        subst hkn
        go_wp2_with fail
        refine (moves_calls 0 1 _).mono ?_
        rintro e w2 ⟨rfl, hb2⟩
        have hB2 := bnext hb hb2
        have hs2 := hB2.size
        have hM2 := hM.below hb2
        go_wp2_with (first | ((with_reducible refine gate_dst (N := 26) rfl ?_); refine wpList_append_row rfl _ _ 43 rfl w.heap.size 87 i0 _ 6 48 Try.underlying43 HI.out hz0 hs0 hb0 rfl (by decide) _ _ M rfl hO (hM2.alloc _) _ _ _ rfl (own_ins w2.heap.size 0 _ progEnd (by simp [progEnd]) rfl (by omega)).row (holds_new rfl) (oneCell_ins _) (by rw [List.length_map, List.length_map]; simp [progEnd]; omega) (by decide) (by simp; omega) ?_; intro v2 w3 L2 ho2 hH2 hon2 hat2) | (go_at_call 75; refine (clipIns_calls _ _ L2 _ _ ho2).mono ?_; rintro e w' ⟨⟨v', rfl, ho'⟩, hw'⟩; subst w'))
        go_ret
        rw [HR.out, HN.out]
        exact ⟨_, rfl, L2, by rw [List.map_append]; exact ho', hH2, Only.below (below_alloc' hB2 _) (by simp; omega) hon2 (fun q ⟨z, hz, hzq⟩ => by have := hO.base z hz; omega)⟩
end Go.Proofs.Ytdpdclfanlbkjaa
