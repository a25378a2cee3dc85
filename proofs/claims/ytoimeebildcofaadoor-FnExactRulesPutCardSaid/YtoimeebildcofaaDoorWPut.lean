/- The walks of the program's RulesPut: a rule's text, the builder, and the loop. The table of powers of ten is taken as its initialiser lays it. -/
import Derived.Test.YtoimeebildcofaaDoorLxLine
import Derived.Test.YtoimeebildcofaaDoorShelf
import Derived.Test.YtoimeebildcofaaDoorPlan
import Derived.WalkSmall
import Derived.Lib.FrozenHead
import Derived.Laws.Externs
import Derived.Lib.LaidTab
import Derived.Lib.AppendIntMem
namespace Go.Proofs.YtoimeebildcofaaDoor
open Go.RowKit Go.Proofs.YtoimeebildcofaaDoorW.PrintLast
abbrev Tab (w : World) : Prop := Lib.TabIs Tryd.prog w "internal/strconv.uint64pow10" .u64 Lib.pow10Tab
theorem tab_global : (Tryd.prog.globalNamed "internal/strconv.uint64pow10").isSome = true := by kernel_rfl
theorem tab_below {w w' : World} (h : Tab w) (hb : Below w.heap.size w w') : Tab w' := by
  obtain ⟨g, hg⟩ := Option.isSome_iff_exists.1 tab_global
  have hc := h.cell hg 0 (by decide)
  exact var?_below hb hg (World.block_lt_of_cell? w _ hc) h
theorem infoBuilder : (Tryd.prog.info? 38).map (·.size) = some 2 := by kernel_rfl
theorem liesBuilder : liesAt Tryd.prog Tryd.prog.depth 38 (2 / Tryd.prog.cellsOf 38) 0 38 1 = true := by kernel_rfl
set_option maxRecDepth 100000 in
theorem check_used (b : Nat) (w : World) (h0 : w.cell? ⟨b, 0, none⟩ = some (.pointer (some ⟨b, 0, none⟩))) :
    Calls Tryd.prog 24 #[.pointer (some ⟨b, 0, none⟩)] w fun e w' => e = .returned (.tuple #[]) ∧ w' = w := by
  obtain ⟨j, hj, _⟩ := Option.map_eq_some_iff.1 infoBuilder
  go_enter Tryd.func24, Tryd.ntmps24
  go_wp2
  rw [Lib.run_neq_ptr_same w _ Tryd.underlying35 hj]
  go_wp2
  go_end0
  exact ⟨rfl, rfl⟩
set_option maxRecDepth 100000 in
theorem check_fresh (b : Nat) (w : World) (h0 : w.cell? ⟨b, 0, none⟩ = some (.pointer none)) (hsh : w.shape? b = some (38, 2)) (hfz : w.frozen? ⟨b, 0, none⟩ = false) :
    Calls Tryd.prog 24 #[.pointer (some ⟨b, 0, none⟩)] w fun e w' => e = .returned (.tuple #[]) ∧ w' = w.setCell ⟨b, 0, none⟩ (.pointer (some ⟨b, 0, none⟩)) := by
  obtain ⟨j, hj, hjs⟩ := Option.map_eq_some_iff.1 infoBuilder
  go_enter Tryd.func24, Tryd.ntmps24
  go_wp2
  rw [Lib.run_to_unsafe w ⟨b, 0, none⟩ Tryd.underlying35 Tryd.underlying59 hj (by rw [hjs]; decide) hsh (Nat.zero_lt_succ 1)]
  simp only [Result.andThen]
  rw [Oper.upon_value]
  go_wp2
  rw [run_callFunc_extern Tryd.func34 (by kernel_rfl) (by kernel_rfl) (by kernel_rfl) (e := Extern.AbiNoEscape.same) (by kernel_rfl)]
  rw [Lib.run_noEscape]
  simp only [Result.andThen]
  rw [Oper.upon_value]
  go_wp2
  rw [Lib.run_from_unsafe w ⟨b, 0, none⟩ Tryd.underlying59 Tryd.underlying35 hj hsh liesBuilder]
  simp only [Result.andThen]
  rw [Oper.upon_value]
  go_wp2
  go_end0
  exact ⟨rfl, rfl⟩
abbrev Bld (B b : Nat) (l : List UInt8) (w : World) : Prop := Lib.IsBuilderF 38 5 B b (Lib.byteCells l) w
set_option maxRecDepth 100000 in
theorem verdictWords_calls (w : World) : Calls Tryd.prog 27 #[] w fun e w' => ∃ M, (∃ v, e = .returned v ∧ Row 1 v ((ruleWords.map bs).map strCell) M) ∧ Holds w' M ∧ Below w.heap.size w w' := by
  obtain ⟨R, H⟩ := row_new w #[.string (bs [100, 114, 111, 112]), .string (bs [107, 101, 101, 112]), .string (bs [115, 101, 110, 100])] 9 3 ((ruleWords.map bs).map strCell) rfl (by omega) (by simp [strCell, ruleWords]) rfl
  go_enter Tryd.func27, Tryd.ntmps27
  go_wp2
  go_ret
  exact ⟨_, ⟨_, rfl, R⟩, H, below_alloc' (Below.refl _ _) _⟩
theorem infoByteP : (Tryd.prog.info? 5).map (fun i => (i.zero, i.size, i.bytes)) = some (some (.int .u8 0), 1, 1) := by kernel_rfl
theorem byteCells_app (l x : List UInt8) : Lib.byteCells l ++ Lib.strCells (bs x) = Lib.byteCells (l ++ x) := by simp [Lib.byteCells, Lib.strCells, bs]
/-- copyCheck: behind it the builder holds its own address. -/
theorem check_calls (B b : Nat) (l : List UInt8) (w : World) (h : Bld B b l w) :
    Calls Tryd.prog 24 #[.pointer (some ⟨b, 0, none⟩)] w fun e w' => e = .returned (.tuple #[]) ∧ Lib.BuilderAtF 38 5 B b (.pointer (some ⟨b, 0, none⟩)) (Lib.byteCells l) w' ∧ Below B w w' := by
  rcases h with h | h
  · refine (check_fresh b w h.cell0 h.shape h.frozen0).mono ?_
    rintro e w' ⟨rfl, rfl⟩
    exact ⟨rfl, h.used _, (Below.refl B w).setCell (p := ⟨b, 0, none⟩) h.1 _⟩
  · refine (check_used b w h.cell0).mono ?_
    rintro e w' ⟨rfl, rfl⟩
    exact ⟨rfl, h, Below.refl B _⟩
set_option maxHeartbeats 1000000 in
set_option maxRecDepth 100000 in
theorem write_calls (B b : Nat) (l x : List UInt8) (w : World) (h : Bld B b l w) (hlen : l.length + x.length ≤ 1000000) (hBw : B ≤ w.heap.size) :
    Calls Tryd.prog 13 #[.pointer (some ⟨b, 0, none⟩), .string (bs x)] w fun e w' => e = .returned (.tuple #[.int .i64 x.length, .nilIface]) ∧ Bld B b (l ++ x) w' ∧ Below B w w' := by
  obtain ⟨i0, hi, hz0, hz1, hz2⟩ := info_of infoByteP
  have hx : (bs x).size = x.length := LXy.2.2 x
  go_enter Tryd.func13, Tryd.ntmps13
  go_wp2_with (go_at_call 24; refine (check_calls B b l _ h).mono ?_)
  rintro e w1 ⟨rfl, ⟨hB, v, hbk, hown, hne⟩, hb1⟩
  have c1 : w1.cell? ⟨b, 1, none⟩ = some v := by rw [Lib.cell_of_heap hbk]; rfl
  have hl : (Lib.byteCells l).length = l.length := by simp [Lib.byteCells]
  have hs1 := hb1.size
  rw [hl] at hown
  go_wp2_with (at_builtin; refine Lib.wpList_append_own_stringF _ rfl _ _ 36 9 rfl B 5 i0 Tryd.underlying36 Tryd.underlying9 hi hz0 hz1 hz2 _ _ _ rfl hown (bs x) rfl (by rw [hx]; unfold maxLen; omega) (by rw [hx]; omega) (by omega) ?_)
  intro v' w2 hown' hgrow _
  have hlt : b < w1.heap.size := (Array.getElem?_eq_some_iff.1 hbk).1
  have hb2 : w2.heap[b]? = some (.cells #[.pointer (some ⟨b, 0, none⟩), v] 38 (0, 0)) := (hgrow.block b hlt (fun e => hne e.symm)).trans hbk
  have f1 : w2.frozen? ⟨b, 1, none⟩ = false := Lib.frozen_of_heap hb2 1
  have d1 : w2.cell? ⟨b, 1, none⟩ = some v := by rw [Lib.cell_of_heap hb2]; rfl
  obtain ⟨ao, n', cap, rfl⟩ : ∃ ao n' cap, v' = .slice ao n' cap := by
    rcases hown'.2 with ⟨hv, _⟩ | ⟨g, cap, cur, fz, hv, _⟩ <;> exact ⟨_, _, _, hv⟩
  go_wp2
  go_ret2
  rw [byteCells_app] at hown'
  refine ⟨rfl, .inr (Lib.BuilderAtF.put hB hb2 (by simpa [Lib.byteCells] using hown') (by decide)), ?_⟩
  exact (hb1.grown hgrow (by omega) (fun k hk => (hown.lt k hk).1)).setCell (p := ⟨b, 1, none⟩) hB _
theorem itoa_calls (n : Int) (h0 : 0 ≤ n) (h1 : n ≤ 4294967295) (w : World) (ht : Tab w) : Calls Tryd.prog 25 #[.int .i64 n] w fun e w' => e = .returned (.string (bs (decI n))) ∧ Below w.heap.size w w' := by
  refine (Tryd.strconv_Itoa n (by omega) (by omega) w ht).mono ?_
  rintro e w' ⟨rfl, k, os, rfl⟩
  refine ⟨?_, Lib.below_grow _ w (Nat.le_refl _) k os⟩
  rw [Lib.itoa, if_neg (by omega)]
  rfl
theorem index_words (i : Int) (h0 : 0 ≤ i) (h1 : i < 21) (w : World) : (Instr.index 51 (.agg (words.map fun l => Value.string (bs l)).toArray) (.int .i64 i)).run Tryd.prog w = .ok (.string (bs (wordAt words i))) w := by
  have hlen : i.toNat < words.length := by show i.toNat < 21; omega
  have hp := run_part (w := w) T_string (cs := (words.map fun l => Value.string (bs l)).toArray) (off := i.toNat) (by simp [Sh.size]; omega)
  have hsz : (typeInfo 9).run Tryd.prog w = .ok ((Tryd.prog.info? 9).get (by kernel_rfl)) w := by kernel_rfl
  have e1 : ((Tryd.prog.info? 9).get (by kernel_rfl)).size = 1 := by kernel_rfl
  simp only [Instr.index, asIntOf, Sem.run_bind, Sem.run_pure, Result.andThen_ok, run_underlying Tryd.underlying51, h0, show i < ((21 : Nat) : Int) from h1, and_self, if_true, sizeOf, hsz, e1, Nat.mul_one, hp]
  have := word_at (ws := words) h0 h1
  simp [pack, Sh.isAgg, Sh.size, List.head?_take, List.head?_drop, List.getElem?_map, this]
theorem opWords_calls' (w : World) : Calls Tryd.prog 26 #[] w fun e w' => ∃ v, e = .returned v ∧ (∀ i : Int, 0 ≤ i → i < 21 → ∀ w, (Instr.index 51 v (.int .i64 i)).run Tryd.prog w = .ok (.string (bs (wordAt words i))) w) ∧ Below w.heap.size w w' :=
  (opWords_calls w).mono fun e w' ⟨he, hb⟩ => ⟨_, he, index_words, hb⟩
set_option maxHeartbeats 4000000 in
set_option maxRecDepth 100000 in
theorem text_calls (r : Rule) (h : r.ok = true) (w : World) (ht : Tab w) :
    Calls Tryd.prog 14 #[.agg #[.int .i64 r.at_, .int .i64 r.op, .int .i64 r.num, .int .i64 r.verdict, .int .i64 r.key]] w fun e w' => e = .returned (.string (bs r.line)) ∧ Below w.heap.size w w' := by
  simp only [Rule.ok, inB, Bool.and_eq_true, decide_eq_true_eq] at h
  obtain ⟨a, op, num, vd, key⟩ := r
  obtain ⟨⟨⟨⟨⟨⟨a0, a1⟩, ⟨b0, b1⟩⟩, ⟨c0, c1⟩⟩, ⟨d0, d1⟩⟩, ⟨e0, e1⟩⟩, _⟩ := h
  simp only at *
  obtain ⟨vd, rfl⟩ := Int.eq_ofNat_of_zero_le d0
  have d2 : (vd : Int) < 3 := by omega
  have n1 : (decI a).length ≤ 20 := decI_len (by omega)
  have n2 : (decI num).length ≤ 20 := decI_len (by omega)
  have n3 : (decI key).length ≤ 20 := decI_len (by omega)
  generalize hO : (Ending.returned (Value.string (bs (Rule.line ⟨a, op, num, vd, key⟩)))) = O
  have HO := Lib.hid hO
  clear hO
  have m1 : (bs (decI a)).size ≤ 20 := by rw [LXy.2.2]; exact n1
  have m2 : (bs (decI num)).size ≤ 20 := by rw [LXy.2.2]; exact n2
  have m3 : (bs (decI key)).size ≤ 20 := by rw [LXy.2.2]; exact n3
  have k1 : ¬ 9223372036854775807 < 5 + (bs (decI a)).size := by omega
  have k2 : ¬ 9223372036854775807 < 5 + (bs (decI a)).size + 1 := by omega
  have m4 : (bs (wordAt words op)).size ≤ 5 := by rw [LXy.2.2]; exact word_len 5 (by decide) _
  have m5 : (bs (wordAt ruleWords vd)).size ≤ 4 := by rw [LXy.2.2]; exact word_len 4 (by decide) _
  have k3 : ¬ 9223372036854775807 < 5 + (bs (decI a)).size + 1 + (bs (wordAt words op)).size := by omega
  have k4 : ¬ 9223372036854775807 < 5 + (bs (decI a)).size + 1 + (bs (wordAt words op)).size + 1 := by omega
  have k5 : ¬ 9223372036854775807 < 5 + (bs (decI a)).size + 1 + (bs (wordAt words op)).size + 1 + (bs (decI num)).size := by omega
  have k6 : ¬ 9223372036854775807 < 5 + (bs (decI a)).size + 1 + (bs (wordAt words op)).size + 1 + (bs (decI num)).size + 1 := by omega
  have k7 : ¬ 9223372036854775807 < 5 + (bs (decI a)).size + 1 + (bs (wordAt words op)).size + 1 + (bs (decI num)).size + 1 + (bs (wordAt ruleWords vd)).size := by omega
  all_goals
    have htV := tab_below ht (below_alloc' (Below.refl _ _) (.cells #[.int .i64 a, .int .i64 op, .int .i64 num, .int .i64 vd, .int .i64 key] 32))
    have hB := below_alloc' (Below.refl w.heap.size w) (.cells #[.int .i64 a, .int .i64 op, .int .i64 num, .int .i64 vd, .int .i64 key] 32)
    have hbox := heap_alloc_new w (.cells #[.int .i64 a, .int .i64 op, .int .i64 num, .int .i64 vd, .int .i64 key] 32)
    obtain ⟨V, hV⟩ : ∃ V, w.alloc (.cells #[.int .i64 a, .int .i64 op, .int .i64 num, .int .i64 vd, .int .i64 key] 32) = V := ⟨_, rfl⟩
    rw [hV] at htV hB hbox
    have HV := Lib.hid hV
    clear hV
    go_enter Tryd.func14, Tryd.ntmps14
    go_wp2_with fail
    rw [HV.out]
    have p0 : V.cell? ⟨w.heap.size, 0, none⟩ = some (.int .i64 a) := by rw [Lib.cell_of_heap hbox]; rfl
    have p1 : V.cell? ⟨w.heap.size, 1, none⟩ = some (.int .i64 op) := by rw [Lib.cell_of_heap hbox]; rfl
    have p2 : V.cell? ⟨w.heap.size, 2, none⟩ = some (.int .i64 num) := by rw [Lib.cell_of_heap hbox]; rfl
    have p3 : V.cell? ⟨w.heap.size, 3, none⟩ = some (.int .i64 vd) := by rw [Lib.cell_of_heap hbox]; rfl
    have q0 := cell_regrown p0
    have q1 := cell_regrown p1
    have q2 := cell_regrown p2
    have q3 := cell_regrown p3
    refine wp_region_plan [] (.one 0 .pure (.one 6 .pure (.one 11 .pure (.one 17 .pure (.one 1 .load (.one 7 .load (.one 12 .load (.one 18 .load (.one 2 .act (.one 3 .pure (.one 4 .pure (.one 5 .act (.one 8 .pure (.one 9 .pure (.one 10 .pure (.one 13 .act (.one 14 .pure (.one 15 .pure (.one 16 .act (.one 19 .pure (.one 20 .act (.one 21 .pure (.one 22 .pure .done))))))))))))))))))))))) (fun w' => ∃ p : Regrown, w' = Sort.grow (redrawn V p.d) p.os) (by kernel_rfl) (by kernel_rfl) (fun _ _ d _ _ h => by cases d <;> exact h) ?_
    simp only [Plan.pick, List.getElem?_cons_zero, List.getElem?_cons_succ]
    have hS : Below V.heap.size V V.drew := below_drewN' (Below.refl _ _) 1
    have hB : Below _ _ V.drew := below_drewN' hB 1
    refine plan_pure (fun K hK => ?_); go_simp; refine hK _ _ ?_; clear hK K
    refine plan_pure (fun K hK => ?_); go_simp; refine hK _ _ ?_; clear hK K
    refine plan_pure (fun K hK => ?_); go_simp; refine hK _ _ ?_; clear hK K
    refine plan_pure (fun K hK => ?_); go_simp; refine hK _ _ ?_; clear hK K
    refine plan_load (fun K hK => ?_); go_simp; refine ⟨regrown_of_below hS, hK _ _ ?_⟩; clear hK K
    refine plan_load (fun K hK => ?_); go_simp; refine ⟨regrown_of_below hS, hK _ _ ?_⟩; clear hK K
    refine plan_load (fun K hK => ?_); go_simp; refine ⟨regrown_of_below hS, hK _ _ ?_⟩; clear hK K
    refine plan_load (fun K hK => ?_); go_simp; refine ⟨regrown_of_below hS, hK _ _ ?_⟩; clear hK K
    refine plan_act ?_
    clear q0 q1 q2 q3
    go_wp2_with fail
    refine (itoa_calls a a0 (by omega) _ (tab_below htV hS)).mono ?_
    rintro e w2 ⟨rfl, hb⟩
    have hS := bnext hS hb
    have hB := bnext hB hb
    clear hb
    go_wp2
    refine ⟨regrown_of_below hS, ?_⟩
    refine plan_pure (fun K hK => ?_); go_simp; refine hK _ _ ?_; clear hK K
    refine plan_pure (fun K hK => ?_); go_simp; refine hK _ _ ?_; clear hK K
    refine plan_act ?_
    go_wp2_with fail
    refine (opWords_calls' _).mono ?_
    rintro e w3 ⟨vw, rfl, hix, hb⟩
    have hix := hix op (by omega) (by omega)
    have hS := bnext hS hb
    have hB := bnext hB hb
    clear hb
    go_wp2
    refine ⟨regrown_of_below hS, ?_⟩
    refine plan_pure (fun K hK => ?_); go_simp; refine hK _ _ ?_; clear hK K
    refine plan_pure (fun K hK => ?_); go_simp; refine hK _ _ ?_; clear hK K
    refine plan_pure (fun K hK => ?_); go_simp; refine hK _ _ ?_; clear hK K
    refine plan_act ?_
    go_wp2_with fail
    refine (itoa_calls num c0 (by omega) _ (tab_below htV hS)).mono ?_
    rintro e w4 ⟨rfl, hb⟩
    have hS := bnext hS hb
    have hB := bnext hB hb
    clear hb
    go_wp2
    refine ⟨regrown_of_below hS, ?_⟩
    refine plan_pure (fun K hK => ?_); go_simp; refine hK _ _ ?_; clear hK K
    refine plan_pure (fun K hK => ?_); go_simp; refine hK _ _ ?_; clear hK K
    refine plan_act ?_
    go_wp2_with fail
    refine (verdictWords_calls _).mono ?_
    rintro e w5 ⟨M, ⟨v, rfl, R⟩, H, hb⟩
    have hS := bnext hS hb
    have hB := bnext hB hb
    clear hb
    obtain ⟨A, n, c, rfl⟩ := R.slice
    obtain ⟨hn, hn'⟩ := R.len'
    obtain rfl : n = 3 := hn.symm
    obtain ⟨b, off, rfl, hq⟩ := R.at_ H (k := vd) (cs := strCell (bs (wordAt ruleWords vd))) (by rw [List.map_map, List.getElem?_map, show ruleWords[vd]? = some (wordAt ruleWords vd) from word_at (ws := ruleWords) (i := (vd : Int)) (by omega) d2]; rfl)
    have hq0 : w5.cell? ⟨b, off + vd * 1, none⟩ = some (.string (bs (wordAt ruleWords vd))) := hq 0 _ rfl
    rw [Nat.mul_one] at hq0
    clear hq R hn hn'
    go_wp2
    refine ⟨regrown_of_below hS, ?_⟩
    refine plan_pure (fun K hK => ?_); go_simp; refine hK _ _ ?_; clear hK K
    refine plan_act ?_
    go_wp2
    refine ⟨regrown_of_below hS, ?_⟩
    refine plan_pure (fun K hK => ?_); go_simp; refine hK _ _ ?_; clear hK K
    refine plan_pure (fun K hK => ?_); go_simp; refine hK _ _ ?_; clear hK K
    refine plan_done ?_
    have hbx := ((Holds.one hbox).below hS).get
    have htC := tab_below htV hS
    have r3 := Lib.cell_of_heap hbx 3
    have r4 := Lib.cell_of_heap hbx 4
    simp only [List.getElem?_toArray, List.getElem?_cons_succ, List.getElem?_cons_zero] at r3 r4
    generalize hX : (ByteArray.mk #[98, 121, 116, 101, 32] ++ bs (decI a) ++ ByteArray.mk #[32] ++ bs (wordAt words op) ++ ByteArray.mk #[32] ++ bs (decI num) ++ ByteArray.mk #[32] ++ bs (wordAt ruleWords (vd : Int))) = X
    have hXs : X.size ≤ 60 := by
      have w4 : (wordAt words op).length ≤ 5 := word_len 5 (by decide) _
      have w5 : (wordAt ruleWords (vd : Int)).length ≤ 4 := word_len 4 (by decide) _
      rw [← hX]
      simp only [LXy.1, LXy.2.1, LXy.2.2, List.length_append, List.length_cons, List.length_nil]
      omega
    have HX := Lib.hid hX
    clear hX k1 k2 k3 k4 k5 k6 k7 hbx p0 p1 p2 p3
    have k1 : ¬ 9223372036854775807 < 1 + (bs (decI key)).size := by omega
    have k2 : ¬ 9223372036854775807 < X.size + (1 + (bs (decI key)).size) := by omega
    have k3 : ¬ 9223372036854775807 < X.size + (1 + (bs (decI key)).size) + 1 := by omega
    have k4 : ¬ 9223372036854775807 < X.size + 1 := by omega
    by_cases hv : (vd : Int) = 2
    · go_wp2_with fail
      refine (itoa_calls key e0 e1 _ htC).mono ?_
      rintro e w6 ⟨rfl, hb⟩
      have hB := bnext hB hb
      clear hb r3 r4
      go_wp2
      go_ret
      refine ⟨?_, hB⟩
      rw [← HO.out]
      show Ending.returned (Value.string (X ++ (ByteArray.mk #[32] ++ bs (decI key)) ++ ByteArray.mk #[10])) = _
      rw [← HX.out]
      simp only [LXy.1, LXy.2.1]
      simp [Rule.line, hv]
    · go_wp2_with fail
      go_ret
      refine ⟨?_, hB⟩
      rw [← HO.out]
      show Ending.returned (Value.string (X ++ ByteArray.mk #[10])) = _
      rw [← HX.out]
      simp only [LXy.1, LXy.2.1]
      simp [Rule.line, hv]
theorem bld_below {B b : Nat} {l : List UInt8} {w w' : World} (h : Bld B b l w) (hb : Below w.heap.size w w') : Bld B b l w' := by
  have key : ∀ p, Lib.BuilderAtF 38 5 B b p (Lib.byteCells l) w → Lib.BuilderAtF 38 5 B b p (Lib.byteCells l) w' := fun p ⟨hB, v, h1, ⟨h2, h3⟩, h4⟩ => by
    refine ⟨hB, v, (hb.block b (Array.getElem?_eq_some_iff.1 h1).1).trans h1, ⟨h2, ?_⟩, h4⟩
    rcases h3 with h3 | ⟨g, cap, cur, fz, hv, hg, hc, hr⟩
    · exact .inl h3
    · exact .inr ⟨g, cap, cur, fz, hv, hg, (hb.block g (Array.getElem?_eq_some_iff.1 hc).1).trans hc, hr⟩
  exact h.imp (key _) (key _)
theorem bld_new (w : World) : Bld w.heap.size w.heap.size [] (w.alloc (.cells #[.pointer none, .slice none 0 0] 38)) :=
  .inl ⟨Nat.le_refl _, .slice none 0 0, heap_alloc_new w _, ⟨rfl, .inl ⟨rfl, rfl⟩⟩, by simp [Value.ownBlock]⟩
set_option maxHeartbeats 2000000 in
set_option maxRecDepth 100000 in
theorem implRulesPut_calls (v : Value) (rs : List Rule) (L : Blocks) (w : World) (h : Row 5 v (rs.map Rule.cells) L) (H : Holds w L) (ht : Tab w) :
    Calls Tryd.prog 7 #[v] w fun e w' => e = .returned (.string (bs (putText rs))) ∧ Below w.heap.size w w' := by
  obtain ⟨A, n, c, rfl⟩ := h.slice
  obtain ⟨hnl, hn⟩ := h.len'
  rw [List.length_map] at hnl
  have HN := Lib.hid hnl
  clear hnl
  have hRO := rulesOk_calls _ rs L w h H
  cases hok : rulesOk rs with
  | false =>
    rw [hok] at hRO
    have HE : Ending.returned (.string (bs (putText rs))) = Ending.returned (.string ⟨#[]⟩) := by simp [putText, hok]; rfl
    rw [HE]
    go_enter Tryd.func7, Tryd.ntmps7
    go_wp2_with fail
    refine hRO.mono ?_
    rintro e w1 ⟨rfl, hb1⟩
    go_wp2
    go_ret
    exact ⟨rfl, hb1⟩
  | true =>
    rw [hok] at hRO
    have HE : putText rs = putTo rs rs.length := by simp [putText, hok]
    rw [HE]
    have hok' := hok
    simp only [rulesOk, Bool.and_eq_true, decide_eq_true_eq] at hok'
    have HK := Lib.hid hok'.2
    have hn6 : n ≤ 6 := by rw [← HN.out]; exact hok'.1
    clear hok hok' HE
    go_enter Tryd.func7, Tryd.ntmps7
    go_wp2_with fail
    refine hRO.mono ?_
    rintro e w1 ⟨rfl, hb1⟩
    have hs1 := hb1.size
    have ht1 := tab_below ht hb1
    have H1 := H.below hb1
    go_wp2_with fail
    go_loopw [11] (fun i wr => ∃ k : Nat, k ≤ n ∧ i = .int .i64 k ∧ Bld w1.heap.size w1.heap.size (putTo rs k) wr ∧ Below w1.heap.size w1 wr) (fun i _ => n - (intOf i).toNat)
    case atStart => exact ⟨0, Nat.zero_le _, rfl, bld_new w1, (Below.refl _ _).alloc (Nat.le_refl _) _⟩
    case round =>
      obtain ⟨k, hk, rfl, hB, hb⟩ := hrel
      have hsz := hb.size
      by_cases hlt : k < n
      · obtain ⟨r, hr⟩ : ∃ r, rs[k]? = some r := ⟨_, List.getElem?_eq_getElem (by rw [HN.out]; exact hlt)⟩
        have HR := Lib.hid hr
        clear hr
        obtain ⟨b, off, rfl, hq⟩ := h.at_ (H1.below hb) (k := k) (cs := r.cells) (by simp [HR.out])
        have q0 : wr.cell? ⟨b, off + k * 5, none⟩ = some (.int .i64 r.at_) := hq 0 _ rfl
        have q1 := hq 1 _ rfl
        have q2 := hq 2 _ rfl
        have q3 := hq 3 _ rfl
        have q4 := hq 4 _ rfl
        clear hq
        have hrok := List.all_eq_true.1 HK.out r (List.mem_of_getElem? HR.out)
        have HT := text_calls r hrok
        have hk6 := putTo_len HK.out k
        have hl6 := Rule.line_len hrok
        have hsum : (putTo rs k).length + r.line.length ≤ 1000000 := by omega
        have hnx := putTo_succ HR.out
        clear hk6 hl6
        have htr := tab_below ht1 hb
        have hba := below_alloc' (Below.refl wr.heap.size wr) (.cells #[.int .i64 r.at_, .int .i64 r.op, .int .i64 r.num, .int .i64 r.verdict, .int .i64 r.key] 32)
        have hta := tab_below htr hba
        go_wp2_with fail
        refine (HT _ hta).mono ?_
        rintro e w2 ⟨rfl, hb2⟩
        have hb2 := bnext hba hb2
        have hB2 := bld_below hB hb2
        have hsz2 := hb2.size
        clear hta hba
        go_wp2_with fail
        refine (write_calls _ _ (putTo rs k) r.line w2 hB2 hsum (by omega)).mono ?_
        rintro e w3 ⟨rfl, hB3, hb3⟩
        rw [← hnx] at hB3
        go_wp2
        go_roundw
        case rel => exact ⟨k + 1, by omega, by go_num, hB3, (hb.trans (hb2.mono hsz)).trans hb3⟩
        case measure => simp [intOf]; omega
      · have hkn : k = rs.length := by rw [HN.out]; omega
        have hBs := Tryd.Builder_String_any_f w1.heap.size w1.heap.size (putTo rs k) wr hB hsz
        rw [hkn] at hBs
        go_wp2_with fail
        refine hBs.mono ?_
        rintro e w5 ⟨rfl, _, hb5⟩
        go_wp2
        go_ret
        exact ⟨rfl, hb1.trans ((hb.trans hb5).mono hs1)⟩
end Go.Proofs.YtoimeebildcofaaDoor
