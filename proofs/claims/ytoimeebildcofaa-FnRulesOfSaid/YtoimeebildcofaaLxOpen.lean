/- The walks of l20Open and DrawRulesOf, by roots. -/
import Derived.Test.YtoimeebildcofaaLxDraw9
namespace Go.Proofs.Ytoimeebildcofaa
open Go.RowKit
set_option linter.unusedSimpArgs false
set_option linter.unusedVariables false
set_option maxRecDepth 1000000
theorem flatByte : Flat byteLV byteCell .one := ⟨fun _ => rfl, fun _ => rfl⟩
theorem Flat.row' {α : Type} {lv : α → LV} {cells : α → List Value} {sh : Sh} {ρ : Nat → Value} {N B : Nat} {w : World} {O : Nat → Prop} (h : Flat lv cells sh) {f : Bool} {xs : List α} {v : Value} (hv : Val ρ N B w O (.vec f sh (xs.map lv)) v) : ∃ L, Row sh.size v (xs.map cells) L ∧ Holds w L ∧ ∀ p ∈ L, ¬ O p.1 := by
  obtain ⟨cs, hc, hval⟩ := hv
  generalize ht : LV.vec f sh (xs.map lv) = t at hc
  cases hc <;> try (cases ht; done)
  · rename_i A c
    have hx : xs = [] := by
      have : xs.map lv = [] := by injection ht
      exact List.map_eq_nil_iff.1 this
    subst hx
    exact ⟨[], ⟨by simp, .inl ⟨rfl, rfl, A, c, hval.trans (by cases ht; rfl)⟩⟩, (fun p hp => by cases hp), fun p hp => by cases hp⟩
  · rename_i b off cap cur e fr h1 h2 h3 h6 h4 h5
    cases ht
    rw [List.length_map] at h1 h5
    have h7 := h.flatten h5
    refine ⟨[(b, .cells cur e fr)], ⟨h.lens xs, .inr ⟨b, off, cap, cur, e, fr, ?_, by rw [List.length_map]; exact h1, rfl, h2, fun i j u hu => ?_⟩⟩, (fun p hp => by rw [List.mem_singleton.1 hp]; exact h4), fun p hp => by rw [List.mem_singleton.1 hp]; exact h3⟩
    · rw [hval, List.length_map, List.length_map]; rfl
    · have := flatten_at (h.lens xs) hu
      rw [← h7, List.getElem?_take] at this
      split at this
      · rw [List.getElem?_drop, Array.getElem?_toList] at this
        rw [← this, Nat.add_assoc]
      · cases this
theorem callTo_open {s : St} {K : EV → St → Prop} {KP : List PanicEntry → St → Prop} {bs : List Int} (hb : ∀ v, v ∈ bs → 0 ≤ v ∧ v ≤ 255)
    (hK : ∀ sl L, RdOk sl L → K (.fx L (.pt s.next shRd [])) { s with roots := (s.next, .box (rdv sl 0)) :: s.roots, next := s.next + 1 }) : CallTo Try.prog 49 [.vec false .one (bs.map byteLV)] s K KP := by
  refine ⟨by kernel_rfl, fun c ρ a w vs hs hV => ?_⟩
  obtain ⟨v, vs, rfl, h1, h2⟩ := hV.inv1
  obtain rfl := h2.inv0
  obtain ⟨L, h3, h4, h5⟩ := flatByte.row' h1
  refine (openRd_calls v bs L w h3 h4 hb).mono fun e w' ⟨he, s', us, hR, hB⟩ => ?_
  subst he
  obtain ⟨cur, ety, g1, g2, g3, g4⟩ := hR.heap
  obtain ⟨A, n, cp, rfl⟩ := hR.row.slice
  have hlt : ∀ x ∈ s.roots, x.1 < s.next := fun x hx => (hs.rs.ok x hx).1
  have hw : Only (fun _ => False) w w' := (Only.of_below hB).mono fun _ _ hk => hk
  obtain ⟨q1, _⟩ := hs.grow (hv := .pointer (some ⟨w.heap.size, 0, none⟩)) (r := .box (rdv (.slice A n cp) 0)) (fun b hb => by rw [owns_pointer b hb]; exact Nat.le_refl _) hw (by
    refine .inr ⟨w.heap.size, cur, ety, g1, ?_, rfl, trivial⟩
    have hl : List.take 2 cur.toList = [Value.slice A n cp] ++ [Value.int .i64 ((0 : Nat) : Int)] := by
      apply List.ext_getElem?
      intro j
      rcases j with _ | _ | j
      · simp [List.getElem?_take, g2]
      · simp [List.getElem?_take, g3]
      · rw [List.getElem?_eq_none (by rw [List.length_take]; omega), List.getElem?_eq_none (by simp)]
    show Con _ _ _ _ _ _ (List.take 2 cur.toList)
    rw [hl]
    exact .st (.cons (.v rfl) rfl (.cons (cs := []) (.v rfl) rfl .nil)))
  refine ⟨_, _, .fx L (.pt s.next shRd []), q1, ⟨⟨_, .pt (Nat.lt_succ_self _), ?_⟩, fun p hp => ⟨fun hm => ?_, hR.holds p hp⟩⟩, rfl, hK (.slice A n cp) L ⟨rfl, us, hR.row, hR.small⟩⟩
  · simp [pack, LV.shape, Sh.isAgg, upd_self, blkOf, Sh.off]
  · rw [mine_cons, mine_upd hlt, upd_self] at hm
    rcases hm with h6 | h6
    · have := owns_pointer _ h6
      have := h4.lt hp
      omega
    · exact h5 p hp h6
theorem callTo_start {s : St} {K : EV → St → Prop} {KP : List PanicEntry → St → Prop} {uc : List LV} {sl : Value} {L : Blocks} {p : Nat} (g t : Nat) (hrd : RdOk sl L) (u : LV) (hL : lk s.env t = some (.fx L u)) (hr : rootOf s.roots g = some (.box (rdv sl p))) (hp : p + 2400 ≤ 1099511627776)
    (harg : oldL (fzL s false [g] uc) = [.pt g shRd []])
    (hK : ∀ (p' : Nat) (is : List Ins) (ts : List Tab) (ra so : List Int) (c : ByteArray) (y : LV) (R : Roots), p' ≤ p + 2400 → c.size = 12 → 0 < is.length → is.length ≤ 200 → ts.length ≤ 2 → 0 < ra.length → ra.length ≤ 3 → so.length ≤ 3 →
      (y = .hd (s.next + 3) ∧ R = [(s.next + 3, .row .one (so.map iv))] ∨ so = [] ∧ y = .v (.slice none 0 0) ∧ R = []) →
      K (.one (.st [.one, .one, .one, .one, .one] [.hd s.next, sv c, .hd (s.next + 1), .hd (s.next + 2), y]))
        { s with roots := (g, .box (rdv sl p')) :: (s.next, .row shIns (is.map Ins.lv)) :: (s.next + 1, .row shTab (ts.map Tab.lv)) :: (s.next + 2, .row .one (ra.map iv)) :: (R ++ dropRoot s.roots g), next := s.next + 4 }) :
    CallTo Try.prog 69 uc s K KP := by
  refine callTo_dr g t l20Start_dr hrd u hL hr hp harg rfl fun p' x T hp' hq => ?_
  obtain ⟨is, ts, ra, so, c, hc, i1, i2, ht, r1, r2, s2, (⟨rfl, rfl⟩ | ⟨rfl, rfl, rfl⟩)⟩ := hq
  · refine ⟨by simp only [EV.new, LV.new, newL, sv, and_self], fun y hy => ?_, ?_⟩
    · simp only [List.mem_cons, List.not_mem_nil, or_false] at hy
      rcases hy with rfl | rfl | rfl | rfl
      · exact (freeL_spec 0 (free_ins is)).2
      · exact (freeL_spec 0 (flat_tab ts)).2
      · exact (freeL_spec 0 (freeL_map iv ra (fun _ => rfl))).2
      · exact (freeL_spec 0 (freeL_map iv so (fun _ => rfl))).2
    · have := hK p' is ts ra so c _ _ hp' hc i1 i2 ht r1 r2 s2 (.inl ⟨rfl, rfl⟩)
      simpa [EV.ren, LV.ren, renL, callNames, Root.ren, sv, lowL_ren (low_ins is), lowL_ren (low_tab ts), lowL_ren (low_iv ra), lowL_ren (low_iv so)] using this
  · refine ⟨by simp only [EV.new, LV.new, newL, sv, and_self], fun y hy => ?_, ?_⟩
    · simp only [List.mem_cons, List.not_mem_nil, or_false] at hy
      rcases hy with rfl | rfl | rfl
      · exact (freeL_spec 0 (free_ins is)).2
      · exact (freeL_spec 0 (flat_tab ts)).2
      · exact (freeL_spec 0 (freeL_map iv ra (fun _ => rfl))).2
    · have := hK p' is ts ra [] c _ _ hp' hc i1 i2 ht r1 r2 s2 (.inr ⟨rfl, rfl, rfl⟩)
      simpa [EV.ren, LV.ren, renL, callNames, Root.ren, sv, lowL_ren (low_ins is), lowL_ren (low_tab ts), lowL_ren (low_iv ra)] using this
theorem DrawRulesOf_fn (bs : List Int) (hb : ∀ v, v ∈ bs → 0 ≤ v ∧ v ≤ 255) : Fn Try.prog 26 [.vec false .one (bs.map byteLV)] [] 1 (fun x R' => ∃ (rs : List Rule) (c : ByteArray), rs.length ≤ 6 ∧ c.size = 12 ∧ x = .tup [.hd 0, sv c] ∧ R' = [(0, .row shRule (rs.map Rule.lv))]) NoP := by
  refine fn_of true Try.func26 rfl (by kernel_rfl) (Nat.le_of_ble_eq_true rfl) ?_
  simp only [↓LXbr, LXbr, LXn', Nat.reduceLT, Nat.reduceLeDiff, Nat.reduceEqDiff, Int.reduceLT, Int.reduceLE, Int.reduceGT, Int.reduceGE, Nat.reduceGT, Int.reduceEq, Int.reduceBEq, Int.reduceBNe, ↓LXp, LXa, LXm, ↓reduceIte, reduceCtorEq, Nat.reduceAdd, Nat.reduceSub, Nat.reduceMul, Int.reduceAdd, Int.reduceSub, Int.reduceMul, Int.reduceNeg, Int.reduceToNat, Int.cast_ofNat_Int, forall_const, List.reduceReplicate, wi64, wu64, Int.natCast_nonneg, Int.toNat_natCast, Nat.add_eq_left, Nat.left_eq_add, Nat.add_left_cancel_iff, Nat.add_assoc, iv, sv, bv, LXfx, tz_Start, T_Start, T_Inss, T_Tabs, T_ints, tk_int, U_int, T_int, T_string, tsl_ints, List.length_map, List.getElem?_map, Try.ntmps26, Try.results26]
  refine callTo_open hb fun sl L hrd => ?_
  simp only [↓LXbr, LXbr, LXn', Nat.reduceLT, Nat.reduceLeDiff, Nat.reduceEqDiff, Int.reduceLT, Int.reduceLE, Int.reduceGT, Int.reduceGE, Nat.reduceGT, Int.reduceEq, Int.reduceBEq, Int.reduceBNe, ↓LXp, LXa, LXm, ↓reduceIte, reduceCtorEq, Nat.reduceAdd, Nat.reduceSub, Nat.reduceMul, Int.reduceAdd, Int.reduceSub, Int.reduceMul, Int.reduceNeg, Int.reduceToNat, Int.cast_ofNat_Int, forall_const, List.reduceReplicate, wi64, wu64, Int.natCast_nonneg, Int.toNat_natCast, Nat.add_eq_left, Nat.left_eq_add, Nat.add_left_cancel_iff, Nat.add_assoc, iv, sv, bv, LXfx, tz_Start, T_Start, T_Inss, T_Tabs, T_ints, tk_int, U_int, T_int, T_string, tsl_ints, List.length_map, List.getElem?_map, Try.ntmps26, Try.results26]
  refine callTo_drE1 0 7 l20Rules_dr hrd _ rfl (by first | rfl | (simp +decide only [LXr, LXs, ↓reduceIte, Option.bind_some, iv, sv, tv, LXfx, oldIv] <;> rfl) | (simp +decide only [LXr, and_true, true_and, iv, bv]; done) | (simp +decide only [lowL, LV.low, freeL, LV.free, Bool.and_self, iv, bv, iv, sv, tv, lowIv]; done)) (by first | rfl | (simp +decide only [LXr, LXs, ↓reduceIte, Option.bind_some, iv, sv, tv, LXfx, oldIv] <;> rfl) | (simp +decide only [LXr, and_true, true_and, iv, bv]; done) | (simp +decide only [lowL, LV.low, freeL, LV.free, Bool.and_self, iv, bv, iv, sv, tv, lowIv]; done)) flatRule.free ⟨0, rfl, by decide, ?_⟩
  rintro p1 rs hp1 hrs
  simp only [↓LXbr, LXbr, LXn', Nat.reduceLT, Nat.reduceLeDiff, Nat.reduceEqDiff, Int.reduceLT, Int.reduceLE, Int.reduceGT, Int.reduceGE, Nat.reduceGT, Int.reduceEq, Int.reduceBEq, Int.reduceBNe, ↓LXp, LXa, LXm, ↓reduceIte, reduceCtorEq, Nat.reduceAdd, Nat.reduceSub, Nat.reduceMul, Int.reduceAdd, Int.reduceSub, Int.reduceMul, Int.reduceNeg, Int.reduceToNat, Int.cast_ofNat_Int, forall_const, List.reduceReplicate, wi64, wu64, Int.natCast_nonneg, Int.toNat_natCast, Nat.add_eq_left, Nat.left_eq_add, Nat.add_left_cancel_iff, Nat.add_assoc, iv, sv, bv, LXfx, tz_Start, T_Start, T_Inss, T_Tabs, T_ints, tk_int, U_int, T_int, T_string, tsl_ints, List.length_map, List.getElem?_map, Try.ntmps26, Try.results26]
  refine callTo_start 0 7 hrd _ rfl rfl (by omega) (by first | rfl | (simp +decide only [LXr, LXs, ↓reduceIte, Option.bind_some, iv, sv, tv, LXfx, oldIv] <;> rfl) | (simp +decide only [LXr, and_true, true_and, iv, bv]; done) | (simp +decide only [lowL, LV.low, freeL, LV.free, Bool.and_self, iv, bv, iv, sv, tv, lowIv]; done)) ?_
  rintro p2 is ts ra so c y R hp2 hc i1 i2 ht r1 r2 s2 hy
  have fin : ∀ s : St, s.ds = [] → rootOf s.roots 1 = some (.row shRule (rs.map Rule.lv)) → RetTo 0 1 true (fun x R' => ∃ (rs : List Rule) (c : ByteArray), rs.length ≤ 6 ∧ c.size = 12 ∧ x = .tup [.hd 0, .v (.string c)] ∧ R' = [(0, .row shRule (rs.map Rule.lv))]) s [.hd 1, .v (.string c)] := fun s hds hr =>
    RetNow.to ⟨fun _ => rfl, hds, fun _ => 1, [.hd 0, .v (.string c)], [(0, .row shRule (rs.map Rule.lv))], by simp [fzL, LV.fz, renL, LV.ren], ⟨rs, c, hrs, hc, rfl, rfl⟩, by simp [underL, LV.under], by simp, fun y hy => by
      rw [List.mem_singleton.1 hy]
      refine ⟨by omega, ?_, ?_⟩
      · simp only [Root.ren, lowL_ren (flatRule.low rs)]; exact hr
      · simp only [Root.under]; exact lowL_spec _ (flatRule.low rs), fun i hi => by omega, by simp⟩
  rcases hy with ⟨rfl, rfl⟩ | ⟨rfl, rfl, rfl⟩
  · simp only [↓LXbr, LXbr, LXn', Nat.reduceLT, Nat.reduceLeDiff, Nat.reduceEqDiff, Int.reduceLT, Int.reduceLE, Int.reduceGT, Int.reduceGE, Nat.reduceGT, Int.reduceEq, Int.reduceBEq, Int.reduceBNe, ↓LXp, LXa, LXm, ↓reduceIte, reduceCtorEq, Nat.reduceAdd, Nat.reduceSub, Nat.reduceMul, Int.reduceAdd, Int.reduceSub, Int.reduceMul, Int.reduceNeg, Int.reduceToNat, Int.cast_ofNat_Int, forall_const, List.reduceReplicate, wi64, wu64, Int.natCast_nonneg, Int.toNat_natCast, Nat.add_eq_left, Nat.left_eq_add, Nat.add_left_cancel_iff, Nat.add_assoc, iv, sv, bv, LXfx, tz_Start, T_Start, T_Inss, T_Tabs, T_ints, tk_int, U_int, T_int, T_string, tsl_ints, List.length_map, List.getElem?_map, Try.ntmps26, Try.results26]
    exact fin _ rfl rfl
  · simp only [↓LXbr, LXbr, LXn', Nat.reduceLT, Nat.reduceLeDiff, Nat.reduceEqDiff, Int.reduceLT, Int.reduceLE, Int.reduceGT, Int.reduceGE, Nat.reduceGT, Int.reduceEq, Int.reduceBEq, Int.reduceBNe, ↓LXp, LXa, LXm, ↓reduceIte, reduceCtorEq, Nat.reduceAdd, Nat.reduceSub, Nat.reduceMul, Int.reduceAdd, Int.reduceSub, Int.reduceMul, Int.reduceNeg, Int.reduceToNat, Int.cast_ofNat_Int, forall_const, List.reduceReplicate, wi64, wu64, Int.natCast_nonneg, Int.toNat_natCast, Nat.add_eq_left, Nat.left_eq_add, Nat.add_left_cancel_iff, Nat.add_assoc, iv, sv, bv, LXfx, tz_Start, T_Start, T_Inss, T_Tabs, T_ints, tk_int, U_int, T_int, T_string, tsl_ints, List.length_map, List.getElem?_map, Try.ntmps26, Try.results26]
    exact fin _ rfl rfl
end Go.Proofs.Ytoimeebildcofaa
