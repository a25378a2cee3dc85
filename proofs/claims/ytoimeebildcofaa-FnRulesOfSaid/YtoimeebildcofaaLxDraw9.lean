/- The walk of the reference's draw of a start, by roots. -/
import Derived.Test.YtoimeebildcofaaLxDraw2
import Derived.Test.YtoimeebildcofaaLxDraw6
import Derived.Test.YtoimeebildcofaaLxDraw8
import Derived.Test.YtoimeebildcofaaLxF
import Derived.Test.YtoimeebildcofaaLxDec
namespace Go.Proofs.Ytoimeebildcofaa
open Go.RowKit
set_option linter.unusedSimpArgs false
set_option linter.unusedVariables false
set_option maxRecDepth 1000000
abbrev shStart : Sh := .st [.one, .one, .one, .one, .one]
theorem tz_Start : tz Try.prog 95 = some (.st [.one, .one, .one, .one, .one] [.v (.slice none 0 0), .v (.string ⟨#[]⟩), .v (.slice none 0 0), .v (.slice none 0 0), .v (.slice none 0 0)]) := by kernel_rfl
theorem T_Start : T Try.prog 95 = some (.st [.one, .one, .one, .one, .one]) := by kernel_rfl
theorem T_Inss : T Try.prog 92 = some .one := by kernel_rfl
theorem T_Tabs : T Try.prog 93 = some .one := by kernel_rfl
theorem T_ints : T Try.prog 22 = some .one := by kernel_rfl
theorem byteLV_inj : ∀ {cs ns : List Int}, cs.map byteLV = ns.map byteLV → cs = ns
  | [], [], _ => rfl
  | [], _ :: _, h => by cases h
  | _ :: _, [], h => by cases h
  | c :: cs, n :: ns, h => by
    simp only [List.map_cons, List.cons.injEq, byteLV, LV.v.injEq, Value.int.injEq, true_and] at h
    rw [h.1, byteLV_inj h.2]
theorem ex_bytes (cs : List Int) (p : List Int → Prop) : (∃ ns : List Int, (Sh.one, cs.map byteLV) = (Sh.one, ns.map byteLV) ∧ p ns) = p cs := by
  apply propext
  constructor
  · rintro ⟨ns, e, h⟩
    simp only [Prod.mk.injEq, true_and] at e
    rw [byteLV_inj e]
    exact h
  · exact fun h => ⟨cs, rfl, h⟩
theorem strOf_size (cs : List Int) : (strOfNums cs).size = cs.length := by simp [strOfNums, ByteArray.size]
def start0 (P T : LV) (c : LV) (ra so : LV) : LV := .st [.one, .one, .one, .one, .one] [P, c, T, ra, so]
def nilv : LV := .v (.slice none 0 0)
def zStart : LV := start0 nilv nilv (.v (.string ⟨#[]⟩)) nilv nilv
def StartQ (x : EV) (T : Roots) : Prop := ∃ (is : List Ins) (ts : List Tab) (ra so : List Int) (came : ByteArray), came.size = 12 ∧ 0 < is.length ∧ is.length ≤ 200 ∧ ts.length ≤ 2 ∧ 0 < ra.length ∧ ra.length ≤ 3 ∧ so.length ≤ 3 ∧
  ((x = .one (.st [.one, .one, .one, .one, .one] [.hd 1, sv came, .hd 2, .hd 3, .hd 4]) ∧ T = [(1, .row shIns (is.map Ins.lv)), (2, .row shTab (ts.map Tab.lv)), (3, .row .one (ra.map iv)), (4, .row .one (so.map iv))]) ∨
   (so = [] ∧ x = .one (.st [.one, .one, .one, .one, .one] [.hd 1, sv came, .hd 2, .hd 3, .v (.slice none 0 0)]) ∧ T = [(1, .row shIns (is.map Ins.lv)), (2, .row shTab (ts.map Tab.lv)), (3, .row .one (ra.map iv))]))
def stA (sl : Value) (L : Blocks) (p : Nat) (is : List Ins) (ts : List Tab) (cs : List Int) (i T nx : Nat) : St :=
  ⟨[(0, .fx L (.pt 0 shRd [])), (2, .one (.pt 1 shStart [])), (3, .one (.pt 4 shStart [])), (4, .one (.hd T)), (5, .one (iv i))],
   [(T, .row .one (cs.map byteLV)), (0, .box (rdv sl p)), (4, .box (start0 (.hd 2) (.hd 3) (.v (.string ⟨#[]⟩)) nilv nilv)), (3, .row shTab (ts.map Tab.lv)), (2, .row shIns (is.map Ins.lv)), (1, .box zStart)], nx, 57, []⟩
theorem e_byte (cs : List Int) (z : Int) : cs.map byteLV ++ [.v (.int .u8 z)] = (cs ++ [z]).map byteLV := by simp [byteLV]
abbrev tailR (is : List Ins) (ts : List Tab) (c : ByteArray) (ra so : LV) : Roots := [(4, .box (start0 (.hd 2) (.hd 3) (sv c) ra so)), (3, .row shTab (ts.map Tab.lv)), (2, .row shIns (is.map Ins.lv)), (1, .box zStart)]
def stEnv (L : Blocks) : Env := [(0, .fx L (.pt 0 shRd [])), (2, .one (.pt 1 shStart [])), (3, .one (.pt 4 shStart []))]
def stB (sl : Value) (L : Blocks) (p : Nat) (is : List Ins) (ts : List Tab) (c : ByteArray) (n : Nat) (R : Roots) (ra : LV) (nx : Nat) : St :=
  ⟨[(0, .fx L (.pt 0 shRd [])), (2, .one (.pt 1 shStart [])), (3, .one (.pt 4 shStart [])), (6, .one (iv n))], R ++ (0, .box (rdv sl p)) :: tailR is ts c ra nilv, nx, 57, []⟩
def stC (sl : Value) (L : Blocks) (p : Nat) (is : List Ins) (ts : List Tab) (c : ByteArray) (n : Nat) (R : Roots) (ra : List Int) (Ra : Nat) (so : LV) (nx : Nat) : St :=
  ⟨[(0, .fx L (.pt 0 shRd [])), (2, .one (.pt 1 shStart [])), (3, .one (.pt 4 shStart [])), (7, .one (iv n))], R ++ (0, .box (rdv sl p)) :: (Ra, .row .one (ra.map iv)) :: tailR is ts c (.hd Ra) so, nx, 57, []⟩
theorem e_int (cs : List Int) (z : Int) : cs.map iv ++ [.v (.int .i64 z)] = (cs ++ [z]).map iv := by simp [iv]
theorem e_int0 (z : Int) : [LV.v (.int .i64 z)] = [z].map iv := rfl
theorem wrap_pred (n : Nat) (h : n ≤ 1000) : IntKind.i64.wrap (((n + 1 : Nat) : Int) - 1) = ((n : Nat) : Int) := by simp [IntKind.wrap, IntKind.bits, IntKind.signed]; omega
theorem low_iv (zs : List Int) : lowL (zs.map iv) = true := lowL_map iv zs (fun _ => rfl)
theorem ret_start1 {s : St} {sl : Value} {k p' p Ra So : Nat} {is : List Ins} {ts : List Tab} {ra so : List Int} {c : ByteArray} (hds : s.ds = []) (hRa : 4 < Ra) (hSo : Ra < So)
    (h0 : rootOf s.roots 0 = some (.box (rdv sl p'))) (h2 : rootOf s.roots 2 = some (.row shIns (is.map Ins.lv))) (h3 : rootOf s.roots 3 = some (.row shTab (ts.map Tab.lv))) (hr : rootOf s.roots Ra = some (.row .one (ra.map iv))) (hs : rootOf s.roots So = some (.row .one (so.map iv)))
    (hp : p' ≤ p + k) (hc : c.size = 12) (i1 : 0 < is.length) (i2 : is.length ≤ 200) (ht : ts.length ≤ 2) (r1 : 0 < ra.length) (r2 : ra.length ≤ 3) (s2 : so.length ≤ 3) :
    RetTo 1 4 false (fun x R' => ∃ p' T, p' ≤ p + k ∧ R' = (0, .box (rdv sl p')) :: T ∧ StartQ x T) s [.st [.one, .one, .one, .one, .one] [.hd 2, .v (.string c), .hd 3, .hd Ra, .hd So]] :=
  RetNow.to ⟨(fun h => by cases h), hds, (fun i => if i = 0 then 0 else if i = 1 then 2 else if i = 2 then 3 else if i = 3 then Ra else So), [.st [.one, .one, .one, .one, .one] [.hd 1, .v (.string c), .hd 2, .hd 3, .hd 4]],
    [(0, .box (rdv sl p')), (1, .row shIns (is.map Ins.lv)), (2, .row shTab (ts.map Tab.lv)), (3, .row .one (ra.map iv)), (4, .row .one (so.map iv))], by simp [fzL, LV.fz, renL, LV.ren], ⟨p', _, hp, rfl, is, ts, ra, so, c, hc, i1, i2, ht, r1, r2, s2, .inl ⟨rfl, rfl⟩⟩, by simp [underL, LV.under], by simp, fun y hy => by
    simp only [List.mem_cons, List.not_mem_nil, or_false] at hy
    rcases hy with rfl | rfl | rfl | rfl | rfl
    · exact ⟨by omega, h0, by simp only [Root.under, rdv, LV.under, underL, and_self]⟩
    · exact ⟨by omega, by simp only [Root.ren, lowL_ren (low_ins is)]; exact h2, by simp only [Root.under]; exact lowL_spec _ (low_ins is)⟩
    · exact ⟨by omega, by simp only [Root.ren, lowL_ren (low_tab ts)]; exact h3, by simp only [Root.under]; exact lowL_spec _ (low_tab ts)⟩
    · exact ⟨by omega, by simp only [Root.ren, lowL_ren (low_iv ra)]; exact hr, by simp only [Root.under]; exact lowL_spec _ (low_iv ra)⟩
    · exact ⟨by omega, by simp only [Root.ren, lowL_ren (low_iv so)]; exact hs, by simp only [Root.under]; exact lowL_spec _ (low_iv so)⟩, fun i hi => by rw [show i = 0 by omega]; rfl, by simp; omega⟩
theorem ret_start0 {s : St} {sl : Value} {k p' p Ra : Nat} {is : List Ins} {ts : List Tab} {ra : List Int} {c : ByteArray} (hds : s.ds = []) (hRa : 4 < Ra)
    (h0 : rootOf s.roots 0 = some (.box (rdv sl p'))) (h2 : rootOf s.roots 2 = some (.row shIns (is.map Ins.lv))) (h3 : rootOf s.roots 3 = some (.row shTab (ts.map Tab.lv))) (hr : rootOf s.roots Ra = some (.row .one (ra.map iv)))
    (hp : p' ≤ p + k) (hc : c.size = 12) (i1 : 0 < is.length) (i2 : is.length ≤ 200) (ht : ts.length ≤ 2) (r1 : 0 < ra.length) (r2 : ra.length ≤ 3) :
    RetTo 1 4 false (fun x R' => ∃ p' T, p' ≤ p + k ∧ R' = (0, .box (rdv sl p')) :: T ∧ StartQ x T) s [.st [.one, .one, .one, .one, .one] [.hd 2, .v (.string c), .hd 3, .hd Ra, .v (.slice none 0 0)]] :=
  RetNow.to ⟨(fun h => by cases h), hds, (fun i => if i = 0 then 0 else if i = 1 then 2 else if i = 2 then 3 else Ra), [.st [.one, .one, .one, .one, .one] [.hd 1, .v (.string c), .hd 2, .hd 3, .v (.slice none 0 0)]],
    [(0, .box (rdv sl p')), (1, .row shIns (is.map Ins.lv)), (2, .row shTab (ts.map Tab.lv)), (3, .row .one (ra.map iv))], by simp [fzL, LV.fz, renL, LV.ren], ⟨p', _, hp, rfl, is, ts, ra, [], c, hc, i1, i2, ht, r1, r2, by simp, .inr ⟨rfl, rfl, rfl⟩⟩, by simp [underL, LV.under], by simp, fun y hy => by
    simp only [List.mem_cons, List.not_mem_nil, or_false] at hy
    rcases hy with rfl | rfl | rfl | rfl
    · exact ⟨by omega, h0, by simp only [Root.under, rdv, LV.under, underL, and_self]⟩
    · exact ⟨by omega, by simp only [Root.ren, lowL_ren (low_ins is)]; exact h2, by simp only [Root.under]; exact lowL_spec _ (low_ins is)⟩
    · exact ⟨by omega, by simp only [Root.ren, lowL_ren (low_tab ts)]; exact h3, by simp only [Root.under]; exact lowL_spec _ (low_tab ts)⟩
    · exact ⟨by omega, by simp only [Root.ren, lowL_ren (low_iv ra)]; exact hr, by simp only [Root.under]; exact lowL_spec _ (low_iv ra)⟩, fun i hi => by rw [show i = 0 by omega]; rfl, by simp; omega⟩
theorem l20Start_dr : Dr Try.prog 69 [] 4 2400 StartQ := by
  refine dr_of Try.func69 rfl (by kernel_rfl) (Nat.le_of_ble_eq_true rfl) fun sl L p hrd hp => ?_
  simp only [↓LXbr, LXbr, LXn', Nat.reduceLT, Nat.reduceLeDiff, Nat.reduceEqDiff, Int.reduceLT, Int.reduceLE, Int.reduceGT, Int.reduceGE, Nat.reduceGT, Int.reduceEq, Int.reduceBEq, Int.reduceBNe, ↓LXp, LXa, LXm, ↓reduceIte, reduceCtorEq, Nat.reduceAdd, Nat.reduceSub, Nat.reduceMul, Int.reduceAdd, Int.reduceSub, Int.reduceMul, Int.reduceNeg, Int.reduceToNat, Int.cast_ofNat_Int, forall_const, List.reduceReplicate, wi64, wu64, Int.natCast_nonneg, Int.toNat_natCast, Nat.add_eq_left, Nat.left_eq_add, Nat.add_left_cancel_iff, Nat.add_assoc, iv, sv, bv, LXfx, tz_Start, T_Start, T_Inss, T_Tabs, T_ints, tsl_bytes, tk_u8, isBytes_str, ex_bytes, start0, nilv, zStart, tailR, tk_int, U_int, T_int, T_string, tsl_ints, List.length_map, List.getElem?_map, Try.ntmps69, Try.results69]
  (refine callTo_drE1 0 0 (l20Prog_dr) hrd _ rfl ?_ ?_ free_ins ?_; (focus first | rfl | (simp +decide only [LXr, LXs, ↓reduceIte, Option.bind_some, iv, iv, sv, tv, LXfx, oldIv] <;> rfl) | (simp +decide only [LXr, and_true, true_and, iv, bv]; done) | (simp +decide only [lowL, LV.low, freeL, LV.free, Bool.and_self, iv, bv, iv, sv, tv, lowIv]; done)); (focus first | rfl | (simp +decide only [LXr, LXs, ↓reduceIte, Option.bind_some, iv, sv, tv, LXfx, oldIv] <;> rfl) | (simp +decide only [LXr, and_true, true_and, iv, bv]; done) | (simp +decide only [lowL, LV.low, freeL, LV.free, Bool.and_self, iv, bv, iv, sv, tv, lowIv]; done)); apply Exists.intro; refine And.intro ?_ (And.intro ?_ ?_); (focus first | rfl | (simp only [LXs, ↓reduceIte, iv]; rfl)); (focus omega); rintro p1 is hp1 ⟨hi1, hi2⟩; simp only [↓LXbr, LXbr, LXn', Nat.reduceLT, Nat.reduceLeDiff, Nat.reduceEqDiff, Int.reduceLT, Int.reduceLE, Int.reduceGT, Int.reduceGE, Nat.reduceGT, Int.reduceEq, Int.reduceBEq, Int.reduceBNe, ↓LXp, LXa, LXm, ↓reduceIte, reduceCtorEq, Nat.reduceAdd, Nat.reduceSub, Nat.reduceMul, Int.reduceAdd, Int.reduceSub, Int.reduceMul, Int.reduceNeg, Int.reduceToNat, Int.cast_ofNat_Int, forall_const, List.reduceReplicate, wi64, wu64, Int.natCast_nonneg, Int.toNat_natCast, Nat.add_eq_left, Nat.left_eq_add, Nat.add_left_cancel_iff, Nat.add_assoc, iv, sv, bv, LXfx, tz_Start, T_Start, T_Inss, T_Tabs, T_ints, tsl_bytes, tk_u8, isBytes_str, ex_bytes, start0, nilv, zStart, tailR, tk_int, U_int, T_int, T_string, tsl_ints, List.length_map, List.getElem?_map, Try.ntmps69, Try.results69, iv])
  (refine callTo_drE1 0 0 (l20Tables_dr) hrd _ rfl ?_ ?_ flat_tab ?_; (focus first | rfl | (simp +decide only [LXr, LXs, ↓reduceIte, Option.bind_some, iv, iv, sv, tv, LXfx, oldIv] <;> rfl) | (simp +decide only [LXr, and_true, true_and, iv, bv]; done) | (simp +decide only [lowL, LV.low, freeL, LV.free, Bool.and_self, iv, bv, iv, sv, tv, lowIv]; done)); (focus first | rfl | (simp +decide only [LXr, LXs, ↓reduceIte, Option.bind_some, iv, sv, tv, LXfx, oldIv] <;> rfl) | (simp +decide only [LXr, and_true, true_and, iv, bv]; done) | (simp +decide only [lowL, LV.low, freeL, LV.free, Bool.and_self, iv, bv, iv, sv, tv, lowIv]; done)); apply Exists.intro; refine And.intro ?_ (And.intro ?_ ?_); (focus first | rfl | (simp only [LXs, ↓reduceIte, iv]; rfl)); (focus omega); rintro p2 ts hp2 hts; simp only [↓LXbr, LXbr, LXn', Nat.reduceLT, Nat.reduceLeDiff, Nat.reduceEqDiff, Int.reduceLT, Int.reduceLE, Int.reduceGT, Int.reduceGE, Nat.reduceGT, Int.reduceEq, Int.reduceBEq, Int.reduceBNe, ↓LXp, LXa, LXm, ↓reduceIte, reduceCtorEq, Nat.reduceAdd, Nat.reduceSub, Nat.reduceMul, Int.reduceAdd, Int.reduceSub, Int.reduceMul, Int.reduceNeg, Int.reduceToNat, Int.cast_ofNat_Int, forall_const, List.reduceReplicate, wi64, wu64, Int.natCast_nonneg, Int.toNat_natCast, Nat.add_eq_left, Nat.left_eq_add, Nat.add_left_cancel_iff, Nat.add_assoc, iv, sv, bv, LXfx, tz_Start, T_Start, T_Inss, T_Tabs, T_ints, tsl_bytes, tk_u8, isBytes_str, ex_bytes, start0, nilv, zStart, tailR, tk_int, U_int, T_int, T_string, tsl_ints, List.length_map, List.getElem?_map, Try.ntmps69, Try.results69, iv])
  refine cw_loopc (fun n s => ∃ (cs : List Int) (p' T nx : Nat), cs.length + n = 12 ∧ p' + n ≤ p2 + 12 ∧ 4 < T ∧ T < nx ∧ s = stA sl L p' is ts cs cs.length T nx) 12 ?_ ?_
  · exact ⟨stA sl L p2 is ts [] 0 5 6, Canon.dropPerm ⟨rfl, rfl, rfl, rfl, rfl, trivial⟩ (List.Sublist.refl _) (.cons _ (.swap _ _ _)), [], p2, 5, 6, rfl, by omega, by decide, by decide, rfl⟩
  · rintro n s ⟨cs, p', T, nx, hn, hp3, hT4, hT, rfl⟩
    have f0 := elder hT
    have f1 := elder (show 0 < nx by omega)
    have f2 := elder (show 1 < nx by omega)
    have f3 := elder (show 2 < nx by omega)
    have f4 := elder (show 3 < nx by omega)
    have f5 := elder (show 4 < nx by omega)
    have g0 := ne_false (show T ≠ 0 by omega)
    have g1 := ne_false (show T ≠ 1 by omega)
    have g2 := ne_false (show T ≠ 2 by omega)
    have g3 := ne_false (show T ≠ 3 by omega)
    have g4 := ne_false (show T ≠ 4 by omega)
    unfold stA
    cases n with
    | zero =>
      have hlt : ((cs.length : Int) < 12) = False := by simp; omega
      simp only [↓LXbr, LXbr, LXn', Nat.reduceLT, Nat.reduceLeDiff, Nat.reduceEqDiff, Int.reduceLT, Int.reduceLE, Int.reduceGT, Int.reduceGE, Nat.reduceGT, Int.reduceEq, Int.reduceBEq, Int.reduceBNe, ↓LXp, LXa, LXm, ↓reduceIte, reduceCtorEq, Nat.reduceAdd, Nat.reduceSub, Nat.reduceMul, Int.reduceAdd, Int.reduceSub, Int.reduceMul, Int.reduceNeg, Int.reduceToNat, Int.cast_ofNat_Int, forall_const, List.reduceReplicate, wi64, wu64, Int.natCast_nonneg, Int.toNat_natCast, Nat.add_eq_left, Nat.left_eq_add, Nat.add_left_cancel_iff, Nat.add_assoc, iv, sv, bv, LXfx, tz_Start, T_Start, T_Inss, T_Tabs, T_ints, tsl_bytes, tk_u8, isBytes_str, ex_bytes, start0, nilv, zStart, tailR, tk_int, U_int, T_int, T_string, tsl_ints, List.length_map, List.getElem?_map, Try.ntmps69, Try.results69, hlt, f0, f1, f2, f3, f4, f5, g0, g1, g2, g3, g4]
      (refine callTo_drE 0 0 (pick_dr 3 (by decide)) hrd _ rfl ?_ ?_ ?_; (focus first | rfl | (simp +decide only [LXr, LXs, ↓reduceIte, Option.bind_some, f0, f1, f2, f3, f4, f5, g0, g1, g2, g3, g4, iv, sv, tv, LXfx, oldIv] <;> rfl) | (simp +decide only [LXr, and_true, true_and, iv, bv]; done) | (simp +decide only [lowL, LV.low, freeL, LV.free, Bool.and_self, iv, bv, iv, sv, tv, lowIv]; done)); (focus first | rfl | (simp +decide only [LXr, LXs, ↓reduceIte, Option.bind_some, iv, sv, tv, LXfx, oldIv] <;> rfl) | (simp +decide only [LXr, and_true, true_and, iv, bv]; done) | (simp +decide only [lowL, LV.low, freeL, LV.free, Bool.and_self, iv, bv, iv, sv, tv, lowIv]; done)); apply Exists.intro; refine And.intro ?_ (And.intro ?_ ?_); (focus first | rfl | (simp only [LXs, ↓reduceIte, f0, f1, f2, f3, f4, f5, g0, g1, g2, g3, g4]; rfl)); (focus omega); rintro p5 _ hp5 ⟨z0, rfl, hz0⟩; refine ⟨rfl, ?_⟩; simp only [↓LXbr, LXbr, LXn', Nat.reduceLT, Nat.reduceLeDiff, Nat.reduceEqDiff, Int.reduceLT, Int.reduceLE, Int.reduceGT, Int.reduceGE, Nat.reduceGT, Int.reduceEq, Int.reduceBEq, Int.reduceBNe, ↓LXp, LXa, LXm, ↓reduceIte, reduceCtorEq, Nat.reduceAdd, Nat.reduceSub, Nat.reduceMul, Int.reduceAdd, Int.reduceSub, Int.reduceMul, Int.reduceNeg, Int.reduceToNat, Int.cast_ofNat_Int, forall_const, List.reduceReplicate, wi64, wu64, Int.natCast_nonneg, Int.toNat_natCast, Nat.add_eq_left, Nat.left_eq_add, Nat.add_left_cancel_iff, Nat.add_assoc, iv, sv, bv, LXfx, tz_Start, T_Start, T_Inss, T_Tabs, T_ints, tsl_bytes, tk_u8, isBytes_str, ex_bytes, start0, nilv, zStart, tailR, tk_int, U_int, T_int, T_string, tsl_ints, List.length_map, List.getElem?_map, Try.ntmps69, Try.results69, f0, f1, f2, f3, f4, f5, g0, g1, g2, g3, g4])
      have hz3 : z0 ≤ 2 := by omega
      have w0 : IntKind.i64.wrap (1 + (z0 : Int)) = ((z0 + 1 : Nat) : Int) := by simp [IntKind.wrap, IntKind.bits, IntKind.signed]; omega
      have hsz := strOf_size cs
      have hc12 : (strOfNums cs).size = 12 := by omega
      generalize hc : strOfNums cs = c at *
      have hp6 : p5 ≤ p2 + 13 := by omega
      refine cw_loopc (fun n s => (n = z0 + 1 ∧ ∃ nx, 4 < nx ∧ s = stB sl L p5 is ts c n [] nilv nx) ∨ ∃ (ra : List Int) (p' Ra nx : Nat), ra.length + n = z0 + 1 ∧ 0 < ra.length ∧ p' + 3 * n ≤ p5 + 9 ∧ 4 < Ra ∧ Ra < nx ∧ s = stB sl L p' is ts c n [(Ra, .row .one (ra.map iv))] (.hd Ra) nx) (z0 + 1) ?_ ?_
      · refine ⟨stB sl L p5 is ts c (z0 + 1) [] nilv nx, ?_, .inl ⟨rfl, nx, by omega, rfl⟩⟩
        rw [w0]
        exact Canon.drop ⟨rfl, rfl, rfl, rfl, trivial⟩ (by (repeat (first | exact List.nil_sublist _ | apply List.Sublist.cons_cons | apply List.Sublist.cons)))
      · clear hn hp3 hT4 hT f0 f1 f2 f3 f4 f5 g0 g1 g2 g3 g4
        rintro n s (⟨hn, nx, hx, rfl⟩ | ⟨ra, p', Ra, nx, hn, hra, hpr, hRa4, hRa, rfl⟩)
        · obtain ⟨n, rfl⟩ : ∃ k, n = k + 1 := ⟨n - 1, by omega⟩
          have f1 := elder (show 0 < nx by omega)
          have f2 := elder (show 1 < nx by omega)
          have f3 := elder (show 2 < nx by omega)
          have f4 := elder (show 3 < nx by omega)
          have f5 := elder (show 4 < nx by omega)
          have hlt : (((n + 1 : Nat) : Int) > 0) = True := by simp
          have hw := wrap_pred n (by omega)
          unfold stB
          simp only [↓LXbr, LXbr, LXn', Nat.reduceLT, Nat.reduceLeDiff, Nat.reduceEqDiff, Int.reduceLT, Int.reduceLE, Int.reduceGT, Int.reduceGE, Nat.reduceGT, Int.reduceEq, Int.reduceBEq, Int.reduceBNe, ↓LXp, LXa, LXm, ↓reduceIte, reduceCtorEq, Nat.reduceAdd, Nat.reduceSub, Nat.reduceMul, Int.reduceAdd, Int.reduceSub, Int.reduceMul, Int.reduceNeg, Int.reduceToNat, Int.cast_ofNat_Int, forall_const, List.reduceReplicate, wi64, wu64, Int.natCast_nonneg, Int.toNat_natCast, Nat.add_eq_left, Nat.left_eq_add, Nat.add_left_cancel_iff, Nat.add_assoc, iv, sv, bv, LXfx, tz_Start, T_Start, T_Inss, T_Tabs, T_ints, tsl_bytes, tk_u8, isBytes_str, ex_bytes, start0, nilv, zStart, tailR, tk_int, U_int, T_int, T_string, tsl_ints, List.length_map, List.getElem?_map, Try.ntmps69, Try.results69, hlt, f1, f2, f3, f4, f5]
          (refine cw_free [7] (.one 0 .pure (.one 2 .pure (.both (.one 1 .act (.one 3 .act (.one 4 .act (.one 5 .act (.one 6 .pure (.one 7 .last .done)))))) (.one 3 .act (.both (.one 1 .act (.one 4 .act (.one 5 .act (.one 6 .pure (.one 7 .last .done))))) (.one 4 .act (.one 1 .act (.one 5 .act (.one 6 .pure (.one 7 .last .done)))))))))) (by kernel_rfl) (by kernel_rfl) ?_; simp only [LXe, free_done, free_act, free_last, free_pure, free_both, Option.elim_some, List.getElem?_cons_zero, List.getElem?_cons_succ])
          simp only [↓LXbr, LXbr, LXn', Nat.reduceLT, Nat.reduceLeDiff, Nat.reduceEqDiff, Int.reduceLT, Int.reduceLE, Int.reduceGT, Int.reduceGE, Nat.reduceGT, Int.reduceEq, Int.reduceBEq, Int.reduceBNe, ↓LXp, LXa, LXm, ↓reduceIte, reduceCtorEq, Nat.reduceAdd, Nat.reduceSub, Nat.reduceMul, Int.reduceAdd, Int.reduceSub, Int.reduceMul, Int.reduceNeg, Int.reduceToNat, Int.cast_ofNat_Int, forall_const, List.reduceReplicate, wi64, wu64, Int.natCast_nonneg, Int.toNat_natCast, Nat.add_eq_left, Nat.left_eq_add, Nat.add_left_cancel_iff, Nat.add_assoc, iv, sv, bv, LXfx, tz_Start, T_Start, T_Inss, T_Tabs, T_ints, tsl_bytes, tk_u8, isBytes_str, ex_bytes, start0, nilv, zStart, tailR, tk_int, U_int, T_int, T_string, tsl_ints, List.length_map, List.getElem?_map, Try.ntmps69, Try.results69, hlt, hw, e_int, f1, f2, f3, f4, f5]
          repeat' (first
            | with_reducible apply And.intro
            | omega
            | (refine callTo_drE 0 0 (l20Number_dr) hrd _ rfl ?_ ?_ ?_; (focus first | rfl | (simp +decide only [LXr, LXs, ↓reduceIte, Option.bind_some, hlt, hw, e_int, f1, f2, f3, f4, f5, iv, sv, tv, LXfx, oldIv] <;> rfl) | (simp +decide only [LXr, and_true, true_and, iv, bv]; done) | (simp +decide only [lowL, LV.low, freeL, LV.free, Bool.and_self, iv, bv, iv, sv, tv, lowIv]; done)); (focus first | rfl | (simp +decide only [LXr, LXs, ↓reduceIte, Option.bind_some, iv, sv, tv, LXfx, oldIv] <;> rfl) | (simp +decide only [LXr, and_true, true_and, iv, bv]; done) | (simp +decide only [lowL, LV.low, freeL, LV.free, Bool.and_self, iv, bv, iv, sv, tv, lowIv]; done)); apply Exists.intro; refine And.intro ?_ (And.intro ?_ ?_); (focus first | rfl | (simp only [LXs, ↓reduceIte, hlt, hw, e_int, f1, f2, f3, f4, f5]; rfl)); (focus omega); rintro q _ hq ⟨z, rfl⟩; refine ⟨rfl, ?_⟩; simp only [↓LXbr, LXbr, LXn', Nat.reduceLT, Nat.reduceLeDiff, Nat.reduceEqDiff, Int.reduceLT, Int.reduceLE, Int.reduceGT, Int.reduceGE, Nat.reduceGT, Int.reduceEq, Int.reduceBEq, Int.reduceBNe, ↓LXp, LXa, LXm, ↓reduceIte, reduceCtorEq, Nat.reduceAdd, Nat.reduceSub, Nat.reduceMul, Int.reduceAdd, Int.reduceSub, Int.reduceMul, Int.reduceNeg, Int.reduceToNat, Int.cast_ofNat_Int, forall_const, List.reduceReplicate, wi64, wu64, Int.natCast_nonneg, Int.toNat_natCast, Nat.add_eq_left, Nat.left_eq_add, Nat.add_left_cancel_iff, Nat.add_assoc, iv, sv, bv, LXfx, tz_Start, T_Start, T_Inss, T_Tabs, T_ints, tsl_bytes, tk_u8, isBytes_str, ex_bytes, start0, nilv, zStart, tailR, tk_int, U_int, T_int, T_string, tsl_ints, List.length_map, List.getElem?_map, Try.ntmps69, Try.results69, hlt, hw, e_int, f1, f2, f3, f4, f5])
            | (refine ⟨n, Nat.lt_succ_self n, stB sl L _ is ts c n [(_, .row .one ([z].map iv))] (.hd _) _, Canon.drop ⟨rfl, rfl, rfl, rfl, trivial⟩ (by (repeat (first | exact List.nil_sublist _ | apply List.Sublist.cons_cons | apply List.Sublist.cons))), .inr ⟨[z], _, _, _, ?_, ?_, ?_, ?_, ?_, rfl⟩⟩ <;> first | omega | (simp only [List.length_singleton]; omega))
            | fail)
        · rcases n with _ | n
          · have hlt : (((0 : Nat) : Int) > 0) = False := by simp
            have f1 := elder (show 0 < nx by omega)
            have f2 := elder (show 1 < nx by omega)
            have f3 := elder (show 2 < nx by omega)
            have f4 := elder (show 3 < nx by omega)
            have f5 := elder (show 4 < nx by omega)
            have a0 := elder (show Ra < nx by omega)
            have b0 := ne_false (show Ra ≠ 0 by omega)
            have b1 := ne_false (show Ra ≠ 1 by omega)
            have b2 := ne_false (show Ra ≠ 2 by omega)
            have b3 := ne_false (show Ra ≠ 3 by omega)
            have b4 := ne_false (show Ra ≠ 4 by omega)
            unfold stB
            simp only [↓LXbr, LXbr, LXn', Nat.reduceLT, Nat.reduceLeDiff, Nat.reduceEqDiff, Int.reduceLT, Int.reduceLE, Int.reduceGT, Int.reduceGE, Nat.reduceGT, Int.reduceEq, Int.reduceBEq, Int.reduceBNe, ↓LXp, LXa, LXm, ↓reduceIte, reduceCtorEq, Nat.reduceAdd, Nat.reduceSub, Nat.reduceMul, Int.reduceAdd, Int.reduceSub, Int.reduceMul, Int.reduceNeg, Int.reduceToNat, Int.cast_ofNat_Int, forall_const, List.reduceReplicate, wi64, wu64, Int.natCast_nonneg, Int.toNat_natCast, Nat.add_eq_left, Nat.left_eq_add, Nat.add_left_cancel_iff, Nat.add_assoc, iv, sv, bv, LXfx, tz_Start, T_Start, T_Inss, T_Tabs, T_ints, tsl_bytes, tk_u8, isBytes_str, ex_bytes, start0, nilv, zStart, tailR, tk_int, U_int, T_int, T_string, tsl_ints, List.length_map, List.getElem?_map, Try.ntmps69, Try.results69, hlt, f1, f2, f3, f4, f5, a0, b0, b1, b2, b3, b4]
            (refine callTo_drE 0 0 (pick_dr 4 (by decide)) hrd _ rfl ?_ ?_ ?_; (focus first | rfl | (simp +decide only [LXr, LXs, ↓reduceIte, Option.bind_some, f1, f2, f3, f4, f5, a0, b0, b1, b2, b3, b4, iv, sv, tv, LXfx, oldIv] <;> rfl) | (simp +decide only [LXr, and_true, true_and, iv, bv]; done) | (simp +decide only [lowL, LV.low, freeL, LV.free, Bool.and_self, iv, bv, iv, sv, tv, lowIv]; done)); (focus first | rfl | (simp +decide only [LXr, LXs, ↓reduceIte, Option.bind_some, iv, sv, tv, LXfx, oldIv] <;> rfl) | (simp +decide only [LXr, and_true, true_and, iv, bv]; done) | (simp +decide only [lowL, LV.low, freeL, LV.free, Bool.and_self, iv, bv, iv, sv, tv, lowIv]; done)); apply Exists.intro; refine And.intro ?_ (And.intro ?_ ?_); (focus first | rfl | (simp only [LXs, ↓reduceIte, f1, f2, f3, f4, f5, a0, b0, b1, b2, b3, b4]; rfl)); (focus omega); rintro p6 _ hp6 ⟨z1, rfl, hz1⟩; refine ⟨rfl, ?_⟩; simp only [↓LXbr, LXbr, LXn', Nat.reduceLT, Nat.reduceLeDiff, Nat.reduceEqDiff, Int.reduceLT, Int.reduceLE, Int.reduceGT, Int.reduceGE, Nat.reduceGT, Int.reduceEq, Int.reduceBEq, Int.reduceBNe, ↓LXp, LXa, LXm, ↓reduceIte, reduceCtorEq, Nat.reduceAdd, Nat.reduceSub, Nat.reduceMul, Int.reduceAdd, Int.reduceSub, Int.reduceMul, Int.reduceNeg, Int.reduceToNat, Int.cast_ofNat_Int, forall_const, List.reduceReplicate, wi64, wu64, Int.natCast_nonneg, Int.toNat_natCast, Nat.add_eq_left, Nat.left_eq_add, Nat.add_left_cancel_iff, Nat.add_assoc, iv, sv, bv, LXfx, tz_Start, T_Start, T_Inss, T_Tabs, T_ints, tsl_bytes, tk_u8, isBytes_str, ex_bytes, start0, nilv, zStart, tailR, tk_int, U_int, T_int, T_string, tsl_ints, List.length_map, List.getElem?_map, Try.ntmps69, Try.results69, f1, f2, f3, f4, f5, a0, b0, b1, b2, b3, b4])
            have hz4 : z1 ≤ 3 := by omega
            refine cw_loopc (fun n s => (n = z1 ∧ ∃ nx, Ra < nx ∧ s = stC sl L p6 is ts c n [] ra Ra nilv nx) ∨ ∃ (so : List Int) (p' So nx : Nat), so.length + n = z1 ∧ 0 < so.length ∧ p' + n ≤ p6 + 3 ∧ Ra < So ∧ So < nx ∧ s = stC sl L p' is ts c n [(So, .row .one (so.map iv))] ra Ra (.hd So) nx) z1 ?_ ?_
            · exact ⟨stC sl L p6 is ts c z1 [] ra Ra nilv nx, Canon.drop ⟨rfl, rfl, rfl, rfl, trivial⟩ (by (repeat (first | exact List.nil_sublist _ | apply List.Sublist.cons_cons | apply List.Sublist.cons))), .inl ⟨rfl, nx, by omega, rfl⟩⟩
            · clear a0 f1 f2 f3 f4 f5
              clear hlt
              rintro n s (⟨hn1, nx, hRa, rfl⟩ | ⟨so, q', So, nx, hn1, hso, hps, hSo4, hSo, rfl⟩)
              · rcases n with _ | n
                · have hlt : (((0 : Nat) : Int) > 0) = False := by simp
                  have f1 := elder (show 0 < nx by omega)
                  have f2 := elder (show 1 < nx by omega)
                  have f3 := elder (show 2 < nx by omega)
                  have f4 := elder (show 3 < nx by omega)
                  have f5 := elder (show 4 < nx by omega)
                  have a0 := elder (show Ra < nx by omega)
                  have b0 := ne_false (show Ra ≠ 0 by omega)
                  have b1 := ne_false (show Ra ≠ 1 by omega)
                  have b2 := ne_false (show Ra ≠ 2 by omega)
                  have b3 := ne_false (show Ra ≠ 3 by omega)
                  have b4 := ne_false (show Ra ≠ 4 by omega)
                  unfold stC
                  simp only [↓LXbr, LXbr, LXn', Nat.reduceLT, Nat.reduceLeDiff, Nat.reduceEqDiff, Int.reduceLT, Int.reduceLE, Int.reduceGT, Int.reduceGE, Nat.reduceGT, Int.reduceEq, Int.reduceBEq, Int.reduceBNe, ↓LXp, LXa, LXm, ↓reduceIte, reduceCtorEq, Nat.reduceAdd, Nat.reduceSub, Nat.reduceMul, Int.reduceAdd, Int.reduceSub, Int.reduceMul, Int.reduceNeg, Int.reduceToNat, Int.cast_ofNat_Int, forall_const, List.reduceReplicate, wi64, wu64, Int.natCast_nonneg, Int.toNat_natCast, Nat.add_eq_left, Nat.left_eq_add, Nat.add_left_cancel_iff, Nat.add_assoc, iv, sv, bv, LXfx, tz_Start, T_Start, T_Inss, T_Tabs, T_ints, tsl_bytes, tk_u8, isBytes_str, ex_bytes, start0, nilv, zStart, tailR, tk_int, U_int, T_int, T_string, tsl_ints, List.length_map, List.getElem?_map, Try.ntmps69, Try.results69, hlt, f1, f2, f3, f4, f5, a0, b0, b1, b2, b3, b4]
                  exact ret_start0 (c := c) (p' := p6) (is := is) (ts := ts) (ra := ra) rfl hRa4 rfl (by simp +decide only [LXs, ↓reduceIte, a0, b0, b1, b2, b3, b4]) (by simp +decide only [LXs, ↓reduceIte, a0, b0, b1, b2, b3, b4]) (by simp +decide only [LXs, ↓reduceIte, a0, b0, b1, b2, b3, b4]) (by omega) hc12 hi1 hi2 hts hra (by omega)
                · have hlt : (((n + 1 : Nat) : Int) > 0) = True := by simp
                  have hw := wrap_pred n (by omega)
                  have f1 := elder (show 0 < nx by omega)
                  have f2 := elder (show 1 < nx by omega)
                  have f3 := elder (show 2 < nx by omega)
                  have f4 := elder (show 3 < nx by omega)
                  have f5 := elder (show 4 < nx by omega)
                  have a0 := elder (show Ra < nx by omega)
                  have b0 := ne_false (show Ra ≠ 0 by omega)
                  have b1 := ne_false (show Ra ≠ 1 by omega)
                  have b2 := ne_false (show Ra ≠ 2 by omega)
                  have b3 := ne_false (show Ra ≠ 3 by omega)
                  have b4 := ne_false (show Ra ≠ 4 by omega)
                  unfold stC
                  simp only [↓LXbr, LXbr, LXn', Nat.reduceLT, Nat.reduceLeDiff, Nat.reduceEqDiff, Int.reduceLT, Int.reduceLE, Int.reduceGT, Int.reduceGE, Nat.reduceGT, Int.reduceEq, Int.reduceBEq, Int.reduceBNe, ↓LXp, LXa, LXm, ↓reduceIte, reduceCtorEq, Nat.reduceAdd, Nat.reduceSub, Nat.reduceMul, Int.reduceAdd, Int.reduceSub, Int.reduceMul, Int.reduceNeg, Int.reduceToNat, Int.cast_ofNat_Int, forall_const, List.reduceReplicate, wi64, wu64, Int.natCast_nonneg, Int.toNat_natCast, Nat.add_eq_left, Nat.left_eq_add, Nat.add_left_cancel_iff, Nat.add_assoc, iv, sv, bv, LXfx, tz_Start, T_Start, T_Inss, T_Tabs, T_ints, tsl_bytes, tk_u8, isBytes_str, ex_bytes, start0, nilv, zStart, tailR, tk_int, U_int, T_int, T_string, tsl_ints, List.length_map, List.getElem?_map, Try.ntmps69, Try.results69, hlt, f1, f2, f3, f4, f5, a0, b0, b1, b2, b3, b4]
                  (refine cw_free [8] (.one 0 .pure (.one 2 .pure (.both (.one 1 .act (.one 3 .act (.one 4 .act (.one 5 .act (.one 6 .act (.one 7 .pure (.one 8 .last .done))))))) (.one 3 .act (.both (.one 1 .act (.one 4 .act (.one 5 .act (.one 6 .act (.one 7 .pure (.one 8 .last .done)))))) (.one 4 .act (.both (.one 1 .act (.one 5 .act (.one 6 .act (.one 7 .pure (.one 8 .last .done))))) (.one 5 .act (.one 1 .act (.one 6 .act (.one 7 .pure (.one 8 .last .done)))))))))))) (by kernel_rfl) (by kernel_rfl) ?_; simp only [LXe, free_done, free_act, free_last, free_pure, free_both, Option.elim_some, List.getElem?_cons_zero, List.getElem?_cons_succ])
                  simp only [↓LXbr, LXbr, LXn', Nat.reduceLT, Nat.reduceLeDiff, Nat.reduceEqDiff, Int.reduceLT, Int.reduceLE, Int.reduceGT, Int.reduceGE, Nat.reduceGT, Int.reduceEq, Int.reduceBEq, Int.reduceBNe, ↓LXp, LXa, LXm, ↓reduceIte, reduceCtorEq, Nat.reduceAdd, Nat.reduceSub, Nat.reduceMul, Int.reduceAdd, Int.reduceSub, Int.reduceMul, Int.reduceNeg, Int.reduceToNat, Int.cast_ofNat_Int, forall_const, List.reduceReplicate, wi64, wu64, Int.natCast_nonneg, Int.toNat_natCast, Nat.add_eq_left, Nat.left_eq_add, Nat.add_left_cancel_iff, Nat.add_assoc, iv, sv, bv, LXfx, tz_Start, T_Start, T_Inss, T_Tabs, T_ints, tsl_bytes, tk_u8, isBytes_str, ex_bytes, start0, nilv, zStart, tailR, tk_int, U_int, T_int, T_string, tsl_ints, List.length_map, List.getElem?_map, Try.ntmps69, Try.results69, hlt, hw, e_int, f1, f2, f3, f4, f5, a0, b0, b1, b2, b3, b4]
                  repeat' (first
                    | with_reducible apply And.intro
                    | omega
                    | (refine callTo_drE 0 0 (one_dr [0, 1, 2, 3, 7, 9] (by decide) (by decide)) hrd _ rfl ?_ ?_ ?_; (focus first | rfl | (simp +decide only [LXr, LXs, ↓reduceIte, Option.bind_some, hlt, hw, e_int, f1, f2, f3, f4, f5, a0, b0, b1, b2, b3, b4, iv, sv, tv, LXfx, oldIv] <;> rfl) | (simp +decide only [LXr, and_true, true_and, iv, bv]; done) | (simp +decide only [lowL, LV.low, freeL, LV.free, Bool.and_self, iv, bv, iv, sv, tv, lowIv]; done)); (focus first | rfl | (simp +decide only [LXr, LXs, ↓reduceIte, Option.bind_some, iv, sv, tv, LXfx, oldIv] <;> rfl) | (simp +decide only [LXr, and_true, true_and, iv, bv]; done) | (simp +decide only [lowL, LV.low, freeL, LV.free, Bool.and_self, iv, bv, iv, sv, tv, lowIv]; done)); apply Exists.intro; refine And.intro ?_ (And.intro ?_ ?_); (focus first | rfl | (simp only [LXs, ↓reduceIte, hlt, hw, e_int, f1, f2, f3, f4, f5, a0, b0, b1, b2, b3, b4]; rfl)); (focus omega); rintro q _ hq ⟨z, rfl, hz⟩; refine ⟨rfl, ?_⟩; simp only [↓LXbr, LXbr, LXn', Nat.reduceLT, Nat.reduceLeDiff, Nat.reduceEqDiff, Int.reduceLT, Int.reduceLE, Int.reduceGT, Int.reduceGE, Nat.reduceGT, Int.reduceEq, Int.reduceBEq, Int.reduceBNe, ↓LXp, LXa, LXm, ↓reduceIte, reduceCtorEq, Nat.reduceAdd, Nat.reduceSub, Nat.reduceMul, Int.reduceAdd, Int.reduceSub, Int.reduceMul, Int.reduceNeg, Int.reduceToNat, Int.cast_ofNat_Int, forall_const, List.reduceReplicate, wi64, wu64, Int.natCast_nonneg, Int.toNat_natCast, Nat.add_eq_left, Nat.left_eq_add, Nat.add_left_cancel_iff, Nat.add_assoc, iv, sv, bv, LXfx, tz_Start, T_Start, T_Inss, T_Tabs, T_ints, tsl_bytes, tk_u8, isBytes_str, ex_bytes, start0, nilv, zStart, tailR, tk_int, U_int, T_int, T_string, tsl_ints, List.length_map, List.getElem?_map, Try.ntmps69, Try.results69, hlt, hw, e_int, f1, f2, f3, f4, f5, a0, b0, b1, b2, b3, b4])
                    | (refine ⟨n, Nat.lt_succ_self n, stC sl L _ is ts c n [(_, .row .one ([z].map iv))] ra Ra (.hd _) _, Canon.drop ⟨rfl, rfl, rfl, rfl, trivial⟩ (by (repeat (first | exact List.nil_sublist _ | apply List.Sublist.cons_cons | apply List.Sublist.cons))), .inr ⟨[z], _, _, _, ?_, ?_, ?_, ?_, ?_, rfl⟩⟩ <;> first | omega | (simp only [List.length_singleton]; omega))
                    | fail)
              · rcases n with _ | n
                · have hlt : (((0 : Nat) : Int) > 0) = False := by simp
                  have f1 := elder (show 0 < nx by omega)
                  have f2 := elder (show 1 < nx by omega)
                  have f3 := elder (show 2 < nx by omega)
                  have f4 := elder (show 3 < nx by omega)
                  have f5 := elder (show 4 < nx by omega)
                  have a0 := elder (show Ra < nx by omega)
                  have b0 := ne_false (show Ra ≠ 0 by omega)
                  have b1 := ne_false (show Ra ≠ 1 by omega)
                  have b2 := ne_false (show Ra ≠ 2 by omega)
                  have b3 := ne_false (show Ra ≠ 3 by omega)
                  have b4 := ne_false (show Ra ≠ 4 by omega)
                  have c0 := elder (show So < nx by omega)
                  have d0 := ne_false (show So ≠ 0 by omega)
                  have d1 := ne_false (show So ≠ 1 by omega)
                  have d2 := ne_false (show So ≠ 2 by omega)
                  have d3 := ne_false (show So ≠ 3 by omega)
                  have d4 := ne_false (show So ≠ 4 by omega)
                  have d5 := ne_false (show So ≠ Ra by omega)
                  unfold stC
                  simp only [↓LXbr, LXbr, LXn', Nat.reduceLT, Nat.reduceLeDiff, Nat.reduceEqDiff, Int.reduceLT, Int.reduceLE, Int.reduceGT, Int.reduceGE, Nat.reduceGT, Int.reduceEq, Int.reduceBEq, Int.reduceBNe, ↓LXp, LXa, LXm, ↓reduceIte, reduceCtorEq, Nat.reduceAdd, Nat.reduceSub, Nat.reduceMul, Int.reduceAdd, Int.reduceSub, Int.reduceMul, Int.reduceNeg, Int.reduceToNat, Int.cast_ofNat_Int, forall_const, List.reduceReplicate, wi64, wu64, Int.natCast_nonneg, Int.toNat_natCast, Nat.add_eq_left, Nat.left_eq_add, Nat.add_left_cancel_iff, Nat.add_assoc, iv, sv, bv, LXfx, tz_Start, T_Start, T_Inss, T_Tabs, T_ints, tsl_bytes, tk_u8, isBytes_str, ex_bytes, start0, nilv, zStart, tailR, tk_int, U_int, T_int, T_string, tsl_ints, List.length_map, List.getElem?_map, Try.ntmps69, Try.results69, hlt, f1, f2, f3, f4, f5, a0, b0, b1, b2, b3, b4, c0, d0, d1, d2, d3, d4, d5]
                  exact ret_start1 (c := c) (p' := q') (is := is) (ts := ts) (ra := ra) (so := so) rfl hRa4 hSo4 (by simp +decide only [LXs, ↓reduceIte, a0, b0, b1, b2, b3, b4, d0, d1, d2, d3, d4, d5]) (by simp +decide only [LXs, ↓reduceIte, a0, b0, b1, b2, b3, b4, d0, d1, d2, d3, d4, d5]) (by simp +decide only [LXs, ↓reduceIte, a0, b0, b1, b2, b3, b4, d0, d1, d2, d3, d4, d5]) (by simp +decide only [LXs, ↓reduceIte, a0, b0, b1, b2, b3, b4, d0, d1, d2, d3, d4, d5]) (by simp +decide only [LXs, ↓reduceIte, a0, b0, b1, b2, b3, b4, d0, d1, d2, d3, d4, d5]) (by omega) hc12 hi1 hi2 hts hra (by omega) (by omega)
                · have hlt : (((n + 1 : Nat) : Int) > 0) = True := by simp
                  have hw := wrap_pred n (by omega)
                  have f1 := elder (show 0 < nx by omega)
                  have f2 := elder (show 1 < nx by omega)
                  have f3 := elder (show 2 < nx by omega)
                  have f4 := elder (show 3 < nx by omega)
                  have f5 := elder (show 4 < nx by omega)
                  have a0 := elder (show Ra < nx by omega)
                  have b0 := ne_false (show Ra ≠ 0 by omega)
                  have b1 := ne_false (show Ra ≠ 1 by omega)
                  have b2 := ne_false (show Ra ≠ 2 by omega)
                  have b3 := ne_false (show Ra ≠ 3 by omega)
                  have b4 := ne_false (show Ra ≠ 4 by omega)
                  have c0 := elder (show So < nx by omega)
                  have d0 := ne_false (show So ≠ 0 by omega)
                  have d1 := ne_false (show So ≠ 1 by omega)
                  have d2 := ne_false (show So ≠ 2 by omega)
                  have d3 := ne_false (show So ≠ 3 by omega)
                  have d4 := ne_false (show So ≠ 4 by omega)
                  have d5 := ne_false (show So ≠ Ra by omega)
                  unfold stC
                  simp only [↓LXbr, LXbr, LXn', Nat.reduceLT, Nat.reduceLeDiff, Nat.reduceEqDiff, Int.reduceLT, Int.reduceLE, Int.reduceGT, Int.reduceGE, Nat.reduceGT, Int.reduceEq, Int.reduceBEq, Int.reduceBNe, ↓LXp, LXa, LXm, ↓reduceIte, reduceCtorEq, Nat.reduceAdd, Nat.reduceSub, Nat.reduceMul, Int.reduceAdd, Int.reduceSub, Int.reduceMul, Int.reduceNeg, Int.reduceToNat, Int.cast_ofNat_Int, forall_const, List.reduceReplicate, wi64, wu64, Int.natCast_nonneg, Int.toNat_natCast, Nat.add_eq_left, Nat.left_eq_add, Nat.add_left_cancel_iff, Nat.add_assoc, iv, sv, bv, LXfx, tz_Start, T_Start, T_Inss, T_Tabs, T_ints, tsl_bytes, tk_u8, isBytes_str, ex_bytes, start0, nilv, zStart, tailR, tk_int, U_int, T_int, T_string, tsl_ints, List.length_map, List.getElem?_map, Try.ntmps69, Try.results69, hlt, f1, f2, f3, f4, f5, a0, b0, b1, b2, b3, b4, c0, d0, d1, d2, d3, d4, d5]
                  (refine cw_free [8] (.one 0 .pure (.one 2 .pure (.both (.one 1 .act (.one 3 .act (.one 4 .act (.one 5 .act (.one 6 .act (.one 7 .pure (.one 8 .last .done))))))) (.one 3 .act (.both (.one 1 .act (.one 4 .act (.one 5 .act (.one 6 .act (.one 7 .pure (.one 8 .last .done)))))) (.one 4 .act (.both (.one 1 .act (.one 5 .act (.one 6 .act (.one 7 .pure (.one 8 .last .done))))) (.one 5 .act (.one 1 .act (.one 6 .act (.one 7 .pure (.one 8 .last .done)))))))))))) (by kernel_rfl) (by kernel_rfl) ?_; simp only [LXe, free_done, free_act, free_last, free_pure, free_both, Option.elim_some, List.getElem?_cons_zero, List.getElem?_cons_succ])
                  simp only [↓LXbr, LXbr, LXn', Nat.reduceLT, Nat.reduceLeDiff, Nat.reduceEqDiff, Int.reduceLT, Int.reduceLE, Int.reduceGT, Int.reduceGE, Nat.reduceGT, Int.reduceEq, Int.reduceBEq, Int.reduceBNe, ↓LXp, LXa, LXm, ↓reduceIte, reduceCtorEq, Nat.reduceAdd, Nat.reduceSub, Nat.reduceMul, Int.reduceAdd, Int.reduceSub, Int.reduceMul, Int.reduceNeg, Int.reduceToNat, Int.cast_ofNat_Int, forall_const, List.reduceReplicate, wi64, wu64, Int.natCast_nonneg, Int.toNat_natCast, Nat.add_eq_left, Nat.left_eq_add, Nat.add_left_cancel_iff, Nat.add_assoc, iv, sv, bv, LXfx, tz_Start, T_Start, T_Inss, T_Tabs, T_ints, tsl_bytes, tk_u8, isBytes_str, ex_bytes, start0, nilv, zStart, tailR, tk_int, U_int, T_int, T_string, tsl_ints, List.length_map, List.getElem?_map, Try.ntmps69, Try.results69, hlt, hw, e_int, f1, f2, f3, f4, f5, a0, b0, b1, b2, b3, b4, c0, d0, d1, d2, d3, d4, d5]
                  repeat' (first
                    | with_reducible apply And.intro
                    | omega
                    | (refine callTo_drE 0 0 (one_dr [0, 1, 2, 3, 7, 9] (by decide) (by decide)) hrd _ rfl ?_ ?_ ?_; (focus first | rfl | (simp +decide only [LXr, LXs, ↓reduceIte, Option.bind_some, hlt, hw, e_int, f1, f2, f3, f4, f5, a0, b0, b1, b2, b3, b4, c0, d0, d1, d2, d3, d4, d5, iv, sv, tv, LXfx, oldIv] <;> rfl) | (simp +decide only [LXr, and_true, true_and, iv, bv]; done) | (simp +decide only [lowL, LV.low, freeL, LV.free, Bool.and_self, iv, bv, iv, sv, tv, lowIv]; done)); (focus first | rfl | (simp +decide only [LXr, LXs, ↓reduceIte, Option.bind_some, iv, sv, tv, LXfx, oldIv] <;> rfl) | (simp +decide only [LXr, and_true, true_and, iv, bv]; done) | (simp +decide only [lowL, LV.low, freeL, LV.free, Bool.and_self, iv, bv, iv, sv, tv, lowIv]; done)); apply Exists.intro; refine And.intro ?_ (And.intro ?_ ?_); (focus first | rfl | (simp only [LXs, ↓reduceIte, hlt, hw, e_int, f1, f2, f3, f4, f5, a0, b0, b1, b2, b3, b4, c0, d0, d1, d2, d3, d4, d5]; rfl)); (focus omega); rintro q _ hq ⟨z, rfl, hz⟩; refine ⟨rfl, ?_⟩; simp only [↓LXbr, LXbr, LXn', Nat.reduceLT, Nat.reduceLeDiff, Nat.reduceEqDiff, Int.reduceLT, Int.reduceLE, Int.reduceGT, Int.reduceGE, Nat.reduceGT, Int.reduceEq, Int.reduceBEq, Int.reduceBNe, ↓LXp, LXa, LXm, ↓reduceIte, reduceCtorEq, Nat.reduceAdd, Nat.reduceSub, Nat.reduceMul, Int.reduceAdd, Int.reduceSub, Int.reduceMul, Int.reduceNeg, Int.reduceToNat, Int.cast_ofNat_Int, forall_const, List.reduceReplicate, wi64, wu64, Int.natCast_nonneg, Int.toNat_natCast, Nat.add_eq_left, Nat.left_eq_add, Nat.add_left_cancel_iff, Nat.add_assoc, iv, sv, bv, LXfx, tz_Start, T_Start, T_Inss, T_Tabs, T_ints, tsl_bytes, tk_u8, isBytes_str, ex_bytes, start0, nilv, zStart, tailR, tk_int, U_int, T_int, T_string, tsl_ints, List.length_map, List.getElem?_map, Try.ntmps69, Try.results69, hlt, hw, e_int, f1, f2, f3, f4, f5, a0, b0, b1, b2, b3, b4, c0, d0, d1, d2, d3, d4, d5])
                    | (refine ⟨n, Nat.lt_succ_self n, stC sl L _ is ts c n [(_, .row .one ((so ++ [z]).map iv))] ra Ra (.hd _) _, Canon.drop ⟨rfl, rfl, rfl, rfl, trivial⟩ (by (repeat (first | exact List.nil_sublist _ | apply List.Sublist.cons_cons | apply List.Sublist.cons))), .inr ⟨so ++ [z], _, _, _, ?_, ?_, ?_, ?_, ?_, rfl⟩⟩ <;> first | omega | decide | (rw [List.length_append]; simp only [List.length_singleton]; omega))
                    | fail)
          · have hlt : (((n + 1 : Nat) : Int) > 0) = True := by simp
            have hw := wrap_pred n (by omega)
            have f1 := elder (show 0 < nx by omega)
            have f2 := elder (show 1 < nx by omega)
            have f3 := elder (show 2 < nx by omega)
            have f4 := elder (show 3 < nx by omega)
            have f5 := elder (show 4 < nx by omega)
            have a0 := elder (show Ra < nx by omega)
            have b0 := ne_false (show Ra ≠ 0 by omega)
            have b1 := ne_false (show Ra ≠ 1 by omega)
            have b2 := ne_false (show Ra ≠ 2 by omega)
            have b3 := ne_false (show Ra ≠ 3 by omega)
            have b4 := ne_false (show Ra ≠ 4 by omega)
            unfold stB
            simp only [↓LXbr, LXbr, LXn', Nat.reduceLT, Nat.reduceLeDiff, Nat.reduceEqDiff, Int.reduceLT, Int.reduceLE, Int.reduceGT, Int.reduceGE, Nat.reduceGT, Int.reduceEq, Int.reduceBEq, Int.reduceBNe, ↓LXp, LXa, LXm, ↓reduceIte, reduceCtorEq, Nat.reduceAdd, Nat.reduceSub, Nat.reduceMul, Int.reduceAdd, Int.reduceSub, Int.reduceMul, Int.reduceNeg, Int.reduceToNat, Int.cast_ofNat_Int, forall_const, List.reduceReplicate, wi64, wu64, Int.natCast_nonneg, Int.toNat_natCast, Nat.add_eq_left, Nat.left_eq_add, Nat.add_left_cancel_iff, Nat.add_assoc, iv, sv, bv, LXfx, tz_Start, T_Start, T_Inss, T_Tabs, T_ints, tsl_bytes, tk_u8, isBytes_str, ex_bytes, start0, nilv, zStart, tailR, tk_int, U_int, T_int, T_string, tsl_ints, List.length_map, List.getElem?_map, Try.ntmps69, Try.results69, hlt, f1, f2, f3, f4, f5, a0, b0, b1, b2, b3, b4]
            (refine cw_free [7] (.one 0 .pure (.one 2 .pure (.both (.one 1 .act (.one 3 .act (.one 4 .act (.one 5 .act (.one 6 .pure (.one 7 .last .done)))))) (.one 3 .act (.both (.one 1 .act (.one 4 .act (.one 5 .act (.one 6 .pure (.one 7 .last .done))))) (.one 4 .act (.one 1 .act (.one 5 .act (.one 6 .pure (.one 7 .last .done)))))))))) (by kernel_rfl) (by kernel_rfl) ?_; simp only [LXe, free_done, free_act, free_last, free_pure, free_both, Option.elim_some, List.getElem?_cons_zero, List.getElem?_cons_succ])
            simp only [↓LXbr, LXbr, LXn', Nat.reduceLT, Nat.reduceLeDiff, Nat.reduceEqDiff, Int.reduceLT, Int.reduceLE, Int.reduceGT, Int.reduceGE, Nat.reduceGT, Int.reduceEq, Int.reduceBEq, Int.reduceBNe, ↓LXp, LXa, LXm, ↓reduceIte, reduceCtorEq, Nat.reduceAdd, Nat.reduceSub, Nat.reduceMul, Int.reduceAdd, Int.reduceSub, Int.reduceMul, Int.reduceNeg, Int.reduceToNat, Int.cast_ofNat_Int, forall_const, List.reduceReplicate, wi64, wu64, Int.natCast_nonneg, Int.toNat_natCast, Nat.add_eq_left, Nat.left_eq_add, Nat.add_left_cancel_iff, Nat.add_assoc, iv, sv, bv, LXfx, tz_Start, T_Start, T_Inss, T_Tabs, T_ints, tsl_bytes, tk_u8, isBytes_str, ex_bytes, start0, nilv, zStart, tailR, tk_int, U_int, T_int, T_string, tsl_ints, List.length_map, List.getElem?_map, Try.ntmps69, Try.results69, hlt, hw, e_int, f1, f2, f3, f4, f5, a0, b0, b1, b2, b3, b4]
            repeat' (first
              | with_reducible apply And.intro
              | omega
              | (refine callTo_drE 0 0 (l20Number_dr) hrd _ rfl ?_ ?_ ?_; (focus first | rfl | (simp +decide only [LXr, LXs, ↓reduceIte, Option.bind_some, hlt, hw, e_int, f1, f2, f3, f4, f5, a0, b0, b1, b2, b3, b4, iv, sv, tv, LXfx, oldIv] <;> rfl) | (simp +decide only [LXr, and_true, true_and, iv, bv]; done) | (simp +decide only [lowL, LV.low, freeL, LV.free, Bool.and_self, iv, bv, iv, sv, tv, lowIv]; done)); (focus first | rfl | (simp +decide only [LXr, LXs, ↓reduceIte, Option.bind_some, iv, sv, tv, LXfx, oldIv] <;> rfl) | (simp +decide only [LXr, and_true, true_and, iv, bv]; done) | (simp +decide only [lowL, LV.low, freeL, LV.free, Bool.and_self, iv, bv, iv, sv, tv, lowIv]; done)); apply Exists.intro; refine And.intro ?_ (And.intro ?_ ?_); (focus first | rfl | (simp only [LXs, ↓reduceIte, hlt, hw, e_int, f1, f2, f3, f4, f5, a0, b0, b1, b2, b3, b4]; rfl)); (focus omega); rintro q _ hq ⟨z, rfl⟩; refine ⟨rfl, ?_⟩; simp only [↓LXbr, LXbr, LXn', Nat.reduceLT, Nat.reduceLeDiff, Nat.reduceEqDiff, Int.reduceLT, Int.reduceLE, Int.reduceGT, Int.reduceGE, Nat.reduceGT, Int.reduceEq, Int.reduceBEq, Int.reduceBNe, ↓LXp, LXa, LXm, ↓reduceIte, reduceCtorEq, Nat.reduceAdd, Nat.reduceSub, Nat.reduceMul, Int.reduceAdd, Int.reduceSub, Int.reduceMul, Int.reduceNeg, Int.reduceToNat, Int.cast_ofNat_Int, forall_const, List.reduceReplicate, wi64, wu64, Int.natCast_nonneg, Int.toNat_natCast, Nat.add_eq_left, Nat.left_eq_add, Nat.add_left_cancel_iff, Nat.add_assoc, iv, sv, bv, LXfx, tz_Start, T_Start, T_Inss, T_Tabs, T_ints, tsl_bytes, tk_u8, isBytes_str, ex_bytes, start0, nilv, zStart, tailR, tk_int, U_int, T_int, T_string, tsl_ints, List.length_map, List.getElem?_map, Try.ntmps69, Try.results69, hlt, hw, e_int, f1, f2, f3, f4, f5, a0, b0, b1, b2, b3, b4])
              | (refine ⟨n, Nat.lt_succ_self n, stB sl L _ is ts c n [(_, .row .one ((ra ++ [z]).map iv))] (.hd _) _, Canon.drop ⟨rfl, rfl, rfl, rfl, trivial⟩ (by (repeat (first | exact List.nil_sublist _ | apply List.Sublist.cons_cons | apply List.Sublist.cons))), .inr ⟨ra ++ [z], _, _, _, ?_, ?_, ?_, ?_, ?_, rfl⟩⟩ <;> first | omega | decide | (rw [List.length_append]; simp only [List.length_singleton]; omega))
              | fail)
    | succ n =>
      have hlt : ((cs.length : Int) < 12) = True := by simp; omega
      have hw : IntKind.i64.wrap ((cs.length : Int) + 1) = ((cs.length + 1 : Nat) : Int) := by simp [IntKind.wrap, IntKind.bits, IntKind.signed]; omega
      simp only [↓LXbr, LXbr, LXn', Nat.reduceLT, Nat.reduceLeDiff, Nat.reduceEqDiff, Int.reduceLT, Int.reduceLE, Int.reduceGT, Int.reduceGE, Nat.reduceGT, Int.reduceEq, Int.reduceBEq, Int.reduceBNe, ↓LXp, LXa, LXm, ↓reduceIte, reduceCtorEq, Nat.reduceAdd, Nat.reduceSub, Nat.reduceMul, Int.reduceAdd, Int.reduceSub, Int.reduceMul, Int.reduceNeg, Int.reduceToNat, Int.cast_ofNat_Int, forall_const, List.reduceReplicate, wi64, wu64, Int.natCast_nonneg, Int.toNat_natCast, Nat.add_eq_left, Nat.left_eq_add, Nat.add_left_cancel_iff, Nat.add_assoc, iv, sv, bv, LXfx, tz_Start, T_Start, T_Inss, T_Tabs, T_ints, tsl_bytes, tk_u8, isBytes_str, ex_bytes, start0, nilv, zStart, tailR, tk_int, U_int, T_int, T_string, tsl_ints, List.length_map, List.getElem?_map, Try.ntmps69, Try.results69, hlt, f0, f1, f2, f3, f4, f5, g0, g1, g2, g3, g4]
      (refine callTo_drE 0 0 (one_dr [0, 1, 2, 3, 5, 7, 9, 10, 200, 255] (by decide) (by decide)) hrd _ rfl ?_ ?_ ?_; (focus first | rfl | (simp +decide only [LXr, LXs, ↓reduceIte, Option.bind_some, e_byte, hw, f0, f1, f2, f3, f4, f5, g0, g1, g2, g3, g4, iv, sv, tv, LXfx, oldIv] <;> rfl) | (simp +decide only [LXr, and_true, true_and, iv, bv]; done) | (simp +decide only [lowL, LV.low, freeL, LV.free, Bool.and_self, iv, bv, iv, sv, tv, lowIv]; done)); (focus first | rfl | (simp +decide only [LXr, LXs, ↓reduceIte, Option.bind_some, iv, sv, tv, LXfx, oldIv] <;> rfl) | (simp +decide only [LXr, and_true, true_and, iv, bv]; done) | (simp +decide only [lowL, LV.low, freeL, LV.free, Bool.and_self, iv, bv, iv, sv, tv, lowIv]; done)); apply Exists.intro; refine And.intro ?_ (And.intro ?_ ?_); (focus first | rfl | (simp only [LXs, ↓reduceIte, e_byte, hw, f0, f1, f2, f3, f4, f5, g0, g1, g2, g3, g4]; rfl)); (focus omega); rintro p4 _ hp4 ⟨z, rfl, hz⟩; refine ⟨rfl, ?_⟩; simp only [↓LXbr, LXbr, LXn', Nat.reduceLT, Nat.reduceLeDiff, Nat.reduceEqDiff, Int.reduceLT, Int.reduceLE, Int.reduceGT, Int.reduceGE, Nat.reduceGT, Int.reduceEq, Int.reduceBEq, Int.reduceBNe, ↓LXp, LXa, LXm, ↓reduceIte, reduceCtorEq, Nat.reduceAdd, Nat.reduceSub, Nat.reduceMul, Int.reduceAdd, Int.reduceSub, Int.reduceMul, Int.reduceNeg, Int.reduceToNat, Int.cast_ofNat_Int, forall_const, List.reduceReplicate, wi64, wu64, Int.natCast_nonneg, Int.toNat_natCast, Nat.add_eq_left, Nat.left_eq_add, Nat.add_left_cancel_iff, Nat.add_assoc, iv, sv, bv, LXfx, tz_Start, T_Start, T_Inss, T_Tabs, T_ints, tsl_bytes, tk_u8, isBytes_str, ex_bytes, start0, nilv, zStart, tailR, tk_int, U_int, T_int, T_string, tsl_ints, List.length_map, List.getElem?_map, Try.ntmps69, Try.results69, e_byte, hw, f0, f1, f2, f3, f4, f5, g0, g1, g2, g3, g4])
      exact ⟨by omega, n, by omega, stA sl L p4 is ts (cs ++ [_]) _ (nx + 2) (nx + 3), Canon.drop ⟨rfl, rfl, rfl, rfl, rfl, trivial⟩ (by (repeat (first | exact List.nil_sublist _ | apply List.Sublist.cons_cons | apply List.Sublist.cons))), cs ++ [_], p4, nx + 2, nx + 3, by rw [List.length_append]; simp only [List.length_singleton]; omega, by omega, by omega, by omega, by rw [List.length_append]; rfl⟩
end Go.Proofs.Ytoimeebildcofaa
