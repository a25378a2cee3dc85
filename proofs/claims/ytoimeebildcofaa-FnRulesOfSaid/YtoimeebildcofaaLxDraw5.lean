/- The walk of the reference's draw of a program, by roots. -/
import Derived.Test.YtoimeebildcofaaLxDraw4
namespace Go.Proofs.Ytoimeebildcofaa
open Go.RowKit
set_option linter.unusedSimpArgs false
set_option linter.unusedVariables false
set_option maxRecDepth 1000000
def lineAt : Nat → List ByteArray
  | 0 => [bs [109, 111, 118, 32, 114, 48, 32, 49], bs [101, 120, 105, 116]]
  | 1 => [bs [108, 111, 97, 100, 49, 32, 114, 50, 32, 114, 49, 32, 48], bs [109, 111, 118, 32, 114, 48, 32, 48], bs [108, 101, 115, 115, 32, 114, 50, 32, 49, 48, 32, 49], bs [109, 111, 118, 32, 114, 48, 32, 49], bs [101, 120, 105, 116]]
  | 2 => [bs [108, 111, 97, 100, 49, 32, 114, 54, 32, 114, 49, 32, 48], bs [97, 110, 100, 32, 114, 54, 32, 51], bs [109, 111, 118, 32, 114, 49, 32, 48], bs [109, 111, 118, 32, 114, 50, 32, 114, 54], bs [99, 97, 108, 108, 32, 108, 111, 111, 107], bs [111, 116, 104, 101, 114, 32, 114, 48, 32, 48, 32, 50], bs [109, 111, 118, 32, 114, 48, 32, 48], bs [101, 120, 105, 116], bs [108, 111, 97, 100, 49, 32, 114, 51, 32, 114, 48, 32, 48], bs [97, 100, 100, 32, 114, 51, 32, 49], bs [115, 116, 111, 114, 101, 49, 32, 114, 48, 32, 48, 32, 114, 51], bs [109, 111, 118, 32, 114, 48, 32, 49], bs [101, 120, 105, 116]]
  | 3 => [bs [108, 111, 97, 100, 52, 32, 114, 50, 32, 114, 49, 32, 48], bs [115, 116, 111, 114, 101, 52, 32, 114, 49, 48, 32, 45, 52, 32, 114, 50], bs [108, 111, 97, 100, 49, 32, 114, 48, 32, 114, 49, 48, 32, 45, 51], bs [97, 110, 100, 32, 114, 48, 32, 49], bs [101, 120, 105, 116]]
  | 4 => [bs [108, 111, 97, 100, 49, 32, 114, 49, 32, 114, 49, 32, 48], bs [99, 97, 108, 108, 32, 102, 105, 110, 100], bs [115, 97, 109, 101, 32, 114, 48, 32, 48, 32, 52], bs [109, 111, 118, 32, 114, 49, 32, 114, 48], bs [99, 97, 108, 108, 32, 100, 114, 111, 112], bs [109, 111, 118, 32, 114, 48, 32, 49], bs [101, 120, 105, 116], bs [109, 111, 118, 32, 114, 48, 32, 48], bs [101, 120, 105, 116]]
  | 5 => [bs [108, 111, 97, 100, 49, 32, 114, 49, 32, 114, 49, 32, 48], bs [99, 97, 108, 108, 32, 115, 101, 110, 100], bs [109, 111, 118, 32, 114, 48, 32, 50], bs [101, 120, 105, 116]]
  | 6 => [bs [109, 111, 118, 32, 114, 54, 32, 48], bs [97, 100, 100, 32, 114, 54, 32, 49], bs [108, 101, 115, 115, 32, 114, 54, 32, 53, 32, 45, 50], bs [109, 111, 118, 32, 114, 48, 32, 114, 54], bs [101, 120, 105, 116]]
  | 7 => [bs [108, 111, 97, 100, 49, 32, 114, 50, 32, 114, 49, 32, 48], bs [97, 110, 100, 32, 114, 50, 32, 55], bs [109, 111, 118, 32, 114, 51, 32, 114, 49], bs [97, 100, 100, 32, 114, 51, 32, 114, 50], bs [108, 111, 97, 100, 49, 32, 114, 48, 32, 114, 51, 32, 48], bs [101, 120, 105, 116]]
  | 8 => [bs [99, 97, 108, 108, 32, 114, 97, 110, 100], bs [109, 111, 100, 32, 114, 48, 32, 51], bs [101, 120, 105, 116]]
  | 9 => [bs [108, 111, 97, 100, 50, 32, 114, 50, 32, 114, 49, 32, 52], bs [109, 111, 118, 32, 114, 48, 32, 114, 50], bs [115, 104, 114, 32, 114, 48, 32, 52], bs [120, 111, 114, 32, 114, 48, 32, 50, 53, 53], bs [100, 105, 118, 32, 114, 48, 32, 51], bs [101, 120, 105, 116]]
  | 10 => [bs [108, 111, 97, 100, 49, 32, 114, 54, 32, 114, 49, 32, 48], bs [109, 111, 118, 32, 114, 49, 32, 49], bs [109, 111, 118, 32, 114, 50, 32, 114, 54], bs [109, 111, 118, 32, 114, 51, 32, 55], bs [99, 97, 108, 108, 32, 112, 117, 116], bs [101, 120, 105, 116]]
  | 11 => [bs [108, 111, 97, 100, 49, 32, 114, 49, 32, 114, 49, 32, 49], bs [99, 97, 108, 108, 32, 102, 105, 110, 100], bs [109, 111, 118, 32, 114, 54, 32, 114, 48], bs [111, 116, 104, 101, 114, 32, 114, 54, 32, 48, 32, 50], bs [109, 111, 118, 32, 114, 48, 32, 48], bs [101, 120, 105, 116], bs [109, 111, 118, 32, 114, 49, 32, 114, 54], bs [99, 97, 108, 108, 32, 100, 114, 111, 112], bs [109, 111, 118, 32, 114, 48, 32, 50], bs [101, 120, 105, 116]]
  | 12 => [bs [108, 111, 97, 100, 49, 32, 114, 50, 32, 114, 49, 32, 48], bs [109, 111, 114, 101, 32, 114, 50, 32, 55, 32, 50], bs [115, 116, 111, 114, 101, 49, 32, 114, 49, 48, 32, 45, 49, 32, 114, 50], bs [103, 111, 32, 49], bs [115, 116, 111, 114, 101, 49, 32, 114, 49, 48, 32, 45, 49, 32, 48], bs [108, 111, 97, 100, 49, 32, 114, 48, 32, 114, 49, 48, 32, 45, 49], bs [101, 120, 105, 116]]
  | 13 => [bs [108, 111, 97, 100, 49, 32, 114, 50, 32, 114, 49, 32, 48], bs [108, 101, 115, 115, 32, 114, 50, 32, 57, 32, 49], bs [109, 111, 118, 32, 114, 50, 32, 56], bs [109, 111, 118, 32, 114, 51, 32, 114, 49, 48], bs [115, 117, 98, 32, 114, 51, 32, 49, 54], bs [115, 116, 111, 114, 101, 52, 32, 114, 51, 32, 48, 32, 49], bs [115, 116, 111, 114, 101, 52, 32, 114, 51, 32, 52, 32, 50], bs [115, 116, 111, 114, 101, 52, 32, 114, 51, 32, 56, 32, 51], bs [97, 100, 100, 32, 114, 51, 32, 114, 50], bs [108, 111, 97, 100, 49, 32, 114, 48, 32, 114, 51, 32, 48], bs [101, 120, 105, 116]]
  | 14 => [bs [108, 111, 97, 100, 49, 32, 114, 50, 32, 114, 49, 32, 48], bs [109, 117, 108, 32, 114, 50, 32, 49, 48, 48, 48], bs [109, 111, 118, 32, 114, 48, 32, 114, 50], bs [109, 111, 114, 101, 32, 114, 48, 32, 49, 48, 48, 48, 48, 48, 32, 49], bs [115, 117, 98, 32, 114, 48, 32, 49], bs [101, 120, 105, 116]]
  | _ => []
theorem tsl_strss : tsl Try.prog 139 = some (23, .v (.slice none 0 0)) := by kernel_rfl
def lineRoots (b : Nat) : Nat → Roots
  | 0 => []
  | n + 1 => (b + n, .row .one ((lineAt n).map sv)) :: lineRoots b n
def hdsTo (b n : Nat) : List LV := (List.range n).map (fun i => .hd (b + i))
theorem lineRoots_mem {b : Nat} : ∀ {n : Nat} {y : Nat × Root}, y ∈ lineRoots b n → ∃ i, i < n ∧ y = (b + i, .row .one ((lineAt i).map sv))
  | n + 1, y, h => by
    rcases List.mem_cons.1 h with rfl | h
    · exact ⟨n, by omega, rfl⟩
    · obtain ⟨i, hi, e⟩ := lineRoots_mem h
      exact ⟨i, by omega, e⟩
theorem rootOf_lines (b i : Nat) (R : Roots) : ∀ n, rootOf (lineRoots b n ++ R) i = if b ≤ i ∧ i < b + n then some (.row .one ((lineAt (i - b)).map sv)) else rootOf R i
  | 0 => by rw [if_neg (by omega)]; rfl
  | n + 1 => by
    show rootOf ((b + n, .row .one ((lineAt n).map sv)) :: (lineRoots b n ++ R)) i = _
    simp only [rootOf]
    by_cases h : i = b + n
    · rw [if_pos h, if_pos (by omega), h, Nat.add_sub_cancel_left]
    · rw [if_neg h, rootOf_lines b i R n]
      by_cases h2 : b ≤ i ∧ i < b + n
      · rw [if_pos h2, if_pos (by omega)]
      · rw [if_neg h2, if_neg (by omega)]
theorem drop_lines (b i : Nat) (R : Roots) (hi : i < b) : ∀ n, dropRoot (lineRoots b n ++ R) i = lineRoots b n ++ dropRoot R i
  | 0 => rfl
  | n + 1 => by
    show dropRoot ((b + n, .row .one ((lineAt n).map sv)) :: (lineRoots b n ++ R)) i = _
    simp only [dropRoot, List.filter_cons]
    rw [if_pos (by simp; omega)]
    exact congrArg _ (drop_lines b i R hi n)
theorem lines_ren (b : Nat) : ∀ n, (lineRoots 0 n).map (fun y => (callNames id 0 b y.1, y.2.ren (callNames id 0 b))) = lineRoots b n
  | 0 => rfl
  | n + 1 => by
    show (_ :: (lineRoots 0 n).map _) = (b + n, _) :: lineRoots b n
    rw [lines_ren b n]
    simp only [Nat.zero_add, callNames, Nat.not_lt_zero, if_false, Nat.sub_zero, Root.ren, lowL_ren (sv_low _)]
theorem l20Lines_fn : Fn Try.prog 124 [] [] 16 (fun x R' => x = .one (.hd 15) ∧ R' = (15, .row .one (hdsTo 0 15)) :: lineRoots 0 15) NoP := by
  refine fn_of true Try.func124 rfl (by kernel_rfl) (Nat.le_of_ble_eq_true rfl) ?_
  simp only [↓LXbr, LXbr, LXn', Nat.reduceLT, Nat.reduceLeDiff, Nat.reduceEqDiff, Int.reduceLT, Int.reduceLE, Int.reduceGT, Int.reduceGE, Nat.reduceGT, Int.reduceEq, Int.reduceBEq, Int.reduceBNe, ↓LXp, LXa, LXm, ↓reduceIte, reduceCtorEq, Nat.reduceAdd, Nat.reduceSub, Nat.reduceMul, Int.reduceAdd, Int.reduceSub, Int.reduceMul, Int.reduceNeg, Int.reduceToNat, Int.cast_ofNat_Int, forall_const, List.reduceReplicate, wi64, wu64, iv, sv, bv, LXfx, tk_int, U_int, T_int, T_string, tsl_ints, tsl_strs', tsl_strss, List.length_map, List.getElem?_map, Try.ntmps124, Try.results124]
  refine RetNow.to ⟨fun _ => rfl, rfl, id, [.hd 15], (15, .row .one (hdsTo 0 15)) :: lineRoots 0 15, rfl, ⟨rfl, rfl⟩, ?_, by decide, ?_, fun i hi => rfl, by decide⟩
  · simp only [underL, LV.under, and_true]; decide
  · intro y hy
    rcases List.mem_cons.1 hy with rfl | hy
    · refine ⟨by decide, rfl, ?_⟩
      simp only [Root.under, hdsTo, List.range, List.range.loop, List.map_cons, List.map_nil, underL, LV.under, and_true]
      decide
    · obtain ⟨i, hi, rfl⟩ := lineRoots_mem hy
      refine ⟨by simp only [Nat.zero_add]; omega, ?_, ?_⟩
      · rcases i with _ | _ | _ | _ | _ | _ | _ | _ | _ | _ | _ | _ | _ | _ | _ | i
        iterate 15 (focus rfl)
        omega
      · simp only [Root.under]
        exact lowL_spec _ (sv_low _)
theorem callTo_lines {s : St} {K : EV → St → Prop} {KP : List PanicEntry → St → Prop} (hK : K (.one (.hd (s.next + 15))) { s with roots := (s.next + 15, .row .one (hdsTo s.next 15)) :: (lineRoots s.next 15 ++ s.roots), next := s.next + 16 }) : CallTo Try.prog 124 [] s K KP := by
  refine callTo_of l20Lines_fn id rfl (fun y hy => by cases hy) .nil rfl (by simp only [underL]) (fun r R' hq => ?_) (fun ch R' hq => hq.elim)
  obtain ⟨rfl, rfl⟩ := hq
  refine ⟨by simp only [EV.new, LV.new], fun y hy => ?_, ?_⟩
  · rcases List.mem_cons.1 hy with rfl | hy
    · simp only [Root.new, hdsTo, List.range, List.range.loop, List.map_cons, List.map_nil, newL, LV.new, and_true]
    · obtain ⟨i, hi, rfl⟩ := lineRoots_mem hy
      exact (freeL_spec 0 (sv_free _)).2
  · have e1 : EV.ren (callNames id ([] : Roots).length s.next) (.one (.hd 15)) = .one (.hd (s.next + 15)) := by simp [EV.ren, LV.ren, callNames]
    have e2 : afterCall s id 0 16 [] ((15, .row .one (hdsTo 0 15)) :: lineRoots 0 15) = { s with roots := (s.next + 15, .row .one (hdsTo s.next 15)) :: (lineRoots s.next 15 ++ s.roots), next := s.next + 16 } := by
      simp only [afterCall, List.map_cons, lines_ren]
      simp [callNames, Root.ren, hdsTo, renL, LV.ren, List.range, List.range.loop]
    rw [e1]
    show K _ (afterCall s id 0 16 [] _)
    rw [e2]
    exact hK
theorem hdsTo_len (b n : Nat) : (hdsTo b n).length = n := by simp [hdsTo]
theorem hdsTo_get {b n k : Nat} (h : k < n) : (hdsTo b n)[k]? = some (.hd (b + k)) := by simp [hdsTo, h]
theorem lineAt_ok (k : Nat) (h : k < 15) : 0 < (lineAt k).length ∧ (lineAt k).length ≤ 100 ∧ ∀ x ∈ lineAt k, x.size ≤ 1000000 := by
  rcases k with _ | _ | _ | _ | _ | _ | _ | _ | _ | _ | _ | _ | _ | _ | _ | i
  iterate 15 (focus exact ⟨by decide, by decide, by decide⟩)
  omega
end Go.Proofs.Ytoimeebildcofaa
