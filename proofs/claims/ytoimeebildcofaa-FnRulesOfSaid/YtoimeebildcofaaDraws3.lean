/- The walks of the reference's draws of keys, numbers and values. -/
import Derived.Test.YtoimeebildcofaaDraws2
import Derived.Test.YtoimeebildcofaaWTab9
namespace Go.Proofs.Ytoimeebildcofaa
open Go.RowKit
theorem l20Imm_calls (w : World) (g : Nat) (s : Value) (vs : List Int) (L : Blocks) (k : Nat) (R : Rd w g s vs L k) (hk : k ≤ 1099511627500) :
    Calls Try.prog 126 #[.pointer (some ⟨g, 0, none⟩)] w fun e w' => (∃ z : Int, e = .returned (.int .i64 z) ∧ -1 ≤ z ∧ z ≤ 4294967296) ∧ (∃ k', k' ≤ k + 3 ∧ Rd w' g s vs L k') ∧ Only (· = g) w w' := by
  go_enter Try.func126, Try.ntmps126
  go_wp2_with fail
  refine (oneLit_calls [0, 1, 2, 3, 7, 8, 15, 31, 100, 255, 65535, 2147483647, 2147483648, 4294967295] _ g s vs L k R (by omega) (by simp) (by simp)).mono ?_
  rintro e w2 ⟨⟨z, rfl, hz⟩, R, o2⟩
  have hz2 : -1 ≤ z ∧ z ≤ 4294967296 := by simp at hz; omega
  clear hz
  go_wp2
  go_ret
  exact ⟨⟨z, rfl, hz2⟩, ⟨_, by omega, R⟩, o2⟩
theorem l20Key_calls (w : World) (g : Nat) (s : Value) (vs : List Int) (L : Blocks) (k : Nat) (R : Rd w g s vs L k) (hk : k ≤ 1099511627500) :
    Calls Try.prog 51 #[.pointer (some ⟨g, 0, none⟩)] w fun e w' => (∃ z : Int, e = .returned (.int .i64 z) ∧ -1 ≤ z ∧ z ≤ 4294967296) ∧ (∃ k', k' ≤ k + 3 ∧ Rd w' g s vs L k') ∧ Only (· = g) w w' := by
  go_enter Try.func51, Try.ntmps51
  go_wp2_with fail
  refine (oneLit_calls [0, 1, 2, 3, 7, 200, 4294967295, -1, 4294967296] _ g s vs L k R (by omega) (by simp) (by simp)).mono ?_
  rintro e w2 ⟨⟨z, rfl, hz⟩, R, o2⟩
  have hz2 : -1 ≤ z ∧ z ≤ 4294967296 := by simp at hz; omega
  clear hz
  go_wp2
  go_ret
  exact ⟨⟨z, rfl, hz2⟩, ⟨_, by omega, R⟩, o2⟩
set_option maxRecDepth 100000 in
theorem l20Number_calls (w : World) (g : Nat) (s : Value) (vs : List Int) (L : Blocks) (k : Nat) (R : Rd w g s vs L k) (hk : k ≤ 1099511627400) :
    Calls Try.prog 104 #[.pointer (some ⟨g, 0, none⟩)] w fun e w' => (∃ z : Int, e = .returned (.int .i64 z) ∧ -1 ≤ z ∧ z ≤ 4294967296) ∧ (∃ k', k' ≤ k + 6 ∧ Rd w' g s vs L k') ∧ Only (· = g) w w' := by
  go_enter Try.func104, Try.ntmps104
  go_wp2_with fail
  refine (pick_calls 3 w g s vs L k R (by omega) (by omega)).mono ?_
  rintro e w1 ⟨⟨r, rfl, hr⟩, R, o1⟩
  have hr3 : r = 0 ∨ r = 1 ∨ r = 2 := by omega
  clear hr
  rcases hr3 with rfl | rfl | rfl
  · go_wp2_with fail
    refine (l20Imm_calls _ g s vs L _ R (by omega)).mono ?_
    rintro e w2 ⟨⟨z, rfl, hz⟩, ⟨k', hk', R⟩, o2⟩
    go_wp2
    go_ret
    exact ⟨⟨z, rfl, hz⟩, ⟨k', by omega, R⟩, o1.trans o2⟩
  · go_wp2_with fail
    refine (pick_calls 256 _ g s vs L _ R (by omega) (by omega)).mono ?_
    rintro e w2 ⟨⟨r, rfl, hr⟩, R, o2⟩
    go_wp2
    go_ret
    exact ⟨⟨(r : Int), rfl, by omega, by omega⟩, ⟨k + 1 + 1, by omega, R⟩, o1.trans o2⟩
  · go_wp2_with fail
    refine (pick_calls 256 _ g s vs L _ R (by omega) (by omega)).mono ?_
    rintro e w2 ⟨⟨r, rfl, hr⟩, R, o2⟩
    go_wp2_with fail
    refine (oneLit_calls [0, 4, 8, 16, 24] _ g s vs L _ R (by omega) (by simp) (by simp)).mono ?_
    rintro e w3 ⟨⟨z, rfl, hz⟩, R, o3⟩
    have hz2 : z = 0 ∨ z = 4 ∨ z = 8 ∨ z = 16 ∨ z = 24 := by simpa using hz
    have hr256 : (r : Int) < 256 := by omega
    have hr0 : (0 : Int) ≤ r := by omega
    clear hz hr
    rcases hz2 with rfl | rfl | rfl | rfl | rfl
    all_goals go_wp2
    all_goals go_ret
    all_goals exact ⟨⟨_, rfl, by omega, by omega⟩, ⟨k + 1 + 1 + 1, by omega, R⟩, (o1.trans o2).trans o3⟩
set_option maxRecDepth 100000 in
theorem l4Bytes_calls (n m : Int) (w : World) (hm0 : 0 ≤ m) (hm : m ≤ 8) :
    Calls Try.prog 113 #[.int .i64 n, .int .i64 m] w fun e w' => (∃ x : ByteArray, e = .returned (.string x) ∧ (x.size : Int) = m) ∧ Below w.heap.size w w' := by
  obtain ⟨i0, hi0, hz0, hs0, hb0⟩ := info_of infoByte
  have HI := Lib.hid hi0
  clear hi0
  go_enter Try.func113, Try.ntmps113
  go_wp2
  go_loopw [0, 5, 6] (fun a v i wr => ∃ (j : Nat) (q : Int) (zs : List Int) (M : Blocks), (j : Int) ≤ m ∧ a = .int .i64 q ∧ i = .int .i64 j ∧ zs.length = j ∧ Own w.heap.size 5 1 v (zs.map byteCell) M ∧ Holds wr M ∧ Below w.heap.size w wr) (fun _ _ i _ => (m - (intOf i)).toNat)
  case atStart => exact ⟨0, n, [], _, by omega, rfl, rfl, rfl, ⟨by simp, .inr ⟨_, 0, #[], rfl, Nat.le_refl _, Nat.le_refl _, by omega, by simp, rfl, rfl⟩⟩, Holds.one (heap_alloc_new w _), below_alloc' (Below.refl _ _) _⟩
  case round =>
    obtain ⟨j, q, zs, M, hj, rfl, rfl, hlen, ho, hH, hb⟩ := hrel
    have hsz := hb.size
    by_cases hlt : (j : Int) < m
    · go_wp2_with (((with_reducible refine gate_dst (N := 18) rfl ?_); refine wpList_append' rfl _ _ 34 rfl w.heap.size 5 i0 _ 1 1 Try.underlying34 HI.out hz0 hs0 hb0 rfl (by decide) _ (zs.map byteCell) M rfl ho (hH.alloc _) ⟨wr.heap.size, 0, none⟩ 1 1 [[.int .u8 (bits BinOp.and IntKind.i64 q 255 % 256)]] rfl (by simp) rfl (cells_new _ _ _) (by simp [Value.oneCell']) (by simp; omega) (by decide) (by simp; omega) ?_; intro v2 w4 M2 ho2 hM2 hon2 hat))
      go_roundw
      case rel => exact ⟨j + 1, _, zs ++ [bits BinOp.and IntKind.i64 q 255 % 256], M2, by omega, rfl, by go_num, by simp [hlen], by simpa [byteCell] using ho2, hM2, (below_alloc' hb _).trans (below_only' hon2 (fun k ⟨p, hp, e⟩ => by have := ho.base p hp; omega) (by simp; omega))⟩
      case measure => simp [intOf]; omega
    · obtain ⟨x, hx, hcv⟩ := ho.text (P := Try.prog) hH 34 9 5 Try.underlying34 Try.underlying5 Try.underlying9
      have HC := Lib.hid hcv
      clear hcv
      go_wp2_with ((with_reducible refine gate_dst (N := 22) rfl ?_); refine wpList_conv rfl 34 9 _ rfl _ _ rfl HC.out ?_)
      go_ret
      exact ⟨⟨x, rfl, by omega⟩, hb⟩
end Go.Proofs.Ytoimeebildcofaa
