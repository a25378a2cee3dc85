/- For every string the program's FramePut returns what the reference's FramePut returns. Conditions: none beyond the row's own. -/
import Derived.Test.YtdpdclfanlbkjaaPFnExactFramePutx1
namespace Go.Proofs.Ytdpdclfanlbkjaa.Pure
open Go.RowKit Go.Proofs.Ytdpdclfanlbkjaa.PFnExactFramePut Go.Proofs.YtdpdclfanlbkjaaW.PrintWords Go.Proofs.YtdpdclfanlbkjaaW.PrintLast

theorem within_eq (a b c : Int) : impl_within.f a b c = spec_l1In.f a b c := rfl

theorem put_same (a : ByteArray) : impl_FramePut.f a = spec_FramePut.f a := by
  unfold impl_FramePut.f spec_FramePut.f impl_frameLong.f
  rw [within_eq]
  unfold spec_l1In.f
  by_cases h : (a.size : Int) ≥ 1
  · rw [if_pos h]; rfl
  · rw [if_neg h]; rfl

theorem put_some (a : ByteArray) (h : a.size ≤ 140737488351232) : ∃ r, spec_FramePut.f a = some r := by
  unfold spec_FramePut.f spec_l1In.f
  have hs : (strOfNums ([((a.size : Int)) % 256] : List Int)).size = 1 := by unfold strOfNums; rfl
  by_cases h1 : (a.size : Int) ≥ 1
  · rw [if_pos h1]
    simp only [Option.bind_some]
    by_cases h2 : decide ((a.size : Int) ≤ 12) = true
    · rw [if_pos h2, if_pos (by rw [hs]; omega)]; exact ⟨_, rfl⟩
    · rw [if_neg h2]; exact ⟨_, rfl⟩
  · rw [if_neg h1]
    exact ⟨_, rfl⟩

theorem FnExactFramePut : laws_FnExactFramePut.Pure := by
  intro a h
  unfold laws_FnExactFramePut.f
  by_cases h1 : (a.size : Int) > 1048576
  · rw [if_pos h1]
  · rw [if_neg h1, put_same]
    obtain ⟨r, hr⟩ := put_some a h
    rw [hr]
    simp

end Go.Proofs.Ytdpdclfanlbkjaa.Pure
