/- The walk of the law FnExactRulesProg. -/
import Derived.Test.YtdpdclfanlbkjaaWProg2
namespace Go.Proofs.Ytdpdclfanlbkjaa
open Go.RowKit
theorem rulesProg_len (rs : List Rule) : (rulesProg rs).length ≤ 45 := by
  cases h : rulesOk rs with
  | false => rw [rulesProg_no h]; simp
  | true =>
    have h1 := rulesOk_len h
    have h2 := progTo_len rs rs.length
    rw [rulesProg_ok h, List.length_append, show progEnd.length = 2 from rfl]
    omega
set_option maxRecDepth 100000 in
set_option maxHeartbeats 1600000 in
theorem lawExactRulesProg (v : Value) (rs : List Rule) (L : Blocks) (w : World) (h : Row 5 v (rs.map Rule.cells) L) (H : Holds w L) :
    Calls Try.prog 9 #[v] w fun e w' => e = .returned (.bool true) ∧ Below w.heap.size w w' := by
  obtain ⟨A, n, c, rfl⟩ := h.slice
  obtain ⟨hnl, hn⟩ := h.len'
  rw [List.length_map] at hnl
  have HN := Lib.hid hnl
  have hpl := rulesProg_len rs
  generalize hps : rulesProg rs = ps at *
  have HP := Lib.hid hps
  clear hnl hps
  go_enter Try.func9, Try.ntmps9
  go_wp2_with (go_at_call 16; refine (szRuleS_calls _ n c 1048576 _ hn (by omega) (by omega)).mono ?_; rintro e w' ⟨⟨left, rfl, hleft⟩, hw'⟩; subst w')
  · go_ret
    exact ⟨rfl, Below.refl _ _⟩
  · have hn2 : n ≤ 1048576 := by have := hleft (by omega); omega
    go_wp2_with fail
    refine (toRuleS_calls _ rs L _ h H (by rw [HN.out]; exact hn2)).mono ?_
    rintro e w1 ⟨v1, L1, rfl, ho1, hH1, hb1⟩
    go_wp2_with fail
    refine (specRulesProg_calls _ rs L1 _ ho1.row hH1).mono ?_
    rw [HP.out]
    rintro e w2 ⟨v2, rfl, L2, ho2, hH2, hb2⟩
    have hB2 := bnext hb1 hb2
    go_wp2_with fail
    refine (toRuleS_calls _ rs L _ h (H.below hB2) (by rw [HN.out]; exact hn2)).mono ?_
    rintro e w3 ⟨v3, L3, rfl, ho3, hH3, hb3⟩
    have hB3 := bnext hB2 hb3
    have hH2a := hH2.below hb3
    go_wp2_with fail
    refine (implRulesProg_calls _ rs L3 _ ho3.row hH3).mono ?_
    rw [HP.out]
    rintro e w4 ⟨v4, rfl, L4, ho4, hH4, hb4⟩
    have hB4 := bnext hB3 hb4
    have hH2b := hH2a.below hb4
    have hH3b := hH3.below hb4
    go_wp2_with fail
    refine (eqInsS_calls _ _ ps ps L4 L2 _ ho4.row hH4 ho2.row hH2b).mono ?_
    rintro e w5 ⟨rfl, hb5⟩
    have hB5 := bnext hB4 hb5
    go_wp2_with fail
    refine (toRuleS_calls _ rs L _ h (H.below hB5) (by rw [HN.out]; exact hn2)).mono ?_
    rintro e w6 ⟨v6, L6, rfl, ho6, hH6, hb6⟩
    have hB6 := bnext hB5 hb6
    have hH3c := (hH3b.below hb5).below hb6
    go_wp2_with fail
    refine (eqRuleS_calls _ _ rs rs L3 L6 _ ho3.row hH3c ho6.row hH6).mono ?_
    rintro e w7 ⟨rfl, hb7⟩
    have hB7 := bnext hB6 hb7
    have hH3d := hH3c.below hb7
    have hH4d := ((hH4.below hb5).below hb6).below hb7
    have hH2d := ((hH2b.below hb5).below hb6).below hb7
    have s2 := hb1.size
    have s3 := hB2.size
    go_wp2_with fail
    refine (markRuleS_calls _ rs L3 _ 1 1 rfl _ ho3 hH3d (by rw [HN.out]; omega)).mono ?_
    rintro e w8 ⟨rfl, L8, ho8, hH8, hon8, hL8⟩
    have hB8 : Below w.heap.size w w8 := Only.below hB7 hB7.size hon8 (fun k ⟨p, hp, hpk⟩ => by have := ho3.base p hp; omega)
    have hH4e : Holds w8 L4 := hH4d.only hon8 (fun p hp ⟨q, hq, hqp⟩ => by have := ho4.base p hp; have := hH3.lt hq; have := hb3.size; omega)
    have hH2e : Holds w8 L2 := hH2d.only hon8 (fun p hp ⟨q, hq, hqp⟩ => by have := ho3.base q hq; have := hH2.lt hp; omega)
    go_wp2_with fail
    refine (eqInsS_calls _ _ ps ps L4 L2 _ ho4.row hH4e ho2.row hH2e).mono ?_
    rintro e w9 ⟨rfl, hb9⟩
    have hB9 := bnext hB8 hb9
    have hH4f := hH4e.below hb9
    have hH2f := hH2e.below hb9
    go_wp2_with fail
    refine (markInsS_calls _ ps L4 _ 1 1 rfl _ ho4 hH4f (by omega)).mono ?_
    rintro e w10 ⟨rfl, L10, ho10, hH10, hon10, hL10⟩
    have hB10 : Below w.heap.size w w10 := Only.below hB9 hB9.size hon10 (fun k ⟨p, hp, hpk⟩ => by have := ho4.base p hp; have := hB3.size; omega)
    have hH2g : Holds w10 L2 := hH2f.only hon10 (fun p hp ⟨q, hq, hqp⟩ => by have := ho4.base q hq; have := hH2.lt hp; have := hb3.size; omega)
    go_wp2_with fail
    refine (heldInsS_calls _ L10 1 ps.length 1 rfl _ ho10.row hH10 (by omega)).mono ?_
    rintro e w11 ⟨rfl, hb11⟩
    have hB11 := bnext hB10 hb11
    go_wp2_with fail
    refine (toRuleS_calls _ rs L _ h (H.below hB11) (by rw [HN.out]; exact hn2)).mono ?_
    rintro e w12 ⟨v12, L12, rfl, ho12, hH12, hb12⟩
    have hB12 := bnext hB11 hb12
    go_wp2_with fail
    refine (implRulesProg_calls _ rs L12 _ ho12.row hH12).mono ?_
    rw [HP.out]
    rintro e w13 ⟨v13, rfl, L13, ho13, hH13, hb13⟩
    have hB13 := bnext hB12 hb13
    have hH2h := ((hH2g.below hb11).below hb12).below hb13
    have hH10h := ((hH10.below hb11).below hb12).below hb13
    go_wp2_with fail
    refine (eqInsS_calls _ _ ps ps L13 L2 _ ho13.row hH13 ho2.row hH2h).mono ?_
    rintro e w14 ⟨rfl, hb14⟩
    have hB14 := bnext hB13 hb14
    go_wp2_with fail
    refine (heldInsS_calls _ L10 1 ps.length 1 rfl _ ho10.row (hH10h.below hb14) (by omega)).mono ?_
    rintro e w15 ⟨rfl, hb15⟩
    go_wp2
    go_ret
    exact ⟨rfl, bnext hB14 hb15⟩
end Go.Proofs.Ytdpdclfanlbkjaa
