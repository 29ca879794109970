/- tripwire/tripwirelaw01.LimbsRings: the walk. -/
import Derived.Test.YtbofdldkiooegaaAwake
namespace Go.Proofs.Ytbofdldkiooegaa
open Go Go.RowKit Tw
set_option linter.unusedVariables false
set_option linter.unusedSimpArgs false

set_option maxRecDepth 100000 in
set_option maxHeartbeats 8000000 in
theorem limbsRings_n (a1 a2 a3 : Option Addr) (c1 c2 c3 : Nat) (l1 l2 l3 : List Nat) (w : World) (h1 : WdS w a1 c1 l1) (h2 : WdS w a2 c2 l2) (h3 : WdS w a3 c3 l3) :
    Calls Try.prog 6 #[.slice a1 l1.length c1, .slice a2 l2.length c2, .slice a3 l3.length c3] w (RetIs w (.bool true)) := by
  by_cases q1 : l1.length ≤ 60
  case neg =>
    clear h1 h2 h3
    go_enter Try.func6, Try.ntmps6
    go_wp2_with fail
    refine Calls.mono (awake_n _) ?_
    rintro e w1 ⟨rfl, hb1⟩
    have B1 := Lib.hid (bel_trans (w := w) (by repeat (first | exact Below.refl _ _ | apply bel_al | apply bel_drawn | apply Below.drew)) hb1)
    clear hb1
    have BT := B1
    go_wp2_with fail
    go_ret
    exact ⟨rfl, bel_trans BT.out (by repeat (first | exact Below.refl _ _ | apply bel_al | apply bel_drawn | apply Below.drew))⟩
  by_cases q2 : l2.length ≤ 60
  case neg =>
    clear h1 h2 h3
    go_enter Try.func6, Try.ntmps6
    go_wp2_with fail
    refine Calls.mono (awake_n _) ?_
    rintro e w1 ⟨rfl, hb1⟩
    have B1 := Lib.hid (bel_trans (w := w) (by repeat (first | exact Below.refl _ _ | apply bel_al | apply bel_drawn | apply Below.drew)) hb1)
    clear hb1
    have BT := B1
    go_wp2_with fail
    go_ret
    exact ⟨rfl, bel_trans BT.out (by repeat (first | exact Below.refl _ _ | apply bel_al | apply bel_drawn | apply Below.drew))⟩
  by_cases q3 : l3.length ≤ 60
  case neg =>
    clear h1 h2 h3
    go_enter Try.func6, Try.ntmps6
    go_wp2_with fail
    refine Calls.mono (awake_n _) ?_
    rintro e w1 ⟨rfl, hb1⟩
    have B1 := Lib.hid (bel_trans (w := w) (by repeat (first | exact Below.refl _ _ | apply bel_al | apply bel_drawn | apply Below.drew)) hb1)
    clear hb1
    have BT := B1
    go_wp2_with fail
    go_ret
    exact ⟨rfl, bel_trans BT.out (by repeat (first | exact Below.refl _ _ | apply bel_al | apply bel_drawn | apply Below.drew))⟩
  have FA := Lib.hid (show Nv w (.slice a1 l1.length c1) (val W l1) 60 from ⟨l1, ⟨a1, c1, rfl, h1⟩, rfl, q1⟩)
  have FB := Lib.hid (show Nv w (.slice a2 l2.length c2) (val W l2) 60 from ⟨l2, ⟨a2, c2, rfl, h2⟩, rfl, q2⟩)
  have FC := Lib.hid (show Nv w (.slice a3 l3.length c3) (val W l3) 60 from ⟨l3, ⟨a3, c3, rfl, h3⟩, rfl, q3⟩)
  clear h1 h2 h3
  generalize val W l1 = A at *
  generalize val W l2 = B at *
  generalize val W l3 = C at *
  by_cases hg : B = 0
  · have HG := Lib.hid hg; clear hg
    go_enter Try.func6, Try.ntmps6
    go_wp2_with fail
    refine Calls.mono (add_n _ _ (A) (B) 60 60 61 _ ?_ ?_ (by omega) (by omega) (by omega)) ?_
    · exact FA.out.below (by repeat (first | exact Below.refl _ _ | apply bel_al | apply bel_drawn | apply Below.drew))
    · exact FB.out.below (by repeat (first | exact Below.refl _ _ | apply bel_al | apply bel_drawn | apply Below.drew))
    rintro e w1 ⟨v1, rfl, h1, hb1⟩
    have B1 := Lib.hid (bel_trans (w := w) (by repeat (first | exact Below.refl _ _ | apply bel_al | apply bel_drawn | apply Below.drew)) hb1)
    clear hb1
    replace FA := Lib.hid (FA.out.below B1.out)
    replace FB := Lib.hid (FB.out.below B1.out)
    replace FC := Lib.hid (FC.out.below B1.out)
    have BT := B1
    have Fx := Lib.hid h1
    clear h1
    go_wp2_with fail
    refine Calls.mono (add_n _ _ (B) (A) 60 60 61 _ ?_ ?_ (by omega) (by omega) (by omega)) ?_
    · exact FB.out.below (by repeat (first | exact Below.refl _ _ | apply bel_al | apply bel_drawn | apply Below.drew))
    · exact FA.out.below (by repeat (first | exact Below.refl _ _ | apply bel_al | apply bel_drawn | apply Below.drew))
    rintro e w2 ⟨v2, rfl, h2, hb2⟩
    have B2 := Lib.hid (bel_trans (w := w1) (by repeat (first | exact Below.refl _ _ | apply bel_al | apply bel_drawn | apply Below.drew)) hb2)
    clear hb2
    replace FA := Lib.hid (FA.out.below B2.out)
    replace FB := Lib.hid (FB.out.below B2.out)
    replace FC := Lib.hid (FC.out.below B2.out)
    replace Fx := Lib.hid (Fx.out.below B2.out)
    replace BT := Lib.hid (bel_trans BT.out B2.out)
    have Fy := Lib.hid h2
    clear h2
    clear B2
    go_wp2_with fail
    refine Calls.mono (same_n _ _ ((A) + (B)) ((B) + (A)) 61 61 _ ?_ ?_ (Nat.add_comm _ _)) ?_
    · exact Fx.out.below (by repeat (first | exact Below.refl _ _ | apply bel_al | apply bel_drawn | apply Below.drew))
    · exact Fy.out.below (by repeat (first | exact Below.refl _ _ | apply bel_al | apply bel_drawn | apply Below.drew))
    rintro e w3 ⟨rfl, hb3⟩
    have B3 := Lib.hid (bel_trans (w := w2) (by repeat (first | exact Below.refl _ _ | apply bel_al | apply bel_drawn | apply Below.drew)) hb3)
    clear hb3
    clear Fx
    clear Fy
    replace FA := Lib.hid (FA.out.below B3.out)
    replace FB := Lib.hid (FB.out.below B3.out)
    replace FC := Lib.hid (FC.out.below B3.out)
    replace BT := Lib.hid (bel_trans BT.out B3.out)
    clear B3
    go_wp2_with fail
    refine Calls.mono (add_n _ _ (A) (B) 60 60 61 _ ?_ ?_ (by omega) (by omega) (by omega)) ?_
    · exact FA.out.below (by repeat (first | exact Below.refl _ _ | apply bel_al | apply bel_drawn | apply Below.drew))
    · exact FB.out.below (by repeat (first | exact Below.refl _ _ | apply bel_al | apply bel_drawn | apply Below.drew))
    rintro e w4 ⟨v4, rfl, h4, hb4⟩
    have B4 := Lib.hid (bel_trans (w := w3) (by repeat (first | exact Below.refl _ _ | apply bel_al | apply bel_drawn | apply Below.drew)) hb4)
    clear hb4
    replace FA := Lib.hid (FA.out.below B4.out)
    replace FB := Lib.hid (FB.out.below B4.out)
    replace FC := Lib.hid (FC.out.below B4.out)
    replace BT := Lib.hid (bel_trans BT.out B4.out)
    have Fx := Lib.hid h4
    clear h4
    clear B4
    go_wp2_with fail
    refine Calls.mono (add_n _ _ ((A) + (B)) (C) 61 60 62 _ ?_ ?_ (by omega) (by omega) (by omega)) ?_
    · exact (Fx.out.below (by repeat (first | exact Below.refl _ _ | apply bel_al | apply bel_drawn | apply Below.drew))).nv
    · exact FC.out.below (by repeat (first | exact Below.refl _ _ | apply bel_al | apply bel_drawn | apply Below.drew))
    rintro e w5 ⟨v5, rfl, h5, hb5⟩
    have B5 := Lib.hid (bel_trans (w := w4) (by repeat (first | exact Below.refl _ _ | apply bel_al | apply bel_drawn | apply Below.drew)) hb5)
    clear hb5
    clear Fx
    replace FA := Lib.hid (FA.out.below B5.out)
    replace FB := Lib.hid (FB.out.below B5.out)
    replace FC := Lib.hid (FC.out.below B5.out)
    replace BT := Lib.hid (bel_trans BT.out B5.out)
    have Fy := Lib.hid h5
    clear h5
    clear B5
    go_wp2_with fail
    refine Calls.mono (add_n _ _ (B) (C) 60 60 61 _ ?_ ?_ (by omega) (by omega) (by omega)) ?_
    · exact FB.out.below (by repeat (first | exact Below.refl _ _ | apply bel_al | apply bel_drawn | apply Below.drew))
    · exact FC.out.below (by repeat (first | exact Below.refl _ _ | apply bel_al | apply bel_drawn | apply Below.drew))
    rintro e w6 ⟨v6, rfl, h6, hb6⟩
    have B6 := Lib.hid (bel_trans (w := w5) (by repeat (first | exact Below.refl _ _ | apply bel_al | apply bel_drawn | apply Below.drew)) hb6)
    clear hb6
    replace FA := Lib.hid (FA.out.below B6.out)
    replace FB := Lib.hid (FB.out.below B6.out)
    replace FC := Lib.hid (FC.out.below B6.out)
    replace Fy := Lib.hid (Fy.out.below B6.out)
    replace BT := Lib.hid (bel_trans BT.out B6.out)
    have Fz := Lib.hid h6
    clear h6
    clear B6
    go_wp2_with fail
    refine Calls.mono (add_n _ _ (A) ((B) + (C)) 60 61 62 _ ?_ ?_ (by omega) (by omega) (by omega)) ?_
    · exact FA.out.below (by repeat (first | exact Below.refl _ _ | apply bel_al | apply bel_drawn | apply Below.drew))
    · exact (Fz.out.below (by repeat (first | exact Below.refl _ _ | apply bel_al | apply bel_drawn | apply Below.drew))).nv
    rintro e w7 ⟨v7, rfl, h7, hb7⟩
    have B7 := Lib.hid (bel_trans (w := w6) (by repeat (first | exact Below.refl _ _ | apply bel_al | apply bel_drawn | apply Below.drew)) hb7)
    clear hb7
    clear Fz
    replace FA := Lib.hid (FA.out.below B7.out)
    replace FB := Lib.hid (FB.out.below B7.out)
    replace FC := Lib.hid (FC.out.below B7.out)
    replace Fy := Lib.hid (Fy.out.below B7.out)
    replace BT := Lib.hid (bel_trans BT.out B7.out)
    have Fu := Lib.hid h7
    clear h7
    clear B7
    go_wp2_with fail
    refine Calls.mono (same_n _ _ (((A) + (B)) + (C)) ((A) + ((B) + (C))) 62 62 _ ?_ ?_ (Nat.add_assoc _ _ _)) ?_
    · exact Fy.out.below (by repeat (first | exact Below.refl _ _ | apply bel_al | apply bel_drawn | apply Below.drew))
    · exact Fu.out.below (by repeat (first | exact Below.refl _ _ | apply bel_al | apply bel_drawn | apply Below.drew))
    rintro e w8 ⟨rfl, hb8⟩
    have B8 := Lib.hid (bel_trans (w := w7) (by repeat (first | exact Below.refl _ _ | apply bel_al | apply bel_drawn | apply Below.drew)) hb8)
    clear hb8
    clear Fy
    clear Fu
    replace FA := Lib.hid (FA.out.below B8.out)
    replace FB := Lib.hid (FB.out.below B8.out)
    replace FC := Lib.hid (FC.out.below B8.out)
    replace BT := Lib.hid (bel_trans BT.out B8.out)
    clear B8
    go_wp2_with fail
    refine Calls.mono (add_n _ _ (A) (B) 60 60 61 _ ?_ ?_ (by omega) (by omega) (by omega)) ?_
    · exact FA.out.below (by repeat (first | exact Below.refl _ _ | apply bel_al | apply bel_drawn | apply Below.drew))
    · exact FB.out.below (by repeat (first | exact Below.refl _ _ | apply bel_al | apply bel_drawn | apply Below.drew))
    rintro e w9 ⟨v9, rfl, h9, hb9⟩
    have B9 := Lib.hid (bel_trans (w := w8) (by repeat (first | exact Below.refl _ _ | apply bel_al | apply bel_drawn | apply Below.drew)) hb9)
    clear hb9
    replace FA := Lib.hid (FA.out.below B9.out)
    replace FB := Lib.hid (FB.out.below B9.out)
    replace FC := Lib.hid (FC.out.below B9.out)
    replace BT := Lib.hid (bel_trans BT.out B9.out)
    have Fx := Lib.hid h9
    clear h9
    clear B9
    go_wp2_with fail
    refine Calls.mono (sub_n _ _ ((A) + (B)) (B) 61 60 _ ?_ ?_ (by omega) (by omega)) ?_
    · exact (Fx.out.below (by repeat (first | exact Below.refl _ _ | apply bel_al | apply bel_drawn | apply Below.drew))).nv
    · exact FB.out.below (by repeat (first | exact Below.refl _ _ | apply bel_al | apply bel_drawn | apply Below.drew))
    rintro e w10 ⟨v10, rfl, h10, hb10⟩
    have B10 := Lib.hid (bel_trans (w := w9) (by repeat (first | exact Below.refl _ _ | apply bel_al | apply bel_drawn | apply Below.drew)) hb10)
    clear hb10
    clear Fx
    replace FA := Lib.hid (FA.out.below B10.out)
    replace FB := Lib.hid (FB.out.below B10.out)
    replace FC := Lib.hid (FC.out.below B10.out)
    replace BT := Lib.hid (bel_trans BT.out B10.out)
    have Fy := Lib.hid h10
    clear h10
    clear B10
    go_wp2_with fail
    refine Calls.mono (trim_n _ (A) 60 _ ?_ (by omega)) ?_
    · exact FA.out.below (by repeat (first | exact Below.refl _ _ | apply bel_al | apply bel_drawn | apply Below.drew))
    rintro e w11 ⟨v11, rfl, h11, hb11⟩
    have B11 := Lib.hid (bel_trans (w := w10) (by repeat (first | exact Below.refl _ _ | apply bel_al | apply bel_drawn | apply Below.drew)) hb11)
    clear hb11
    replace FA := Lib.hid (FA.out.below B11.out)
    replace FB := Lib.hid (FB.out.below B11.out)
    replace FC := Lib.hid (FC.out.below B11.out)
    replace Fy := Lib.hid (Fy.out.below B11.out)
    replace BT := Lib.hid (bel_trans BT.out B11.out)
    have Fz := Lib.hid h11
    clear h11
    clear B11
    go_wp2_with fail
    refine Calls.mono (same_n _ _ (((A) + (B)) - (B)) ((A)) 61 60 _ ?_ ?_ (Nat.add_sub_cancel _ _)) ?_
    · exact Fy.out.below (by repeat (first | exact Below.refl _ _ | apply bel_al | apply bel_drawn | apply Below.drew))
    · exact Fz.out.below (by repeat (first | exact Below.refl _ _ | apply bel_al | apply bel_drawn | apply Below.drew))
    rintro e w12 ⟨rfl, hb12⟩
    have B12 := Lib.hid (bel_trans (w := w11) (by repeat (first | exact Below.refl _ _ | apply bel_al | apply bel_drawn | apply Below.drew)) hb12)
    clear hb12
    clear Fy
    clear Fz
    replace FA := Lib.hid (FA.out.below B12.out)
    replace FB := Lib.hid (FB.out.below B12.out)
    replace FC := Lib.hid (FC.out.below B12.out)
    replace BT := Lib.hid (bel_trans BT.out B12.out)
    clear B12
    go_wp2_with fail
    refine Calls.mono (mul_n _ _ (A) (B) 60 60 _ ?_ ?_ (by omega) (by omega)) ?_
    · exact FA.out.below (by repeat (first | exact Below.refl _ _ | apply bel_al | apply bel_drawn | apply Below.drew))
    · exact FB.out.below (by repeat (first | exact Below.refl _ _ | apply bel_al | apply bel_drawn | apply Below.drew))
    rintro e w13 ⟨v13, rfl, h13, hb13⟩
    have B13 := Lib.hid (bel_trans (w := w12) (by repeat (first | exact Below.refl _ _ | apply bel_al | apply bel_drawn | apply Below.drew)) hb13)
    clear hb13
    replace FA := Lib.hid (FA.out.below B13.out)
    replace FB := Lib.hid (FB.out.below B13.out)
    replace FC := Lib.hid (FC.out.below B13.out)
    replace BT := Lib.hid (bel_trans BT.out B13.out)
    have Fx := Lib.hid h13
    clear h13
    clear B13
    go_wp2_with fail
    refine Calls.mono (mul_n _ _ (B) (A) 60 60 _ ?_ ?_ (by omega) (by omega)) ?_
    · exact FB.out.below (by repeat (first | exact Below.refl _ _ | apply bel_al | apply bel_drawn | apply Below.drew))
    · exact FA.out.below (by repeat (first | exact Below.refl _ _ | apply bel_al | apply bel_drawn | apply Below.drew))
    rintro e w14 ⟨v14, rfl, h14, hb14⟩
    have B14 := Lib.hid (bel_trans (w := w13) (by repeat (first | exact Below.refl _ _ | apply bel_al | apply bel_drawn | apply Below.drew)) hb14)
    clear hb14
    replace FA := Lib.hid (FA.out.below B14.out)
    replace FB := Lib.hid (FB.out.below B14.out)
    replace FC := Lib.hid (FC.out.below B14.out)
    replace Fx := Lib.hid (Fx.out.below B14.out)
    replace BT := Lib.hid (bel_trans BT.out B14.out)
    have Fy := Lib.hid h14
    clear h14
    clear B14
    go_wp2_with fail
    refine Calls.mono (same_n _ _ ((A) * (B)) ((B) * (A)) 120 120 _ ?_ ?_ (Nat.mul_comm _ _)) ?_
    · exact Fx.out.below (by repeat (first | exact Below.refl _ _ | apply bel_al | apply bel_drawn | apply Below.drew))
    · exact Fy.out.below (by repeat (first | exact Below.refl _ _ | apply bel_al | apply bel_drawn | apply Below.drew))
    rintro e w15 ⟨rfl, hb15⟩
    have B15 := Lib.hid (bel_trans (w := w14) (by repeat (first | exact Below.refl _ _ | apply bel_al | apply bel_drawn | apply Below.drew)) hb15)
    clear hb15
    clear Fx
    clear Fy
    replace FA := Lib.hid (FA.out.below B15.out)
    replace FB := Lib.hid (FB.out.below B15.out)
    replace FC := Lib.hid (FC.out.below B15.out)
    replace BT := Lib.hid (bel_trans BT.out B15.out)
    clear B15
    go_wp2_with fail
    refine Calls.mono (mul_n _ _ (A) (B) 60 60 _ ?_ ?_ (by omega) (by omega)) ?_
    · exact FA.out.below (by repeat (first | exact Below.refl _ _ | apply bel_al | apply bel_drawn | apply Below.drew))
    · exact FB.out.below (by repeat (first | exact Below.refl _ _ | apply bel_al | apply bel_drawn | apply Below.drew))
    rintro e w16 ⟨v16, rfl, h16, hb16⟩
    have B16 := Lib.hid (bel_trans (w := w15) (by repeat (first | exact Below.refl _ _ | apply bel_al | apply bel_drawn | apply Below.drew)) hb16)
    clear hb16
    replace FA := Lib.hid (FA.out.below B16.out)
    replace FB := Lib.hid (FB.out.below B16.out)
    replace FC := Lib.hid (FC.out.below B16.out)
    replace BT := Lib.hid (bel_trans BT.out B16.out)
    have Fx := Lib.hid h16
    clear h16
    clear B16
    go_wp2_with fail
    refine Calls.mono (mul_n _ _ ((A) * (B)) (C) 120 60 _ ?_ ?_ (by omega) (by omega)) ?_
    · exact (Fx.out.below (by repeat (first | exact Below.refl _ _ | apply bel_al | apply bel_drawn | apply Below.drew))).nv
    · exact FC.out.below (by repeat (first | exact Below.refl _ _ | apply bel_al | apply bel_drawn | apply Below.drew))
    rintro e w17 ⟨v17, rfl, h17, hb17⟩
    have B17 := Lib.hid (bel_trans (w := w16) (by repeat (first | exact Below.refl _ _ | apply bel_al | apply bel_drawn | apply Below.drew)) hb17)
    clear hb17
    clear Fx
    replace FA := Lib.hid (FA.out.below B17.out)
    replace FB := Lib.hid (FB.out.below B17.out)
    replace FC := Lib.hid (FC.out.below B17.out)
    replace BT := Lib.hid (bel_trans BT.out B17.out)
    have Fy := Lib.hid h17
    clear h17
    clear B17
    go_wp2_with fail
    refine Calls.mono (mul_n _ _ (B) (C) 60 60 _ ?_ ?_ (by omega) (by omega)) ?_
    · exact FB.out.below (by repeat (first | exact Below.refl _ _ | apply bel_al | apply bel_drawn | apply Below.drew))
    · exact FC.out.below (by repeat (first | exact Below.refl _ _ | apply bel_al | apply bel_drawn | apply Below.drew))
    rintro e w18 ⟨v18, rfl, h18, hb18⟩
    have B18 := Lib.hid (bel_trans (w := w17) (by repeat (first | exact Below.refl _ _ | apply bel_al | apply bel_drawn | apply Below.drew)) hb18)
    clear hb18
    replace FA := Lib.hid (FA.out.below B18.out)
    replace FB := Lib.hid (FB.out.below B18.out)
    replace FC := Lib.hid (FC.out.below B18.out)
    replace Fy := Lib.hid (Fy.out.below B18.out)
    replace BT := Lib.hid (bel_trans BT.out B18.out)
    have Fz := Lib.hid h18
    clear h18
    clear B18
    go_wp2_with fail
    refine Calls.mono (mul_n _ _ (A) ((B) * (C)) 60 120 _ ?_ ?_ (by omega) (by omega)) ?_
    · exact FA.out.below (by repeat (first | exact Below.refl _ _ | apply bel_al | apply bel_drawn | apply Below.drew))
    · exact (Fz.out.below (by repeat (first | exact Below.refl _ _ | apply bel_al | apply bel_drawn | apply Below.drew))).nv
    rintro e w19 ⟨v19, rfl, h19, hb19⟩
    have B19 := Lib.hid (bel_trans (w := w18) (by repeat (first | exact Below.refl _ _ | apply bel_al | apply bel_drawn | apply Below.drew)) hb19)
    clear hb19
    clear Fz
    replace FA := Lib.hid (FA.out.below B19.out)
    replace FB := Lib.hid (FB.out.below B19.out)
    replace FC := Lib.hid (FC.out.below B19.out)
    replace Fy := Lib.hid (Fy.out.below B19.out)
    replace BT := Lib.hid (bel_trans BT.out B19.out)
    have Fu := Lib.hid h19
    clear h19
    clear B19
    go_wp2_with fail
    refine Calls.mono (same_n _ _ (((A) * (B)) * (C)) ((A) * ((B) * (C))) 180 180 _ ?_ ?_ (Nat.mul_assoc _ _ _)) ?_
    · exact Fy.out.below (by repeat (first | exact Below.refl _ _ | apply bel_al | apply bel_drawn | apply Below.drew))
    · exact Fu.out.below (by repeat (first | exact Below.refl _ _ | apply bel_al | apply bel_drawn | apply Below.drew))
    rintro e w20 ⟨rfl, hb20⟩
    have B20 := Lib.hid (bel_trans (w := w19) (by repeat (first | exact Below.refl _ _ | apply bel_al | apply bel_drawn | apply Below.drew)) hb20)
    clear hb20
    clear Fy
    clear Fu
    replace FA := Lib.hid (FA.out.below B20.out)
    replace FB := Lib.hid (FB.out.below B20.out)
    replace FC := Lib.hid (FC.out.below B20.out)
    replace BT := Lib.hid (bel_trans BT.out B20.out)
    clear B20
    go_wp2_with fail
    refine Calls.mono (add_n _ _ (B) (C) 60 60 61 _ ?_ ?_ (by omega) (by omega) (by omega)) ?_
    · exact FB.out.below (by repeat (first | exact Below.refl _ _ | apply bel_al | apply bel_drawn | apply Below.drew))
    · exact FC.out.below (by repeat (first | exact Below.refl _ _ | apply bel_al | apply bel_drawn | apply Below.drew))
    rintro e w21 ⟨v21, rfl, h21, hb21⟩
    have B21 := Lib.hid (bel_trans (w := w20) (by repeat (first | exact Below.refl _ _ | apply bel_al | apply bel_drawn | apply Below.drew)) hb21)
    clear hb21
    replace FA := Lib.hid (FA.out.below B21.out)
    replace FB := Lib.hid (FB.out.below B21.out)
    replace FC := Lib.hid (FC.out.below B21.out)
    replace BT := Lib.hid (bel_trans BT.out B21.out)
    have Fx := Lib.hid h21
    clear h21
    clear B21
    go_wp2_with fail
    refine Calls.mono (mul_n _ _ (A) ((B) + (C)) 60 61 _ ?_ ?_ (by omega) (by omega)) ?_
    · exact FA.out.below (by repeat (first | exact Below.refl _ _ | apply bel_al | apply bel_drawn | apply Below.drew))
    · exact (Fx.out.below (by repeat (first | exact Below.refl _ _ | apply bel_al | apply bel_drawn | apply Below.drew))).nv
    rintro e w22 ⟨v22, rfl, h22, hb22⟩
    have B22 := Lib.hid (bel_trans (w := w21) (by repeat (first | exact Below.refl _ _ | apply bel_al | apply bel_drawn | apply Below.drew)) hb22)
    clear hb22
    clear Fx
    replace FA := Lib.hid (FA.out.below B22.out)
    replace FB := Lib.hid (FB.out.below B22.out)
    replace FC := Lib.hid (FC.out.below B22.out)
    replace BT := Lib.hid (bel_trans BT.out B22.out)
    have Fy := Lib.hid h22
    clear h22
    clear B22
    go_wp2_with fail
    refine Calls.mono (mul_n _ _ (A) (B) 60 60 _ ?_ ?_ (by omega) (by omega)) ?_
    · exact FA.out.below (by repeat (first | exact Below.refl _ _ | apply bel_al | apply bel_drawn | apply Below.drew))
    · exact FB.out.below (by repeat (first | exact Below.refl _ _ | apply bel_al | apply bel_drawn | apply Below.drew))
    rintro e w23 ⟨v23, rfl, h23, hb23⟩
    have B23 := Lib.hid (bel_trans (w := w22) (by repeat (first | exact Below.refl _ _ | apply bel_al | apply bel_drawn | apply Below.drew)) hb23)
    clear hb23
    replace FA := Lib.hid (FA.out.below B23.out)
    replace FB := Lib.hid (FB.out.below B23.out)
    replace FC := Lib.hid (FC.out.below B23.out)
    replace Fy := Lib.hid (Fy.out.below B23.out)
    replace BT := Lib.hid (bel_trans BT.out B23.out)
    have Fz := Lib.hid h23
    clear h23
    clear B23
    go_wp2_with fail
    refine Calls.mono (mul_n _ _ (A) (C) 60 60 _ ?_ ?_ (by omega) (by omega)) ?_
    · exact FA.out.below (by repeat (first | exact Below.refl _ _ | apply bel_al | apply bel_drawn | apply Below.drew))
    · exact FC.out.below (by repeat (first | exact Below.refl _ _ | apply bel_al | apply bel_drawn | apply Below.drew))
    rintro e w24 ⟨v24, rfl, h24, hb24⟩
    have B24 := Lib.hid (bel_trans (w := w23) (by repeat (first | exact Below.refl _ _ | apply bel_al | apply bel_drawn | apply Below.drew)) hb24)
    clear hb24
    replace FA := Lib.hid (FA.out.below B24.out)
    replace FB := Lib.hid (FB.out.below B24.out)
    replace FC := Lib.hid (FC.out.below B24.out)
    replace Fy := Lib.hid (Fy.out.below B24.out)
    replace Fz := Lib.hid (Fz.out.below B24.out)
    replace BT := Lib.hid (bel_trans BT.out B24.out)
    have Fu := Lib.hid h24
    clear h24
    clear B24
    go_wp2_with fail
    refine Calls.mono (add_n _ _ ((A) * (B)) ((A) * (C)) 120 120 121 _ ?_ ?_ (by omega) (by omega) (by omega)) ?_
    · exact (Fz.out.below (by repeat (first | exact Below.refl _ _ | apply bel_al | apply bel_drawn | apply Below.drew))).nv
    · exact (Fu.out.below (by repeat (first | exact Below.refl _ _ | apply bel_al | apply bel_drawn | apply Below.drew))).nv
    rintro e w25 ⟨v25, rfl, h25, hb25⟩
    have B25 := Lib.hid (bel_trans (w := w24) (by repeat (first | exact Below.refl _ _ | apply bel_al | apply bel_drawn | apply Below.drew)) hb25)
    clear hb25
    clear Fz
    clear Fu
    replace FA := Lib.hid (FA.out.below B25.out)
    replace FB := Lib.hid (FB.out.below B25.out)
    replace FC := Lib.hid (FC.out.below B25.out)
    replace Fy := Lib.hid (Fy.out.below B25.out)
    replace BT := Lib.hid (bel_trans BT.out B25.out)
    have Fv := Lib.hid h25
    clear h25
    clear B25
    go_wp2_with fail
    refine Calls.mono (same_n _ _ ((A) * ((B) + (C))) (((A) * (B)) + ((A) * (C))) 121 121 _ ?_ ?_ (Nat.mul_add _ _ _)) ?_
    · exact Fy.out.below (by repeat (first | exact Below.refl _ _ | apply bel_al | apply bel_drawn | apply Below.drew))
    · exact Fv.out.below (by repeat (first | exact Below.refl _ _ | apply bel_al | apply bel_drawn | apply Below.drew))
    rintro e w26 ⟨rfl, hb26⟩
    have B26 := Lib.hid (bel_trans (w := w25) (by repeat (first | exact Below.refl _ _ | apply bel_al | apply bel_drawn | apply Below.drew)) hb26)
    clear hb26
    clear Fy
    clear Fv
    replace FA := Lib.hid (FA.out.below B26.out)
    replace FB := Lib.hid (FB.out.below B26.out)
    replace FC := Lib.hid (FC.out.below B26.out)
    replace BT := Lib.hid (bel_trans BT.out B26.out)
    clear B26
    go_wp2_with fail
    refine Calls.mono (divmod_n _ _ (A) (B) 60 60 _ ?_ ?_ (by omega) (by omega)) ?_
    · exact FA.out.below (by repeat (first | exact Below.refl _ _ | apply bel_al | apply bel_drawn | apply Below.drew))
    · exact FB.out.below (by repeat (first | exact Below.refl _ _ | apply bel_al | apply bel_drawn | apply Below.drew))
    rintro e w27 ⟨v27, u27, rfl, ⟨h27, g27⟩, hb27⟩
    have B27 := Lib.hid (bel_trans (w := w26) (by repeat (first | exact Below.refl _ _ | apply bel_al | apply bel_drawn | apply Below.drew)) hb27)
    clear hb27
    replace FA := Lib.hid (FA.out.below B27.out)
    replace FB := Lib.hid (FB.out.below B27.out)
    replace FC := Lib.hid (FC.out.below B27.out)
    replace BT := Lib.hid (bel_trans BT.out B27.out)
    have Fq := Lib.hid h27
    clear h27
    have Fr := Lib.hid g27
    clear g27
    clear B27
    go_wp2_with fail
    refine Calls.mono (trim_n _ (B) 60 _ ?_ (by omega)) ?_
    · exact FB.out.below (by repeat (first | exact Below.refl _ _ | apply bel_al | apply bel_drawn | apply Below.drew))
    rintro e w28 ⟨v28, rfl, h28, hb28⟩
    have B28 := Lib.hid (bel_trans (w := w27) (by repeat (first | exact Below.refl _ _ | apply bel_al | apply bel_drawn | apply Below.drew)) hb28)
    clear hb28
    replace FA := Lib.hid (FA.out.below B28.out)
    replace FB := Lib.hid (FB.out.below B28.out)
    replace FC := Lib.hid (FC.out.below B28.out)
    replace Fq := Lib.hid (Fq.out.below B28.out)
    replace Fr := Lib.hid (Fr.out.below B28.out)
    replace BT := Lib.hid (bel_trans BT.out B28.out)
    have Fb := Lib.hid h28
    clear h28
    clear B28
    obtain ⟨sa1, sc1, sn1, rfl, se1, sm1⟩ := Fb.out.shape
    obtain rfl : sn1 = 0 := by rw [se1]; exact (length_digs_zero W_two).2 (HG.out)
    clear se1 sm1
    clear Fb
    obtain ⟨sa2, sc2, sn2, rfl, se2, sm2⟩ := Fq.out.shape
    obtain rfl : sn2 = 0 := by rw [se2]; exact (length_digs_zero W_two).2 (by rw [HG.out, Nat.div_zero])
    clear se2 sm2
    obtain ⟨sa3, sc3, sn3, rfl, se3, sm3⟩ := Fr.out.shape
    obtain rfl : sn3 = 0 := by rw [se3]; exact (length_digs_zero W_two).2 (by unfold remN; rw [if_pos HG.out])
    clear se3 sm3
    go_wp2_with fail
    refine Calls.mono (awake_n _) ?_
    rintro e w29 ⟨rfl, hb29⟩
    have B29 := Lib.hid (bel_trans (w := w28) (by repeat (first | exact Below.refl _ _ | apply bel_al | apply bel_drawn | apply Below.drew)) hb29)
    clear hb29
    clear Fq
    clear Fr
    replace FA := Lib.hid (FA.out.below B29.out)
    replace FB := Lib.hid (FB.out.below B29.out)
    replace FC := Lib.hid (FC.out.below B29.out)
    replace BT := Lib.hid (bel_trans BT.out B29.out)
    clear B29
    go_wp2_with fail
    go_ret
    exact ⟨rfl, bel_trans BT.out (by repeat (first | exact Below.refl _ _ | apply bel_al | apply bel_drawn | apply Below.drew))⟩
  · have HG := Lib.hid hg; clear hg
    go_enter Try.func6, Try.ntmps6
    go_wp2_with fail
    refine Calls.mono (add_n _ _ (A) (B) 60 60 61 _ ?_ ?_ (by omega) (by omega) (by omega)) ?_
    · exact FA.out.below (by repeat (first | exact Below.refl _ _ | apply bel_al | apply bel_drawn | apply Below.drew))
    · exact FB.out.below (by repeat (first | exact Below.refl _ _ | apply bel_al | apply bel_drawn | apply Below.drew))
    rintro e w1 ⟨v1, rfl, h1, hb1⟩
    have B1 := Lib.hid (bel_trans (w := w) (by repeat (first | exact Below.refl _ _ | apply bel_al | apply bel_drawn | apply Below.drew)) hb1)
    clear hb1
    replace FA := Lib.hid (FA.out.below B1.out)
    replace FB := Lib.hid (FB.out.below B1.out)
    replace FC := Lib.hid (FC.out.below B1.out)
    have BT := B1
    have Fx := Lib.hid h1
    clear h1
    go_wp2_with fail
    refine Calls.mono (add_n _ _ (B) (A) 60 60 61 _ ?_ ?_ (by omega) (by omega) (by omega)) ?_
    · exact FB.out.below (by repeat (first | exact Below.refl _ _ | apply bel_al | apply bel_drawn | apply Below.drew))
    · exact FA.out.below (by repeat (first | exact Below.refl _ _ | apply bel_al | apply bel_drawn | apply Below.drew))
    rintro e w2 ⟨v2, rfl, h2, hb2⟩
    have B2 := Lib.hid (bel_trans (w := w1) (by repeat (first | exact Below.refl _ _ | apply bel_al | apply bel_drawn | apply Below.drew)) hb2)
    clear hb2
    replace FA := Lib.hid (FA.out.below B2.out)
    replace FB := Lib.hid (FB.out.below B2.out)
    replace FC := Lib.hid (FC.out.below B2.out)
    replace Fx := Lib.hid (Fx.out.below B2.out)
    replace BT := Lib.hid (bel_trans BT.out B2.out)
    have Fy := Lib.hid h2
    clear h2
    clear B2
    go_wp2_with fail
    refine Calls.mono (same_n _ _ ((A) + (B)) ((B) + (A)) 61 61 _ ?_ ?_ (Nat.add_comm _ _)) ?_
    · exact Fx.out.below (by repeat (first | exact Below.refl _ _ | apply bel_al | apply bel_drawn | apply Below.drew))
    · exact Fy.out.below (by repeat (first | exact Below.refl _ _ | apply bel_al | apply bel_drawn | apply Below.drew))
    rintro e w3 ⟨rfl, hb3⟩
    have B3 := Lib.hid (bel_trans (w := w2) (by repeat (first | exact Below.refl _ _ | apply bel_al | apply bel_drawn | apply Below.drew)) hb3)
    clear hb3
    clear Fx
    clear Fy
    replace FA := Lib.hid (FA.out.below B3.out)
    replace FB := Lib.hid (FB.out.below B3.out)
    replace FC := Lib.hid (FC.out.below B3.out)
    replace BT := Lib.hid (bel_trans BT.out B3.out)
    clear B3
    go_wp2_with fail
    refine Calls.mono (add_n _ _ (A) (B) 60 60 61 _ ?_ ?_ (by omega) (by omega) (by omega)) ?_
    · exact FA.out.below (by repeat (first | exact Below.refl _ _ | apply bel_al | apply bel_drawn | apply Below.drew))
    · exact FB.out.below (by repeat (first | exact Below.refl _ _ | apply bel_al | apply bel_drawn | apply Below.drew))
    rintro e w4 ⟨v4, rfl, h4, hb4⟩
    have B4 := Lib.hid (bel_trans (w := w3) (by repeat (first | exact Below.refl _ _ | apply bel_al | apply bel_drawn | apply Below.drew)) hb4)
    clear hb4
    replace FA := Lib.hid (FA.out.below B4.out)
    replace FB := Lib.hid (FB.out.below B4.out)
    replace FC := Lib.hid (FC.out.below B4.out)
    replace BT := Lib.hid (bel_trans BT.out B4.out)
    have Fx := Lib.hid h4
    clear h4
    clear B4
    go_wp2_with fail
    refine Calls.mono (add_n _ _ ((A) + (B)) (C) 61 60 62 _ ?_ ?_ (by omega) (by omega) (by omega)) ?_
    · exact (Fx.out.below (by repeat (first | exact Below.refl _ _ | apply bel_al | apply bel_drawn | apply Below.drew))).nv
    · exact FC.out.below (by repeat (first | exact Below.refl _ _ | apply bel_al | apply bel_drawn | apply Below.drew))
    rintro e w5 ⟨v5, rfl, h5, hb5⟩
    have B5 := Lib.hid (bel_trans (w := w4) (by repeat (first | exact Below.refl _ _ | apply bel_al | apply bel_drawn | apply Below.drew)) hb5)
    clear hb5
    clear Fx
    replace FA := Lib.hid (FA.out.below B5.out)
    replace FB := Lib.hid (FB.out.below B5.out)
    replace FC := Lib.hid (FC.out.below B5.out)
    replace BT := Lib.hid (bel_trans BT.out B5.out)
    have Fy := Lib.hid h5
    clear h5
    clear B5
    go_wp2_with fail
    refine Calls.mono (add_n _ _ (B) (C) 60 60 61 _ ?_ ?_ (by omega) (by omega) (by omega)) ?_
    · exact FB.out.below (by repeat (first | exact Below.refl _ _ | apply bel_al | apply bel_drawn | apply Below.drew))
    · exact FC.out.below (by repeat (first | exact Below.refl _ _ | apply bel_al | apply bel_drawn | apply Below.drew))
    rintro e w6 ⟨v6, rfl, h6, hb6⟩
    have B6 := Lib.hid (bel_trans (w := w5) (by repeat (first | exact Below.refl _ _ | apply bel_al | apply bel_drawn | apply Below.drew)) hb6)
    clear hb6
    replace FA := Lib.hid (FA.out.below B6.out)
    replace FB := Lib.hid (FB.out.below B6.out)
    replace FC := Lib.hid (FC.out.below B6.out)
    replace Fy := Lib.hid (Fy.out.below B6.out)
    replace BT := Lib.hid (bel_trans BT.out B6.out)
    have Fz := Lib.hid h6
    clear h6
    clear B6
    go_wp2_with fail
    refine Calls.mono (add_n _ _ (A) ((B) + (C)) 60 61 62 _ ?_ ?_ (by omega) (by omega) (by omega)) ?_
    · exact FA.out.below (by repeat (first | exact Below.refl _ _ | apply bel_al | apply bel_drawn | apply Below.drew))
    · exact (Fz.out.below (by repeat (first | exact Below.refl _ _ | apply bel_al | apply bel_drawn | apply Below.drew))).nv
    rintro e w7 ⟨v7, rfl, h7, hb7⟩
    have B7 := Lib.hid (bel_trans (w := w6) (by repeat (first | exact Below.refl _ _ | apply bel_al | apply bel_drawn | apply Below.drew)) hb7)
    clear hb7
    clear Fz
    replace FA := Lib.hid (FA.out.below B7.out)
    replace FB := Lib.hid (FB.out.below B7.out)
    replace FC := Lib.hid (FC.out.below B7.out)
    replace Fy := Lib.hid (Fy.out.below B7.out)
    replace BT := Lib.hid (bel_trans BT.out B7.out)
    have Fu := Lib.hid h7
    clear h7
    clear B7
    go_wp2_with fail
    refine Calls.mono (same_n _ _ (((A) + (B)) + (C)) ((A) + ((B) + (C))) 62 62 _ ?_ ?_ (Nat.add_assoc _ _ _)) ?_
    · exact Fy.out.below (by repeat (first | exact Below.refl _ _ | apply bel_al | apply bel_drawn | apply Below.drew))
    · exact Fu.out.below (by repeat (first | exact Below.refl _ _ | apply bel_al | apply bel_drawn | apply Below.drew))
    rintro e w8 ⟨rfl, hb8⟩
    have B8 := Lib.hid (bel_trans (w := w7) (by repeat (first | exact Below.refl _ _ | apply bel_al | apply bel_drawn | apply Below.drew)) hb8)
    clear hb8
    clear Fy
    clear Fu
    replace FA := Lib.hid (FA.out.below B8.out)
    replace FB := Lib.hid (FB.out.below B8.out)
    replace FC := Lib.hid (FC.out.below B8.out)
    replace BT := Lib.hid (bel_trans BT.out B8.out)
    clear B8
    go_wp2_with fail
    refine Calls.mono (add_n _ _ (A) (B) 60 60 61 _ ?_ ?_ (by omega) (by omega) (by omega)) ?_
    · exact FA.out.below (by repeat (first | exact Below.refl _ _ | apply bel_al | apply bel_drawn | apply Below.drew))
    · exact FB.out.below (by repeat (first | exact Below.refl _ _ | apply bel_al | apply bel_drawn | apply Below.drew))
    rintro e w9 ⟨v9, rfl, h9, hb9⟩
    have B9 := Lib.hid (bel_trans (w := w8) (by repeat (first | exact Below.refl _ _ | apply bel_al | apply bel_drawn | apply Below.drew)) hb9)
    clear hb9
    replace FA := Lib.hid (FA.out.below B9.out)
    replace FB := Lib.hid (FB.out.below B9.out)
    replace FC := Lib.hid (FC.out.below B9.out)
    replace BT := Lib.hid (bel_trans BT.out B9.out)
    have Fx := Lib.hid h9
    clear h9
    clear B9
    go_wp2_with fail
    refine Calls.mono (sub_n _ _ ((A) + (B)) (B) 61 60 _ ?_ ?_ (by omega) (by omega)) ?_
    · exact (Fx.out.below (by repeat (first | exact Below.refl _ _ | apply bel_al | apply bel_drawn | apply Below.drew))).nv
    · exact FB.out.below (by repeat (first | exact Below.refl _ _ | apply bel_al | apply bel_drawn | apply Below.drew))
    rintro e w10 ⟨v10, rfl, h10, hb10⟩
    have B10 := Lib.hid (bel_trans (w := w9) (by repeat (first | exact Below.refl _ _ | apply bel_al | apply bel_drawn | apply Below.drew)) hb10)
    clear hb10
    clear Fx
    replace FA := Lib.hid (FA.out.below B10.out)
    replace FB := Lib.hid (FB.out.below B10.out)
    replace FC := Lib.hid (FC.out.below B10.out)
    replace BT := Lib.hid (bel_trans BT.out B10.out)
    have Fy := Lib.hid h10
    clear h10
    clear B10
    go_wp2_with fail
    refine Calls.mono (trim_n _ (A) 60 _ ?_ (by omega)) ?_
    · exact FA.out.below (by repeat (first | exact Below.refl _ _ | apply bel_al | apply bel_drawn | apply Below.drew))
    rintro e w11 ⟨v11, rfl, h11, hb11⟩
    have B11 := Lib.hid (bel_trans (w := w10) (by repeat (first | exact Below.refl _ _ | apply bel_al | apply bel_drawn | apply Below.drew)) hb11)
    clear hb11
    replace FA := Lib.hid (FA.out.below B11.out)
    replace FB := Lib.hid (FB.out.below B11.out)
    replace FC := Lib.hid (FC.out.below B11.out)
    replace Fy := Lib.hid (Fy.out.below B11.out)
    replace BT := Lib.hid (bel_trans BT.out B11.out)
    have Fz := Lib.hid h11
    clear h11
    clear B11
    go_wp2_with fail
    refine Calls.mono (same_n _ _ (((A) + (B)) - (B)) ((A)) 61 60 _ ?_ ?_ (Nat.add_sub_cancel _ _)) ?_
    · exact Fy.out.below (by repeat (first | exact Below.refl _ _ | apply bel_al | apply bel_drawn | apply Below.drew))
    · exact Fz.out.below (by repeat (first | exact Below.refl _ _ | apply bel_al | apply bel_drawn | apply Below.drew))
    rintro e w12 ⟨rfl, hb12⟩
    have B12 := Lib.hid (bel_trans (w := w11) (by repeat (first | exact Below.refl _ _ | apply bel_al | apply bel_drawn | apply Below.drew)) hb12)
    clear hb12
    clear Fy
    clear Fz
    replace FA := Lib.hid (FA.out.below B12.out)
    replace FB := Lib.hid (FB.out.below B12.out)
    replace FC := Lib.hid (FC.out.below B12.out)
    replace BT := Lib.hid (bel_trans BT.out B12.out)
    clear B12
    go_wp2_with fail
    refine Calls.mono (mul_n _ _ (A) (B) 60 60 _ ?_ ?_ (by omega) (by omega)) ?_
    · exact FA.out.below (by repeat (first | exact Below.refl _ _ | apply bel_al | apply bel_drawn | apply Below.drew))
    · exact FB.out.below (by repeat (first | exact Below.refl _ _ | apply bel_al | apply bel_drawn | apply Below.drew))
    rintro e w13 ⟨v13, rfl, h13, hb13⟩
    have B13 := Lib.hid (bel_trans (w := w12) (by repeat (first | exact Below.refl _ _ | apply bel_al | apply bel_drawn | apply Below.drew)) hb13)
    clear hb13
    replace FA := Lib.hid (FA.out.below B13.out)
    replace FB := Lib.hid (FB.out.below B13.out)
    replace FC := Lib.hid (FC.out.below B13.out)
    replace BT := Lib.hid (bel_trans BT.out B13.out)
    have Fx := Lib.hid h13
    clear h13
    clear B13
    go_wp2_with fail
    refine Calls.mono (mul_n _ _ (B) (A) 60 60 _ ?_ ?_ (by omega) (by omega)) ?_
    · exact FB.out.below (by repeat (first | exact Below.refl _ _ | apply bel_al | apply bel_drawn | apply Below.drew))
    · exact FA.out.below (by repeat (first | exact Below.refl _ _ | apply bel_al | apply bel_drawn | apply Below.drew))
    rintro e w14 ⟨v14, rfl, h14, hb14⟩
    have B14 := Lib.hid (bel_trans (w := w13) (by repeat (first | exact Below.refl _ _ | apply bel_al | apply bel_drawn | apply Below.drew)) hb14)
    clear hb14
    replace FA := Lib.hid (FA.out.below B14.out)
    replace FB := Lib.hid (FB.out.below B14.out)
    replace FC := Lib.hid (FC.out.below B14.out)
    replace Fx := Lib.hid (Fx.out.below B14.out)
    replace BT := Lib.hid (bel_trans BT.out B14.out)
    have Fy := Lib.hid h14
    clear h14
    clear B14
    go_wp2_with fail
    refine Calls.mono (same_n _ _ ((A) * (B)) ((B) * (A)) 120 120 _ ?_ ?_ (Nat.mul_comm _ _)) ?_
    · exact Fx.out.below (by repeat (first | exact Below.refl _ _ | apply bel_al | apply bel_drawn | apply Below.drew))
    · exact Fy.out.below (by repeat (first | exact Below.refl _ _ | apply bel_al | apply bel_drawn | apply Below.drew))
    rintro e w15 ⟨rfl, hb15⟩
    have B15 := Lib.hid (bel_trans (w := w14) (by repeat (first | exact Below.refl _ _ | apply bel_al | apply bel_drawn | apply Below.drew)) hb15)
    clear hb15
    clear Fx
    clear Fy
    replace FA := Lib.hid (FA.out.below B15.out)
    replace FB := Lib.hid (FB.out.below B15.out)
    replace FC := Lib.hid (FC.out.below B15.out)
    replace BT := Lib.hid (bel_trans BT.out B15.out)
    clear B15
    go_wp2_with fail
    refine Calls.mono (mul_n _ _ (A) (B) 60 60 _ ?_ ?_ (by omega) (by omega)) ?_
    · exact FA.out.below (by repeat (first | exact Below.refl _ _ | apply bel_al | apply bel_drawn | apply Below.drew))
    · exact FB.out.below (by repeat (first | exact Below.refl _ _ | apply bel_al | apply bel_drawn | apply Below.drew))
    rintro e w16 ⟨v16, rfl, h16, hb16⟩
    have B16 := Lib.hid (bel_trans (w := w15) (by repeat (first | exact Below.refl _ _ | apply bel_al | apply bel_drawn | apply Below.drew)) hb16)
    clear hb16
    replace FA := Lib.hid (FA.out.below B16.out)
    replace FB := Lib.hid (FB.out.below B16.out)
    replace FC := Lib.hid (FC.out.below B16.out)
    replace BT := Lib.hid (bel_trans BT.out B16.out)
    have Fx := Lib.hid h16
    clear h16
    clear B16
    go_wp2_with fail
    refine Calls.mono (mul_n _ _ ((A) * (B)) (C) 120 60 _ ?_ ?_ (by omega) (by omega)) ?_
    · exact (Fx.out.below (by repeat (first | exact Below.refl _ _ | apply bel_al | apply bel_drawn | apply Below.drew))).nv
    · exact FC.out.below (by repeat (first | exact Below.refl _ _ | apply bel_al | apply bel_drawn | apply Below.drew))
    rintro e w17 ⟨v17, rfl, h17, hb17⟩
    have B17 := Lib.hid (bel_trans (w := w16) (by repeat (first | exact Below.refl _ _ | apply bel_al | apply bel_drawn | apply Below.drew)) hb17)
    clear hb17
    clear Fx
    replace FA := Lib.hid (FA.out.below B17.out)
    replace FB := Lib.hid (FB.out.below B17.out)
    replace FC := Lib.hid (FC.out.below B17.out)
    replace BT := Lib.hid (bel_trans BT.out B17.out)
    have Fy := Lib.hid h17
    clear h17
    clear B17
    go_wp2_with fail
    refine Calls.mono (mul_n _ _ (B) (C) 60 60 _ ?_ ?_ (by omega) (by omega)) ?_
    · exact FB.out.below (by repeat (first | exact Below.refl _ _ | apply bel_al | apply bel_drawn | apply Below.drew))
    · exact FC.out.below (by repeat (first | exact Below.refl _ _ | apply bel_al | apply bel_drawn | apply Below.drew))
    rintro e w18 ⟨v18, rfl, h18, hb18⟩
    have B18 := Lib.hid (bel_trans (w := w17) (by repeat (first | exact Below.refl _ _ | apply bel_al | apply bel_drawn | apply Below.drew)) hb18)
    clear hb18
    replace FA := Lib.hid (FA.out.below B18.out)
    replace FB := Lib.hid (FB.out.below B18.out)
    replace FC := Lib.hid (FC.out.below B18.out)
    replace Fy := Lib.hid (Fy.out.below B18.out)
    replace BT := Lib.hid (bel_trans BT.out B18.out)
    have Fz := Lib.hid h18
    clear h18
    clear B18
    go_wp2_with fail
    refine Calls.mono (mul_n _ _ (A) ((B) * (C)) 60 120 _ ?_ ?_ (by omega) (by omega)) ?_
    · exact FA.out.below (by repeat (first | exact Below.refl _ _ | apply bel_al | apply bel_drawn | apply Below.drew))
    · exact (Fz.out.below (by repeat (first | exact Below.refl _ _ | apply bel_al | apply bel_drawn | apply Below.drew))).nv
    rintro e w19 ⟨v19, rfl, h19, hb19⟩
    have B19 := Lib.hid (bel_trans (w := w18) (by repeat (first | exact Below.refl _ _ | apply bel_al | apply bel_drawn | apply Below.drew)) hb19)
    clear hb19
    clear Fz
    replace FA := Lib.hid (FA.out.below B19.out)
    replace FB := Lib.hid (FB.out.below B19.out)
    replace FC := Lib.hid (FC.out.below B19.out)
    replace Fy := Lib.hid (Fy.out.below B19.out)
    replace BT := Lib.hid (bel_trans BT.out B19.out)
    have Fu := Lib.hid h19
    clear h19
    clear B19
    go_wp2_with fail
    refine Calls.mono (same_n _ _ (((A) * (B)) * (C)) ((A) * ((B) * (C))) 180 180 _ ?_ ?_ (Nat.mul_assoc _ _ _)) ?_
    · exact Fy.out.below (by repeat (first | exact Below.refl _ _ | apply bel_al | apply bel_drawn | apply Below.drew))
    · exact Fu.out.below (by repeat (first | exact Below.refl _ _ | apply bel_al | apply bel_drawn | apply Below.drew))
    rintro e w20 ⟨rfl, hb20⟩
    have B20 := Lib.hid (bel_trans (w := w19) (by repeat (first | exact Below.refl _ _ | apply bel_al | apply bel_drawn | apply Below.drew)) hb20)
    clear hb20
    clear Fy
    clear Fu
    replace FA := Lib.hid (FA.out.below B20.out)
    replace FB := Lib.hid (FB.out.below B20.out)
    replace FC := Lib.hid (FC.out.below B20.out)
    replace BT := Lib.hid (bel_trans BT.out B20.out)
    clear B20
    go_wp2_with fail
    refine Calls.mono (add_n _ _ (B) (C) 60 60 61 _ ?_ ?_ (by omega) (by omega) (by omega)) ?_
    · exact FB.out.below (by repeat (first | exact Below.refl _ _ | apply bel_al | apply bel_drawn | apply Below.drew))
    · exact FC.out.below (by repeat (first | exact Below.refl _ _ | apply bel_al | apply bel_drawn | apply Below.drew))
    rintro e w21 ⟨v21, rfl, h21, hb21⟩
    have B21 := Lib.hid (bel_trans (w := w20) (by repeat (first | exact Below.refl _ _ | apply bel_al | apply bel_drawn | apply Below.drew)) hb21)
    clear hb21
    replace FA := Lib.hid (FA.out.below B21.out)
    replace FB := Lib.hid (FB.out.below B21.out)
    replace FC := Lib.hid (FC.out.below B21.out)
    replace BT := Lib.hid (bel_trans BT.out B21.out)
    have Fx := Lib.hid h21
    clear h21
    clear B21
    go_wp2_with fail
    refine Calls.mono (mul_n _ _ (A) ((B) + (C)) 60 61 _ ?_ ?_ (by omega) (by omega)) ?_
    · exact FA.out.below (by repeat (first | exact Below.refl _ _ | apply bel_al | apply bel_drawn | apply Below.drew))
    · exact (Fx.out.below (by repeat (first | exact Below.refl _ _ | apply bel_al | apply bel_drawn | apply Below.drew))).nv
    rintro e w22 ⟨v22, rfl, h22, hb22⟩
    have B22 := Lib.hid (bel_trans (w := w21) (by repeat (first | exact Below.refl _ _ | apply bel_al | apply bel_drawn | apply Below.drew)) hb22)
    clear hb22
    clear Fx
    replace FA := Lib.hid (FA.out.below B22.out)
    replace FB := Lib.hid (FB.out.below B22.out)
    replace FC := Lib.hid (FC.out.below B22.out)
    replace BT := Lib.hid (bel_trans BT.out B22.out)
    have Fy := Lib.hid h22
    clear h22
    clear B22
    go_wp2_with fail
    refine Calls.mono (mul_n _ _ (A) (B) 60 60 _ ?_ ?_ (by omega) (by omega)) ?_
    · exact FA.out.below (by repeat (first | exact Below.refl _ _ | apply bel_al | apply bel_drawn | apply Below.drew))
    · exact FB.out.below (by repeat (first | exact Below.refl _ _ | apply bel_al | apply bel_drawn | apply Below.drew))
    rintro e w23 ⟨v23, rfl, h23, hb23⟩
    have B23 := Lib.hid (bel_trans (w := w22) (by repeat (first | exact Below.refl _ _ | apply bel_al | apply bel_drawn | apply Below.drew)) hb23)
    clear hb23
    replace FA := Lib.hid (FA.out.below B23.out)
    replace FB := Lib.hid (FB.out.below B23.out)
    replace FC := Lib.hid (FC.out.below B23.out)
    replace Fy := Lib.hid (Fy.out.below B23.out)
    replace BT := Lib.hid (bel_trans BT.out B23.out)
    have Fz := Lib.hid h23
    clear h23
    clear B23
    go_wp2_with fail
    refine Calls.mono (mul_n _ _ (A) (C) 60 60 _ ?_ ?_ (by omega) (by omega)) ?_
    · exact FA.out.below (by repeat (first | exact Below.refl _ _ | apply bel_al | apply bel_drawn | apply Below.drew))
    · exact FC.out.below (by repeat (first | exact Below.refl _ _ | apply bel_al | apply bel_drawn | apply Below.drew))
    rintro e w24 ⟨v24, rfl, h24, hb24⟩
    have B24 := Lib.hid (bel_trans (w := w23) (by repeat (first | exact Below.refl _ _ | apply bel_al | apply bel_drawn | apply Below.drew)) hb24)
    clear hb24
    replace FA := Lib.hid (FA.out.below B24.out)
    replace FB := Lib.hid (FB.out.below B24.out)
    replace FC := Lib.hid (FC.out.below B24.out)
    replace Fy := Lib.hid (Fy.out.below B24.out)
    replace Fz := Lib.hid (Fz.out.below B24.out)
    replace BT := Lib.hid (bel_trans BT.out B24.out)
    have Fu := Lib.hid h24
    clear h24
    clear B24
    go_wp2_with fail
    refine Calls.mono (add_n _ _ ((A) * (B)) ((A) * (C)) 120 120 121 _ ?_ ?_ (by omega) (by omega) (by omega)) ?_
    · exact (Fz.out.below (by repeat (first | exact Below.refl _ _ | apply bel_al | apply bel_drawn | apply Below.drew))).nv
    · exact (Fu.out.below (by repeat (first | exact Below.refl _ _ | apply bel_al | apply bel_drawn | apply Below.drew))).nv
    rintro e w25 ⟨v25, rfl, h25, hb25⟩
    have B25 := Lib.hid (bel_trans (w := w24) (by repeat (first | exact Below.refl _ _ | apply bel_al | apply bel_drawn | apply Below.drew)) hb25)
    clear hb25
    clear Fz
    clear Fu
    replace FA := Lib.hid (FA.out.below B25.out)
    replace FB := Lib.hid (FB.out.below B25.out)
    replace FC := Lib.hid (FC.out.below B25.out)
    replace Fy := Lib.hid (Fy.out.below B25.out)
    replace BT := Lib.hid (bel_trans BT.out B25.out)
    have Fv := Lib.hid h25
    clear h25
    clear B25
    go_wp2_with fail
    refine Calls.mono (same_n _ _ ((A) * ((B) + (C))) (((A) * (B)) + ((A) * (C))) 121 121 _ ?_ ?_ (Nat.mul_add _ _ _)) ?_
    · exact Fy.out.below (by repeat (first | exact Below.refl _ _ | apply bel_al | apply bel_drawn | apply Below.drew))
    · exact Fv.out.below (by repeat (first | exact Below.refl _ _ | apply bel_al | apply bel_drawn | apply Below.drew))
    rintro e w26 ⟨rfl, hb26⟩
    have B26 := Lib.hid (bel_trans (w := w25) (by repeat (first | exact Below.refl _ _ | apply bel_al | apply bel_drawn | apply Below.drew)) hb26)
    clear hb26
    clear Fy
    clear Fv
    replace FA := Lib.hid (FA.out.below B26.out)
    replace FB := Lib.hid (FB.out.below B26.out)
    replace FC := Lib.hid (FC.out.below B26.out)
    replace BT := Lib.hid (bel_trans BT.out B26.out)
    clear B26
    go_wp2_with fail
    refine Calls.mono (divmod_n _ _ (A) (B) 60 60 _ ?_ ?_ (by omega) (by omega)) ?_
    · exact FA.out.below (by repeat (first | exact Below.refl _ _ | apply bel_al | apply bel_drawn | apply Below.drew))
    · exact FB.out.below (by repeat (first | exact Below.refl _ _ | apply bel_al | apply bel_drawn | apply Below.drew))
    rintro e w27 ⟨v27, u27, rfl, ⟨h27, g27⟩, hb27⟩
    have B27 := Lib.hid (bel_trans (w := w26) (by repeat (first | exact Below.refl _ _ | apply bel_al | apply bel_drawn | apply Below.drew)) hb27)
    clear hb27
    replace FA := Lib.hid (FA.out.below B27.out)
    replace FB := Lib.hid (FB.out.below B27.out)
    replace FC := Lib.hid (FC.out.below B27.out)
    replace BT := Lib.hid (bel_trans BT.out B27.out)
    have Fq := Lib.hid h27
    clear h27
    have Fr := Lib.hid g27
    clear g27
    clear B27
    go_wp2_with fail
    refine Calls.mono (trim_n _ (B) 60 _ ?_ (by omega)) ?_
    · exact FB.out.below (by repeat (first | exact Below.refl _ _ | apply bel_al | apply bel_drawn | apply Below.drew))
    rintro e w28 ⟨v28, rfl, h28, hb28⟩
    have B28 := Lib.hid (bel_trans (w := w27) (by repeat (first | exact Below.refl _ _ | apply bel_al | apply bel_drawn | apply Below.drew)) hb28)
    clear hb28
    replace FA := Lib.hid (FA.out.below B28.out)
    replace FB := Lib.hid (FB.out.below B28.out)
    replace FC := Lib.hid (FC.out.below B28.out)
    replace Fq := Lib.hid (Fq.out.below B28.out)
    replace Fr := Lib.hid (Fr.out.below B28.out)
    replace BT := Lib.hid (bel_trans BT.out B28.out)
    have Fb := Lib.hid h28
    clear h28
    clear B28
    obtain ⟨sa1, sc1, sn1, rfl, se1, sm1⟩ := Fb.out.shape
    have sz1 : 0 < sn1 := by rw [se1]; exact Nat.pos_of_ne_zero fun h0 => absurd ((length_digs_zero W_two).1 h0) (HG.out)
    have sb1 : ((sn1 : Int) == 0) = false := by rw [beq_eq_false_iff_ne]; omega
    clear se1
    clear Fb
    replace Fr := Lib.hid (Fr.out.eq (Y := A % B) (remN_pos HG.out))
    go_wp2_with fail
    refine Calls.mono (mul_n _ _ (B) (C) 60 60 _ ?_ ?_ (by omega) (by omega)) ?_
    · exact FB.out.below (by repeat (first | exact Below.refl _ _ | apply bel_al | apply bel_drawn | apply Below.drew))
    · exact FC.out.below (by repeat (first | exact Below.refl _ _ | apply bel_al | apply bel_drawn | apply Below.drew))
    rintro e w29 ⟨v29, rfl, h29, hb29⟩
    have B29 := Lib.hid (bel_trans (w := w28) (by repeat (first | exact Below.refl _ _ | apply bel_al | apply bel_drawn | apply Below.drew)) hb29)
    clear hb29
    replace FA := Lib.hid (FA.out.below B29.out)
    replace FB := Lib.hid (FB.out.below B29.out)
    replace FC := Lib.hid (FC.out.below B29.out)
    replace Fq := Lib.hid (Fq.out.below B29.out)
    replace Fr := Lib.hid (Fr.out.below B29.out)
    replace BT := Lib.hid (bel_trans BT.out B29.out)
    have Fx := Lib.hid h29
    clear h29
    clear B29
    go_wp2_with fail
    refine Calls.mono (add_n _ _ ((B) * (C)) (A % B) 120 60 121 _ ?_ ?_ (by omega) (by omega) (by omega)) ?_
    · exact (Fx.out.below (by repeat (first | exact Below.refl _ _ | apply bel_al | apply bel_drawn | apply Below.drew))).nv
    · exact (Fr.out.below (by repeat (first | exact Below.refl _ _ | apply bel_al | apply bel_drawn | apply Below.drew))).nv
    rintro e w30 ⟨v30, rfl, h30, hb30⟩
    have B30 := Lib.hid (bel_trans (w := w29) (by repeat (first | exact Below.refl _ _ | apply bel_al | apply bel_drawn | apply Below.drew)) hb30)
    clear hb30
    clear Fx
    replace FA := Lib.hid (FA.out.below B30.out)
    replace FB := Lib.hid (FB.out.below B30.out)
    replace FC := Lib.hid (FC.out.below B30.out)
    replace Fq := Lib.hid (Fq.out.below B30.out)
    replace Fr := Lib.hid (Fr.out.below B30.out)
    replace BT := Lib.hid (bel_trans BT.out B30.out)
    have Fy := Lib.hid h30
    clear h30
    clear B30
    go_wp2_with fail
    refine Calls.mono (divmod_n _ _ (((B) * (C)) + (A % B)) (B) 121 60 _ ?_ ?_ (by omega) (by omega)) ?_
    · exact (Fy.out.below (by repeat (first | exact Below.refl _ _ | apply bel_al | apply bel_drawn | apply Below.drew))).nv
    · exact FB.out.below (by repeat (first | exact Below.refl _ _ | apply bel_al | apply bel_drawn | apply Below.drew))
    rintro e w31 ⟨v31, u31, rfl, ⟨h31, g31⟩, hb31⟩
    have B31 := Lib.hid (bel_trans (w := w30) (by repeat (first | exact Below.refl _ _ | apply bel_al | apply bel_drawn | apply Below.drew)) hb31)
    clear hb31
    clear Fy
    replace FA := Lib.hid (FA.out.below B31.out)
    replace FB := Lib.hid (FB.out.below B31.out)
    replace FC := Lib.hid (FC.out.below B31.out)
    replace Fq := Lib.hid (Fq.out.below B31.out)
    replace Fr := Lib.hid (Fr.out.below B31.out)
    replace BT := Lib.hid (bel_trans BT.out B31.out)
    have Fs := Lib.hid h31
    clear h31
    have Fu := Lib.hid g31
    clear g31
    clear B31
    replace Fs := Lib.hid (Fs.out.eq (Y := C) (by rw [Nat.mul_add_div (Nat.pos_of_ne_zero HG.out), Nat.div_eq_of_lt (Nat.mod_lt _ (Nat.pos_of_ne_zero HG.out)), Nat.add_zero]))
    replace Fu := Lib.hid (Fu.out.eq (Y := A % B) (by rw [remN_pos HG.out, Nat.mul_add_mod, Nat.mod_mod]))
    go_wp2_with fail
    refine Calls.mono (mul_n _ _ ((A) / (B)) (B) 60 60 _ ?_ ?_ (by omega) (by omega)) ?_
    · exact (Fq.out.below (by repeat (first | exact Below.refl _ _ | apply bel_al | apply bel_drawn | apply Below.drew))).nv
    · exact FB.out.below (by repeat (first | exact Below.refl _ _ | apply bel_al | apply bel_drawn | apply Below.drew))
    rintro e w32 ⟨v32, rfl, h32, hb32⟩
    have B32 := Lib.hid (bel_trans (w := w31) (by repeat (first | exact Below.refl _ _ | apply bel_al | apply bel_drawn | apply Below.drew)) hb32)
    clear hb32
    replace FA := Lib.hid (FA.out.below B32.out)
    replace FB := Lib.hid (FB.out.below B32.out)
    replace FC := Lib.hid (FC.out.below B32.out)
    replace Fq := Lib.hid (Fq.out.below B32.out)
    replace Fr := Lib.hid (Fr.out.below B32.out)
    replace Fs := Lib.hid (Fs.out.below B32.out)
    replace Fu := Lib.hid (Fu.out.below B32.out)
    replace BT := Lib.hid (bel_trans BT.out B32.out)
    have Fx := Lib.hid h32
    clear h32
    clear B32
    go_wp2_with fail
    refine Calls.mono (add_n _ _ (((A) / (B)) * (B)) (A % B) 120 60 121 _ ?_ ?_ (by omega) (by omega) (by omega)) ?_
    · exact (Fx.out.below (by repeat (first | exact Below.refl _ _ | apply bel_al | apply bel_drawn | apply Below.drew))).nv
    · exact (Fr.out.below (by repeat (first | exact Below.refl _ _ | apply bel_al | apply bel_drawn | apply Below.drew))).nv
    rintro e w33 ⟨v33, rfl, h33, hb33⟩
    have B33 := Lib.hid (bel_trans (w := w32) (by repeat (first | exact Below.refl _ _ | apply bel_al | apply bel_drawn | apply Below.drew)) hb33)
    clear hb33
    clear Fx
    replace FA := Lib.hid (FA.out.below B33.out)
    replace FB := Lib.hid (FB.out.below B33.out)
    replace FC := Lib.hid (FC.out.below B33.out)
    replace Fq := Lib.hid (Fq.out.below B33.out)
    replace Fr := Lib.hid (Fr.out.below B33.out)
    replace Fs := Lib.hid (Fs.out.below B33.out)
    replace Fu := Lib.hid (Fu.out.below B33.out)
    replace BT := Lib.hid (bel_trans BT.out B33.out)
    have Fy := Lib.hid h33
    clear h33
    clear B33
    go_wp2_with fail
    refine Calls.mono (trim_n _ (A) 60 _ ?_ (by omega)) ?_
    · exact FA.out.below (by repeat (first | exact Below.refl _ _ | apply bel_al | apply bel_drawn | apply Below.drew))
    rintro e w34 ⟨v34, rfl, h34, hb34⟩
    have B34 := Lib.hid (bel_trans (w := w33) (by repeat (first | exact Below.refl _ _ | apply bel_al | apply bel_drawn | apply Below.drew)) hb34)
    clear hb34
    replace FA := Lib.hid (FA.out.below B34.out)
    replace FB := Lib.hid (FB.out.below B34.out)
    replace FC := Lib.hid (FC.out.below B34.out)
    replace Fq := Lib.hid (Fq.out.below B34.out)
    replace Fr := Lib.hid (Fr.out.below B34.out)
    replace Fs := Lib.hid (Fs.out.below B34.out)
    replace Fu := Lib.hid (Fu.out.below B34.out)
    replace Fy := Lib.hid (Fy.out.below B34.out)
    replace BT := Lib.hid (bel_trans BT.out B34.out)
    have Fz := Lib.hid h34
    clear h34
    clear B34
    go_wp2_with fail
    refine Calls.mono (same_n _ _ ((((A) / (B)) * (B)) + (A % B)) ((A)) 121 60 _ ?_ ?_ (by rw [Nat.mul_comm]; exact Nat.div_add_mod A B)) ?_
    · exact Fy.out.below (by repeat (first | exact Below.refl _ _ | apply bel_al | apply bel_drawn | apply Below.drew))
    · exact Fz.out.below (by repeat (first | exact Below.refl _ _ | apply bel_al | apply bel_drawn | apply Below.drew))
    rintro e w35 ⟨rfl, hb35⟩
    have B35 := Lib.hid (bel_trans (w := w34) (by repeat (first | exact Below.refl _ _ | apply bel_al | apply bel_drawn | apply Below.drew)) hb35)
    clear hb35
    clear Fy
    clear Fz
    replace FA := Lib.hid (FA.out.below B35.out)
    replace FB := Lib.hid (FB.out.below B35.out)
    replace FC := Lib.hid (FC.out.below B35.out)
    replace Fq := Lib.hid (Fq.out.below B35.out)
    replace Fr := Lib.hid (Fr.out.below B35.out)
    replace Fs := Lib.hid (Fs.out.below B35.out)
    replace Fu := Lib.hid (Fu.out.below B35.out)
    replace BT := Lib.hid (bel_trans BT.out B35.out)
    clear B35
    go_wp2_with fail
    refine Calls.mono (cmp_v _ _ (A % B) (B) 60 60 (-1) _ ?_ ?_ (cmp_lo (Nat.mod_lt _ (Nat.pos_of_ne_zero HG.out)))) ?_
    · exact (Fr.out.below (by repeat (first | exact Below.refl _ _ | apply bel_al | apply bel_drawn | apply Below.drew))).nv
    · exact FB.out.below (by repeat (first | exact Below.refl _ _ | apply bel_al | apply bel_drawn | apply Below.drew))
    rintro e w36 ⟨rfl, hb36⟩
    have B36 := Lib.hid (bel_trans (w := w35) (by repeat (first | exact Below.refl _ _ | apply bel_al | apply bel_drawn | apply Below.drew)) hb36)
    clear hb36
    replace FA := Lib.hid (FA.out.below B36.out)
    replace FB := Lib.hid (FB.out.below B36.out)
    replace FC := Lib.hid (FC.out.below B36.out)
    replace Fq := Lib.hid (Fq.out.below B36.out)
    replace Fr := Lib.hid (Fr.out.below B36.out)
    replace Fs := Lib.hid (Fs.out.below B36.out)
    replace Fu := Lib.hid (Fu.out.below B36.out)
    replace BT := Lib.hid (bel_trans BT.out B36.out)
    clear B36
    go_wp2_with fail
    refine Calls.mono (trim_n _ (C) 60 _ ?_ (by omega)) ?_
    · exact FC.out.below (by repeat (first | exact Below.refl _ _ | apply bel_al | apply bel_drawn | apply Below.drew))
    rintro e w37 ⟨v37, rfl, h37, hb37⟩
    have B37 := Lib.hid (bel_trans (w := w36) (by repeat (first | exact Below.refl _ _ | apply bel_al | apply bel_drawn | apply Below.drew)) hb37)
    clear hb37
    replace FA := Lib.hid (FA.out.below B37.out)
    replace FB := Lib.hid (FB.out.below B37.out)
    replace FC := Lib.hid (FC.out.below B37.out)
    replace Fq := Lib.hid (Fq.out.below B37.out)
    replace Fr := Lib.hid (Fr.out.below B37.out)
    replace Fs := Lib.hid (Fs.out.below B37.out)
    replace Fu := Lib.hid (Fu.out.below B37.out)
    replace BT := Lib.hid (bel_trans BT.out B37.out)
    have Fx := Lib.hid h37
    clear h37
    clear B37
    go_wp2_with fail
    refine Calls.mono (same_n _ _ (C) ((C)) 121 60 _ ?_ ?_ (rfl)) ?_
    · exact Fs.out.below (by repeat (first | exact Below.refl _ _ | apply bel_al | apply bel_drawn | apply Below.drew))
    · exact Fx.out.below (by repeat (first | exact Below.refl _ _ | apply bel_al | apply bel_drawn | apply Below.drew))
    rintro e w38 ⟨rfl, hb38⟩
    have B38 := Lib.hid (bel_trans (w := w37) (by repeat (first | exact Below.refl _ _ | apply bel_al | apply bel_drawn | apply Below.drew)) hb38)
    clear hb38
    clear Fs
    clear Fx
    replace FA := Lib.hid (FA.out.below B38.out)
    replace FB := Lib.hid (FB.out.below B38.out)
    replace FC := Lib.hid (FC.out.below B38.out)
    replace Fq := Lib.hid (Fq.out.below B38.out)
    replace Fr := Lib.hid (Fr.out.below B38.out)
    replace Fu := Lib.hid (Fu.out.below B38.out)
    replace BT := Lib.hid (bel_trans BT.out B38.out)
    clear B38
    go_wp2_with fail
    refine Calls.mono (same_n _ _ (A % B) (A % B) 60 60 _ ?_ ?_ (rfl)) ?_
    · exact Fu.out.below (by repeat (first | exact Below.refl _ _ | apply bel_al | apply bel_drawn | apply Below.drew))
    · exact Fr.out.below (by repeat (first | exact Below.refl _ _ | apply bel_al | apply bel_drawn | apply Below.drew))
    rintro e w39 ⟨rfl, hb39⟩
    have B39 := Lib.hid (bel_trans (w := w38) (by repeat (first | exact Below.refl _ _ | apply bel_al | apply bel_drawn | apply Below.drew)) hb39)
    clear hb39
    replace FA := Lib.hid (FA.out.below B39.out)
    replace FB := Lib.hid (FB.out.below B39.out)
    replace FC := Lib.hid (FC.out.below B39.out)
    replace Fq := Lib.hid (Fq.out.below B39.out)
    replace Fr := Lib.hid (Fr.out.below B39.out)
    replace Fu := Lib.hid (Fu.out.below B39.out)
    replace BT := Lib.hid (bel_trans BT.out B39.out)
    clear B39
    go_wp2_with fail
    refine Calls.mono (awake_n _) ?_
    rintro e w40 ⟨rfl, hb40⟩
    have B40 := Lib.hid (bel_trans (w := w39) (by repeat (first | exact Below.refl _ _ | apply bel_al | apply bel_drawn | apply Below.drew)) hb40)
    clear hb40
    replace FA := Lib.hid (FA.out.below B40.out)
    replace FB := Lib.hid (FB.out.below B40.out)
    replace FC := Lib.hid (FC.out.below B40.out)
    replace Fq := Lib.hid (Fq.out.below B40.out)
    replace Fr := Lib.hid (Fr.out.below B40.out)
    replace Fu := Lib.hid (Fu.out.below B40.out)
    replace BT := Lib.hid (bel_trans BT.out B40.out)
    clear B40
    go_wp2_with fail
    go_ret
    exact ⟨rfl, bel_trans BT.out (by repeat (first | exact Below.refl _ _ | apply bel_al | apply bel_drawn | apply Below.drew))⟩

end Go.Proofs.Ytbofdldkiooegaa
