/- tripwire/tripwirelaw01.LimbsDivides: the walk. -/
import Derived.Test.YtbofdldkiooegaaAwake
namespace Go.Proofs.Ytbofdldkiooegaa
open Go Go.RowKit Tw
set_option linter.unusedVariables false
set_option linter.unusedSimpArgs false

set_option maxHeartbeats 4000000 in
theorem limbsDivides_n (a1 a2 a3 : Option Addr) (c1 c2 c3 : Nat) (l1 l2 l3 : List Nat) (w : World) (h1 : WdS w a1 c1 l1) (h2 : WdS w a2 c2 l2) (h3 : WdS w a3 c3 l3) :
    Calls Try.prog 4 #[.slice a1 l1.length c1, .slice a2 l2.length c2, .slice a3 l3.length c3] w (RetIs w (.bool true)) := by
  by_cases q1 : l1.length ≤ 12
  case neg =>
    clear h1 h2 h3
    go_enter Try.func4, Try.ntmps4
    go_wp2_with fail
    refine Calls.mono (awake_n _) ?_
    rintro e w1 ⟨rfl, hb1⟩
    have B1 := Lib.hid (bel_trans (w := w) (by repeat (first | exact Below.refl _ _ | apply bel_al | apply bel_drawn | apply Below.drew)) hb1)
    clear hb1
    have BT := B1
    go_wp2_with fail
    go_ret
    exact ⟨rfl, bel_trans BT.out (by repeat (first | exact Below.refl _ _ | apply bel_al | apply bel_drawn | apply Below.drew))⟩
  by_cases q2 : l2.length ≤ 12
  case neg =>
    clear h1 h2 h3
    go_enter Try.func4, Try.ntmps4
    go_wp2_with fail
    refine Calls.mono (awake_n _) ?_
    rintro e w1 ⟨rfl, hb1⟩
    have B1 := Lib.hid (bel_trans (w := w) (by repeat (first | exact Below.refl _ _ | apply bel_al | apply bel_drawn | apply Below.drew)) hb1)
    clear hb1
    have BT := B1
    go_wp2_with fail
    go_ret
    exact ⟨rfl, bel_trans BT.out (by repeat (first | exact Below.refl _ _ | apply bel_al | apply bel_drawn | apply Below.drew))⟩
  by_cases q3 : l3.length ≤ 12
  case neg =>
    clear h1 h2 h3
    go_enter Try.func4, Try.ntmps4
    go_wp2_with fail
    refine Calls.mono (awake_n _) ?_
    rintro e w1 ⟨rfl, hb1⟩
    have B1 := Lib.hid (bel_trans (w := w) (by repeat (first | exact Below.refl _ _ | apply bel_al | apply bel_drawn | apply Below.drew)) hb1)
    clear hb1
    have BT := B1
    go_wp2_with fail
    go_ret
    exact ⟨rfl, bel_trans BT.out (by repeat (first | exact Below.refl _ _ | apply bel_al | apply bel_drawn | apply Below.drew))⟩
  have FA := Lib.hid (show Nv w (.slice a1 l1.length c1) (val W l1) 12 from ⟨l1, ⟨a1, c1, rfl, h1⟩, rfl, q1⟩)
  have FB := Lib.hid (show Nv w (.slice a2 l2.length c2) (val W l2) 12 from ⟨l2, ⟨a2, c2, rfl, h2⟩, rfl, q2⟩)
  have FC := Lib.hid (show Nv w (.slice a3 l3.length c3) (val W l3) 12 from ⟨l3, ⟨a3, c3, rfl, h3⟩, rfl, q3⟩)
  clear h1 h2 h3
  generalize val W l1 = A at *
  generalize val W l2 = B at *
  generalize val W l3 = C at *
  by_cases hg : Nat.gcd A B = 0
  · have HG := Lib.hid hg; clear hg
    go_enter Try.func4, Try.ntmps4
    go_wp2_with fail
    refine Calls.mono (gcd_n _ _ (A) (B) 12 12 12 _ ?_ ?_ (by omega) (by omega) (by omega)) ?_
    · exact FA.out.below (by repeat (first | exact Below.refl _ _ | apply bel_al | apply bel_drawn | apply Below.drew))
    · exact FB.out.below (by repeat (first | exact Below.refl _ _ | apply bel_al | apply bel_drawn | apply Below.drew))
    rintro e w1 ⟨v1, rfl, h1, hb1⟩
    have B1 := Lib.hid (bel_trans (w := w) (by repeat (first | exact Below.refl _ _ | apply bel_al | apply bel_drawn | apply Below.drew)) hb1)
    clear hb1
    replace FA := Lib.hid (FA.out.below B1.out)
    replace FB := Lib.hid (FB.out.below B1.out)
    replace FC := Lib.hid (FC.out.below B1.out)
    have BT := B1
    have FG := Lib.hid h1
    clear h1
    obtain ⟨sa1, sc1, sn1, rfl, se1, sm1⟩ := FG.out.shape
    obtain rfl : sn1 = 0 := by rw [se1]; exact (length_digs_zero W_two).2 (HG.out)
    clear se1 sm1
    go_wp2_with fail
    refine Calls.mono (trim_n _ (A) 12 _ ?_ (by omega)) ?_
    · exact FA.out.below (by repeat (first | exact Below.refl _ _ | apply bel_al | apply bel_drawn | apply Below.drew))
    rintro e w2 ⟨v2, rfl, h2, hb2⟩
    have B2 := Lib.hid (bel_trans (w := w1) (by repeat (first | exact Below.refl _ _ | apply bel_al | apply bel_drawn | apply Below.drew)) hb2)
    clear hb2
    replace FA := Lib.hid (FA.out.below B2.out)
    replace FB := Lib.hid (FB.out.below B2.out)
    replace FC := Lib.hid (FC.out.below B2.out)
    replace FG := Lib.hid (FG.out.below B2.out)
    replace BT := Lib.hid (bel_trans BT.out B2.out)
    have Fx := Lib.hid h2
    clear h2
    clear B2
    obtain ⟨sa2, sc2, sn2, rfl, se2, sm2⟩ := Fx.out.shape
    obtain rfl : sn2 = 0 := by rw [se2]; exact (length_digs_zero W_two).2 ((Nat.gcd_eq_zero_iff.1 HG.out).1)
    clear se2 sm2
    go_wp2_with fail
    refine Calls.mono (trim_n _ (B) 12 _ ?_ (by omega)) ?_
    · exact FB.out.below (by repeat (first | exact Below.refl _ _ | apply bel_al | apply bel_drawn | apply Below.drew))
    rintro e w3 ⟨v3, rfl, h3, hb3⟩
    have B3 := Lib.hid (bel_trans (w := w2) (by repeat (first | exact Below.refl _ _ | apply bel_al | apply bel_drawn | apply Below.drew)) hb3)
    clear hb3
    replace FA := Lib.hid (FA.out.below B3.out)
    replace FB := Lib.hid (FB.out.below B3.out)
    replace FC := Lib.hid (FC.out.below B3.out)
    replace FG := Lib.hid (FG.out.below B3.out)
    replace Fx := Lib.hid (Fx.out.below B3.out)
    replace BT := Lib.hid (bel_trans BT.out B3.out)
    have Fy := Lib.hid h3
    clear h3
    clear B3
    obtain ⟨sa3, sc3, sn3, rfl, se3, sm3⟩ := Fy.out.shape
    obtain rfl : sn3 = 0 := by rw [se3]; exact (length_digs_zero W_two).2 ((Nat.gcd_eq_zero_iff.1 HG.out).2)
    clear se3 sm3
    go_wp2_with fail
    refine Calls.mono (awake_n _) ?_
    rintro e w4 ⟨rfl, hb4⟩
    have B4 := Lib.hid (bel_trans (w := w3) (by repeat (first | exact Below.refl _ _ | apply bel_al | apply bel_drawn | apply Below.drew)) hb4)
    clear hb4
    replace FA := Lib.hid (FA.out.below B4.out)
    replace FB := Lib.hid (FB.out.below B4.out)
    replace FC := Lib.hid (FC.out.below B4.out)
    replace FG := Lib.hid (FG.out.below B4.out)
    replace Fx := Lib.hid (Fx.out.below B4.out)
    replace Fy := Lib.hid (Fy.out.below B4.out)
    replace BT := Lib.hid (bel_trans BT.out B4.out)
    clear B4
    go_wp2_with fail
    go_ret
    exact ⟨rfl, bel_trans BT.out (by repeat (first | exact Below.refl _ _ | apply bel_al | apply bel_drawn | apply Below.drew))⟩
  · have HG := Lib.hid hg; clear hg
    go_enter Try.func4, Try.ntmps4
    go_wp2_with fail
    refine Calls.mono (gcd_n _ _ (A) (B) 12 12 12 _ ?_ ?_ (by omega) (by omega) (by omega)) ?_
    · exact FA.out.below (by repeat (first | exact Below.refl _ _ | apply bel_al | apply bel_drawn | apply Below.drew))
    · exact FB.out.below (by repeat (first | exact Below.refl _ _ | apply bel_al | apply bel_drawn | apply Below.drew))
    rintro e w1 ⟨v1, rfl, h1, hb1⟩
    have B1 := Lib.hid (bel_trans (w := w) (by repeat (first | exact Below.refl _ _ | apply bel_al | apply bel_drawn | apply Below.drew)) hb1)
    clear hb1
    replace FA := Lib.hid (FA.out.below B1.out)
    replace FB := Lib.hid (FB.out.below B1.out)
    replace FC := Lib.hid (FC.out.below B1.out)
    have BT := B1
    have FG := Lib.hid h1
    clear h1
    obtain ⟨sa1, sc1, sn1, rfl, se1, sm1⟩ := FG.out.shape
    have sz1 : 0 < sn1 := by rw [se1]; exact Nat.pos_of_ne_zero fun h0 => absurd ((length_digs_zero W_two).1 h0) (HG.out)
    have sb1 : ((sn1 : Int) == 0) = false := by rw [beq_eq_false_iff_ne]; omega
    clear se1
    go_wp2_with fail
    refine Calls.mono (divmod_n _ _ (A) (Nat.gcd (A) (B)) 12 12 _ ?_ ?_ (by omega) (by omega)) ?_
    · exact FA.out.below (by repeat (first | exact Below.refl _ _ | apply bel_al | apply bel_drawn | apply Below.drew))
    · exact (FG.out.below (by repeat (first | exact Below.refl _ _ | apply bel_al | apply bel_drawn | apply Below.drew))).nv
    rintro e w2 ⟨v2, u2, rfl, ⟨h2, g2⟩, hb2⟩
    have B2 := Lib.hid (bel_trans (w := w1) (by repeat (first | exact Below.refl _ _ | apply bel_al | apply bel_drawn | apply Below.drew)) hb2)
    clear hb2
    replace FA := Lib.hid (FA.out.below B2.out)
    replace FB := Lib.hid (FB.out.below B2.out)
    replace FC := Lib.hid (FC.out.below B2.out)
    replace FG := Lib.hid (FG.out.below B2.out)
    replace BT := Lib.hid (bel_trans BT.out B2.out)
    have Fx := Lib.hid h2
    clear h2
    have Fr := Lib.hid g2
    clear g2
    clear B2
    obtain ⟨sa2, sc2, sn2, rfl, se2, sm2⟩ := Fr.out.shape
    obtain rfl : sn2 = 0 := by rw [se2]; exact (length_digs_zero W_two).2 (by unfold remN; rw [if_neg HG.out]; exact Nat.mod_eq_zero_of_dvd (Nat.gcd_dvd_left A B))
    clear se2 sm2
    go_wp2_with fail
    refine Calls.mono (divmod_n _ _ (B) (Nat.gcd (A) (B)) 12 12 _ ?_ ?_ (by omega) (by omega)) ?_
    · exact FB.out.below (by repeat (first | exact Below.refl _ _ | apply bel_al | apply bel_drawn | apply Below.drew))
    · exact (FG.out.below (by repeat (first | exact Below.refl _ _ | apply bel_al | apply bel_drawn | apply Below.drew))).nv
    rintro e w3 ⟨v3, u3, rfl, ⟨h3, g3⟩, hb3⟩
    have B3 := Lib.hid (bel_trans (w := w2) (by repeat (first | exact Below.refl _ _ | apply bel_al | apply bel_drawn | apply Below.drew)) hb3)
    clear hb3
    replace FA := Lib.hid (FA.out.below B3.out)
    replace FB := Lib.hid (FB.out.below B3.out)
    replace FC := Lib.hid (FC.out.below B3.out)
    replace FG := Lib.hid (FG.out.below B3.out)
    replace Fx := Lib.hid (Fx.out.below B3.out)
    replace Fr := Lib.hid (Fr.out.below B3.out)
    replace BT := Lib.hid (bel_trans BT.out B3.out)
    have Fy := Lib.hid h3
    clear h3
    have Fs := Lib.hid g3
    clear g3
    clear B3
    obtain ⟨sa3, sc3, sn3, rfl, se3, sm3⟩ := Fs.out.shape
    obtain rfl : sn3 = 0 := by rw [se3]; exact (length_digs_zero W_two).2 (by unfold remN; rw [if_neg HG.out]; exact Nat.mod_eq_zero_of_dvd (Nat.gcd_dvd_right A B))
    clear se3 sm3
    go_wp2_with fail
    refine Calls.mono (gcd_n _ _ ((A) / (Nat.gcd (A) (B))) ((B) / (Nat.gcd (A) (B))) 12 12 12 _ ?_ ?_ (by omega) (by omega) (by omega)) ?_
    · exact (Fx.out.below (by repeat (first | exact Below.refl _ _ | apply bel_al | apply bel_drawn | apply Below.drew))).nv
    · exact (Fy.out.below (by repeat (first | exact Below.refl _ _ | apply bel_al | apply bel_drawn | apply Below.drew))).nv
    rintro e w4 ⟨v4, rfl, h4, hb4⟩
    have B4 := Lib.hid (bel_trans (w := w3) (by repeat (first | exact Below.refl _ _ | apply bel_al | apply bel_drawn | apply Below.drew)) hb4)
    clear hb4
    clear Fx
    clear Fy
    clear Fr
    clear Fs
    replace FA := Lib.hid (FA.out.below B4.out)
    replace FB := Lib.hid (FB.out.below B4.out)
    replace FC := Lib.hid (FC.out.below B4.out)
    replace FG := Lib.hid (FG.out.below B4.out)
    replace BT := Lib.hid (bel_trans BT.out B4.out)
    have Fz := Lib.hid h4
    clear h4
    clear B4
    go_wp2_with fail
    refine Calls.mono (same_n _ _ (Nat.gcd ((A) / (Nat.gcd (A) (B))) ((B) / (Nat.gcd (A) (B)))) (val W [1]) 12 1 _ ?_ ?_ (by rw [Nat.gcd_div (Nat.gcd_dvd_left A B) (Nat.gcd_dvd_right A B), Nat.div_self (Nat.pos_of_ne_zero HG.out)]; rfl)) ?_
    · exact Fz.out.below (by repeat (first | exact Below.refl _ _ | apply bel_al | apply bel_drawn | apply Below.drew))
    · exact lit_nc (e := 29) [1] _ (by simp [heap_al, heap_dn, Array.getElem?_push, Array.getElem_push, enc]) rfl (by omega) (by decide +kernel) (by decide +kernel) rfl
    rintro e w5 ⟨rfl, hb5⟩
    have B5 := Lib.hid (bel_trans (w := w4) (by repeat (first | exact Below.refl _ _ | apply bel_al | apply bel_drawn | apply Below.drew)) hb5)
    clear hb5
    clear Fz
    replace FA := Lib.hid (FA.out.below B5.out)
    replace FB := Lib.hid (FB.out.below B5.out)
    replace FC := Lib.hid (FC.out.below B5.out)
    replace FG := Lib.hid (FG.out.below B5.out)
    replace BT := Lib.hid (bel_trans BT.out B5.out)
    clear B5
    go_wp2_with fail
    refine Calls.mono (mul_n _ _ (A) (C) 12 12 _ ?_ ?_ (by omega) (by omega)) ?_
    · exact FA.out.below (by repeat (first | exact Below.refl _ _ | apply bel_al | apply bel_drawn | apply Below.drew))
    · exact FC.out.below (by repeat (first | exact Below.refl _ _ | apply bel_al | apply bel_drawn | apply Below.drew))
    rintro e w6 ⟨v6, rfl, h6, hb6⟩
    have B6 := Lib.hid (bel_trans (w := w5) (by repeat (first | exact Below.refl _ _ | apply bel_al | apply bel_drawn | apply Below.drew)) hb6)
    clear hb6
    replace FA := Lib.hid (FA.out.below B6.out)
    replace FB := Lib.hid (FB.out.below B6.out)
    replace FC := Lib.hid (FC.out.below B6.out)
    replace FG := Lib.hid (FG.out.below B6.out)
    replace BT := Lib.hid (bel_trans BT.out B6.out)
    have Fac := Lib.hid h6
    clear h6
    clear B6
    go_wp2_with fail
    refine Calls.mono (mul_n _ _ (B) (C) 12 12 _ ?_ ?_ (by omega) (by omega)) ?_
    · exact FB.out.below (by repeat (first | exact Below.refl _ _ | apply bel_al | apply bel_drawn | apply Below.drew))
    · exact FC.out.below (by repeat (first | exact Below.refl _ _ | apply bel_al | apply bel_drawn | apply Below.drew))
    rintro e w7 ⟨v7, rfl, h7, hb7⟩
    have B7 := Lib.hid (bel_trans (w := w6) (by repeat (first | exact Below.refl _ _ | apply bel_al | apply bel_drawn | apply Below.drew)) hb7)
    clear hb7
    replace FA := Lib.hid (FA.out.below B7.out)
    replace FB := Lib.hid (FB.out.below B7.out)
    replace FC := Lib.hid (FC.out.below B7.out)
    replace FG := Lib.hid (FG.out.below B7.out)
    replace Fac := Lib.hid (Fac.out.below B7.out)
    replace BT := Lib.hid (bel_trans BT.out B7.out)
    have Fbc := Lib.hid h7
    clear h7
    clear B7
    go_wp2_with fail
    refine Calls.mono (gcd_n _ _ ((A) * (C)) ((B) * (C)) 24 24 24 _ ?_ ?_ (by omega) (by omega) (by omega)) ?_
    · exact (Fac.out.below (by repeat (first | exact Below.refl _ _ | apply bel_al | apply bel_drawn | apply Below.drew))).nv
    · exact (Fbc.out.below (by repeat (first | exact Below.refl _ _ | apply bel_al | apply bel_drawn | apply Below.drew))).nv
    rintro e w8 ⟨v8, rfl, h8, hb8⟩
    have B8 := Lib.hid (bel_trans (w := w7) (by repeat (first | exact Below.refl _ _ | apply bel_al | apply bel_drawn | apply Below.drew)) hb8)
    clear hb8
    clear Fac
    clear Fbc
    replace FA := Lib.hid (FA.out.below B8.out)
    replace FB := Lib.hid (FB.out.below B8.out)
    replace FC := Lib.hid (FC.out.below B8.out)
    replace FG := Lib.hid (FG.out.below B8.out)
    replace BT := Lib.hid (bel_trans BT.out B8.out)
    have Fz := Lib.hid h8
    clear h8
    clear B8
    go_wp2_with fail
    refine Calls.mono (mul_n _ _ (Nat.gcd (A) (B)) (C) 12 12 _ ?_ ?_ (by omega) (by omega)) ?_
    · exact (FG.out.below (by repeat (first | exact Below.refl _ _ | apply bel_al | apply bel_drawn | apply Below.drew))).nv
    · exact FC.out.below (by repeat (first | exact Below.refl _ _ | apply bel_al | apply bel_drawn | apply Below.drew))
    rintro e w9 ⟨v9, rfl, h9, hb9⟩
    have B9 := Lib.hid (bel_trans (w := w8) (by repeat (first | exact Below.refl _ _ | apply bel_al | apply bel_drawn | apply Below.drew)) hb9)
    clear hb9
    replace FA := Lib.hid (FA.out.below B9.out)
    replace FB := Lib.hid (FB.out.below B9.out)
    replace FC := Lib.hid (FC.out.below B9.out)
    replace FG := Lib.hid (FG.out.below B9.out)
    replace Fz := Lib.hid (Fz.out.below B9.out)
    replace BT := Lib.hid (bel_trans BT.out B9.out)
    have Fgc := Lib.hid h9
    clear h9
    clear B9
    go_wp2_with fail
    refine Calls.mono (same_n _ _ (Nat.gcd ((A) * (C)) ((B) * (C))) ((Nat.gcd (A) (B)) * (C)) 24 24 _ ?_ ?_ (Nat.gcd_mul_right _ _ _)) ?_
    · exact Fz.out.below (by repeat (first | exact Below.refl _ _ | apply bel_al | apply bel_drawn | apply Below.drew))
    · exact Fgc.out.below (by repeat (first | exact Below.refl _ _ | apply bel_al | apply bel_drawn | apply Below.drew))
    rintro e w10 ⟨rfl, hb10⟩
    have B10 := Lib.hid (bel_trans (w := w9) (by repeat (first | exact Below.refl _ _ | apply bel_al | apply bel_drawn | apply Below.drew)) hb10)
    clear hb10
    clear Fz
    clear Fgc
    replace FA := Lib.hid (FA.out.below B10.out)
    replace FB := Lib.hid (FB.out.below B10.out)
    replace FC := Lib.hid (FC.out.below B10.out)
    replace FG := Lib.hid (FG.out.below B10.out)
    replace BT := Lib.hid (bel_trans BT.out B10.out)
    clear B10
    go_wp2_with fail
    refine Calls.mono (gcd_n _ _ (B) (A) 12 12 12 _ ?_ ?_ (by omega) (by omega) (by omega)) ?_
    · exact FB.out.below (by repeat (first | exact Below.refl _ _ | apply bel_al | apply bel_drawn | apply Below.drew))
    · exact FA.out.below (by repeat (first | exact Below.refl _ _ | apply bel_al | apply bel_drawn | apply Below.drew))
    rintro e w11 ⟨v11, rfl, h11, hb11⟩
    have B11 := Lib.hid (bel_trans (w := w10) (by repeat (first | exact Below.refl _ _ | apply bel_al | apply bel_drawn | apply Below.drew)) hb11)
    clear hb11
    replace FA := Lib.hid (FA.out.below B11.out)
    replace FB := Lib.hid (FB.out.below B11.out)
    replace FC := Lib.hid (FC.out.below B11.out)
    replace FG := Lib.hid (FG.out.below B11.out)
    replace BT := Lib.hid (bel_trans BT.out B11.out)
    have Fz := Lib.hid h11
    clear h11
    clear B11
    go_wp2_with fail
    refine Calls.mono (same_n _ _ (Nat.gcd (B) (A)) (Nat.gcd (A) (B)) 12 12 _ ?_ ?_ (Nat.gcd_comm _ _)) ?_
    · exact Fz.out.below (by repeat (first | exact Below.refl _ _ | apply bel_al | apply bel_drawn | apply Below.drew))
    · exact FG.out.below (by repeat (first | exact Below.refl _ _ | apply bel_al | apply bel_drawn | apply Below.drew))
    rintro e w12 ⟨rfl, hb12⟩
    have B12 := Lib.hid (bel_trans (w := w11) (by repeat (first | exact Below.refl _ _ | apply bel_al | apply bel_drawn | apply Below.drew)) hb12)
    clear hb12
    clear Fz
    replace FA := Lib.hid (FA.out.below B12.out)
    replace FB := Lib.hid (FB.out.below B12.out)
    replace FC := Lib.hid (FC.out.below B12.out)
    replace FG := Lib.hid (FG.out.below B12.out)
    replace BT := Lib.hid (bel_trans BT.out B12.out)
    clear B12
    go_wp2_with fail
    refine Calls.mono (awake_n _) ?_
    rintro e w13 ⟨rfl, hb13⟩
    have B13 := Lib.hid (bel_trans (w := w12) (by repeat (first | exact Below.refl _ _ | apply bel_al | apply bel_drawn | apply Below.drew)) hb13)
    clear hb13
    replace FA := Lib.hid (FA.out.below B13.out)
    replace FB := Lib.hid (FB.out.below B13.out)
    replace FC := Lib.hid (FC.out.below B13.out)
    replace FG := Lib.hid (FG.out.below B13.out)
    replace BT := Lib.hid (bel_trans BT.out B13.out)
    clear B13
    go_wp2_with fail
    go_ret
    exact ⟨rfl, bel_trans BT.out (by repeat (first | exact Below.refl _ _ | apply bel_al | apply bel_drawn | apply Below.drew))⟩

end Go.Proofs.Ytbofdldkiooegaa
