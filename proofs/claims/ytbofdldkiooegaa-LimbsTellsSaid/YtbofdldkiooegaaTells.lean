/- tripwire/tripwirelaw01.LimbsTells: the walk. -/
import Derived.Test.YtbofdldkiooegaaAwake
import Derived.Test.YtbofdldkiooegaaEdge
import Derived.Test.YtbofdldkiooegaaRDiv
namespace Go.Proofs.Ytbofdldkiooegaa
open Go Go.RowKit Tw
set_option linter.unusedVariables false
set_option linter.unusedSimpArgs false

theorem same_w (v1 v2 : Value) (l : List Nat) (w : World) (h1 : Wd w v1 l) (h2 : Wd w v2 l) :
    Calls Try.prog 17 #[v1, v2] w (RetIs w (.bool true)) := by
  refine (same_c v1 v2 _ w h1 h2).mono ?_
  rintro e w' ⟨rfl, n, rfl⟩
  exact ⟨rfl, bel_drewN _ _ _⟩
theorem copy_w (v : Value) (l : List Nat) (w : World) (h : Wd w v l) (hs : l.length ≤ 60000) :
    Calls Try.prog 31 #[v] w (Ret w fun v' w' => Wd w' v' l) := by
  refine (copyWords_c v l w h hs).mono ?_
  rintro e w' ⟨v', rfl, h4, h5⟩
  exact ⟨v', rfl, h4.ls, h5⟩

set_option maxRecDepth 100000 in
set_option maxHeartbeats 8000000 in
theorem limbsTells_n (a1 a2 : Option Addr) (c1 c2 : Nat) (l1 l2 : List Nat) (n : Int) (w : World) (h1 : WdS w a1 c1 l1) (h2 : WdS w a2 c2 l2) (hn : (Lit.int .i64 n).wf = true) :
    Calls Try.prog 8 #[.slice a1 l1.length c1, .slice a2 l2.length c2, .int .i64 n] w (RetIs w (.bool true)) := by
  have hb : -9223372036854775808 ≤ n ∧ n ≤ 9223372036854775807 := by
    simp [Lit.wf, IntKind.min, IntKind.max, IntKind.bits, IntKind.signed] at hn
    omega
  obtain ⟨nb1, nb2⟩ := hb
  clear hn
  by_cases q1 : l1.length ≤ 24
  case neg =>
    clear h1 h2
    go_enter Try.func8, Try.ntmps8
    go_wp2_with fail
    refine Calls.mono (awake_n _) ?_
    rintro e w1 ⟨rfl, hb1⟩
    have B1 := Lib.hid (bel_trans (w := w) (by repeat (first | exact Below.refl _ _ | apply bel_al | apply bel_drawn | apply Below.drew)) hb1)
    clear hb1
    have BT := B1
    go_wp2_with fail
    go_ret
    exact ⟨rfl, bel_trans BT.out (by repeat (first | exact Below.refl _ _ | apply bel_al | apply bel_drawn | apply Below.drew))⟩
  by_cases q2 : l2.length ≤ 24
  case neg =>
    clear h1 h2
    go_enter Try.func8, Try.ntmps8
    go_wp2_with fail
    refine Calls.mono (awake_n _) ?_
    rintro e w1 ⟨rfl, hb1⟩
    have B1 := Lib.hid (bel_trans (w := w) (by repeat (first | exact Below.refl _ _ | apply bel_al | apply bel_drawn | apply Below.drew)) hb1)
    clear hb1
    have BT := B1
    go_wp2_with fail
    go_ret
    exact ⟨rfl, bel_trans BT.out (by repeat (first | exact Below.refl _ _ | apply bel_al | apply bel_drawn | apply Below.drew))⟩
  by_cases q3 : 600 < n ∧ n ≤ 1048576
  case pos =>
    clear h1 h2
    obtain ⟨q3, q4⟩ := q3
    go_enter Try.func8, Try.ntmps8
    go_wp2_with fail
    refine Calls.mono (awake_n _) ?_
    rintro e w1 ⟨rfl, hb1⟩
    have B1 := Lib.hid (bel_trans (w := w) (by repeat (first | exact Below.refl _ _ | apply bel_al | apply bel_drawn | apply Below.drew)) hb1)
    clear hb1
    have BT := B1
    go_wp2_with fail
    go_ret
    exact ⟨rfl, bel_trans BT.out (by repeat (first | exact Below.refl _ _ | apply bel_al | apply bel_drawn | apply Below.drew))⟩
  obtain ⟨A, hA⟩ : ∃ A, A = val W l1 := ⟨_, rfl⟩
  obtain ⟨B, hB⟩ : ∃ B, B = val W l2 := ⟨_, rfl⟩
  have HA := Lib.hid hA; have HB := Lib.hid hB
  have Fa := Lib.hid (show Wd w (.slice a1 l1.length c1) l1 from ⟨a1, c1, rfl, h1⟩)
  have Fb := Lib.hid (show Wd w (.slice a2 l2.length c2) l2 from ⟨a2, c2, rfl, h2⟩)
  have FA := Lib.hid (show Nv w (.slice a1 l1.length c1) A 24 from ⟨l1, ⟨a1, c1, rfl, h1⟩, hA.symm, q1⟩)
  have FB := Lib.hid (show Nv w (.slice a2 l2.length c2) B 24 from ⟨l2, ⟨a2, c2, rfl, h2⟩, hB.symm, q2⟩)
  have HAL := Lib.hid FA.out.lt
  clear h1 h2 hA hB
  obtain ⟨cc, hcc⟩ : ∃ cc, cmpN A B = cc := ⟨_, rfl⟩
  obtain ⟨bb, hbb⟩ : ∃ bb, bitsN A = bb := ⟨_, rfl⟩
  have CC := Lib.hid hcc; have BBB := Lib.hid hbb
  clear hcc hbb
  by_cases q5 : n ≤ 600
  · go_enter Try.func8, Try.ntmps8
    go_wp2_with fail
    refine Calls.mono (copy_w _ l1 _ ?_ (by omega)) ?_
    · exact Fa.out.below (by repeat (first | exact Below.refl _ _ | apply bel_al | apply bel_drawn | apply Below.drew))
    rintro e w1 ⟨v1, rfl, h1, hb1⟩
    have B1 := Lib.hid (bel_trans (w := w) (by repeat (first | exact Below.refl _ _ | apply bel_al | apply bel_drawn | apply Below.drew)) hb1)
    clear hb1
    replace Fa := Lib.hid (Fa.out.below B1.out)
    replace Fb := Lib.hid (Fb.out.below B1.out)
    replace FA := Lib.hid (FA.out.below B1.out)
    replace FB := Lib.hid (FB.out.below B1.out)
    have BT := B1
    have Fxw := Lib.hid h1
    clear h1
    have Fx := Lib.hid (show Nv w1 _ A 24 from ⟨_, Fxw.out, HA.out.symm, q1⟩)
    go_wp2_with fail
    refine Calls.mono (copy_w _ l2 _ ?_ (by omega)) ?_
    · exact Fb.out.below (by repeat (first | exact Below.refl _ _ | apply bel_al | apply bel_drawn | apply Below.drew))
    rintro e w2 ⟨v2, rfl, h2, hb2⟩
    have B2 := Lib.hid (bel_trans (w := w1) (by repeat (first | exact Below.refl _ _ | apply bel_al | apply bel_drawn | apply Below.drew)) hb2)
    clear hb2
    replace Fa := Lib.hid (Fa.out.below B2.out)
    replace Fb := Lib.hid (Fb.out.below B2.out)
    replace FA := Lib.hid (FA.out.below B2.out)
    replace FB := Lib.hid (FB.out.below B2.out)
    replace Fxw := Lib.hid (Fxw.out.below B2.out)
    replace Fx := Lib.hid (Fx.out.below B2.out)
    replace BT := Lib.hid (bel_trans BT.out B2.out)
    have Fyw := Lib.hid h2
    clear h2
    clear B2
    have Fy := Lib.hid (show Nv w2 _ B 24 from ⟨_, Fyw.out, HB.out.symm, q2⟩)
    go_wp2_with fail
    refine Calls.mono (divmod_n _ _ (A) (B) 24 24 _ ?_ ?_ (by omega) (by omega)) ?_
    · exact Fx.out.below (by repeat (first | exact Below.refl _ _ | apply bel_al | apply bel_drawn | apply Below.drew))
    · exact Fy.out.below (by repeat (first | exact Below.refl _ _ | apply bel_al | apply bel_drawn | apply Below.drew))
    rintro e w3 ⟨v3, u3, rfl, ⟨h3, g3⟩, hb3⟩
    have B3 := Lib.hid (bel_trans (w := w2) (by repeat (first | exact Below.refl _ _ | apply bel_al | apply bel_drawn | apply Below.drew)) hb3)
    clear hb3
    replace Fa := Lib.hid (Fa.out.below B3.out)
    replace Fb := Lib.hid (Fb.out.below B3.out)
    replace FA := Lib.hid (FA.out.below B3.out)
    replace FB := Lib.hid (FB.out.below B3.out)
    replace Fxw := Lib.hid (Fxw.out.below B3.out)
    replace Fx := Lib.hid (Fx.out.below B3.out)
    replace Fyw := Lib.hid (Fyw.out.below B3.out)
    replace Fy := Lib.hid (Fy.out.below B3.out)
    replace BT := Lib.hid (bel_trans BT.out B3.out)
    have Fq := Lib.hid h3
    clear h3
    have Fr := Lib.hid g3
    clear g3
    clear B3
    go_wp2_with fail
    refine Calls.mono (rdivmod_n _ _ (A) (B) 24 24 _ ?_ ?_ (by omega) (by omega)) ?_
    · exact FA.out.below (by repeat (first | exact Below.refl _ _ | apply bel_al | apply bel_drawn | apply Below.drew))
    · exact FB.out.below (by repeat (first | exact Below.refl _ _ | apply bel_al | apply bel_drawn | apply Below.drew))
    rintro e w4 ⟨v4, u4, rfl, ⟨h4, g4⟩, hb4⟩
    have B4 := Lib.hid (bel_trans (w := w3) (by repeat (first | exact Below.refl _ _ | apply bel_al | apply bel_drawn | apply Below.drew)) hb4)
    clear hb4
    replace Fa := Lib.hid (Fa.out.below B4.out)
    replace Fb := Lib.hid (Fb.out.below B4.out)
    replace FA := Lib.hid (FA.out.below B4.out)
    replace FB := Lib.hid (FB.out.below B4.out)
    replace Fxw := Lib.hid (Fxw.out.below B4.out)
    replace Fx := Lib.hid (Fx.out.below B4.out)
    replace Fyw := Lib.hid (Fyw.out.below B4.out)
    replace Fy := Lib.hid (Fy.out.below B4.out)
    replace Fq := Lib.hid (Fq.out.below B4.out)
    replace Fr := Lib.hid (Fr.out.below B4.out)
    replace BT := Lib.hid (bel_trans BT.out B4.out)
    have Fu := Lib.hid h4
    clear h4
    have Fv := Lib.hid g4
    clear g4
    clear B4
    go_wp2_with fail
    refine Calls.mono (same_n _ _ ((A) / (B)) ((A) / (B)) 24 24 _ ?_ ?_ (rfl)) ?_
    · exact Fq.out.below (by repeat (first | exact Below.refl _ _ | apply bel_al | apply bel_drawn | apply Below.drew))
    · exact Fu.out.below (by repeat (first | exact Below.refl _ _ | apply bel_al | apply bel_drawn | apply Below.drew))
    rintro e w5 ⟨rfl, hb5⟩
    have B5 := Lib.hid (bel_trans (w := w4) (by repeat (first | exact Below.refl _ _ | apply bel_al | apply bel_drawn | apply Below.drew)) hb5)
    clear hb5
    clear Fq
    clear Fu
    replace Fa := Lib.hid (Fa.out.below B5.out)
    replace Fb := Lib.hid (Fb.out.below B5.out)
    replace FA := Lib.hid (FA.out.below B5.out)
    replace FB := Lib.hid (FB.out.below B5.out)
    replace Fxw := Lib.hid (Fxw.out.below B5.out)
    replace Fx := Lib.hid (Fx.out.below B5.out)
    replace Fyw := Lib.hid (Fyw.out.below B5.out)
    replace Fy := Lib.hid (Fy.out.below B5.out)
    replace Fr := Lib.hid (Fr.out.below B5.out)
    replace Fv := Lib.hid (Fv.out.below B5.out)
    replace BT := Lib.hid (bel_trans BT.out B5.out)
    clear B5
    go_wp2_with fail
    refine Calls.mono (same_n _ _ (remN (A) (B)) (remN (A) (B)) 24 24 _ ?_ ?_ (rfl)) ?_
    · exact Fr.out.below (by repeat (first | exact Below.refl _ _ | apply bel_al | apply bel_drawn | apply Below.drew))
    · exact Fv.out.below (by repeat (first | exact Below.refl _ _ | apply bel_al | apply bel_drawn | apply Below.drew))
    rintro e w6 ⟨rfl, hb6⟩
    have B6 := Lib.hid (bel_trans (w := w5) (by repeat (first | exact Below.refl _ _ | apply bel_al | apply bel_drawn | apply Below.drew)) hb6)
    clear hb6
    clear Fr
    clear Fv
    replace Fa := Lib.hid (Fa.out.below B6.out)
    replace Fb := Lib.hid (Fb.out.below B6.out)
    replace FA := Lib.hid (FA.out.below B6.out)
    replace FB := Lib.hid (FB.out.below B6.out)
    replace Fxw := Lib.hid (Fxw.out.below B6.out)
    replace Fx := Lib.hid (Fx.out.below B6.out)
    replace Fyw := Lib.hid (Fyw.out.below B6.out)
    replace Fy := Lib.hid (Fy.out.below B6.out)
    replace BT := Lib.hid (bel_trans BT.out B6.out)
    clear B6
    go_wp2_with fail
    refine Calls.mono (add_n _ _ (A) (B) 24 24 25 _ ?_ ?_ (by omega) (by omega) (by omega)) ?_
    · exact Fx.out.below (by repeat (first | exact Below.refl _ _ | apply bel_al | apply bel_drawn | apply Below.drew))
    · exact Fy.out.below (by repeat (first | exact Below.refl _ _ | apply bel_al | apply bel_drawn | apply Below.drew))
    rintro e w7 ⟨v7, rfl, h7, hb7⟩
    have B7 := Lib.hid (bel_trans (w := w6) (by repeat (first | exact Below.refl _ _ | apply bel_al | apply bel_drawn | apply Below.drew)) hb7)
    clear hb7
    replace Fa := Lib.hid (Fa.out.below B7.out)
    replace Fb := Lib.hid (Fb.out.below B7.out)
    replace FA := Lib.hid (FA.out.below B7.out)
    replace FB := Lib.hid (FB.out.below B7.out)
    replace Fxw := Lib.hid (Fxw.out.below B7.out)
    replace Fx := Lib.hid (Fx.out.below B7.out)
    replace Fyw := Lib.hid (Fyw.out.below B7.out)
    replace Fy := Lib.hid (Fy.out.below B7.out)
    replace BT := Lib.hid (bel_trans BT.out B7.out)
    have Fs := Lib.hid h7
    clear h7
    clear B7
    go_wp2_with fail
    refine Calls.mono (radd_n _ _ (A) (B) 24 24 25 _ ?_ ?_ (by omega) (by omega) (by omega)) ?_
    · exact FA.out.below (by repeat (first | exact Below.refl _ _ | apply bel_al | apply bel_drawn | apply Below.drew))
    · exact FB.out.below (by repeat (first | exact Below.refl _ _ | apply bel_al | apply bel_drawn | apply Below.drew))
    rintro e w8 ⟨v8, rfl, h8, hb8⟩
    have B8 := Lib.hid (bel_trans (w := w7) (by repeat (first | exact Below.refl _ _ | apply bel_al | apply bel_drawn | apply Below.drew)) hb8)
    clear hb8
    replace Fa := Lib.hid (Fa.out.below B8.out)
    replace Fb := Lib.hid (Fb.out.below B8.out)
    replace FA := Lib.hid (FA.out.below B8.out)
    replace FB := Lib.hid (FB.out.below B8.out)
    replace Fxw := Lib.hid (Fxw.out.below B8.out)
    replace Fx := Lib.hid (Fx.out.below B8.out)
    replace Fyw := Lib.hid (Fyw.out.below B8.out)
    replace Fy := Lib.hid (Fy.out.below B8.out)
    replace Fs := Lib.hid (Fs.out.below B8.out)
    replace BT := Lib.hid (bel_trans BT.out B8.out)
    have Ft := Lib.hid h8
    clear h8
    clear B8
    go_wp2_with fail
    refine Calls.mono (same_n _ _ ((A) + (B)) ((A) + (B)) 25 25 _ ?_ ?_ (rfl)) ?_
    · exact Fs.out.below (by repeat (first | exact Below.refl _ _ | apply bel_al | apply bel_drawn | apply Below.drew))
    · exact Ft.out.below (by repeat (first | exact Below.refl _ _ | apply bel_al | apply bel_drawn | apply Below.drew))
    rintro e w9 ⟨rfl, hb9⟩
    have B9 := Lib.hid (bel_trans (w := w8) (by repeat (first | exact Below.refl _ _ | apply bel_al | apply bel_drawn | apply Below.drew)) hb9)
    clear hb9
    clear Fs
    clear Ft
    replace Fa := Lib.hid (Fa.out.below B9.out)
    replace Fb := Lib.hid (Fb.out.below B9.out)
    replace FA := Lib.hid (FA.out.below B9.out)
    replace FB := Lib.hid (FB.out.below B9.out)
    replace Fxw := Lib.hid (Fxw.out.below B9.out)
    replace Fx := Lib.hid (Fx.out.below B9.out)
    replace Fyw := Lib.hid (Fyw.out.below B9.out)
    replace Fy := Lib.hid (Fy.out.below B9.out)
    replace BT := Lib.hid (bel_trans BT.out B9.out)
    clear B9
    go_wp2_with fail
    refine Calls.mono (sub_n _ _ (A) (B) 24 24 _ ?_ ?_ (by omega) (by omega)) ?_
    · exact Fx.out.below (by repeat (first | exact Below.refl _ _ | apply bel_al | apply bel_drawn | apply Below.drew))
    · exact Fy.out.below (by repeat (first | exact Below.refl _ _ | apply bel_al | apply bel_drawn | apply Below.drew))
    rintro e w10 ⟨v10, rfl, h10, hb10⟩
    have B10 := Lib.hid (bel_trans (w := w9) (by repeat (first | exact Below.refl _ _ | apply bel_al | apply bel_drawn | apply Below.drew)) hb10)
    clear hb10
    replace Fa := Lib.hid (Fa.out.below B10.out)
    replace Fb := Lib.hid (Fb.out.below B10.out)
    replace FA := Lib.hid (FA.out.below B10.out)
    replace FB := Lib.hid (FB.out.below B10.out)
    replace Fxw := Lib.hid (Fxw.out.below B10.out)
    replace Fx := Lib.hid (Fx.out.below B10.out)
    replace Fyw := Lib.hid (Fyw.out.below B10.out)
    replace Fy := Lib.hid (Fy.out.below B10.out)
    replace BT := Lib.hid (bel_trans BT.out B10.out)
    have Fs := Lib.hid h10
    clear h10
    clear B10
    go_wp2_with fail
    refine Calls.mono (rsub_n _ _ (A) (B) 24 24 _ ?_ ?_ (by omega) (by omega)) ?_
    · exact FA.out.below (by repeat (first | exact Below.refl _ _ | apply bel_al | apply bel_drawn | apply Below.drew))
    · exact FB.out.below (by repeat (first | exact Below.refl _ _ | apply bel_al | apply bel_drawn | apply Below.drew))
    rintro e w11 ⟨v11, rfl, h11, hb11⟩
    have B11 := Lib.hid (bel_trans (w := w10) (by repeat (first | exact Below.refl _ _ | apply bel_al | apply bel_drawn | apply Below.drew)) hb11)
    clear hb11
    replace Fa := Lib.hid (Fa.out.below B11.out)
    replace Fb := Lib.hid (Fb.out.below B11.out)
    replace FA := Lib.hid (FA.out.below B11.out)
    replace FB := Lib.hid (FB.out.below B11.out)
    replace Fxw := Lib.hid (Fxw.out.below B11.out)
    replace Fx := Lib.hid (Fx.out.below B11.out)
    replace Fyw := Lib.hid (Fyw.out.below B11.out)
    replace Fy := Lib.hid (Fy.out.below B11.out)
    replace Fs := Lib.hid (Fs.out.below B11.out)
    replace BT := Lib.hid (bel_trans BT.out B11.out)
    have Ft := Lib.hid h11
    clear h11
    clear B11
    go_wp2_with fail
    refine Calls.mono (same_n _ _ ((A) - (B)) ((A) - (B)) 24 24 _ ?_ ?_ (rfl)) ?_
    · exact Fs.out.below (by repeat (first | exact Below.refl _ _ | apply bel_al | apply bel_drawn | apply Below.drew))
    · exact Ft.out.below (by repeat (first | exact Below.refl _ _ | apply bel_al | apply bel_drawn | apply Below.drew))
    rintro e w12 ⟨rfl, hb12⟩
    have B12 := Lib.hid (bel_trans (w := w11) (by repeat (first | exact Below.refl _ _ | apply bel_al | apply bel_drawn | apply Below.drew)) hb12)
    clear hb12
    clear Fs
    clear Ft
    replace Fa := Lib.hid (Fa.out.below B12.out)
    replace Fb := Lib.hid (Fb.out.below B12.out)
    replace FA := Lib.hid (FA.out.below B12.out)
    replace FB := Lib.hid (FB.out.below B12.out)
    replace Fxw := Lib.hid (Fxw.out.below B12.out)
    replace Fx := Lib.hid (Fx.out.below B12.out)
    replace Fyw := Lib.hid (Fyw.out.below B12.out)
    replace Fy := Lib.hid (Fy.out.below B12.out)
    replace BT := Lib.hid (bel_trans BT.out B12.out)
    clear B12
    go_wp2_with fail
    refine Calls.mono (mul_n _ _ (A) (B) 24 24 _ ?_ ?_ (by omega) (by omega)) ?_
    · exact Fx.out.below (by repeat (first | exact Below.refl _ _ | apply bel_al | apply bel_drawn | apply Below.drew))
    · exact Fy.out.below (by repeat (first | exact Below.refl _ _ | apply bel_al | apply bel_drawn | apply Below.drew))
    rintro e w13 ⟨v13, rfl, h13, hb13⟩
    have B13 := Lib.hid (bel_trans (w := w12) (by repeat (first | exact Below.refl _ _ | apply bel_al | apply bel_drawn | apply Below.drew)) hb13)
    clear hb13
    replace Fa := Lib.hid (Fa.out.below B13.out)
    replace Fb := Lib.hid (Fb.out.below B13.out)
    replace FA := Lib.hid (FA.out.below B13.out)
    replace FB := Lib.hid (FB.out.below B13.out)
    replace Fxw := Lib.hid (Fxw.out.below B13.out)
    replace Fx := Lib.hid (Fx.out.below B13.out)
    replace Fyw := Lib.hid (Fyw.out.below B13.out)
    replace Fy := Lib.hid (Fy.out.below B13.out)
    replace BT := Lib.hid (bel_trans BT.out B13.out)
    have Fs := Lib.hid h13
    clear h13
    clear B13
    go_wp2_with fail
    refine Calls.mono (rmul_n _ _ (A) (B) 24 24 _ ?_ ?_ (by omega) (by omega)) ?_
    · exact FA.out.below (by repeat (first | exact Below.refl _ _ | apply bel_al | apply bel_drawn | apply Below.drew))
    · exact FB.out.below (by repeat (first | exact Below.refl _ _ | apply bel_al | apply bel_drawn | apply Below.drew))
    rintro e w14 ⟨v14, rfl, h14, hb14⟩
    have B14 := Lib.hid (bel_trans (w := w13) (by repeat (first | exact Below.refl _ _ | apply bel_al | apply bel_drawn | apply Below.drew)) hb14)
    clear hb14
    replace Fa := Lib.hid (Fa.out.below B14.out)
    replace Fb := Lib.hid (Fb.out.below B14.out)
    replace FA := Lib.hid (FA.out.below B14.out)
    replace FB := Lib.hid (FB.out.below B14.out)
    replace Fxw := Lib.hid (Fxw.out.below B14.out)
    replace Fx := Lib.hid (Fx.out.below B14.out)
    replace Fyw := Lib.hid (Fyw.out.below B14.out)
    replace Fy := Lib.hid (Fy.out.below B14.out)
    replace Fs := Lib.hid (Fs.out.below B14.out)
    replace BT := Lib.hid (bel_trans BT.out B14.out)
    have Ft := Lib.hid h14
    clear h14
    clear B14
    go_wp2_with fail
    refine Calls.mono (same_n _ _ ((A) * (B)) ((A) * (B)) 48 48 _ ?_ ?_ (rfl)) ?_
    · exact Fs.out.below (by repeat (first | exact Below.refl _ _ | apply bel_al | apply bel_drawn | apply Below.drew))
    · exact Ft.out.below (by repeat (first | exact Below.refl _ _ | apply bel_al | apply bel_drawn | apply Below.drew))
    rintro e w15 ⟨rfl, hb15⟩
    have B15 := Lib.hid (bel_trans (w := w14) (by repeat (first | exact Below.refl _ _ | apply bel_al | apply bel_drawn | apply Below.drew)) hb15)
    clear hb15
    clear Fs
    clear Ft
    replace Fa := Lib.hid (Fa.out.below B15.out)
    replace Fb := Lib.hid (Fb.out.below B15.out)
    replace FA := Lib.hid (FA.out.below B15.out)
    replace FB := Lib.hid (FB.out.below B15.out)
    replace Fxw := Lib.hid (Fxw.out.below B15.out)
    replace Fx := Lib.hid (Fx.out.below B15.out)
    replace Fyw := Lib.hid (Fyw.out.below B15.out)
    replace Fy := Lib.hid (Fy.out.below B15.out)
    replace BT := Lib.hid (bel_trans BT.out B15.out)
    clear B15
    go_wp2_with fail
    refine Calls.mono (cmp_v _ _ (A) (B) 24 24 cc _ ?_ ?_ (CC.out)) ?_
    · exact Fx.out.below (by repeat (first | exact Below.refl _ _ | apply bel_al | apply bel_drawn | apply Below.drew))
    · exact Fy.out.below (by repeat (first | exact Below.refl _ _ | apply bel_al | apply bel_drawn | apply Below.drew))
    rintro e w16 ⟨rfl, hb16⟩
    have B16 := Lib.hid (bel_trans (w := w15) (by repeat (first | exact Below.refl _ _ | apply bel_al | apply bel_drawn | apply Below.drew)) hb16)
    clear hb16
    replace Fa := Lib.hid (Fa.out.below B16.out)
    replace Fb := Lib.hid (Fb.out.below B16.out)
    replace FA := Lib.hid (FA.out.below B16.out)
    replace FB := Lib.hid (FB.out.below B16.out)
    replace Fxw := Lib.hid (Fxw.out.below B16.out)
    replace Fx := Lib.hid (Fx.out.below B16.out)
    replace Fyw := Lib.hid (Fyw.out.below B16.out)
    replace Fy := Lib.hid (Fy.out.below B16.out)
    replace BT := Lib.hid (bel_trans BT.out B16.out)
    clear B16
    go_wp2_with fail
    refine Calls.mono (rcmp_n _ _ (A) (B) 24 24 cc _ ?_ ?_ (by omega) (by omega) (CC.out)) ?_
    · exact FA.out.below (by repeat (first | exact Below.refl _ _ | apply bel_al | apply bel_drawn | apply Below.drew))
    · exact FB.out.below (by repeat (first | exact Below.refl _ _ | apply bel_al | apply bel_drawn | apply Below.drew))
    rintro e w17 ⟨rfl, hb17⟩
    have B17 := Lib.hid (bel_trans (w := w16) (by repeat (first | exact Below.refl _ _ | apply bel_al | apply bel_drawn | apply Below.drew)) hb17)
    clear hb17
    replace Fa := Lib.hid (Fa.out.below B17.out)
    replace Fb := Lib.hid (Fb.out.below B17.out)
    replace FA := Lib.hid (FA.out.below B17.out)
    replace FB := Lib.hid (FB.out.below B17.out)
    replace Fxw := Lib.hid (Fxw.out.below B17.out)
    replace Fx := Lib.hid (Fx.out.below B17.out)
    replace Fyw := Lib.hid (Fyw.out.below B17.out)
    replace Fy := Lib.hid (Fy.out.below B17.out)
    replace BT := Lib.hid (bel_trans BT.out B17.out)
    clear B17
    go_wp2_with fail
    refine Calls.mono (bits_v _ (A) 24 bb _ ?_ (by omega) (BBB.out)) ?_
    · exact Fx.out.below (by repeat (first | exact Below.refl _ _ | apply bel_al | apply bel_drawn | apply Below.drew))
    rintro e w18 ⟨rfl, hb18⟩
    have B18 := Lib.hid (bel_trans (w := w17) (by repeat (first | exact Below.refl _ _ | apply bel_al | apply bel_drawn | apply Below.drew)) hb18)
    clear hb18
    replace Fa := Lib.hid (Fa.out.below B18.out)
    replace Fb := Lib.hid (Fb.out.below B18.out)
    replace FA := Lib.hid (FA.out.below B18.out)
    replace FB := Lib.hid (FB.out.below B18.out)
    replace Fxw := Lib.hid (Fxw.out.below B18.out)
    replace Fx := Lib.hid (Fx.out.below B18.out)
    replace Fyw := Lib.hid (Fyw.out.below B18.out)
    replace Fy := Lib.hid (Fy.out.below B18.out)
    replace BT := Lib.hid (bel_trans BT.out B18.out)
    clear B18
    go_wp2_with fail
    refine Calls.mono (rbits_n _ (A) 24 bb _ ?_ (by omega) (BBB.out)) ?_
    · exact FA.out.below (by repeat (first | exact Below.refl _ _ | apply bel_al | apply bel_drawn | apply Below.drew))
    rintro e w19 ⟨rfl, hb19⟩
    have B19 := Lib.hid (bel_trans (w := w18) (by repeat (first | exact Below.refl _ _ | apply bel_al | apply bel_drawn | apply Below.drew)) hb19)
    clear hb19
    replace Fa := Lib.hid (Fa.out.below B19.out)
    replace Fb := Lib.hid (Fb.out.below B19.out)
    replace FA := Lib.hid (FA.out.below B19.out)
    replace FB := Lib.hid (FB.out.below B19.out)
    replace Fxw := Lib.hid (Fxw.out.below B19.out)
    replace Fx := Lib.hid (Fx.out.below B19.out)
    replace Fyw := Lib.hid (Fyw.out.below B19.out)
    replace Fy := Lib.hid (Fy.out.below B19.out)
    replace BT := Lib.hid (bel_trans BT.out B19.out)
    clear B19
    go_wp2_with fail
    refine Calls.mono (shl_in _ (A) 24 n 34 _ ?_ (by omega) (by omega)) ?_
    · exact Fx.out.below (by repeat (first | exact Below.refl _ _ | apply bel_al | apply bel_drawn | apply Below.drew))
    rintro e w20 ⟨v20, rfl, h20, hb20⟩
    have B20 := Lib.hid (bel_trans (w := w19) (by repeat (first | exact Below.refl _ _ | apply bel_al | apply bel_drawn | apply Below.drew)) hb20)
    clear hb20
    replace Fa := Lib.hid (Fa.out.below B20.out)
    replace Fb := Lib.hid (Fb.out.below B20.out)
    replace FA := Lib.hid (FA.out.below B20.out)
    replace FB := Lib.hid (FB.out.below B20.out)
    replace Fxw := Lib.hid (Fxw.out.below B20.out)
    replace Fx := Lib.hid (Fx.out.below B20.out)
    replace Fyw := Lib.hid (Fyw.out.below B20.out)
    replace Fy := Lib.hid (Fy.out.below B20.out)
    replace BT := Lib.hid (bel_trans BT.out B20.out)
    have Fs := Lib.hid h20
    clear h20
    clear B20
    go_wp2_with fail
    refine Calls.mono (rshl_n _ (A) 24 34 n _ ?_ (by omega) (by omega) (by omega) (by omega)) ?_
    · exact FA.out.below (by repeat (first | exact Below.refl _ _ | apply bel_al | apply bel_drawn | apply Below.drew))
    rintro e w21 ⟨v21, rfl, h21, hb21⟩
    have B21 := Lib.hid (bel_trans (w := w20) (by repeat (first | exact Below.refl _ _ | apply bel_al | apply bel_drawn | apply Below.drew)) hb21)
    clear hb21
    replace Fa := Lib.hid (Fa.out.below B21.out)
    replace Fb := Lib.hid (Fb.out.below B21.out)
    replace FA := Lib.hid (FA.out.below B21.out)
    replace FB := Lib.hid (FB.out.below B21.out)
    replace Fxw := Lib.hid (Fxw.out.below B21.out)
    replace Fx := Lib.hid (Fx.out.below B21.out)
    replace Fyw := Lib.hid (Fyw.out.below B21.out)
    replace Fy := Lib.hid (Fy.out.below B21.out)
    replace Fs := Lib.hid (Fs.out.below B21.out)
    replace BT := Lib.hid (bel_trans BT.out B21.out)
    have Ft := Lib.hid h21
    clear h21
    clear B21
    go_wp2_with fail
    refine Calls.mono (same_n _ _ (shlI (A) n) (shlI (A) n) 34 34 _ ?_ ?_ (rfl)) ?_
    · exact Fs.out.below (by repeat (first | exact Below.refl _ _ | apply bel_al | apply bel_drawn | apply Below.drew))
    · exact Ft.out.below (by repeat (first | exact Below.refl _ _ | apply bel_al | apply bel_drawn | apply Below.drew))
    rintro e w22 ⟨rfl, hb22⟩
    have B22 := Lib.hid (bel_trans (w := w21) (by repeat (first | exact Below.refl _ _ | apply bel_al | apply bel_drawn | apply Below.drew)) hb22)
    clear hb22
    clear Fs
    clear Ft
    replace Fa := Lib.hid (Fa.out.below B22.out)
    replace Fb := Lib.hid (Fb.out.below B22.out)
    replace FA := Lib.hid (FA.out.below B22.out)
    replace FB := Lib.hid (FB.out.below B22.out)
    replace Fxw := Lib.hid (Fxw.out.below B22.out)
    replace Fx := Lib.hid (Fx.out.below B22.out)
    replace Fyw := Lib.hid (Fyw.out.below B22.out)
    replace Fy := Lib.hid (Fy.out.below B22.out)
    replace BT := Lib.hid (bel_trans BT.out B22.out)
    clear B22
    go_wp2_with fail
    refine Calls.mono (shr_in _ (A) 24 n _ ?_ (by omega) (by omega)) ?_
    · exact Fx.out.below (by repeat (first | exact Below.refl _ _ | apply bel_al | apply bel_drawn | apply Below.drew))
    rintro e w23 ⟨v23, rfl, h23, hb23⟩
    have B23 := Lib.hid (bel_trans (w := w22) (by repeat (first | exact Below.refl _ _ | apply bel_al | apply bel_drawn | apply Below.drew)) hb23)
    clear hb23
    replace Fa := Lib.hid (Fa.out.below B23.out)
    replace Fb := Lib.hid (Fb.out.below B23.out)
    replace FA := Lib.hid (FA.out.below B23.out)
    replace FB := Lib.hid (FB.out.below B23.out)
    replace Fxw := Lib.hid (Fxw.out.below B23.out)
    replace Fx := Lib.hid (Fx.out.below B23.out)
    replace Fyw := Lib.hid (Fyw.out.below B23.out)
    replace Fy := Lib.hid (Fy.out.below B23.out)
    replace BT := Lib.hid (bel_trans BT.out B23.out)
    have Fs := Lib.hid h23
    clear h23
    clear B23
    go_wp2_with fail
    refine Calls.mono (rshr_n _ (A) 24 n _ ?_ (by omega) (by omega) (by omega)) ?_
    · exact FA.out.below (by repeat (first | exact Below.refl _ _ | apply bel_al | apply bel_drawn | apply Below.drew))
    rintro e w24 ⟨v24, rfl, h24, hb24⟩
    have B24 := Lib.hid (bel_trans (w := w23) (by repeat (first | exact Below.refl _ _ | apply bel_al | apply bel_drawn | apply Below.drew)) hb24)
    clear hb24
    replace Fa := Lib.hid (Fa.out.below B24.out)
    replace Fb := Lib.hid (Fb.out.below B24.out)
    replace FA := Lib.hid (FA.out.below B24.out)
    replace FB := Lib.hid (FB.out.below B24.out)
    replace Fxw := Lib.hid (Fxw.out.below B24.out)
    replace Fx := Lib.hid (Fx.out.below B24.out)
    replace Fyw := Lib.hid (Fyw.out.below B24.out)
    replace Fy := Lib.hid (Fy.out.below B24.out)
    replace Fs := Lib.hid (Fs.out.below B24.out)
    replace BT := Lib.hid (bel_trans BT.out B24.out)
    have Ft := Lib.hid h24
    clear h24
    clear B24
    go_wp2_with fail
    refine Calls.mono (same_n _ _ (shrI (A) n) (shrI (A) n) 24 24 _ ?_ ?_ (rfl)) ?_
    · exact Fs.out.below (by repeat (first | exact Below.refl _ _ | apply bel_al | apply bel_drawn | apply Below.drew))
    · exact Ft.out.below (by repeat (first | exact Below.refl _ _ | apply bel_al | apply bel_drawn | apply Below.drew))
    rintro e w25 ⟨rfl, hb25⟩
    have B25 := Lib.hid (bel_trans (w := w24) (by repeat (first | exact Below.refl _ _ | apply bel_al | apply bel_drawn | apply Below.drew)) hb25)
    clear hb25
    clear Fs
    clear Ft
    replace Fa := Lib.hid (Fa.out.below B25.out)
    replace Fb := Lib.hid (Fb.out.below B25.out)
    replace FA := Lib.hid (FA.out.below B25.out)
    replace FB := Lib.hid (FB.out.below B25.out)
    replace Fxw := Lib.hid (Fxw.out.below B25.out)
    replace Fx := Lib.hid (Fx.out.below B25.out)
    replace Fyw := Lib.hid (Fyw.out.below B25.out)
    replace Fy := Lib.hid (Fy.out.below B25.out)
    replace BT := Lib.hid (bel_trans BT.out B25.out)
    clear B25
    go_wp2_with fail
    refine Calls.mono (trim_n _ (A) 24 _ ?_ (by omega)) ?_
    · exact Fx.out.below (by repeat (first | exact Below.refl _ _ | apply bel_al | apply bel_drawn | apply Below.drew))
    rintro e w26 ⟨v26, rfl, h26, hb26⟩
    have B26 := Lib.hid (bel_trans (w := w25) (by repeat (first | exact Below.refl _ _ | apply bel_al | apply bel_drawn | apply Below.drew)) hb26)
    clear hb26
    replace Fa := Lib.hid (Fa.out.below B26.out)
    replace Fb := Lib.hid (Fb.out.below B26.out)
    replace FA := Lib.hid (FA.out.below B26.out)
    replace FB := Lib.hid (FB.out.below B26.out)
    replace Fxw := Lib.hid (Fxw.out.below B26.out)
    replace Fx := Lib.hid (Fx.out.below B26.out)
    replace Fyw := Lib.hid (Fyw.out.below B26.out)
    replace Fy := Lib.hid (Fy.out.below B26.out)
    replace BT := Lib.hid (bel_trans BT.out B26.out)
    have Fs := Lib.hid h26
    clear h26
    clear B26
    go_wp2_with fail
    refine Calls.mono (small_n _ (A) 24 _ ?_ (by omega)) ?_
    · exact FA.out.below (by repeat (first | exact Below.refl _ _ | apply bel_al | apply bel_drawn | apply Below.drew))
    rintro e w27 ⟨v27, rfl, h27, hb27⟩
    have B27 := Lib.hid (bel_trans (w := w26) (by repeat (first | exact Below.refl _ _ | apply bel_al | apply bel_drawn | apply Below.drew)) hb27)
    clear hb27
    replace Fa := Lib.hid (Fa.out.below B27.out)
    replace Fb := Lib.hid (Fb.out.below B27.out)
    replace FA := Lib.hid (FA.out.below B27.out)
    replace FB := Lib.hid (FB.out.below B27.out)
    replace Fxw := Lib.hid (Fxw.out.below B27.out)
    replace Fx := Lib.hid (Fx.out.below B27.out)
    replace Fyw := Lib.hid (Fyw.out.below B27.out)
    replace Fy := Lib.hid (Fy.out.below B27.out)
    replace Fs := Lib.hid (Fs.out.below B27.out)
    replace BT := Lib.hid (bel_trans BT.out B27.out)
    have Fd := Lib.hid h27
    clear h27
    clear B27
    go_wp2_with fail
    refine Calls.mono (large_n _ ((A)) 24 _ ?_ HAL.out (by omega)) ?_
    · exact Fd.out.below (by repeat (first | exact Below.refl _ _ | apply bel_al | apply bel_drawn | apply Below.drew))
    rintro e w28 ⟨v28, rfl, h28, hb28⟩
    have B28 := Lib.hid (bel_trans (w := w27) (by repeat (first | exact Below.refl _ _ | apply bel_al | apply bel_drawn | apply Below.drew)) hb28)
    clear hb28
    clear Fd
    replace Fa := Lib.hid (Fa.out.below B28.out)
    replace Fb := Lib.hid (Fb.out.below B28.out)
    replace FA := Lib.hid (FA.out.below B28.out)
    replace FB := Lib.hid (FB.out.below B28.out)
    replace Fxw := Lib.hid (Fxw.out.below B28.out)
    replace Fx := Lib.hid (Fx.out.below B28.out)
    replace Fyw := Lib.hid (Fyw.out.below B28.out)
    replace Fy := Lib.hid (Fy.out.below B28.out)
    replace Fs := Lib.hid (Fs.out.below B28.out)
    replace BT := Lib.hid (bel_trans BT.out B28.out)
    have Ft := Lib.hid h28
    clear h28
    clear B28
    go_wp2_with fail
    refine Calls.mono (same_n _ _ ((A)) (((A))) 24 24 _ ?_ ?_ (rfl)) ?_
    · exact Fs.out.below (by repeat (first | exact Below.refl _ _ | apply bel_al | apply bel_drawn | apply Below.drew))
    · exact Ft.out.below (by repeat (first | exact Below.refl _ _ | apply bel_al | apply bel_drawn | apply Below.drew))
    rintro e w29 ⟨rfl, hb29⟩
    have B29 := Lib.hid (bel_trans (w := w28) (by repeat (first | exact Below.refl _ _ | apply bel_al | apply bel_drawn | apply Below.drew)) hb29)
    clear hb29
    clear Fs
    clear Ft
    replace Fa := Lib.hid (Fa.out.below B29.out)
    replace Fb := Lib.hid (Fb.out.below B29.out)
    replace FA := Lib.hid (FA.out.below B29.out)
    replace FB := Lib.hid (FB.out.below B29.out)
    replace Fxw := Lib.hid (Fxw.out.below B29.out)
    replace Fx := Lib.hid (Fx.out.below B29.out)
    replace Fyw := Lib.hid (Fyw.out.below B29.out)
    replace Fy := Lib.hid (Fy.out.below B29.out)
    replace BT := Lib.hid (bel_trans BT.out B29.out)
    clear B29
    go_wp2_with fail
    refine Calls.mono (same_w _ _ l1 _ ?_ ?_) ?_
    · exact Fxw.out.below (by repeat (first | exact Below.refl _ _ | apply bel_al | apply bel_drawn | apply Below.drew))
    · exact Fa.out.below (by repeat (first | exact Below.refl _ _ | apply bel_al | apply bel_drawn | apply Below.drew))
    rintro e w30 ⟨rfl, hb30⟩
    have B30 := Lib.hid (bel_trans (w := w29) (by repeat (first | exact Below.refl _ _ | apply bel_al | apply bel_drawn | apply Below.drew)) hb30)
    clear hb30
    replace Fa := Lib.hid (Fa.out.below B30.out)
    replace Fb := Lib.hid (Fb.out.below B30.out)
    replace FA := Lib.hid (FA.out.below B30.out)
    replace FB := Lib.hid (FB.out.below B30.out)
    replace Fxw := Lib.hid (Fxw.out.below B30.out)
    replace Fx := Lib.hid (Fx.out.below B30.out)
    replace Fyw := Lib.hid (Fyw.out.below B30.out)
    replace Fy := Lib.hid (Fy.out.below B30.out)
    replace BT := Lib.hid (bel_trans BT.out B30.out)
    clear B30
    go_wp2_with fail
    refine Calls.mono (same_w _ _ l2 _ ?_ ?_) ?_
    · exact Fyw.out.below (by repeat (first | exact Below.refl _ _ | apply bel_al | apply bel_drawn | apply Below.drew))
    · exact Fb.out.below (by repeat (first | exact Below.refl _ _ | apply bel_al | apply bel_drawn | apply Below.drew))
    rintro e w31 ⟨rfl, hb31⟩
    have B31 := Lib.hid (bel_trans (w := w30) (by repeat (first | exact Below.refl _ _ | apply bel_al | apply bel_drawn | apply Below.drew)) hb31)
    clear hb31
    replace Fa := Lib.hid (Fa.out.below B31.out)
    replace Fb := Lib.hid (Fb.out.below B31.out)
    replace FA := Lib.hid (FA.out.below B31.out)
    replace FB := Lib.hid (FB.out.below B31.out)
    replace Fxw := Lib.hid (Fxw.out.below B31.out)
    replace Fx := Lib.hid (Fx.out.below B31.out)
    replace Fyw := Lib.hid (Fyw.out.below B31.out)
    replace Fy := Lib.hid (Fy.out.below B31.out)
    replace BT := Lib.hid (bel_trans BT.out B31.out)
    clear B31
    go_wp2_with fail
    refine Calls.mono (awake_n _) ?_
    rintro e w32 ⟨rfl, hb32⟩
    have B32 := Lib.hid (bel_trans (w := w31) (by repeat (first | exact Below.refl _ _ | apply bel_al | apply bel_drawn | apply Below.drew)) hb32)
    clear hb32
    replace Fa := Lib.hid (Fa.out.below B32.out)
    replace Fb := Lib.hid (Fb.out.below B32.out)
    replace FA := Lib.hid (FA.out.below B32.out)
    replace FB := Lib.hid (FB.out.below B32.out)
    replace Fxw := Lib.hid (Fxw.out.below B32.out)
    replace Fx := Lib.hid (Fx.out.below B32.out)
    replace Fyw := Lib.hid (Fyw.out.below B32.out)
    replace Fy := Lib.hid (Fy.out.below B32.out)
    replace BT := Lib.hid (bel_trans BT.out B32.out)
    clear B32
    go_wp2_with fail
    go_ret
    exact ⟨rfl, bel_trans BT.out (by repeat (first | exact Below.refl _ _ | apply bel_al | apply bel_drawn | apply Below.drew))⟩
  · have q6 : 1048576 < n := by omega
    clear q3
    go_enter Try.func8, Try.ntmps8
    go_wp2_with fail
    refine Calls.mono (copy_w _ l1 _ ?_ (by omega)) ?_
    · exact Fa.out.below (by repeat (first | exact Below.refl _ _ | apply bel_al | apply bel_drawn | apply Below.drew))
    rintro e w1 ⟨v1, rfl, h1, hb1⟩
    have B1 := Lib.hid (bel_trans (w := w) (by repeat (first | exact Below.refl _ _ | apply bel_al | apply bel_drawn | apply Below.drew)) hb1)
    clear hb1
    replace Fa := Lib.hid (Fa.out.below B1.out)
    replace Fb := Lib.hid (Fb.out.below B1.out)
    replace FA := Lib.hid (FA.out.below B1.out)
    replace FB := Lib.hid (FB.out.below B1.out)
    have BT := B1
    have Fxw := Lib.hid h1
    clear h1
    have Fx := Lib.hid (show Nv w1 _ A 24 from ⟨_, Fxw.out, HA.out.symm, q1⟩)
    go_wp2_with fail
    refine Calls.mono (copy_w _ l2 _ ?_ (by omega)) ?_
    · exact Fb.out.below (by repeat (first | exact Below.refl _ _ | apply bel_al | apply bel_drawn | apply Below.drew))
    rintro e w2 ⟨v2, rfl, h2, hb2⟩
    have B2 := Lib.hid (bel_trans (w := w1) (by repeat (first | exact Below.refl _ _ | apply bel_al | apply bel_drawn | apply Below.drew)) hb2)
    clear hb2
    replace Fa := Lib.hid (Fa.out.below B2.out)
    replace Fb := Lib.hid (Fb.out.below B2.out)
    replace FA := Lib.hid (FA.out.below B2.out)
    replace FB := Lib.hid (FB.out.below B2.out)
    replace Fxw := Lib.hid (Fxw.out.below B2.out)
    replace Fx := Lib.hid (Fx.out.below B2.out)
    replace BT := Lib.hid (bel_trans BT.out B2.out)
    have Fyw := Lib.hid h2
    clear h2
    clear B2
    have Fy := Lib.hid (show Nv w2 _ B 24 from ⟨_, Fyw.out, HB.out.symm, q2⟩)
    go_wp2_with fail
    refine Calls.mono (divmod_n _ _ (A) (B) 24 24 _ ?_ ?_ (by omega) (by omega)) ?_
    · exact Fx.out.below (by repeat (first | exact Below.refl _ _ | apply bel_al | apply bel_drawn | apply Below.drew))
    · exact Fy.out.below (by repeat (first | exact Below.refl _ _ | apply bel_al | apply bel_drawn | apply Below.drew))
    rintro e w3 ⟨v3, u3, rfl, ⟨h3, g3⟩, hb3⟩
    have B3 := Lib.hid (bel_trans (w := w2) (by repeat (first | exact Below.refl _ _ | apply bel_al | apply bel_drawn | apply Below.drew)) hb3)
    clear hb3
    replace Fa := Lib.hid (Fa.out.below B3.out)
    replace Fb := Lib.hid (Fb.out.below B3.out)
    replace FA := Lib.hid (FA.out.below B3.out)
    replace FB := Lib.hid (FB.out.below B3.out)
    replace Fxw := Lib.hid (Fxw.out.below B3.out)
    replace Fx := Lib.hid (Fx.out.below B3.out)
    replace Fyw := Lib.hid (Fyw.out.below B3.out)
    replace Fy := Lib.hid (Fy.out.below B3.out)
    replace BT := Lib.hid (bel_trans BT.out B3.out)
    have Fq := Lib.hid h3
    clear h3
    have Fr := Lib.hid g3
    clear g3
    clear B3
    go_wp2_with fail
    refine Calls.mono (rdivmod_n _ _ (A) (B) 24 24 _ ?_ ?_ (by omega) (by omega)) ?_
    · exact FA.out.below (by repeat (first | exact Below.refl _ _ | apply bel_al | apply bel_drawn | apply Below.drew))
    · exact FB.out.below (by repeat (first | exact Below.refl _ _ | apply bel_al | apply bel_drawn | apply Below.drew))
    rintro e w4 ⟨v4, u4, rfl, ⟨h4, g4⟩, hb4⟩
    have B4 := Lib.hid (bel_trans (w := w3) (by repeat (first | exact Below.refl _ _ | apply bel_al | apply bel_drawn | apply Below.drew)) hb4)
    clear hb4
    replace Fa := Lib.hid (Fa.out.below B4.out)
    replace Fb := Lib.hid (Fb.out.below B4.out)
    replace FA := Lib.hid (FA.out.below B4.out)
    replace FB := Lib.hid (FB.out.below B4.out)
    replace Fxw := Lib.hid (Fxw.out.below B4.out)
    replace Fx := Lib.hid (Fx.out.below B4.out)
    replace Fyw := Lib.hid (Fyw.out.below B4.out)
    replace Fy := Lib.hid (Fy.out.below B4.out)
    replace Fq := Lib.hid (Fq.out.below B4.out)
    replace Fr := Lib.hid (Fr.out.below B4.out)
    replace BT := Lib.hid (bel_trans BT.out B4.out)
    have Fu := Lib.hid h4
    clear h4
    have Fv := Lib.hid g4
    clear g4
    clear B4
    go_wp2_with fail
    refine Calls.mono (same_n _ _ ((A) / (B)) ((A) / (B)) 24 24 _ ?_ ?_ (rfl)) ?_
    · exact Fq.out.below (by repeat (first | exact Below.refl _ _ | apply bel_al | apply bel_drawn | apply Below.drew))
    · exact Fu.out.below (by repeat (first | exact Below.refl _ _ | apply bel_al | apply bel_drawn | apply Below.drew))
    rintro e w5 ⟨rfl, hb5⟩
    have B5 := Lib.hid (bel_trans (w := w4) (by repeat (first | exact Below.refl _ _ | apply bel_al | apply bel_drawn | apply Below.drew)) hb5)
    clear hb5
    clear Fq
    clear Fu
    replace Fa := Lib.hid (Fa.out.below B5.out)
    replace Fb := Lib.hid (Fb.out.below B5.out)
    replace FA := Lib.hid (FA.out.below B5.out)
    replace FB := Lib.hid (FB.out.below B5.out)
    replace Fxw := Lib.hid (Fxw.out.below B5.out)
    replace Fx := Lib.hid (Fx.out.below B5.out)
    replace Fyw := Lib.hid (Fyw.out.below B5.out)
    replace Fy := Lib.hid (Fy.out.below B5.out)
    replace Fr := Lib.hid (Fr.out.below B5.out)
    replace Fv := Lib.hid (Fv.out.below B5.out)
    replace BT := Lib.hid (bel_trans BT.out B5.out)
    clear B5
    go_wp2_with fail
    refine Calls.mono (same_n _ _ (remN (A) (B)) (remN (A) (B)) 24 24 _ ?_ ?_ (rfl)) ?_
    · exact Fr.out.below (by repeat (first | exact Below.refl _ _ | apply bel_al | apply bel_drawn | apply Below.drew))
    · exact Fv.out.below (by repeat (first | exact Below.refl _ _ | apply bel_al | apply bel_drawn | apply Below.drew))
    rintro e w6 ⟨rfl, hb6⟩
    have B6 := Lib.hid (bel_trans (w := w5) (by repeat (first | exact Below.refl _ _ | apply bel_al | apply bel_drawn | apply Below.drew)) hb6)
    clear hb6
    clear Fr
    clear Fv
    replace Fa := Lib.hid (Fa.out.below B6.out)
    replace Fb := Lib.hid (Fb.out.below B6.out)
    replace FA := Lib.hid (FA.out.below B6.out)
    replace FB := Lib.hid (FB.out.below B6.out)
    replace Fxw := Lib.hid (Fxw.out.below B6.out)
    replace Fx := Lib.hid (Fx.out.below B6.out)
    replace Fyw := Lib.hid (Fyw.out.below B6.out)
    replace Fy := Lib.hid (Fy.out.below B6.out)
    replace BT := Lib.hid (bel_trans BT.out B6.out)
    clear B6
    go_wp2_with fail
    refine Calls.mono (add_n _ _ (A) (B) 24 24 25 _ ?_ ?_ (by omega) (by omega) (by omega)) ?_
    · exact Fx.out.below (by repeat (first | exact Below.refl _ _ | apply bel_al | apply bel_drawn | apply Below.drew))
    · exact Fy.out.below (by repeat (first | exact Below.refl _ _ | apply bel_al | apply bel_drawn | apply Below.drew))
    rintro e w7 ⟨v7, rfl, h7, hb7⟩
    have B7 := Lib.hid (bel_trans (w := w6) (by repeat (first | exact Below.refl _ _ | apply bel_al | apply bel_drawn | apply Below.drew)) hb7)
    clear hb7
    replace Fa := Lib.hid (Fa.out.below B7.out)
    replace Fb := Lib.hid (Fb.out.below B7.out)
    replace FA := Lib.hid (FA.out.below B7.out)
    replace FB := Lib.hid (FB.out.below B7.out)
    replace Fxw := Lib.hid (Fxw.out.below B7.out)
    replace Fx := Lib.hid (Fx.out.below B7.out)
    replace Fyw := Lib.hid (Fyw.out.below B7.out)
    replace Fy := Lib.hid (Fy.out.below B7.out)
    replace BT := Lib.hid (bel_trans BT.out B7.out)
    have Fs := Lib.hid h7
    clear h7
    clear B7
    go_wp2_with fail
    refine Calls.mono (radd_n _ _ (A) (B) 24 24 25 _ ?_ ?_ (by omega) (by omega) (by omega)) ?_
    · exact FA.out.below (by repeat (first | exact Below.refl _ _ | apply bel_al | apply bel_drawn | apply Below.drew))
    · exact FB.out.below (by repeat (first | exact Below.refl _ _ | apply bel_al | apply bel_drawn | apply Below.drew))
    rintro e w8 ⟨v8, rfl, h8, hb8⟩
    have B8 := Lib.hid (bel_trans (w := w7) (by repeat (first | exact Below.refl _ _ | apply bel_al | apply bel_drawn | apply Below.drew)) hb8)
    clear hb8
    replace Fa := Lib.hid (Fa.out.below B8.out)
    replace Fb := Lib.hid (Fb.out.below B8.out)
    replace FA := Lib.hid (FA.out.below B8.out)
    replace FB := Lib.hid (FB.out.below B8.out)
    replace Fxw := Lib.hid (Fxw.out.below B8.out)
    replace Fx := Lib.hid (Fx.out.below B8.out)
    replace Fyw := Lib.hid (Fyw.out.below B8.out)
    replace Fy := Lib.hid (Fy.out.below B8.out)
    replace Fs := Lib.hid (Fs.out.below B8.out)
    replace BT := Lib.hid (bel_trans BT.out B8.out)
    have Ft := Lib.hid h8
    clear h8
    clear B8
    go_wp2_with fail
    refine Calls.mono (same_n _ _ ((A) + (B)) ((A) + (B)) 25 25 _ ?_ ?_ (rfl)) ?_
    · exact Fs.out.below (by repeat (first | exact Below.refl _ _ | apply bel_al | apply bel_drawn | apply Below.drew))
    · exact Ft.out.below (by repeat (first | exact Below.refl _ _ | apply bel_al | apply bel_drawn | apply Below.drew))
    rintro e w9 ⟨rfl, hb9⟩
    have B9 := Lib.hid (bel_trans (w := w8) (by repeat (first | exact Below.refl _ _ | apply bel_al | apply bel_drawn | apply Below.drew)) hb9)
    clear hb9
    clear Fs
    clear Ft
    replace Fa := Lib.hid (Fa.out.below B9.out)
    replace Fb := Lib.hid (Fb.out.below B9.out)
    replace FA := Lib.hid (FA.out.below B9.out)
    replace FB := Lib.hid (FB.out.below B9.out)
    replace Fxw := Lib.hid (Fxw.out.below B9.out)
    replace Fx := Lib.hid (Fx.out.below B9.out)
    replace Fyw := Lib.hid (Fyw.out.below B9.out)
    replace Fy := Lib.hid (Fy.out.below B9.out)
    replace BT := Lib.hid (bel_trans BT.out B9.out)
    clear B9
    go_wp2_with fail
    refine Calls.mono (sub_n _ _ (A) (B) 24 24 _ ?_ ?_ (by omega) (by omega)) ?_
    · exact Fx.out.below (by repeat (first | exact Below.refl _ _ | apply bel_al | apply bel_drawn | apply Below.drew))
    · exact Fy.out.below (by repeat (first | exact Below.refl _ _ | apply bel_al | apply bel_drawn | apply Below.drew))
    rintro e w10 ⟨v10, rfl, h10, hb10⟩
    have B10 := Lib.hid (bel_trans (w := w9) (by repeat (first | exact Below.refl _ _ | apply bel_al | apply bel_drawn | apply Below.drew)) hb10)
    clear hb10
    replace Fa := Lib.hid (Fa.out.below B10.out)
    replace Fb := Lib.hid (Fb.out.below B10.out)
    replace FA := Lib.hid (FA.out.below B10.out)
    replace FB := Lib.hid (FB.out.below B10.out)
    replace Fxw := Lib.hid (Fxw.out.below B10.out)
    replace Fx := Lib.hid (Fx.out.below B10.out)
    replace Fyw := Lib.hid (Fyw.out.below B10.out)
    replace Fy := Lib.hid (Fy.out.below B10.out)
    replace BT := Lib.hid (bel_trans BT.out B10.out)
    have Fs := Lib.hid h10
    clear h10
    clear B10
    go_wp2_with fail
    refine Calls.mono (rsub_n _ _ (A) (B) 24 24 _ ?_ ?_ (by omega) (by omega)) ?_
    · exact FA.out.below (by repeat (first | exact Below.refl _ _ | apply bel_al | apply bel_drawn | apply Below.drew))
    · exact FB.out.below (by repeat (first | exact Below.refl _ _ | apply bel_al | apply bel_drawn | apply Below.drew))
    rintro e w11 ⟨v11, rfl, h11, hb11⟩
    have B11 := Lib.hid (bel_trans (w := w10) (by repeat (first | exact Below.refl _ _ | apply bel_al | apply bel_drawn | apply Below.drew)) hb11)
    clear hb11
    replace Fa := Lib.hid (Fa.out.below B11.out)
    replace Fb := Lib.hid (Fb.out.below B11.out)
    replace FA := Lib.hid (FA.out.below B11.out)
    replace FB := Lib.hid (FB.out.below B11.out)
    replace Fxw := Lib.hid (Fxw.out.below B11.out)
    replace Fx := Lib.hid (Fx.out.below B11.out)
    replace Fyw := Lib.hid (Fyw.out.below B11.out)
    replace Fy := Lib.hid (Fy.out.below B11.out)
    replace Fs := Lib.hid (Fs.out.below B11.out)
    replace BT := Lib.hid (bel_trans BT.out B11.out)
    have Ft := Lib.hid h11
    clear h11
    clear B11
    go_wp2_with fail
    refine Calls.mono (same_n _ _ ((A) - (B)) ((A) - (B)) 24 24 _ ?_ ?_ (rfl)) ?_
    · exact Fs.out.below (by repeat (first | exact Below.refl _ _ | apply bel_al | apply bel_drawn | apply Below.drew))
    · exact Ft.out.below (by repeat (first | exact Below.refl _ _ | apply bel_al | apply bel_drawn | apply Below.drew))
    rintro e w12 ⟨rfl, hb12⟩
    have B12 := Lib.hid (bel_trans (w := w11) (by repeat (first | exact Below.refl _ _ | apply bel_al | apply bel_drawn | apply Below.drew)) hb12)
    clear hb12
    clear Fs
    clear Ft
    replace Fa := Lib.hid (Fa.out.below B12.out)
    replace Fb := Lib.hid (Fb.out.below B12.out)
    replace FA := Lib.hid (FA.out.below B12.out)
    replace FB := Lib.hid (FB.out.below B12.out)
    replace Fxw := Lib.hid (Fxw.out.below B12.out)
    replace Fx := Lib.hid (Fx.out.below B12.out)
    replace Fyw := Lib.hid (Fyw.out.below B12.out)
    replace Fy := Lib.hid (Fy.out.below B12.out)
    replace BT := Lib.hid (bel_trans BT.out B12.out)
    clear B12
    go_wp2_with fail
    refine Calls.mono (mul_n _ _ (A) (B) 24 24 _ ?_ ?_ (by omega) (by omega)) ?_
    · exact Fx.out.below (by repeat (first | exact Below.refl _ _ | apply bel_al | apply bel_drawn | apply Below.drew))
    · exact Fy.out.below (by repeat (first | exact Below.refl _ _ | apply bel_al | apply bel_drawn | apply Below.drew))
    rintro e w13 ⟨v13, rfl, h13, hb13⟩
    have B13 := Lib.hid (bel_trans (w := w12) (by repeat (first | exact Below.refl _ _ | apply bel_al | apply bel_drawn | apply Below.drew)) hb13)
    clear hb13
    replace Fa := Lib.hid (Fa.out.below B13.out)
    replace Fb := Lib.hid (Fb.out.below B13.out)
    replace FA := Lib.hid (FA.out.below B13.out)
    replace FB := Lib.hid (FB.out.below B13.out)
    replace Fxw := Lib.hid (Fxw.out.below B13.out)
    replace Fx := Lib.hid (Fx.out.below B13.out)
    replace Fyw := Lib.hid (Fyw.out.below B13.out)
    replace Fy := Lib.hid (Fy.out.below B13.out)
    replace BT := Lib.hid (bel_trans BT.out B13.out)
    have Fs := Lib.hid h13
    clear h13
    clear B13
    go_wp2_with fail
    refine Calls.mono (rmul_n _ _ (A) (B) 24 24 _ ?_ ?_ (by omega) (by omega)) ?_
    · exact FA.out.below (by repeat (first | exact Below.refl _ _ | apply bel_al | apply bel_drawn | apply Below.drew))
    · exact FB.out.below (by repeat (first | exact Below.refl _ _ | apply bel_al | apply bel_drawn | apply Below.drew))
    rintro e w14 ⟨v14, rfl, h14, hb14⟩
    have B14 := Lib.hid (bel_trans (w := w13) (by repeat (first | exact Below.refl _ _ | apply bel_al | apply bel_drawn | apply Below.drew)) hb14)
    clear hb14
    replace Fa := Lib.hid (Fa.out.below B14.out)
    replace Fb := Lib.hid (Fb.out.below B14.out)
    replace FA := Lib.hid (FA.out.below B14.out)
    replace FB := Lib.hid (FB.out.below B14.out)
    replace Fxw := Lib.hid (Fxw.out.below B14.out)
    replace Fx := Lib.hid (Fx.out.below B14.out)
    replace Fyw := Lib.hid (Fyw.out.below B14.out)
    replace Fy := Lib.hid (Fy.out.below B14.out)
    replace Fs := Lib.hid (Fs.out.below B14.out)
    replace BT := Lib.hid (bel_trans BT.out B14.out)
    have Ft := Lib.hid h14
    clear h14
    clear B14
    go_wp2_with fail
    refine Calls.mono (same_n _ _ ((A) * (B)) ((A) * (B)) 48 48 _ ?_ ?_ (rfl)) ?_
    · exact Fs.out.below (by repeat (first | exact Below.refl _ _ | apply bel_al | apply bel_drawn | apply Below.drew))
    · exact Ft.out.below (by repeat (first | exact Below.refl _ _ | apply bel_al | apply bel_drawn | apply Below.drew))
    rintro e w15 ⟨rfl, hb15⟩
    have B15 := Lib.hid (bel_trans (w := w14) (by repeat (first | exact Below.refl _ _ | apply bel_al | apply bel_drawn | apply Below.drew)) hb15)
    clear hb15
    clear Fs
    clear Ft
    replace Fa := Lib.hid (Fa.out.below B15.out)
    replace Fb := Lib.hid (Fb.out.below B15.out)
    replace FA := Lib.hid (FA.out.below B15.out)
    replace FB := Lib.hid (FB.out.below B15.out)
    replace Fxw := Lib.hid (Fxw.out.below B15.out)
    replace Fx := Lib.hid (Fx.out.below B15.out)
    replace Fyw := Lib.hid (Fyw.out.below B15.out)
    replace Fy := Lib.hid (Fy.out.below B15.out)
    replace BT := Lib.hid (bel_trans BT.out B15.out)
    clear B15
    go_wp2_with fail
    refine Calls.mono (cmp_v _ _ (A) (B) 24 24 cc _ ?_ ?_ (CC.out)) ?_
    · exact Fx.out.below (by repeat (first | exact Below.refl _ _ | apply bel_al | apply bel_drawn | apply Below.drew))
    · exact Fy.out.below (by repeat (first | exact Below.refl _ _ | apply bel_al | apply bel_drawn | apply Below.drew))
    rintro e w16 ⟨rfl, hb16⟩
    have B16 := Lib.hid (bel_trans (w := w15) (by repeat (first | exact Below.refl _ _ | apply bel_al | apply bel_drawn | apply Below.drew)) hb16)
    clear hb16
    replace Fa := Lib.hid (Fa.out.below B16.out)
    replace Fb := Lib.hid (Fb.out.below B16.out)
    replace FA := Lib.hid (FA.out.below B16.out)
    replace FB := Lib.hid (FB.out.below B16.out)
    replace Fxw := Lib.hid (Fxw.out.below B16.out)
    replace Fx := Lib.hid (Fx.out.below B16.out)
    replace Fyw := Lib.hid (Fyw.out.below B16.out)
    replace Fy := Lib.hid (Fy.out.below B16.out)
    replace BT := Lib.hid (bel_trans BT.out B16.out)
    clear B16
    go_wp2_with fail
    refine Calls.mono (rcmp_n _ _ (A) (B) 24 24 cc _ ?_ ?_ (by omega) (by omega) (CC.out)) ?_
    · exact FA.out.below (by repeat (first | exact Below.refl _ _ | apply bel_al | apply bel_drawn | apply Below.drew))
    · exact FB.out.below (by repeat (first | exact Below.refl _ _ | apply bel_al | apply bel_drawn | apply Below.drew))
    rintro e w17 ⟨rfl, hb17⟩
    have B17 := Lib.hid (bel_trans (w := w16) (by repeat (first | exact Below.refl _ _ | apply bel_al | apply bel_drawn | apply Below.drew)) hb17)
    clear hb17
    replace Fa := Lib.hid (Fa.out.below B17.out)
    replace Fb := Lib.hid (Fb.out.below B17.out)
    replace FA := Lib.hid (FA.out.below B17.out)
    replace FB := Lib.hid (FB.out.below B17.out)
    replace Fxw := Lib.hid (Fxw.out.below B17.out)
    replace Fx := Lib.hid (Fx.out.below B17.out)
    replace Fyw := Lib.hid (Fyw.out.below B17.out)
    replace Fy := Lib.hid (Fy.out.below B17.out)
    replace BT := Lib.hid (bel_trans BT.out B17.out)
    clear B17
    go_wp2_with fail
    refine Calls.mono (bits_v _ (A) 24 bb _ ?_ (by omega) (BBB.out)) ?_
    · exact Fx.out.below (by repeat (first | exact Below.refl _ _ | apply bel_al | apply bel_drawn | apply Below.drew))
    rintro e w18 ⟨rfl, hb18⟩
    have B18 := Lib.hid (bel_trans (w := w17) (by repeat (first | exact Below.refl _ _ | apply bel_al | apply bel_drawn | apply Below.drew)) hb18)
    clear hb18
    replace Fa := Lib.hid (Fa.out.below B18.out)
    replace Fb := Lib.hid (Fb.out.below B18.out)
    replace FA := Lib.hid (FA.out.below B18.out)
    replace FB := Lib.hid (FB.out.below B18.out)
    replace Fxw := Lib.hid (Fxw.out.below B18.out)
    replace Fx := Lib.hid (Fx.out.below B18.out)
    replace Fyw := Lib.hid (Fyw.out.below B18.out)
    replace Fy := Lib.hid (Fy.out.below B18.out)
    replace BT := Lib.hid (bel_trans BT.out B18.out)
    clear B18
    go_wp2_with fail
    refine Calls.mono (rbits_n _ (A) 24 bb _ ?_ (by omega) (BBB.out)) ?_
    · exact FA.out.below (by repeat (first | exact Below.refl _ _ | apply bel_al | apply bel_drawn | apply Below.drew))
    rintro e w19 ⟨rfl, hb19⟩
    have B19 := Lib.hid (bel_trans (w := w18) (by repeat (first | exact Below.refl _ _ | apply bel_al | apply bel_drawn | apply Below.drew)) hb19)
    clear hb19
    replace Fa := Lib.hid (Fa.out.below B19.out)
    replace Fb := Lib.hid (Fb.out.below B19.out)
    replace FA := Lib.hid (FA.out.below B19.out)
    replace FB := Lib.hid (FB.out.below B19.out)
    replace Fxw := Lib.hid (Fxw.out.below B19.out)
    replace Fx := Lib.hid (Fx.out.below B19.out)
    replace Fyw := Lib.hid (Fyw.out.below B19.out)
    replace Fy := Lib.hid (Fy.out.below B19.out)
    replace BT := Lib.hid (bel_trans BT.out B19.out)
    clear B19
    go_wp2_with fail
    refine Calls.mono (shl_in _ (A) 24 n 34 _ ?_ (by omega) (by omega)) ?_
    · exact Fx.out.below (by repeat (first | exact Below.refl _ _ | apply bel_al | apply bel_drawn | apply Below.drew))
    rintro e w20 ⟨v20, rfl, h20, hb20⟩
    have B20 := Lib.hid (bel_trans (w := w19) (by repeat (first | exact Below.refl _ _ | apply bel_al | apply bel_drawn | apply Below.drew)) hb20)
    clear hb20
    replace Fa := Lib.hid (Fa.out.below B20.out)
    replace Fb := Lib.hid (Fb.out.below B20.out)
    replace FA := Lib.hid (FA.out.below B20.out)
    replace FB := Lib.hid (FB.out.below B20.out)
    replace Fxw := Lib.hid (Fxw.out.below B20.out)
    replace Fx := Lib.hid (Fx.out.below B20.out)
    replace Fyw := Lib.hid (Fyw.out.below B20.out)
    replace Fy := Lib.hid (Fy.out.below B20.out)
    replace BT := Lib.hid (bel_trans BT.out B20.out)
    have Fs := Lib.hid h20
    clear h20
    clear B20
    go_wp2_with fail
    refine Calls.mono (rshl_n _ (A) 24 34 n _ ?_ (by omega) (by omega) (by omega) (by omega)) ?_
    · exact FA.out.below (by repeat (first | exact Below.refl _ _ | apply bel_al | apply bel_drawn | apply Below.drew))
    rintro e w21 ⟨v21, rfl, h21, hb21⟩
    have B21 := Lib.hid (bel_trans (w := w20) (by repeat (first | exact Below.refl _ _ | apply bel_al | apply bel_drawn | apply Below.drew)) hb21)
    clear hb21
    replace Fa := Lib.hid (Fa.out.below B21.out)
    replace Fb := Lib.hid (Fb.out.below B21.out)
    replace FA := Lib.hid (FA.out.below B21.out)
    replace FB := Lib.hid (FB.out.below B21.out)
    replace Fxw := Lib.hid (Fxw.out.below B21.out)
    replace Fx := Lib.hid (Fx.out.below B21.out)
    replace Fyw := Lib.hid (Fyw.out.below B21.out)
    replace Fy := Lib.hid (Fy.out.below B21.out)
    replace Fs := Lib.hid (Fs.out.below B21.out)
    replace BT := Lib.hid (bel_trans BT.out B21.out)
    have Ft := Lib.hid h21
    clear h21
    clear B21
    go_wp2_with fail
    refine Calls.mono (same_n _ _ (shlI (A) n) (shlI (A) n) 34 34 _ ?_ ?_ (rfl)) ?_
    · exact Fs.out.below (by repeat (first | exact Below.refl _ _ | apply bel_al | apply bel_drawn | apply Below.drew))
    · exact Ft.out.below (by repeat (first | exact Below.refl _ _ | apply bel_al | apply bel_drawn | apply Below.drew))
    rintro e w22 ⟨rfl, hb22⟩
    have B22 := Lib.hid (bel_trans (w := w21) (by repeat (first | exact Below.refl _ _ | apply bel_al | apply bel_drawn | apply Below.drew)) hb22)
    clear hb22
    clear Fs
    clear Ft
    replace Fa := Lib.hid (Fa.out.below B22.out)
    replace Fb := Lib.hid (Fb.out.below B22.out)
    replace FA := Lib.hid (FA.out.below B22.out)
    replace FB := Lib.hid (FB.out.below B22.out)
    replace Fxw := Lib.hid (Fxw.out.below B22.out)
    replace Fx := Lib.hid (Fx.out.below B22.out)
    replace Fyw := Lib.hid (Fyw.out.below B22.out)
    replace Fy := Lib.hid (Fy.out.below B22.out)
    replace BT := Lib.hid (bel_trans BT.out B22.out)
    clear B22
    go_wp2_with fail
    refine Calls.mono (shr_in _ (A) 24 n _ ?_ (by omega) (by omega)) ?_
    · exact Fx.out.below (by repeat (first | exact Below.refl _ _ | apply bel_al | apply bel_drawn | apply Below.drew))
    rintro e w23 ⟨v23, rfl, h23, hb23⟩
    have B23 := Lib.hid (bel_trans (w := w22) (by repeat (first | exact Below.refl _ _ | apply bel_al | apply bel_drawn | apply Below.drew)) hb23)
    clear hb23
    replace Fa := Lib.hid (Fa.out.below B23.out)
    replace Fb := Lib.hid (Fb.out.below B23.out)
    replace FA := Lib.hid (FA.out.below B23.out)
    replace FB := Lib.hid (FB.out.below B23.out)
    replace Fxw := Lib.hid (Fxw.out.below B23.out)
    replace Fx := Lib.hid (Fx.out.below B23.out)
    replace Fyw := Lib.hid (Fyw.out.below B23.out)
    replace Fy := Lib.hid (Fy.out.below B23.out)
    replace BT := Lib.hid (bel_trans BT.out B23.out)
    have Fs := Lib.hid h23
    clear h23
    clear B23
    go_wp2_with fail
    refine Calls.mono (rshr_n _ (A) 24 n _ ?_ (by omega) (by omega) (by omega)) ?_
    · exact FA.out.below (by repeat (first | exact Below.refl _ _ | apply bel_al | apply bel_drawn | apply Below.drew))
    rintro e w24 ⟨v24, rfl, h24, hb24⟩
    have B24 := Lib.hid (bel_trans (w := w23) (by repeat (first | exact Below.refl _ _ | apply bel_al | apply bel_drawn | apply Below.drew)) hb24)
    clear hb24
    replace Fa := Lib.hid (Fa.out.below B24.out)
    replace Fb := Lib.hid (Fb.out.below B24.out)
    replace FA := Lib.hid (FA.out.below B24.out)
    replace FB := Lib.hid (FB.out.below B24.out)
    replace Fxw := Lib.hid (Fxw.out.below B24.out)
    replace Fx := Lib.hid (Fx.out.below B24.out)
    replace Fyw := Lib.hid (Fyw.out.below B24.out)
    replace Fy := Lib.hid (Fy.out.below B24.out)
    replace Fs := Lib.hid (Fs.out.below B24.out)
    replace BT := Lib.hid (bel_trans BT.out B24.out)
    have Ft := Lib.hid h24
    clear h24
    clear B24
    go_wp2_with fail
    refine Calls.mono (same_n _ _ (shrI (A) n) (shrI (A) n) 24 24 _ ?_ ?_ (rfl)) ?_
    · exact Fs.out.below (by repeat (first | exact Below.refl _ _ | apply bel_al | apply bel_drawn | apply Below.drew))
    · exact Ft.out.below (by repeat (first | exact Below.refl _ _ | apply bel_al | apply bel_drawn | apply Below.drew))
    rintro e w25 ⟨rfl, hb25⟩
    have B25 := Lib.hid (bel_trans (w := w24) (by repeat (first | exact Below.refl _ _ | apply bel_al | apply bel_drawn | apply Below.drew)) hb25)
    clear hb25
    clear Fs
    clear Ft
    replace Fa := Lib.hid (Fa.out.below B25.out)
    replace Fb := Lib.hid (Fb.out.below B25.out)
    replace FA := Lib.hid (FA.out.below B25.out)
    replace FB := Lib.hid (FB.out.below B25.out)
    replace Fxw := Lib.hid (Fxw.out.below B25.out)
    replace Fx := Lib.hid (Fx.out.below B25.out)
    replace Fyw := Lib.hid (Fyw.out.below B25.out)
    replace Fy := Lib.hid (Fy.out.below B25.out)
    replace BT := Lib.hid (bel_trans BT.out B25.out)
    clear B25
    go_wp2_with fail
    refine Calls.mono (trim_n _ (A) 24 _ ?_ (by omega)) ?_
    · exact Fx.out.below (by repeat (first | exact Below.refl _ _ | apply bel_al | apply bel_drawn | apply Below.drew))
    rintro e w26 ⟨v26, rfl, h26, hb26⟩
    have B26 := Lib.hid (bel_trans (w := w25) (by repeat (first | exact Below.refl _ _ | apply bel_al | apply bel_drawn | apply Below.drew)) hb26)
    clear hb26
    replace Fa := Lib.hid (Fa.out.below B26.out)
    replace Fb := Lib.hid (Fb.out.below B26.out)
    replace FA := Lib.hid (FA.out.below B26.out)
    replace FB := Lib.hid (FB.out.below B26.out)
    replace Fxw := Lib.hid (Fxw.out.below B26.out)
    replace Fx := Lib.hid (Fx.out.below B26.out)
    replace Fyw := Lib.hid (Fyw.out.below B26.out)
    replace Fy := Lib.hid (Fy.out.below B26.out)
    replace BT := Lib.hid (bel_trans BT.out B26.out)
    have Fs := Lib.hid h26
    clear h26
    clear B26
    go_wp2_with fail
    refine Calls.mono (small_n _ (A) 24 _ ?_ (by omega)) ?_
    · exact FA.out.below (by repeat (first | exact Below.refl _ _ | apply bel_al | apply bel_drawn | apply Below.drew))
    rintro e w27 ⟨v27, rfl, h27, hb27⟩
    have B27 := Lib.hid (bel_trans (w := w26) (by repeat (first | exact Below.refl _ _ | apply bel_al | apply bel_drawn | apply Below.drew)) hb27)
    clear hb27
    replace Fa := Lib.hid (Fa.out.below B27.out)
    replace Fb := Lib.hid (Fb.out.below B27.out)
    replace FA := Lib.hid (FA.out.below B27.out)
    replace FB := Lib.hid (FB.out.below B27.out)
    replace Fxw := Lib.hid (Fxw.out.below B27.out)
    replace Fx := Lib.hid (Fx.out.below B27.out)
    replace Fyw := Lib.hid (Fyw.out.below B27.out)
    replace Fy := Lib.hid (Fy.out.below B27.out)
    replace Fs := Lib.hid (Fs.out.below B27.out)
    replace BT := Lib.hid (bel_trans BT.out B27.out)
    have Fd := Lib.hid h27
    clear h27
    clear B27
    go_wp2_with fail
    refine Calls.mono (large_n _ ((A)) 24 _ ?_ HAL.out (by omega)) ?_
    · exact Fd.out.below (by repeat (first | exact Below.refl _ _ | apply bel_al | apply bel_drawn | apply Below.drew))
    rintro e w28 ⟨v28, rfl, h28, hb28⟩
    have B28 := Lib.hid (bel_trans (w := w27) (by repeat (first | exact Below.refl _ _ | apply bel_al | apply bel_drawn | apply Below.drew)) hb28)
    clear hb28
    clear Fd
    replace Fa := Lib.hid (Fa.out.below B28.out)
    replace Fb := Lib.hid (Fb.out.below B28.out)
    replace FA := Lib.hid (FA.out.below B28.out)
    replace FB := Lib.hid (FB.out.below B28.out)
    replace Fxw := Lib.hid (Fxw.out.below B28.out)
    replace Fx := Lib.hid (Fx.out.below B28.out)
    replace Fyw := Lib.hid (Fyw.out.below B28.out)
    replace Fy := Lib.hid (Fy.out.below B28.out)
    replace Fs := Lib.hid (Fs.out.below B28.out)
    replace BT := Lib.hid (bel_trans BT.out B28.out)
    have Ft := Lib.hid h28
    clear h28
    clear B28
    go_wp2_with fail
    refine Calls.mono (same_n _ _ ((A)) (((A))) 24 24 _ ?_ ?_ (rfl)) ?_
    · exact Fs.out.below (by repeat (first | exact Below.refl _ _ | apply bel_al | apply bel_drawn | apply Below.drew))
    · exact Ft.out.below (by repeat (first | exact Below.refl _ _ | apply bel_al | apply bel_drawn | apply Below.drew))
    rintro e w29 ⟨rfl, hb29⟩
    have B29 := Lib.hid (bel_trans (w := w28) (by repeat (first | exact Below.refl _ _ | apply bel_al | apply bel_drawn | apply Below.drew)) hb29)
    clear hb29
    clear Fs
    clear Ft
    replace Fa := Lib.hid (Fa.out.below B29.out)
    replace Fb := Lib.hid (Fb.out.below B29.out)
    replace FA := Lib.hid (FA.out.below B29.out)
    replace FB := Lib.hid (FB.out.below B29.out)
    replace Fxw := Lib.hid (Fxw.out.below B29.out)
    replace Fx := Lib.hid (Fx.out.below B29.out)
    replace Fyw := Lib.hid (Fyw.out.below B29.out)
    replace Fy := Lib.hid (Fy.out.below B29.out)
    replace BT := Lib.hid (bel_trans BT.out B29.out)
    clear B29
    go_wp2_with fail
    refine Calls.mono (same_w _ _ l1 _ ?_ ?_) ?_
    · exact Fxw.out.below (by repeat (first | exact Below.refl _ _ | apply bel_al | apply bel_drawn | apply Below.drew))
    · exact Fa.out.below (by repeat (first | exact Below.refl _ _ | apply bel_al | apply bel_drawn | apply Below.drew))
    rintro e w30 ⟨rfl, hb30⟩
    have B30 := Lib.hid (bel_trans (w := w29) (by repeat (first | exact Below.refl _ _ | apply bel_al | apply bel_drawn | apply Below.drew)) hb30)
    clear hb30
    replace Fa := Lib.hid (Fa.out.below B30.out)
    replace Fb := Lib.hid (Fb.out.below B30.out)
    replace FA := Lib.hid (FA.out.below B30.out)
    replace FB := Lib.hid (FB.out.below B30.out)
    replace Fxw := Lib.hid (Fxw.out.below B30.out)
    replace Fx := Lib.hid (Fx.out.below B30.out)
    replace Fyw := Lib.hid (Fyw.out.below B30.out)
    replace Fy := Lib.hid (Fy.out.below B30.out)
    replace BT := Lib.hid (bel_trans BT.out B30.out)
    clear B30
    go_wp2_with fail
    refine Calls.mono (same_w _ _ l2 _ ?_ ?_) ?_
    · exact Fyw.out.below (by repeat (first | exact Below.refl _ _ | apply bel_al | apply bel_drawn | apply Below.drew))
    · exact Fb.out.below (by repeat (first | exact Below.refl _ _ | apply bel_al | apply bel_drawn | apply Below.drew))
    rintro e w31 ⟨rfl, hb31⟩
    have B31 := Lib.hid (bel_trans (w := w30) (by repeat (first | exact Below.refl _ _ | apply bel_al | apply bel_drawn | apply Below.drew)) hb31)
    clear hb31
    replace Fa := Lib.hid (Fa.out.below B31.out)
    replace Fb := Lib.hid (Fb.out.below B31.out)
    replace FA := Lib.hid (FA.out.below B31.out)
    replace FB := Lib.hid (FB.out.below B31.out)
    replace Fxw := Lib.hid (Fxw.out.below B31.out)
    replace Fx := Lib.hid (Fx.out.below B31.out)
    replace Fyw := Lib.hid (Fyw.out.below B31.out)
    replace Fy := Lib.hid (Fy.out.below B31.out)
    replace BT := Lib.hid (bel_trans BT.out B31.out)
    clear B31
    go_wp2_with fail
    refine Calls.mono (awake_n _) ?_
    rintro e w32 ⟨rfl, hb32⟩
    have B32 := Lib.hid (bel_trans (w := w31) (by repeat (first | exact Below.refl _ _ | apply bel_al | apply bel_drawn | apply Below.drew)) hb32)
    clear hb32
    replace Fa := Lib.hid (Fa.out.below B32.out)
    replace Fb := Lib.hid (Fb.out.below B32.out)
    replace FA := Lib.hid (FA.out.below B32.out)
    replace FB := Lib.hid (FB.out.below B32.out)
    replace Fxw := Lib.hid (Fxw.out.below B32.out)
    replace Fx := Lib.hid (Fx.out.below B32.out)
    replace Fyw := Lib.hid (Fyw.out.below B32.out)
    replace Fy := Lib.hid (Fy.out.below B32.out)
    replace BT := Lib.hid (bel_trans BT.out B32.out)
    clear B32
    go_wp2_with fail
    go_ret
    exact ⟨rfl, bel_trans BT.out (by repeat (first | exact Below.refl _ _ | apply bel_al | apply bel_drawn | apply Below.drew))⟩

end Go.Proofs.Ytbofdldkiooegaa
