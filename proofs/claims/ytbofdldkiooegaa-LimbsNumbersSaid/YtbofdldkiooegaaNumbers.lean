/- tripwire/tripwirelaw01.LimbsNumbers: the walk. -/
import Derived.Test.YtbofdldkiooegaaAwake
import Derived.Test.YtbofdldkiooegaaEdge
namespace Go.Proofs.Ytbofdldkiooegaa
open Go Go.RowKit Tw
set_option linter.unusedVariables false
set_option linter.unusedSimpArgs false

set_option maxRecDepth 100000 in
set_option maxHeartbeats 8000000 in
theorem limbsNumbers_n (w : World) : Calls Try.prog 7 #[] w (RetIs w (.bool true)) := by
  go_enter Try.func7, Try.ntmps7
  go_wp2_with fail
  refine Calls.mono (trim_n _ (val W [1, 0, 0]) 3 _ ?_ (by omega)) ?_
  · exact lit_nv (e := 29) [1, 0, 0] _ (by simp [heap_al, heap_dn, Array.getElem?_push, Array.getElem_push, enc]) rfl (by omega) (by decide +kernel) rfl
  rintro e w1 ⟨v1, rfl, h1, hb1⟩
  have B1 := Lib.hid (bel_trans (w := w) (by repeat (first | exact Below.refl _ _ | apply bel_al | apply bel_drawn | apply Below.drew)) hb1)
  clear hb1
  have BT := B1
  have Fx := Lib.hid h1
  clear h1
  go_wp2_with fail
  refine Calls.mono (is_n _ _ ((val W [1, 0, 0])) (val W [1]) 3 1 _ ?_ ?_ (by decide +kernel)) ?_
  · exact Fx.out.below (by repeat (first | exact Below.refl _ _ | apply bel_al | apply bel_drawn | apply Below.drew))
  · exact lit_nc (e := 29) [1] _ (by simp [heap_al, heap_dn, Array.getElem?_push, Array.getElem_push, enc]) rfl (by omega) (by decide +kernel) (by decide +kernel) rfl
  rintro e w2 ⟨rfl, hb2⟩
  have B2 := Lib.hid (bel_trans (w := w1) (by repeat (first | exact Below.refl _ _ | apply bel_al | apply bel_drawn | apply Below.drew)) hb2)
  clear hb2
  clear Fx
  replace BT := Lib.hid (bel_trans BT.out B2.out)
  clear B2
  go_wp2_with fail
  refine Calls.mono (trim_n _ (val W [0]) 1 _ ?_ (by omega)) ?_
  · exact lit_nv (e := 29) [0] _ (by simp [heap_al, heap_dn, Array.getElem?_push, Array.getElem_push, enc]) rfl (by omega) (by decide +kernel) rfl
  rintro e w3 ⟨v3, rfl, h3, hb3⟩
  have B3 := Lib.hid (bel_trans (w := w2) (by repeat (first | exact Below.refl _ _ | apply bel_al | apply bel_drawn | apply Below.drew)) hb3)
  clear hb3
  replace BT := Lib.hid (bel_trans BT.out B3.out)
  have Fx := Lib.hid h3
  clear h3
  clear B3
  go_wp2_with fail
  refine Calls.mono (is_n _ _ ((val W [0])) 0 1 0 _ ?_ ?_ (by decide +kernel)) ?_
  · exact Fx.out.below (by repeat (first | exact Below.refl _ _ | apply bel_al | apply bel_drawn | apply Below.drew))
  · exact nil_nc _
  rintro e w4 ⟨rfl, hb4⟩
  have B4 := Lib.hid (bel_trans (w := w3) (by repeat (first | exact Below.refl _ _ | apply bel_al | apply bel_drawn | apply Below.drew)) hb4)
  clear hb4
  clear Fx
  replace BT := Lib.hid (bel_trans BT.out B4.out)
  clear B4
  go_wp2_with fail
  refine Calls.mono (cmp_v _ _ (val W [5, 0]) (val W [5]) 2 1 0 _ ?_ ?_ (by decide +kernel)) ?_
  · exact lit_nv (e := 29) [5, 0] _ (by simp [heap_al, heap_dn, Array.getElem?_push, Array.getElem_push, enc]) rfl (by omega) (by decide +kernel) rfl
  · exact lit_nv (e := 29) [5] _ (by simp [heap_al, heap_dn, Array.getElem?_push, Array.getElem_push, enc]) rfl (by omega) (by decide +kernel) rfl
  rintro e w5 ⟨rfl, hb5⟩
  have B5 := Lib.hid (bel_trans (w := w4) (by repeat (first | exact Below.refl _ _ | apply bel_al | apply bel_drawn | apply Below.drew)) hb5)
  clear hb5
  replace BT := Lib.hid (bel_trans BT.out B5.out)
  clear B5
  go_wp2_with fail
  refine Calls.mono (cmp_v _ _ (val W [0, 1]) (val W [18446744073709551615]) 2 1 1 _ ?_ ?_ (by decide +kernel)) ?_
  · exact lit_nv (e := 29) [0, 1] _ (by simp [heap_al, heap_dn, Array.getElem?_push, Array.getElem_push, enc]) rfl (by omega) (by decide +kernel) rfl
  · exact lit_nv (e := 29) [18446744073709551615] _ (by simp [heap_al, heap_dn, Array.getElem?_push, Array.getElem_push, enc]) rfl (by omega) (by decide +kernel) rfl
  rintro e w6 ⟨rfl, hb6⟩
  have B6 := Lib.hid (bel_trans (w := w5) (by repeat (first | exact Below.refl _ _ | apply bel_al | apply bel_drawn | apply Below.drew)) hb6)
  clear hb6
  replace BT := Lib.hid (bel_trans BT.out B6.out)
  clear B6
  go_wp2_with fail
  refine Calls.mono (cmp_v _ _ 0 (val W [1]) 0 1 (-1) _ ?_ ?_ (by decide +kernel)) ?_
  · exact nil_nv _
  · exact lit_nv (e := 29) [1] _ (by simp [heap_al, heap_dn, Array.getElem?_push, Array.getElem_push, enc]) rfl (by omega) (by decide +kernel) rfl
  rintro e w7 ⟨rfl, hb7⟩
  have B7 := Lib.hid (bel_trans (w := w6) (by repeat (first | exact Below.refl _ _ | apply bel_al | apply bel_drawn | apply Below.drew)) hb7)
  clear hb7
  replace BT := Lib.hid (bel_trans BT.out B7.out)
  clear B7
  go_wp2_with fail
  refine Calls.mono (sub_n _ _ (val W [1]) (val W [2]) 1 1 _ ?_ ?_ (by omega) (by omega)) ?_
  · exact lit_nv (e := 29) [1] _ (by simp [heap_al, heap_dn, Array.getElem?_push, Array.getElem_push, enc]) rfl (by omega) (by decide +kernel) rfl
  · exact lit_nv (e := 29) [2] _ (by simp [heap_al, heap_dn, Array.getElem?_push, Array.getElem_push, enc]) rfl (by omega) (by decide +kernel) rfl
  rintro e w8 ⟨v8, rfl, h8, hb8⟩
  have B8 := Lib.hid (bel_trans (w := w7) (by repeat (first | exact Below.refl _ _ | apply bel_al | apply bel_drawn | apply Below.drew)) hb8)
  clear hb8
  replace BT := Lib.hid (bel_trans BT.out B8.out)
  have Fx := Lib.hid h8
  clear h8
  clear B8
  go_wp2_with fail
  refine Calls.mono (is_n _ _ ((val W [1]) - (val W [2])) 0 1 0 _ ?_ ?_ (by decide +kernel)) ?_
  · exact Fx.out.below (by repeat (first | exact Below.refl _ _ | apply bel_al | apply bel_drawn | apply Below.drew))
  · exact nil_nc _
  rintro e w9 ⟨rfl, hb9⟩
  have B9 := Lib.hid (bel_trans (w := w8) (by repeat (first | exact Below.refl _ _ | apply bel_al | apply bel_drawn | apply Below.drew)) hb9)
  clear hb9
  clear Fx
  replace BT := Lib.hid (bel_trans BT.out B9.out)
  clear B9
  go_wp2_with fail
  refine Calls.mono (sub_n _ _ (val W [0, 1]) (val W [1, 0]) 2 2 _ ?_ ?_ (by omega) (by omega)) ?_
  · exact lit_nv (e := 29) [0, 1] _ (by simp [heap_al, heap_dn, Array.getElem?_push, Array.getElem_push, enc]) rfl (by omega) (by decide +kernel) rfl
  · exact lit_nv (e := 29) [1, 0] _ (by simp [heap_al, heap_dn, Array.getElem?_push, Array.getElem_push, enc]) rfl (by omega) (by decide +kernel) rfl
  rintro e w10 ⟨v10, rfl, h10, hb10⟩
  have B10 := Lib.hid (bel_trans (w := w9) (by repeat (first | exact Below.refl _ _ | apply bel_al | apply bel_drawn | apply Below.drew)) hb10)
  clear hb10
  replace BT := Lib.hid (bel_trans BT.out B10.out)
  have Fx := Lib.hid h10
  clear h10
  clear B10
  go_wp2_with fail
  refine Calls.mono (is_n _ _ ((val W [0, 1]) - (val W [1, 0])) (val W [18446744073709551615]) 2 1 _ ?_ ?_ (by decide +kernel)) ?_
  · exact Fx.out.below (by repeat (first | exact Below.refl _ _ | apply bel_al | apply bel_drawn | apply Below.drew))
  · exact lit_nc (e := 29) [18446744073709551615] _ (by simp [heap_al, heap_dn, Array.getElem?_push, Array.getElem_push, enc]) rfl (by omega) (by decide +kernel) (by decide +kernel) rfl
  rintro e w11 ⟨rfl, hb11⟩
  have B11 := Lib.hid (bel_trans (w := w10) (by repeat (first | exact Below.refl _ _ | apply bel_al | apply bel_drawn | apply Below.drew)) hb11)
  clear hb11
  clear Fx
  replace BT := Lib.hid (bel_trans BT.out B11.out)
  clear B11
  go_wp2_with fail
  refine Calls.mono (shl_n _ (val W [1]) 1 64 2 _ ?_ (by omega) (by omega) (by omega)) ?_
  · exact lit_nv (e := 29) [1] _ (by simp [heap_al, heap_dn, Array.getElem?_push, Array.getElem_push, enc]) rfl (by omega) (by decide +kernel) rfl
  rintro e w12 ⟨v12, rfl, h12, hb12⟩
  have B12 := Lib.hid (bel_trans (w := w11) (by repeat (first | exact Below.refl _ _ | apply bel_al | apply bel_drawn | apply Below.drew)) hb12)
  clear hb12
  replace BT := Lib.hid (bel_trans BT.out B12.out)
  have Fx := Lib.hid h12
  clear h12
  clear B12
  go_wp2_with fail
  refine Calls.mono (is_n _ _ ((val W [1]) * 2 ^ 64) (val W [0, 1]) 2 2 _ ?_ ?_ (by decide +kernel)) ?_
  · exact Fx.out.below (by repeat (first | exact Below.refl _ _ | apply bel_al | apply bel_drawn | apply Below.drew))
  · exact lit_nc (e := 29) [0, 1] _ (by simp [heap_al, heap_dn, Array.getElem?_push, Array.getElem_push, enc]) rfl (by omega) (by decide +kernel) (by decide +kernel) rfl
  rintro e w13 ⟨rfl, hb13⟩
  have B13 := Lib.hid (bel_trans (w := w12) (by repeat (first | exact Below.refl _ _ | apply bel_al | apply bel_drawn | apply Below.drew)) hb13)
  clear hb13
  clear Fx
  replace BT := Lib.hid (bel_trans BT.out B13.out)
  clear B13
  go_wp2_with fail
  refine Calls.mono (shr_n _ (val W [0, 1]) 2 1 _ ?_ (by omega) (by omega)) ?_
  · exact lit_nv (e := 29) [0, 1] _ (by simp [heap_al, heap_dn, Array.getElem?_push, Array.getElem_push, enc]) rfl (by omega) (by decide +kernel) rfl
  rintro e w14 ⟨v14, rfl, h14, hb14⟩
  have B14 := Lib.hid (bel_trans (w := w13) (by repeat (first | exact Below.refl _ _ | apply bel_al | apply bel_drawn | apply Below.drew)) hb14)
  clear hb14
  replace BT := Lib.hid (bel_trans BT.out B14.out)
  have Fx := Lib.hid h14
  clear h14
  clear B14
  go_wp2_with fail
  refine Calls.mono (is_n _ _ ((val W [0, 1]) / 2 ^ 1) (val W [9223372036854775808]) 2 1 _ ?_ ?_ (by decide +kernel)) ?_
  · exact Fx.out.below (by repeat (first | exact Below.refl _ _ | apply bel_al | apply bel_drawn | apply Below.drew))
  · exact lit_nc (e := 29) [9223372036854775808] _ (by simp [heap_al, heap_dn, Array.getElem?_push, Array.getElem_push, enc]) rfl (by omega) (by decide +kernel) (by decide +kernel) rfl
  rintro e w15 ⟨rfl, hb15⟩
  have B15 := Lib.hid (bel_trans (w := w14) (by repeat (first | exact Below.refl _ _ | apply bel_al | apply bel_drawn | apply Below.drew)) hb15)
  clear hb15
  clear Fx
  replace BT := Lib.hid (bel_trans BT.out B15.out)
  clear B15
  go_wp2_with fail
  refine Calls.mono (shl_n _ (val W [3]) 1 63 2 _ ?_ (by omega) (by omega) (by omega)) ?_
  · exact lit_nv (e := 29) [3] _ (by simp [heap_al, heap_dn, Array.getElem?_push, Array.getElem_push, enc]) rfl (by omega) (by decide +kernel) rfl
  rintro e w16 ⟨v16, rfl, h16, hb16⟩
  have B16 := Lib.hid (bel_trans (w := w15) (by repeat (first | exact Below.refl _ _ | apply bel_al | apply bel_drawn | apply Below.drew)) hb16)
  clear hb16
  replace BT := Lib.hid (bel_trans BT.out B16.out)
  have Fx := Lib.hid h16
  clear h16
  clear B16
  go_wp2_with fail
  refine Calls.mono (is_n _ _ ((val W [3]) * 2 ^ 63) (val W [9223372036854775808, 1]) 2 2 _ ?_ ?_ (by decide +kernel)) ?_
  · exact Fx.out.below (by repeat (first | exact Below.refl _ _ | apply bel_al | apply bel_drawn | apply Below.drew))
  · exact lit_nc (e := 29) [9223372036854775808, 1] _ (by simp [heap_al, heap_dn, Array.getElem?_push, Array.getElem_push, enc]) rfl (by omega) (by decide +kernel) (by decide +kernel) rfl
  rintro e w17 ⟨rfl, hb17⟩
  have B17 := Lib.hid (bel_trans (w := w16) (by repeat (first | exact Below.refl _ _ | apply bel_al | apply bel_drawn | apply Below.drew)) hb17)
  clear hb17
  clear Fx
  replace BT := Lib.hid (bel_trans BT.out B17.out)
  clear B17
  go_wp2_with fail
  refine Calls.mono (shl_in _ (val W [1]) 1 1048577 2 _ ?_ (by omega) (by omega)) ?_
  · exact lit_nv (e := 29) [1] _ (by simp [heap_al, heap_dn, Array.getElem?_push, Array.getElem_push, enc]) rfl (by omega) (by decide +kernel) rfl
  rintro e w18 ⟨v18, rfl, h18, hb18⟩
  have B18 := Lib.hid (bel_trans (w := w17) (by repeat (first | exact Below.refl _ _ | apply bel_al | apply bel_drawn | apply Below.drew)) hb18)
  clear hb18
  replace BT := Lib.hid (bel_trans BT.out B18.out)
  have Fx := Lib.hid h18
  clear h18
  clear B18
  go_wp2_with fail
  refine Calls.mono (is_n _ _ (shlI (val W [1]) 1048577) 0 2 0 _ ?_ ?_ (by decide +kernel)) ?_
  · exact Fx.out.below (by repeat (first | exact Below.refl _ _ | apply bel_al | apply bel_drawn | apply Below.drew))
  · exact nil_nc _
  rintro e w19 ⟨rfl, hb19⟩
  have B19 := Lib.hid (bel_trans (w := w18) (by repeat (first | exact Below.refl _ _ | apply bel_al | apply bel_drawn | apply Below.drew)) hb19)
  clear hb19
  clear Fx
  replace BT := Lib.hid (bel_trans BT.out B19.out)
  clear B19
  go_wp2_with fail
  refine Calls.mono (shl_out _ _ ?_) ?_
  · exact (show Nv _ _ (val W [1]) 1 from lit_nv (e := 29) [1] _ (by simp [heap_al, heap_dn, Array.getElem?_push, Array.getElem_push, enc]) rfl (by omega) (by decide +kernel) rfl)
  rintro e w20 ⟨v0, rfl, ⟨a0, c0, rfl⟩, hb0⟩
  have B20 := Lib.hid (bel_trans (w := w19) (by repeat (first | exact Below.refl _ _ | apply bel_al | apply bel_drawn | apply Below.drew)) hb0)
  clear hb0
  replace BT := Lib.hid (bel_trans BT.out B20.out)
  clear B20
  go_wp2_with fail
  refine Calls.mono (shl_in _ (val W [7, 0]) 2 (-5) 2 _ ?_ (by omega) (by omega)) ?_
  · exact lit_nv (e := 29) [7, 0] _ (by simp [heap_al, heap_dn, Array.getElem?_push, Array.getElem_push, enc]) rfl (by omega) (by decide +kernel) rfl
  rintro e w21 ⟨v21, rfl, h21, hb21⟩
  have B21 := Lib.hid (bel_trans (w := w20) (by repeat (first | exact Below.refl _ _ | apply bel_al | apply bel_drawn | apply Below.drew)) hb21)
  clear hb21
  replace BT := Lib.hid (bel_trans BT.out B21.out)
  have Fx := Lib.hid h21
  clear h21
  clear B21
  go_wp2_with fail
  refine Calls.mono (is_n _ _ (shlI (val W [7, 0]) (-5)) (val W [7]) 2 1 _ ?_ ?_ (by decide +kernel)) ?_
  · exact Fx.out.below (by repeat (first | exact Below.refl _ _ | apply bel_al | apply bel_drawn | apply Below.drew))
  · exact lit_nc (e := 29) [7] _ (by simp [heap_al, heap_dn, Array.getElem?_push, Array.getElem_push, enc]) rfl (by omega) (by decide +kernel) (by decide +kernel) rfl
  rintro e w22 ⟨rfl, hb22⟩
  have B22 := Lib.hid (bel_trans (w := w21) (by repeat (first | exact Below.refl _ _ | apply bel_al | apply bel_drawn | apply Below.drew)) hb22)
  clear hb22
  clear Fx
  replace BT := Lib.hid (bel_trans BT.out B22.out)
  clear B22
  go_wp2_with fail
  refine Calls.mono (shr_n _ (val W [7]) 1 3 _ ?_ (by omega) (by omega)) ?_
  · exact lit_nv (e := 29) [7] _ (by simp [heap_al, heap_dn, Array.getElem?_push, Array.getElem_push, enc]) rfl (by omega) (by decide +kernel) rfl
  rintro e w23 ⟨v23, rfl, h23, hb23⟩
  have B23 := Lib.hid (bel_trans (w := w22) (by repeat (first | exact Below.refl _ _ | apply bel_al | apply bel_drawn | apply Below.drew)) hb23)
  clear hb23
  replace BT := Lib.hid (bel_trans BT.out B23.out)
  have Fx := Lib.hid h23
  clear h23
  clear B23
  go_wp2_with fail
  refine Calls.mono (is_n _ _ ((val W [7]) / 2 ^ 3) 0 1 0 _ ?_ ?_ (by decide +kernel)) ?_
  · exact Fx.out.below (by repeat (first | exact Below.refl _ _ | apply bel_al | apply bel_drawn | apply Below.drew))
  · exact nil_nc _
  rintro e w24 ⟨rfl, hb24⟩
  have B24 := Lib.hid (bel_trans (w := w23) (by repeat (first | exact Below.refl _ _ | apply bel_al | apply bel_drawn | apply Below.drew)) hb24)
  clear hb24
  clear Fx
  replace BT := Lib.hid (bel_trans BT.out B24.out)
  clear B24
  go_wp2_with fail
  refine Calls.mono (bits_v _ (val W [0, 1]) 2 65 _ ?_ (by omega) (by decide +kernel)) ?_
  · exact lit_nv (e := 29) [0, 1] _ (by simp [heap_al, heap_dn, Array.getElem?_push, Array.getElem_push, enc]) rfl (by omega) (by decide +kernel) rfl
  rintro e w25 ⟨rfl, hb25⟩
  have B25 := Lib.hid (bel_trans (w := w24) (by repeat (first | exact Below.refl _ _ | apply bel_al | apply bel_drawn | apply Below.drew)) hb25)
  clear hb25
  replace BT := Lib.hid (bel_trans BT.out B25.out)
  clear B25
  go_wp2_with fail
  refine Calls.mono (bits_v _ 0 0 0 _ ?_ (by omega) (by decide +kernel)) ?_
  · exact nil_nv _
  rintro e w26 ⟨rfl, hb26⟩
  have B26 := Lib.hid (bel_trans (w := w25) (by repeat (first | exact Below.refl _ _ | apply bel_al | apply bel_drawn | apply Below.drew)) hb26)
  clear hb26
  replace BT := Lib.hid (bel_trans BT.out B26.out)
  clear B26
  go_wp2_with fail
  refine Calls.mono (bits_v _ (val W [18446744073709551615]) 1 64 _ ?_ (by omega) (by decide +kernel)) ?_
  · exact lit_nv (e := 29) [18446744073709551615] _ (by simp [heap_al, heap_dn, Array.getElem?_push, Array.getElem_push, enc]) rfl (by omega) (by decide +kernel) rfl
  rintro e w27 ⟨rfl, hb27⟩
  have B27 := Lib.hid (bel_trans (w := w26) (by repeat (first | exact Below.refl _ _ | apply bel_al | apply bel_drawn | apply Below.drew)) hb27)
  clear hb27
  replace BT := Lib.hid (bel_trans BT.out B27.out)
  clear B27
  go_wp2_with fail
  refine Calls.mono (divmod_n _ _ (val W [5]) 0 1 0 _ ?_ ?_ (by omega) (by omega)) ?_
  · exact lit_nv (e := 29) [5] _ (by simp [heap_al, heap_dn, Array.getElem?_push, Array.getElem_push, enc]) rfl (by omega) (by decide +kernel) rfl
  · exact nil_nv _
  rintro e w28 ⟨v28, u28, rfl, ⟨h28, g28⟩, hb28⟩
  have B28 := Lib.hid (bel_trans (w := w27) (by repeat (first | exact Below.refl _ _ | apply bel_al | apply bel_drawn | apply Below.drew)) hb28)
  clear hb28
  replace BT := Lib.hid (bel_trans BT.out B28.out)
  have Fa := Lib.hid h28
  clear h28
  have Fb := Lib.hid g28
  clear g28
  clear B28
  go_wp2_with fail
  refine Calls.mono (divmod_n _ _ (val W [0, 0, 9223372036854775808]) (val W [18446744073709551615, 9223372036854775808]) 3 2 _ ?_ ?_ (by omega) (by omega)) ?_
  · exact lit_nv (e := 29) [0, 0, 9223372036854775808] _ (by simp [heap_al, heap_dn, Array.getElem?_push, Array.getElem_push, enc]) rfl (by omega) (by decide +kernel) rfl
  · exact lit_nv (e := 29) [18446744073709551615, 9223372036854775808] _ (by simp [heap_al, heap_dn, Array.getElem?_push, Array.getElem_push, enc]) rfl (by omega) (by decide +kernel) rfl
  rintro e w29 ⟨v29, u29, rfl, ⟨h29, g29⟩, hb29⟩
  have B29 := Lib.hid (bel_trans (w := w28) (by repeat (first | exact Below.refl _ _ | apply bel_al | apply bel_drawn | apply Below.drew)) hb29)
  clear hb29
  replace Fa := Lib.hid (Fa.out.below B29.out)
  replace Fb := Lib.hid (Fb.out.below B29.out)
  replace BT := Lib.hid (bel_trans BT.out B29.out)
  have Fc := Lib.hid h29
  clear h29
  have Fd := Lib.hid g29
  clear g29
  clear B29
  go_wp2_with fail
  refine Calls.mono (divmod_n _ _ (val W [3, 0, 9223372036854775808]) (val W [1, 0, 2305843009213693952]) 3 3 _ ?_ ?_ (by omega) (by omega)) ?_
  · exact lit_nv (e := 29) [3, 0, 9223372036854775808] _ (by simp [heap_al, heap_dn, Array.getElem?_push, Array.getElem_push, enc]) rfl (by omega) (by decide +kernel) rfl
  · exact lit_nv (e := 29) [1, 0, 2305843009213693952] _ (by simp [heap_al, heap_dn, Array.getElem?_push, Array.getElem_push, enc]) rfl (by omega) (by decide +kernel) rfl
  rintro e w30 ⟨v30, u30, rfl, ⟨h30, g30⟩, hb30⟩
  have B30 := Lib.hid (bel_trans (w := w29) (by repeat (first | exact Below.refl _ _ | apply bel_al | apply bel_drawn | apply Below.drew)) hb30)
  clear hb30
  replace Fa := Lib.hid (Fa.out.below B30.out)
  replace Fb := Lib.hid (Fb.out.below B30.out)
  replace Fc := Lib.hid (Fc.out.below B30.out)
  replace Fd := Lib.hid (Fd.out.below B30.out)
  replace BT := Lib.hid (bel_trans BT.out B30.out)
  have Fe := Lib.hid h30
  clear h30
  have Ff := Lib.hid g30
  clear g30
  clear B30
  go_wp2_with fail
  refine Calls.mono (divmod_n _ _ (val W [0, 18446744073709551614, 9223372036854775808]) (val W [18446744073709551615, 9223372036854775808]) 3 2 _ ?_ ?_ (by omega) (by omega)) ?_
  · exact lit_nv (e := 29) [0, 18446744073709551614, 9223372036854775808] _ (by simp [heap_al, heap_dn, Array.getElem?_push, Array.getElem_push, enc]) rfl (by omega) (by decide +kernel) rfl
  · exact lit_nv (e := 29) [18446744073709551615, 9223372036854775808] _ (by simp [heap_al, heap_dn, Array.getElem?_push, Array.getElem_push, enc]) rfl (by omega) (by decide +kernel) rfl
  rintro e w31 ⟨v31, u31, rfl, ⟨h31, g31⟩, hb31⟩
  have B31 := Lib.hid (bel_trans (w := w30) (by repeat (first | exact Below.refl _ _ | apply bel_al | apply bel_drawn | apply Below.drew)) hb31)
  clear hb31
  replace Fa := Lib.hid (Fa.out.below B31.out)
  replace Fb := Lib.hid (Fb.out.below B31.out)
  replace Fc := Lib.hid (Fc.out.below B31.out)
  replace Fd := Lib.hid (Fd.out.below B31.out)
  replace Fe := Lib.hid (Fe.out.below B31.out)
  replace Ff := Lib.hid (Ff.out.below B31.out)
  replace BT := Lib.hid (bel_trans BT.out B31.out)
  have Fg := Lib.hid h31
  clear h31
  have Fh := Lib.hid g31
  clear g31
  clear B31
  go_wp2_with fail
  refine Calls.mono (is_n _ _ ((val W [5]) / 0) 0 1 0 _ ?_ ?_ (by decide +kernel)) ?_
  · exact Fa.out.below (by repeat (first | exact Below.refl _ _ | apply bel_al | apply bel_drawn | apply Below.drew))
  · exact nil_nc _
  rintro e w32 ⟨rfl, hb32⟩
  have B32 := Lib.hid (bel_trans (w := w31) (by repeat (first | exact Below.refl _ _ | apply bel_al | apply bel_drawn | apply Below.drew)) hb32)
  clear hb32
  clear Fa
  replace Fb := Lib.hid (Fb.out.below B32.out)
  replace Fc := Lib.hid (Fc.out.below B32.out)
  replace Fd := Lib.hid (Fd.out.below B32.out)
  replace Fe := Lib.hid (Fe.out.below B32.out)
  replace Ff := Lib.hid (Ff.out.below B32.out)
  replace Fg := Lib.hid (Fg.out.below B32.out)
  replace Fh := Lib.hid (Fh.out.below B32.out)
  replace BT := Lib.hid (bel_trans BT.out B32.out)
  clear B32
  go_wp2_with fail
  refine Calls.mono (is_n _ _ (remN (val W [5]) 0) 0 0 0 _ ?_ ?_ (by decide +kernel)) ?_
  · exact Fb.out.below (by repeat (first | exact Below.refl _ _ | apply bel_al | apply bel_drawn | apply Below.drew))
  · exact nil_nc _
  rintro e w33 ⟨rfl, hb33⟩
  have B33 := Lib.hid (bel_trans (w := w32) (by repeat (first | exact Below.refl _ _ | apply bel_al | apply bel_drawn | apply Below.drew)) hb33)
  clear hb33
  clear Fb
  replace Fc := Lib.hid (Fc.out.below B33.out)
  replace Fd := Lib.hid (Fd.out.below B33.out)
  replace Fe := Lib.hid (Fe.out.below B33.out)
  replace Ff := Lib.hid (Ff.out.below B33.out)
  replace Fg := Lib.hid (Fg.out.below B33.out)
  replace Fh := Lib.hid (Fh.out.below B33.out)
  replace BT := Lib.hid (bel_trans BT.out B33.out)
  clear B33
  go_wp2_with fail
  refine Calls.mono (mul_n _ _ ((val W [0, 0, 9223372036854775808]) / (val W [18446744073709551615, 9223372036854775808])) (val W [18446744073709551615, 9223372036854775808]) 3 2 _ ?_ ?_ (by omega) (by omega)) ?_
  · exact (Fc.out.below (by repeat (first | exact Below.refl _ _ | apply bel_al | apply bel_drawn | apply Below.drew))).nv
  · exact lit_nv (e := 29) [18446744073709551615, 9223372036854775808] _ (by simp [heap_al, heap_dn, Array.getElem?_push, Array.getElem_push, enc]) rfl (by omega) (by decide +kernel) rfl
  rintro e w34 ⟨v34, rfl, h34, hb34⟩
  have B34 := Lib.hid (bel_trans (w := w33) (by repeat (first | exact Below.refl _ _ | apply bel_al | apply bel_drawn | apply Below.drew)) hb34)
  clear hb34
  clear Fc
  replace Fd := Lib.hid (Fd.out.below B34.out)
  replace Fe := Lib.hid (Fe.out.below B34.out)
  replace Ff := Lib.hid (Ff.out.below B34.out)
  replace Fg := Lib.hid (Fg.out.below B34.out)
  replace Fh := Lib.hid (Fh.out.below B34.out)
  replace BT := Lib.hid (bel_trans BT.out B34.out)
  have Fx := Lib.hid h34
  clear h34
  clear B34
  go_wp2_with fail
  refine Calls.mono (add_n _ _ (((val W [0, 0, 9223372036854775808]) / (val W [18446744073709551615, 9223372036854775808])) * (val W [18446744073709551615, 9223372036854775808])) (remN (val W [0, 0, 9223372036854775808]) (val W [18446744073709551615, 9223372036854775808])) 5 2 6 _ ?_ ?_ (by omega) (by omega) (by omega)) ?_
  · exact (Fx.out.below (by repeat (first | exact Below.refl _ _ | apply bel_al | apply bel_drawn | apply Below.drew))).nv
  · exact (Fd.out.below (by repeat (first | exact Below.refl _ _ | apply bel_al | apply bel_drawn | apply Below.drew))).nv
  rintro e w35 ⟨v35, rfl, h35, hb35⟩
  have B35 := Lib.hid (bel_trans (w := w34) (by repeat (first | exact Below.refl _ _ | apply bel_al | apply bel_drawn | apply Below.drew)) hb35)
  clear hb35
  clear Fx
  replace Fd := Lib.hid (Fd.out.below B35.out)
  replace Fe := Lib.hid (Fe.out.below B35.out)
  replace Ff := Lib.hid (Ff.out.below B35.out)
  replace Fg := Lib.hid (Fg.out.below B35.out)
  replace Fh := Lib.hid (Fh.out.below B35.out)
  replace BT := Lib.hid (bel_trans BT.out B35.out)
  have Fy := Lib.hid h35
  clear h35
  clear B35
  go_wp2_with fail
  refine Calls.mono (is_n _ _ ((((val W [0, 0, 9223372036854775808]) / (val W [18446744073709551615, 9223372036854775808])) * (val W [18446744073709551615, 9223372036854775808])) + (remN (val W [0, 0, 9223372036854775808]) (val W [18446744073709551615, 9223372036854775808]))) (val W [0, 0, 9223372036854775808]) 6 3 _ ?_ ?_ (by decide +kernel)) ?_
  · exact Fy.out.below (by repeat (first | exact Below.refl _ _ | apply bel_al | apply bel_drawn | apply Below.drew))
  · exact lit_nc (e := 29) [0, 0, 9223372036854775808] _ (by simp [heap_al, heap_dn, Array.getElem?_push, Array.getElem_push, enc]) rfl (by omega) (by decide +kernel) (by decide +kernel) rfl
  rintro e w36 ⟨rfl, hb36⟩
  have B36 := Lib.hid (bel_trans (w := w35) (by repeat (first | exact Below.refl _ _ | apply bel_al | apply bel_drawn | apply Below.drew)) hb36)
  clear hb36
  clear Fy
  replace Fd := Lib.hid (Fd.out.below B36.out)
  replace Fe := Lib.hid (Fe.out.below B36.out)
  replace Ff := Lib.hid (Ff.out.below B36.out)
  replace Fg := Lib.hid (Fg.out.below B36.out)
  replace Fh := Lib.hid (Fh.out.below B36.out)
  replace BT := Lib.hid (bel_trans BT.out B36.out)
  clear B36
  go_wp2_with fail
  refine Calls.mono (cmp_v _ _ (remN (val W [0, 0, 9223372036854775808]) (val W [18446744073709551615, 9223372036854775808])) (val W [18446744073709551615, 9223372036854775808]) 2 2 (-1) _ ?_ ?_ (by decide +kernel)) ?_
  · exact (Fd.out.below (by repeat (first | exact Below.refl _ _ | apply bel_al | apply bel_drawn | apply Below.drew))).nv
  · exact lit_nv (e := 29) [18446744073709551615, 9223372036854775808] _ (by simp [heap_al, heap_dn, Array.getElem?_push, Array.getElem_push, enc]) rfl (by omega) (by decide +kernel) rfl
  rintro e w37 ⟨rfl, hb37⟩
  have B37 := Lib.hid (bel_trans (w := w36) (by repeat (first | exact Below.refl _ _ | apply bel_al | apply bel_drawn | apply Below.drew)) hb37)
  clear hb37
  clear Fd
  replace Fe := Lib.hid (Fe.out.below B37.out)
  replace Ff := Lib.hid (Ff.out.below B37.out)
  replace Fg := Lib.hid (Fg.out.below B37.out)
  replace Fh := Lib.hid (Fh.out.below B37.out)
  replace BT := Lib.hid (bel_trans BT.out B37.out)
  clear B37
  go_wp2_with fail
  refine Calls.mono (is_n _ _ ((val W [3, 0, 9223372036854775808]) / (val W [1, 0, 2305843009213693952])) (val W [3]) 3 1 _ ?_ ?_ (by decide +kernel)) ?_
  · exact Fe.out.below (by repeat (first | exact Below.refl _ _ | apply bel_al | apply bel_drawn | apply Below.drew))
  · exact lit_nc (e := 29) [3] _ (by simp [heap_al, heap_dn, Array.getElem?_push, Array.getElem_push, enc]) rfl (by omega) (by decide +kernel) (by decide +kernel) rfl
  rintro e w38 ⟨rfl, hb38⟩
  have B38 := Lib.hid (bel_trans (w := w37) (by repeat (first | exact Below.refl _ _ | apply bel_al | apply bel_drawn | apply Below.drew)) hb38)
  clear hb38
  clear Fe
  replace Ff := Lib.hid (Ff.out.below B38.out)
  replace Fg := Lib.hid (Fg.out.below B38.out)
  replace Fh := Lib.hid (Fh.out.below B38.out)
  replace BT := Lib.hid (bel_trans BT.out B38.out)
  clear B38
  go_wp2_with fail
  refine Calls.mono (is_n _ _ (remN (val W [3, 0, 9223372036854775808]) (val W [1, 0, 2305843009213693952])) (val W [0, 0, 2305843009213693952]) 3 3 _ ?_ ?_ (by decide +kernel)) ?_
  · exact Ff.out.below (by repeat (first | exact Below.refl _ _ | apply bel_al | apply bel_drawn | apply Below.drew))
  · exact lit_nc (e := 29) [0, 0, 2305843009213693952] _ (by simp [heap_al, heap_dn, Array.getElem?_push, Array.getElem_push, enc]) rfl (by omega) (by decide +kernel) (by decide +kernel) rfl
  rintro e w39 ⟨rfl, hb39⟩
  have B39 := Lib.hid (bel_trans (w := w38) (by repeat (first | exact Below.refl _ _ | apply bel_al | apply bel_drawn | apply Below.drew)) hb39)
  clear hb39
  clear Ff
  replace Fg := Lib.hid (Fg.out.below B39.out)
  replace Fh := Lib.hid (Fh.out.below B39.out)
  replace BT := Lib.hid (bel_trans BT.out B39.out)
  clear B39
  go_wp2_with fail
  refine Calls.mono (mul_n _ _ ((val W [0, 18446744073709551614, 9223372036854775808]) / (val W [18446744073709551615, 9223372036854775808])) (val W [18446744073709551615, 9223372036854775808]) 3 2 _ ?_ ?_ (by omega) (by omega)) ?_
  · exact (Fg.out.below (by repeat (first | exact Below.refl _ _ | apply bel_al | apply bel_drawn | apply Below.drew))).nv
  · exact lit_nv (e := 29) [18446744073709551615, 9223372036854775808] _ (by simp [heap_al, heap_dn, Array.getElem?_push, Array.getElem_push, enc]) rfl (by omega) (by decide +kernel) rfl
  rintro e w40 ⟨v40, rfl, h40, hb40⟩
  have B40 := Lib.hid (bel_trans (w := w39) (by repeat (first | exact Below.refl _ _ | apply bel_al | apply bel_drawn | apply Below.drew)) hb40)
  clear hb40
  clear Fg
  replace Fh := Lib.hid (Fh.out.below B40.out)
  replace BT := Lib.hid (bel_trans BT.out B40.out)
  have Fx := Lib.hid h40
  clear h40
  clear B40
  go_wp2_with fail
  refine Calls.mono (add_n _ _ (((val W [0, 18446744073709551614, 9223372036854775808]) / (val W [18446744073709551615, 9223372036854775808])) * (val W [18446744073709551615, 9223372036854775808])) (remN (val W [0, 18446744073709551614, 9223372036854775808]) (val W [18446744073709551615, 9223372036854775808])) 5 2 6 _ ?_ ?_ (by omega) (by omega) (by omega)) ?_
  · exact (Fx.out.below (by repeat (first | exact Below.refl _ _ | apply bel_al | apply bel_drawn | apply Below.drew))).nv
  · exact (Fh.out.below (by repeat (first | exact Below.refl _ _ | apply bel_al | apply bel_drawn | apply Below.drew))).nv
  rintro e w41 ⟨v41, rfl, h41, hb41⟩
  have B41 := Lib.hid (bel_trans (w := w40) (by repeat (first | exact Below.refl _ _ | apply bel_al | apply bel_drawn | apply Below.drew)) hb41)
  clear hb41
  clear Fx
  replace Fh := Lib.hid (Fh.out.below B41.out)
  replace BT := Lib.hid (bel_trans BT.out B41.out)
  have Fy := Lib.hid h41
  clear h41
  clear B41
  go_wp2_with fail
  refine Calls.mono (is_n _ _ ((((val W [0, 18446744073709551614, 9223372036854775808]) / (val W [18446744073709551615, 9223372036854775808])) * (val W [18446744073709551615, 9223372036854775808])) + (remN (val W [0, 18446744073709551614, 9223372036854775808]) (val W [18446744073709551615, 9223372036854775808]))) (val W [0, 18446744073709551614, 9223372036854775808]) 6 3 _ ?_ ?_ (by decide +kernel)) ?_
  · exact Fy.out.below (by repeat (first | exact Below.refl _ _ | apply bel_al | apply bel_drawn | apply Below.drew))
  · exact lit_nc (e := 29) [0, 18446744073709551614, 9223372036854775808] _ (by simp [heap_al, heap_dn, Array.getElem?_push, Array.getElem_push, enc]) rfl (by omega) (by decide +kernel) (by decide +kernel) rfl
  rintro e w42 ⟨rfl, hb42⟩
  have B42 := Lib.hid (bel_trans (w := w41) (by repeat (first | exact Below.refl _ _ | apply bel_al | apply bel_drawn | apply Below.drew)) hb42)
  clear hb42
  clear Fy
  replace Fh := Lib.hid (Fh.out.below B42.out)
  replace BT := Lib.hid (bel_trans BT.out B42.out)
  clear B42
  go_wp2_with fail
  refine Calls.mono (cmp_v _ _ (remN (val W [0, 18446744073709551614, 9223372036854775808]) (val W [18446744073709551615, 9223372036854775808])) (val W [18446744073709551615, 9223372036854775808]) 2 2 (-1) _ ?_ ?_ (by decide +kernel)) ?_
  · exact (Fh.out.below (by repeat (first | exact Below.refl _ _ | apply bel_al | apply bel_drawn | apply Below.drew))).nv
  · exact lit_nv (e := 29) [18446744073709551615, 9223372036854775808] _ (by simp [heap_al, heap_dn, Array.getElem?_push, Array.getElem_push, enc]) rfl (by omega) (by decide +kernel) rfl
  rintro e w43 ⟨rfl, hb43⟩
  have B43 := Lib.hid (bel_trans (w := w42) (by repeat (first | exact Below.refl _ _ | apply bel_al | apply bel_drawn | apply Below.drew)) hb43)
  clear hb43
  clear Fh
  replace BT := Lib.hid (bel_trans BT.out B43.out)
  clear B43
  go_wp2_with fail
  refine Calls.mono (gcd_n _ _ 0 (val W [4]) 0 1 1 _ ?_ ?_ (by omega) (by omega) (by omega)) ?_
  · exact nil_nv _
  · exact lit_nv (e := 29) [4] _ (by simp [heap_al, heap_dn, Array.getElem?_push, Array.getElem_push, enc]) rfl (by omega) (by decide +kernel) rfl
  rintro e w44 ⟨v44, rfl, h44, hb44⟩
  have B44 := Lib.hid (bel_trans (w := w43) (by repeat (first | exact Below.refl _ _ | apply bel_al | apply bel_drawn | apply Below.drew)) hb44)
  clear hb44
  replace BT := Lib.hid (bel_trans BT.out B44.out)
  have Fx := Lib.hid h44
  clear h44
  clear B44
  go_wp2_with fail
  refine Calls.mono (is_n _ _ (Nat.gcd 0 (val W [4])) (val W [4]) 1 1 _ ?_ ?_ (by decide +kernel)) ?_
  · exact Fx.out.below (by repeat (first | exact Below.refl _ _ | apply bel_al | apply bel_drawn | apply Below.drew))
  · exact lit_nc (e := 29) [4] _ (by simp [heap_al, heap_dn, Array.getElem?_push, Array.getElem_push, enc]) rfl (by omega) (by decide +kernel) (by decide +kernel) rfl
  rintro e w45 ⟨rfl, hb45⟩
  have B45 := Lib.hid (bel_trans (w := w44) (by repeat (first | exact Below.refl _ _ | apply bel_al | apply bel_drawn | apply Below.drew)) hb45)
  clear hb45
  clear Fx
  replace BT := Lib.hid (bel_trans BT.out B45.out)
  clear B45
  go_wp2_with fail
  refine Calls.mono (gcd_n _ _ 0 0 0 0 0 _ ?_ ?_ (by omega) (by omega) (by omega)) ?_
  · exact nil_nv _
  · exact nil_nv _
  rintro e w46 ⟨v46, rfl, h46, hb46⟩
  have B46 := Lib.hid (bel_trans (w := w45) (by repeat (first | exact Below.refl _ _ | apply bel_al | apply bel_drawn | apply Below.drew)) hb46)
  clear hb46
  replace BT := Lib.hid (bel_trans BT.out B46.out)
  have Fx := Lib.hid h46
  clear h46
  clear B46
  go_wp2_with fail
  refine Calls.mono (is_n _ _ (Nat.gcd 0 0) 0 0 0 _ ?_ ?_ (by decide +kernel)) ?_
  · exact Fx.out.below (by repeat (first | exact Below.refl _ _ | apply bel_al | apply bel_drawn | apply Below.drew))
  · exact nil_nc _
  rintro e w47 ⟨rfl, hb47⟩
  have B47 := Lib.hid (bel_trans (w := w46) (by repeat (first | exact Below.refl _ _ | apply bel_al | apply bel_drawn | apply Below.drew)) hb47)
  clear hb47
  clear Fx
  replace BT := Lib.hid (bel_trans BT.out B47.out)
  clear B47
  go_wp2_with fail
  refine Calls.mono (awake_n _) ?_
  rintro e w48 ⟨rfl, hb48⟩
  have B48 := Lib.hid (bel_trans (w := w47) (by repeat (first | exact Below.refl _ _ | apply bel_al | apply bel_drawn | apply Below.drew)) hb48)
  clear hb48
  replace BT := Lib.hid (bel_trans BT.out B48.out)
  clear B48
  go_wp2_with fail
  go_ret
  exact ⟨rfl, bel_trans BT.out (by repeat (first | exact Below.refl _ _ | apply bel_al | apply bel_drawn | apply Below.drew))⟩

end Go.Proofs.Ytbofdldkiooegaa
