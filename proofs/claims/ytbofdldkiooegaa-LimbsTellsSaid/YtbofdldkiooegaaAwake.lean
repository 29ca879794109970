/- tripwirelaw01.awake: the chapter's examples come out: true. -/
import Derived.Test.YtbofdldkiooegaaN
namespace Go.Proofs.Ytbofdldkiooegaa
open Go Go.RowKit Tw
set_option linter.unusedVariables false
set_option linter.unusedSimpArgs false

set_option maxHeartbeats 2000000 in
theorem awake_n (w : World) : Calls Try.prog 16 #[] w (RetIs w (.bool true)) := by
  go_enter Try.func16, Try.ntmps16
  go_wp2_with fail
  refine Calls.mono (divmod_n _ _ (val W [0, 0, 1]) (val W [3]) 3 1 _ ?_ ?_ (by omega) (by omega)) ?_
  · exact lit_nv (e := 29) [0, 0, 1] _ (by simp [heap_al, heap_dn, Array.getElem?_push, Array.getElem_push, enc]) rfl (by omega) (by decide +kernel) rfl
  · exact lit_nv (e := 29) [3] _ (by simp [heap_al, heap_dn, Array.getElem?_push, Array.getElem_push, enc]) rfl (by omega) (by decide +kernel) rfl
  rintro e w1 ⟨v1, u1, rfl, ⟨h1, g1⟩, hb1⟩
  have B1 := Lib.hid (bel_trans (w := w) (by repeat (first | exact Below.refl _ _ | apply bel_al | apply bel_drawn | apply Below.drew)) hb1)
  clear hb1
  have BT := B1
  have Fq := Lib.hid h1
  clear h1
  have Fr := Lib.hid g1
  clear g1
  go_wp2_with fail
  refine Calls.mono (add_n _ _ (val W [18446744073709551615]) (val W [1]) 1 1 2 _ ?_ ?_ (by omega) (by omega) (by omega)) ?_
  · exact lit_nv (e := 29) [18446744073709551615] _ (by simp [heap_al, heap_dn, Array.getElem?_push, Array.getElem_push, enc]) rfl (by omega) (by decide +kernel) rfl
  · exact lit_nv (e := 29) [1] _ (by simp [heap_al, heap_dn, Array.getElem?_push, Array.getElem_push, enc]) rfl (by omega) (by decide +kernel) rfl
  rintro e w2 ⟨v2, rfl, h2, hb2⟩
  have B2 := Lib.hid (bel_trans (w := w1) (by repeat (first | exact Below.refl _ _ | apply bel_al | apply bel_drawn | apply Below.drew)) hb2)
  clear hb2
  replace Fq := Lib.hid (Fq.out.below B2.out)
  replace Fr := Lib.hid (Fr.out.below B2.out)
  replace BT := Lib.hid (bel_trans BT.out B2.out)
  have Fx := Lib.hid h2
  clear h2
  clear B2
  go_wp2_with fail
  refine Calls.mono (is_n _ _ ((val W [18446744073709551615]) + (val W [1])) (val W [0, 1]) 2 2 _ ?_ ?_ (by decide +kernel)) ?_
  · exact Fx.out.below (by repeat (first | exact Below.refl _ _ | apply bel_al | apply bel_drawn | apply Below.drew))
  · exact lit_nc (e := 29) [0, 1] _ (by simp [heap_al, heap_dn, Array.getElem?_push, Array.getElem_push, enc]) rfl (by omega) (by decide +kernel) (by decide +kernel) rfl
  rintro e w3 ⟨rfl, hb3⟩
  have B3 := Lib.hid (bel_trans (w := w2) (by repeat (first | exact Below.refl _ _ | apply bel_al | apply bel_drawn | apply Below.drew)) hb3)
  clear hb3
  clear Fx
  replace Fq := Lib.hid (Fq.out.below B3.out)
  replace Fr := Lib.hid (Fr.out.below B3.out)
  replace BT := Lib.hid (bel_trans BT.out B3.out)
  clear B3
  go_wp2_with fail
  refine Calls.mono (mul_n _ _ (val W [18446744073709551615]) (val W [18446744073709551615]) 1 1 _ ?_ ?_ (by omega) (by omega)) ?_
  · exact lit_nv (e := 29) [18446744073709551615] _ (by simp [heap_al, heap_dn, Array.getElem?_push, Array.getElem_push, enc]) rfl (by omega) (by decide +kernel) rfl
  · exact lit_nv (e := 29) [18446744073709551615] _ (by simp [heap_al, heap_dn, Array.getElem?_push, Array.getElem_push, enc]) rfl (by omega) (by decide +kernel) rfl
  rintro e w4 ⟨v4, rfl, h4, hb4⟩
  have B4 := Lib.hid (bel_trans (w := w3) (by repeat (first | exact Below.refl _ _ | apply bel_al | apply bel_drawn | apply Below.drew)) hb4)
  clear hb4
  replace Fq := Lib.hid (Fq.out.below B4.out)
  replace Fr := Lib.hid (Fr.out.below B4.out)
  replace BT := Lib.hid (bel_trans BT.out B4.out)
  have Fx := Lib.hid h4
  clear h4
  clear B4
  go_wp2_with fail
  refine Calls.mono (is_n _ _ ((val W [18446744073709551615]) * (val W [18446744073709551615])) (val W [1, 18446744073709551614]) 2 2 _ ?_ ?_ (by decide +kernel)) ?_
  · exact Fx.out.below (by repeat (first | exact Below.refl _ _ | apply bel_al | apply bel_drawn | apply Below.drew))
  · exact lit_nc (e := 29) [1, 18446744073709551614] _ (by simp [heap_al, heap_dn, Array.getElem?_push, Array.getElem_push, enc]) rfl (by omega) (by decide +kernel) (by decide +kernel) rfl
  rintro e w5 ⟨rfl, hb5⟩
  have B5 := Lib.hid (bel_trans (w := w4) (by repeat (first | exact Below.refl _ _ | apply bel_al | apply bel_drawn | apply Below.drew)) hb5)
  clear hb5
  clear Fx
  replace Fq := Lib.hid (Fq.out.below B5.out)
  replace Fr := Lib.hid (Fr.out.below B5.out)
  replace BT := Lib.hid (bel_trans BT.out B5.out)
  clear B5
  go_wp2_with fail
  refine Calls.mono (is_n _ _ ((val W [0, 0, 1]) / (val W [3])) (val W [6148914691236517205, 6148914691236517205]) 3 2 _ ?_ ?_ (by decide +kernel)) ?_
  · exact Fq.out.below (by repeat (first | exact Below.refl _ _ | apply bel_al | apply bel_drawn | apply Below.drew))
  · exact lit_nc (e := 29) [6148914691236517205, 6148914691236517205] _ (by simp [heap_al, heap_dn, Array.getElem?_push, Array.getElem_push, enc]) rfl (by omega) (by decide +kernel) (by decide +kernel) rfl
  rintro e w6 ⟨rfl, hb6⟩
  have B6 := Lib.hid (bel_trans (w := w5) (by repeat (first | exact Below.refl _ _ | apply bel_al | apply bel_drawn | apply Below.drew)) hb6)
  clear hb6
  clear Fq
  replace Fr := Lib.hid (Fr.out.below B6.out)
  replace BT := Lib.hid (bel_trans BT.out B6.out)
  clear B6
  go_wp2_with fail
  refine Calls.mono (is_n _ _ (remN (val W [0, 0, 1]) (val W [3])) (val W [1]) 1 1 _ ?_ ?_ (by decide +kernel)) ?_
  · exact Fr.out.below (by repeat (first | exact Below.refl _ _ | apply bel_al | apply bel_drawn | apply Below.drew))
  · exact lit_nc (e := 29) [1] _ (by simp [heap_al, heap_dn, Array.getElem?_push, Array.getElem_push, enc]) rfl (by omega) (by decide +kernel) (by decide +kernel) rfl
  rintro e w7 ⟨rfl, hb7⟩
  have B7 := Lib.hid (bel_trans (w := w6) (by repeat (first | exact Below.refl _ _ | apply bel_al | apply bel_drawn | apply Below.drew)) hb7)
  clear hb7
  clear Fr
  replace BT := Lib.hid (bel_trans BT.out B7.out)
  clear B7
  go_wp2_with fail
  refine Calls.mono (gcd_n _ _ (val W [12]) (val W [18]) 1 1 1 _ ?_ ?_ (by omega) (by omega) (by omega)) ?_
  · exact lit_nv (e := 29) [12] _ (by simp [heap_al, heap_dn, Array.getElem?_push, Array.getElem_push, enc]) rfl (by omega) (by decide +kernel) rfl
  · exact lit_nv (e := 29) [18] _ (by simp [heap_al, heap_dn, Array.getElem?_push, Array.getElem_push, enc]) rfl (by omega) (by decide +kernel) rfl
  rintro e w8 ⟨v8, rfl, h8, hb8⟩
  have B8 := Lib.hid (bel_trans (w := w7) (by repeat (first | exact Below.refl _ _ | apply bel_al | apply bel_drawn | apply Below.drew)) hb8)
  clear hb8
  replace BT := Lib.hid (bel_trans BT.out B8.out)
  have Fx := Lib.hid h8
  clear h8
  clear B8
  go_wp2_with fail
  refine Calls.mono (is_n _ _ (Nat.gcd (val W [12]) (val W [18])) (val W [6]) 1 1 _ ?_ ?_ (by decide +kernel)) ?_
  · exact Fx.out.below (by repeat (first | exact Below.refl _ _ | apply bel_al | apply bel_drawn | apply Below.drew))
  · exact lit_nc (e := 29) [6] _ (by simp [heap_al, heap_dn, Array.getElem?_push, Array.getElem_push, enc]) rfl (by omega) (by decide +kernel) (by decide +kernel) rfl
  rintro e w9 ⟨rfl, hb9⟩
  have B9 := Lib.hid (bel_trans (w := w8) (by repeat (first | exact Below.refl _ _ | apply bel_al | apply bel_drawn | apply Below.drew)) hb9)
  clear hb9
  clear Fx
  replace BT := Lib.hid (bel_trans BT.out B9.out)
  clear B9
  go_wp2_with fail
  go_ret
  exact ⟨rfl, bel_trans BT.out (by repeat (first | exact Below.refl _ _ | apply bel_al | apply bel_drawn | apply Below.drew))⟩

end Go.Proofs.Ytbofdldkiooegaa
