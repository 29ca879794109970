/- tripwire/tripwirelaw01.LimbsShifts: the walk. -/
import Derived.Test.YtbofdldkiooegaaAwake
import Derived.Test.YtbofdldkiooegaaPick
namespace Go.Proofs.Ytbofdldkiooegaa
open Go Go.RowKit Tw
set_option linter.unusedVariables false
set_option linter.unusedSimpArgs false

set_option maxRecDepth 100000 in
set_option maxHeartbeats 8000000 in
theorem limbsShifts_n (a1 : Option Addr) (c1 : Nat) (l1 : List Nat) (n : Int) (w : World) (h1 : WdS w a1 c1 l1) (hn : (Lit.int .i64 n).wf = true) :
    Calls Try.prog 5 #[.slice a1 l1.length c1, .int .i64 n] w (RetIs w (.bool true)) := by
  by_cases q1 : l1.length ≤ 60
  case neg =>
    clear h1
    go_enter Try.func5, Try.ntmps5
    go_wp2_with fail
    refine Calls.mono (awake_n _) ?_
    rintro e w1 ⟨rfl, hb1⟩
    have B1 := Lib.hid (bel_trans (w := w) (by repeat (first | exact Below.refl _ _ | apply bel_al | apply bel_drawn | apply Below.drew)) hb1)
    clear hb1
    have BT := B1
    go_wp2_with fail
    go_ret
    exact ⟨rfl, bel_trans BT.out (by repeat (first | exact Below.refl _ _ | apply bel_al | apply bel_drawn | apply Below.drew))⟩
  have FA := Lib.hid (show Nv w (.slice a1 l1.length c1) (val W l1) 60 from ⟨l1, ⟨a1, c1, rfl, h1⟩, rfl, q1⟩)
  clear h1
  generalize val W l1 = A at *
  have al := FA.out.lt
  have kl := bitsN_le al
  obtain ⟨kb, hkb⟩ : ∃ kb, kb = bitsN A := ⟨_, rfl⟩
  rw [← hkb] at kl
  have KB := Lib.hid hkb.symm; clear hkb
  have AB := Lib.hid (by have := bitsN_lt A; rw [KB.out] at this; exact this : A < 2 ^ kb)
  clear al
  have P0 := Lib.hid (pick_c n 301 w hn (by omega) (by omega))
  clear hn
  by_cases hg : kb = 0
  · subst hg
    go_enter Try.func5, Try.ntmps5
    go_wp2_with fail
    refine Calls.mono P0.out ?_; rintro e w' ⟨s, hs, rfl, rfl⟩; clear P0
    go_wp2_with fail
    refine Calls.mono (shl_n _ (val W [1]) 1 s 6 _ ?_ (by omega) (by omega) (by omega)) ?_
    · exact lit_nv (e := 29) [1] _ (by simp [heap_al, heap_dn, Array.getElem?_push, Array.getElem_push, enc]) rfl (by omega) (by decide +kernel) rfl
    rintro e w1 ⟨v1, rfl, h1, hb1⟩
    have B1 := Lib.hid (bel_trans (w := w) (by repeat (first | exact Below.refl _ _ | apply bel_al | apply bel_drawn | apply Below.drew)) hb1)
    clear hb1
    replace FA := Lib.hid (FA.out.below B1.out)
    have BT := B1
    have Fp := Lib.hid h1
    clear h1
    replace Fp := Lib.hid (Fp.out.eq (Y := 2 ^ s) (by rw [show val W [1] = 1 from rfl, Nat.one_mul]))
    go_wp2_with fail
    refine Calls.mono (divmod_n _ _ (A) (2 ^ s) 60 6 _ ?_ ?_ (by omega) (by omega)) ?_
    · exact FA.out.below (by repeat (first | exact Below.refl _ _ | apply bel_al | apply bel_drawn | apply Below.drew))
    · exact (Fp.out.below (by repeat (first | exact Below.refl _ _ | apply bel_al | apply bel_drawn | apply Below.drew))).nv
    rintro e w2 ⟨v2, u2, rfl, ⟨h2, g2⟩, hb2⟩
    have B2 := Lib.hid (bel_trans (w := w1) (by repeat (first | exact Below.refl _ _ | apply bel_al | apply bel_drawn | apply Below.drew)) hb2)
    clear hb2
    replace FA := Lib.hid (FA.out.below B2.out)
    replace Fp := Lib.hid (Fp.out.below B2.out)
    replace BT := Lib.hid (bel_trans BT.out B2.out)
    have Fq := Lib.hid h2
    clear h2
    have Fr := Lib.hid g2
    clear g2
    clear B2
    clear Fr
    go_wp2_with fail
    refine Calls.mono (bits_v _ (A) 60 0 _ ?_ (by omega) (KB.out)) ?_
    · exact FA.out.below (by repeat (first | exact Below.refl _ _ | apply bel_al | apply bel_drawn | apply Below.drew))
    rintro e w3 ⟨rfl, hb3⟩
    have B3 := Lib.hid (bel_trans (w := w2) (by repeat (first | exact Below.refl _ _ | apply bel_al | apply bel_drawn | apply Below.drew)) hb3)
    clear hb3
    replace FA := Lib.hid (FA.out.below B3.out)
    replace Fp := Lib.hid (Fp.out.below B3.out)
    replace Fq := Lib.hid (Fq.out.below B3.out)
    replace BT := Lib.hid (bel_trans BT.out B3.out)
    clear B3
    go_wp2_with fail
    refine Calls.mono (shl_n _ (val W [1]) 1 0 62 _ ?_ (by omega) (by omega) (by omega)) ?_
    · exact lit_nv (e := 29) [1] _ (by simp [heap_al, heap_dn, Array.getElem?_push, Array.getElem_push, enc]) rfl (by omega) (by decide +kernel) rfl
    rintro e w4 ⟨v4, rfl, h4, hb4⟩
    have B4 := Lib.hid (bel_trans (w := w3) (by repeat (first | exact Below.refl _ _ | apply bel_al | apply bel_drawn | apply Below.drew)) hb4)
    clear hb4
    replace FA := Lib.hid (FA.out.below B4.out)
    replace Fp := Lib.hid (Fp.out.below B4.out)
    replace Fq := Lib.hid (Fq.out.below B4.out)
    replace BT := Lib.hid (bel_trans BT.out B4.out)
    have Fu := Lib.hid h4
    clear h4
    clear B4
    replace Fu := Lib.hid (Fu.out.eq (Y := 2 ^ 0) (by rw [show val W [1] = 1 from rfl, Nat.one_mul]))
    go_wp2_with fail
    refine Calls.mono (cmp_v _ _ (A) (2 ^ 0) 60 62 (-1) _ ?_ ?_ (cmp_lo AB.out)) ?_
    · exact FA.out.below (by repeat (first | exact Below.refl _ _ | apply bel_al | apply bel_drawn | apply Below.drew))
    · exact (Fu.out.below (by repeat (first | exact Below.refl _ _ | apply bel_al | apply bel_drawn | apply Below.drew))).nv
    rintro e w5 ⟨rfl, hb5⟩
    have B5 := Lib.hid (bel_trans (w := w4) (by repeat (first | exact Below.refl _ _ | apply bel_al | apply bel_drawn | apply Below.drew)) hb5)
    clear hb5
    clear Fu
    replace FA := Lib.hid (FA.out.below B5.out)
    replace Fp := Lib.hid (Fp.out.below B5.out)
    replace Fq := Lib.hid (Fq.out.below B5.out)
    replace BT := Lib.hid (bel_trans BT.out B5.out)
    clear B5
    go_wp2_with fail
    refine Calls.mono (shl_n _ (A) 60 s 66 _ ?_ (by omega) (by omega) (by omega)) ?_
    · exact FA.out.below (by repeat (first | exact Below.refl _ _ | apply bel_al | apply bel_drawn | apply Below.drew))
    rintro e w6 ⟨v6, rfl, h6, hb6⟩
    have B6 := Lib.hid (bel_trans (w := w5) (by repeat (first | exact Below.refl _ _ | apply bel_al | apply bel_drawn | apply Below.drew)) hb6)
    clear hb6
    replace FA := Lib.hid (FA.out.below B6.out)
    replace Fp := Lib.hid (Fp.out.below B6.out)
    replace Fq := Lib.hid (Fq.out.below B6.out)
    replace BT := Lib.hid (bel_trans BT.out B6.out)
    have Fx := Lib.hid h6
    clear h6
    clear B6
    go_wp2_with fail
    refine Calls.mono (mul_n _ _ (A) (2 ^ s) 60 6 _ ?_ ?_ (by omega) (by omega)) ?_
    · exact FA.out.below (by repeat (first | exact Below.refl _ _ | apply bel_al | apply bel_drawn | apply Below.drew))
    · exact (Fp.out.below (by repeat (first | exact Below.refl _ _ | apply bel_al | apply bel_drawn | apply Below.drew))).nv
    rintro e w7 ⟨v7, rfl, h7, hb7⟩
    have B7 := Lib.hid (bel_trans (w := w6) (by repeat (first | exact Below.refl _ _ | apply bel_al | apply bel_drawn | apply Below.drew)) hb7)
    clear hb7
    replace FA := Lib.hid (FA.out.below B7.out)
    replace Fp := Lib.hid (Fp.out.below B7.out)
    replace Fq := Lib.hid (Fq.out.below B7.out)
    replace Fx := Lib.hid (Fx.out.below B7.out)
    replace BT := Lib.hid (bel_trans BT.out B7.out)
    have Fy := Lib.hid h7
    clear h7
    clear B7
    go_wp2_with fail
    refine Calls.mono (same_n _ _ ((A) * 2 ^ s) ((A) * (2 ^ s)) 66 66 _ ?_ ?_ (rfl)) ?_
    · exact Fx.out.below (by repeat (first | exact Below.refl _ _ | apply bel_al | apply bel_drawn | apply Below.drew))
    · exact Fy.out.below (by repeat (first | exact Below.refl _ _ | apply bel_al | apply bel_drawn | apply Below.drew))
    rintro e w8 ⟨rfl, hb8⟩
    have B8 := Lib.hid (bel_trans (w := w7) (by repeat (first | exact Below.refl _ _ | apply bel_al | apply bel_drawn | apply Below.drew)) hb8)
    clear hb8
    clear Fx
    clear Fy
    replace FA := Lib.hid (FA.out.below B8.out)
    replace Fp := Lib.hid (Fp.out.below B8.out)
    replace Fq := Lib.hid (Fq.out.below B8.out)
    replace BT := Lib.hid (bel_trans BT.out B8.out)
    clear B8
    go_wp2_with fail
    refine Calls.mono (shr_n _ (A) 60 s _ ?_ (by omega) (by omega)) ?_
    · exact FA.out.below (by repeat (first | exact Below.refl _ _ | apply bel_al | apply bel_drawn | apply Below.drew))
    rintro e w9 ⟨v9, rfl, h9, hb9⟩
    have B9 := Lib.hid (bel_trans (w := w8) (by repeat (first | exact Below.refl _ _ | apply bel_al | apply bel_drawn | apply Below.drew)) hb9)
    clear hb9
    replace FA := Lib.hid (FA.out.below B9.out)
    replace Fp := Lib.hid (Fp.out.below B9.out)
    replace Fq := Lib.hid (Fq.out.below B9.out)
    replace BT := Lib.hid (bel_trans BT.out B9.out)
    have Fx := Lib.hid h9
    clear h9
    clear B9
    go_wp2_with fail
    refine Calls.mono (same_n _ _ ((A) / 2 ^ s) ((A) / (2 ^ s)) 60 60 _ ?_ ?_ (rfl)) ?_
    · exact Fx.out.below (by repeat (first | exact Below.refl _ _ | apply bel_al | apply bel_drawn | apply Below.drew))
    · exact Fq.out.below (by repeat (first | exact Below.refl _ _ | apply bel_al | apply bel_drawn | apply Below.drew))
    rintro e w10 ⟨rfl, hb10⟩
    have B10 := Lib.hid (bel_trans (w := w9) (by repeat (first | exact Below.refl _ _ | apply bel_al | apply bel_drawn | apply Below.drew)) hb10)
    clear hb10
    clear Fx
    clear Fq
    replace FA := Lib.hid (FA.out.below B10.out)
    replace Fp := Lib.hid (Fp.out.below B10.out)
    replace BT := Lib.hid (bel_trans BT.out B10.out)
    clear B10
    go_wp2_with fail
    refine Calls.mono (shl_n _ (A) 60 s 66 _ ?_ (by omega) (by omega) (by omega)) ?_
    · exact FA.out.below (by repeat (first | exact Below.refl _ _ | apply bel_al | apply bel_drawn | apply Below.drew))
    rintro e w11 ⟨v11, rfl, h11, hb11⟩
    have B11 := Lib.hid (bel_trans (w := w10) (by repeat (first | exact Below.refl _ _ | apply bel_al | apply bel_drawn | apply Below.drew)) hb11)
    clear hb11
    replace FA := Lib.hid (FA.out.below B11.out)
    replace Fp := Lib.hid (Fp.out.below B11.out)
    replace BT := Lib.hid (bel_trans BT.out B11.out)
    have Fx := Lib.hid h11
    clear h11
    clear B11
    go_wp2_with fail
    refine Calls.mono (shr_n _ ((A) * 2 ^ s) 66 s _ ?_ (by omega) (by omega)) ?_
    · exact (Fx.out.below (by repeat (first | exact Below.refl _ _ | apply bel_al | apply bel_drawn | apply Below.drew))).nv
    rintro e w12 ⟨v12, rfl, h12, hb12⟩
    have B12 := Lib.hid (bel_trans (w := w11) (by repeat (first | exact Below.refl _ _ | apply bel_al | apply bel_drawn | apply Below.drew)) hb12)
    clear hb12
    clear Fx
    replace FA := Lib.hid (FA.out.below B12.out)
    replace Fp := Lib.hid (Fp.out.below B12.out)
    replace BT := Lib.hid (bel_trans BT.out B12.out)
    have Fy := Lib.hid h12
    clear h12
    clear B12
    go_wp2_with fail
    refine Calls.mono (trim_n _ (A) 60 _ ?_ (by omega)) ?_
    · exact FA.out.below (by repeat (first | exact Below.refl _ _ | apply bel_al | apply bel_drawn | apply Below.drew))
    rintro e w13 ⟨v13, rfl, h13, hb13⟩
    have B13 := Lib.hid (bel_trans (w := w12) (by repeat (first | exact Below.refl _ _ | apply bel_al | apply bel_drawn | apply Below.drew)) hb13)
    clear hb13
    replace FA := Lib.hid (FA.out.below B13.out)
    replace Fp := Lib.hid (Fp.out.below B13.out)
    replace Fy := Lib.hid (Fy.out.below B13.out)
    replace BT := Lib.hid (bel_trans BT.out B13.out)
    have Fz := Lib.hid h13
    clear h13
    clear B13
    go_wp2_with fail
    refine Calls.mono (same_n _ _ (((A) * 2 ^ s) / 2 ^ s) ((A)) 66 60 _ ?_ ?_ (Nat.mul_div_cancel _ (Nat.two_pow_pos _))) ?_
    · exact Fy.out.below (by repeat (first | exact Below.refl _ _ | apply bel_al | apply bel_drawn | apply Below.drew))
    · exact Fz.out.below (by repeat (first | exact Below.refl _ _ | apply bel_al | apply bel_drawn | apply Below.drew))
    rintro e w14 ⟨rfl, hb14⟩
    have B14 := Lib.hid (bel_trans (w := w13) (by repeat (first | exact Below.refl _ _ | apply bel_al | apply bel_drawn | apply Below.drew)) hb14)
    clear hb14
    clear Fy
    clear Fz
    replace FA := Lib.hid (FA.out.below B14.out)
    replace Fp := Lib.hid (Fp.out.below B14.out)
    replace BT := Lib.hid (bel_trans BT.out B14.out)
    clear B14
    go_wp2_with fail
    refine Calls.mono (bits_v _ (2 ^ s) 6 (s + 1) _ ?_ (by omega) (bitsN_pow _)) ?_
    · exact (Fp.out.below (by repeat (first | exact Below.refl _ _ | apply bel_al | apply bel_drawn | apply Below.drew))).nv
    rintro e w15 ⟨rfl, hb15⟩
    have B15 := Lib.hid (bel_trans (w := w14) (by repeat (first | exact Below.refl _ _ | apply bel_al | apply bel_drawn | apply Below.drew)) hb15)
    clear hb15
    replace FA := Lib.hid (FA.out.below B15.out)
    replace Fp := Lib.hid (Fp.out.below B15.out)
    replace BT := Lib.hid (bel_trans BT.out B15.out)
    clear B15
    go_wp2_with fail
    refine Calls.mono (awake_n _) ?_
    rintro e w16 ⟨rfl, hb16⟩
    have B16 := Lib.hid (bel_trans (w := w15) (by repeat (first | exact Below.refl _ _ | apply bel_al | apply bel_drawn | apply Below.drew)) hb16)
    clear hb16
    replace FA := Lib.hid (FA.out.below B16.out)
    replace Fp := Lib.hid (Fp.out.below B16.out)
    replace BT := Lib.hid (bel_trans BT.out B16.out)
    clear B16
    go_wp2_with fail
    go_ret
    exact ⟨rfl, bel_trans BT.out (by repeat (first | exact Below.refl _ _ | apply bel_al | apply bel_drawn | apply Below.drew))⟩
  · have hg0 : ((kb : Int) == 0) = false := by rw [beq_eq_false_iff_ne]; omega
    go_enter Try.func5, Try.ntmps5
    go_wp2_with fail
    refine Calls.mono P0.out ?_; rintro e w' ⟨s, hs, rfl, rfl⟩; clear P0
    go_wp2_with fail
    refine Calls.mono (shl_n _ (val W [1]) 1 s 6 _ ?_ (by omega) (by omega) (by omega)) ?_
    · exact lit_nv (e := 29) [1] _ (by simp [heap_al, heap_dn, Array.getElem?_push, Array.getElem_push, enc]) rfl (by omega) (by decide +kernel) rfl
    rintro e w1 ⟨v1, rfl, h1, hb1⟩
    have B1 := Lib.hid (bel_trans (w := w) (by repeat (first | exact Below.refl _ _ | apply bel_al | apply bel_drawn | apply Below.drew)) hb1)
    clear hb1
    replace FA := Lib.hid (FA.out.below B1.out)
    have BT := B1
    have Fp := Lib.hid h1
    clear h1
    replace Fp := Lib.hid (Fp.out.eq (Y := 2 ^ s) (by rw [show val W [1] = 1 from rfl, Nat.one_mul]))
    go_wp2_with fail
    refine Calls.mono (divmod_n _ _ (A) (2 ^ s) 60 6 _ ?_ ?_ (by omega) (by omega)) ?_
    · exact FA.out.below (by repeat (first | exact Below.refl _ _ | apply bel_al | apply bel_drawn | apply Below.drew))
    · exact (Fp.out.below (by repeat (first | exact Below.refl _ _ | apply bel_al | apply bel_drawn | apply Below.drew))).nv
    rintro e w2 ⟨v2, u2, rfl, ⟨h2, g2⟩, hb2⟩
    have B2 := Lib.hid (bel_trans (w := w1) (by repeat (first | exact Below.refl _ _ | apply bel_al | apply bel_drawn | apply Below.drew)) hb2)
    clear hb2
    replace FA := Lib.hid (FA.out.below B2.out)
    replace Fp := Lib.hid (Fp.out.below B2.out)
    replace BT := Lib.hid (bel_trans BT.out B2.out)
    have Fq := Lib.hid h2
    clear h2
    have Fr := Lib.hid g2
    clear g2
    clear B2
    clear Fr
    go_wp2_with fail
    refine Calls.mono (bits_v _ (A) 60 kb _ ?_ (by omega) (KB.out)) ?_
    · exact FA.out.below (by repeat (first | exact Below.refl _ _ | apply bel_al | apply bel_drawn | apply Below.drew))
    rintro e w3 ⟨rfl, hb3⟩
    have B3 := Lib.hid (bel_trans (w := w2) (by repeat (first | exact Below.refl _ _ | apply bel_al | apply bel_drawn | apply Below.drew)) hb3)
    clear hb3
    replace FA := Lib.hid (FA.out.below B3.out)
    replace Fp := Lib.hid (Fp.out.below B3.out)
    replace Fq := Lib.hid (Fq.out.below B3.out)
    replace BT := Lib.hid (bel_trans BT.out B3.out)
    clear B3
    go_wp2_with fail
    refine Calls.mono (shl_n _ (val W [1]) 1 kb 62 _ ?_ (by omega) (by omega) (by omega)) ?_
    · exact lit_nv (e := 29) [1] _ (by simp [heap_al, heap_dn, Array.getElem?_push, Array.getElem_push, enc]) rfl (by omega) (by decide +kernel) rfl
    rintro e w4 ⟨v4, rfl, h4, hb4⟩
    have B4 := Lib.hid (bel_trans (w := w3) (by repeat (first | exact Below.refl _ _ | apply bel_al | apply bel_drawn | apply Below.drew)) hb4)
    clear hb4
    replace FA := Lib.hid (FA.out.below B4.out)
    replace Fp := Lib.hid (Fp.out.below B4.out)
    replace Fq := Lib.hid (Fq.out.below B4.out)
    replace BT := Lib.hid (bel_trans BT.out B4.out)
    have Fu := Lib.hid h4
    clear h4
    clear B4
    replace Fu := Lib.hid (Fu.out.eq (Y := 2 ^ kb) (by rw [show val W [1] = 1 from rfl, Nat.one_mul]))
    go_wp2_with fail
    refine Calls.mono (cmp_v _ _ (A) (2 ^ kb) 60 62 (-1) _ ?_ ?_ (cmp_lo AB.out)) ?_
    · exact FA.out.below (by repeat (first | exact Below.refl _ _ | apply bel_al | apply bel_drawn | apply Below.drew))
    · exact (Fu.out.below (by repeat (first | exact Below.refl _ _ | apply bel_al | apply bel_drawn | apply Below.drew))).nv
    rintro e w5 ⟨rfl, hb5⟩
    have B5 := Lib.hid (bel_trans (w := w4) (by repeat (first | exact Below.refl _ _ | apply bel_al | apply bel_drawn | apply Below.drew)) hb5)
    clear hb5
    clear Fu
    replace FA := Lib.hid (FA.out.below B5.out)
    replace Fp := Lib.hid (Fp.out.below B5.out)
    replace Fq := Lib.hid (Fq.out.below B5.out)
    replace BT := Lib.hid (bel_trans BT.out B5.out)
    clear B5
    have hkb1 : ((kb : Int) - 1) = ((kb - 1 : Nat) : Int) := by omega
    obtain ⟨kc, hkc⟩ : ∃ kc, kc = kb - 1 := ⟨_, rfl⟩
    rw [← hkc] at hkb1
    have hkc2 : kc ≤ 3840 := by omega
    have KC := Lib.hid hkc; clear hkc
    go_wp2_with fail
    refine Calls.mono (shl_n _ (val W [1]) 1 kc 62 _ ?_ (by omega) (by omega) (by omega)) ?_
    · exact lit_nv (e := 29) [1] _ (by simp [heap_al, heap_dn, Array.getElem?_push, Array.getElem_push, enc]) rfl (by omega) (by decide +kernel) rfl
    rintro e w6 ⟨v6, rfl, h6, hb6⟩
    have B6 := Lib.hid (bel_trans (w := w5) (by repeat (first | exact Below.refl _ _ | apply bel_al | apply bel_drawn | apply Below.drew)) hb6)
    clear hb6
    replace FA := Lib.hid (FA.out.below B6.out)
    replace Fp := Lib.hid (Fp.out.below B6.out)
    replace Fq := Lib.hid (Fq.out.below B6.out)
    replace BT := Lib.hid (bel_trans BT.out B6.out)
    have Fu := Lib.hid h6
    clear h6
    clear B6
    replace Fu := Lib.hid (Fu.out.eq (Y := 2 ^ kc) (by rw [show val W [1] = 1 from rfl, Nat.one_mul]))
    obtain ⟨cc, hcc, hc0⟩ := @cmp_ge A (2 ^ kc) (by have h1 := bitsN_ge (n := A) (fun h0 => by have := KB.out; rw [h0, bitsN_zero] at this; omega); rw [KB.out] at h1; rw [KC.out]; exact h1.2)
    have CC := Lib.hid hcc; clear hcc
    go_wp2_with fail
    refine Calls.mono (cmp_v _ _ (A) (2 ^ kc) 60 62 cc _ ?_ ?_ (CC.out)) ?_
    · exact FA.out.below (by repeat (first | exact Below.refl _ _ | apply bel_al | apply bel_drawn | apply Below.drew))
    · exact (Fu.out.below (by repeat (first | exact Below.refl _ _ | apply bel_al | apply bel_drawn | apply Below.drew))).nv
    rintro e w7 ⟨rfl, hb7⟩
    have B7 := Lib.hid (bel_trans (w := w6) (by repeat (first | exact Below.refl _ _ | apply bel_al | apply bel_drawn | apply Below.drew)) hb7)
    clear hb7
    clear Fu
    replace FA := Lib.hid (FA.out.below B7.out)
    replace Fp := Lib.hid (Fp.out.below B7.out)
    replace Fq := Lib.hid (Fq.out.below B7.out)
    replace BT := Lib.hid (bel_trans BT.out B7.out)
    clear B7
    go_wp2_with fail
    refine Calls.mono (shl_n _ (A) 60 s 66 _ ?_ (by omega) (by omega) (by omega)) ?_
    · exact FA.out.below (by repeat (first | exact Below.refl _ _ | apply bel_al | apply bel_drawn | apply Below.drew))
    rintro e w8 ⟨v8, rfl, h8, hb8⟩
    have B8 := Lib.hid (bel_trans (w := w7) (by repeat (first | exact Below.refl _ _ | apply bel_al | apply bel_drawn | apply Below.drew)) hb8)
    clear hb8
    replace FA := Lib.hid (FA.out.below B8.out)
    replace Fp := Lib.hid (Fp.out.below B8.out)
    replace Fq := Lib.hid (Fq.out.below B8.out)
    replace BT := Lib.hid (bel_trans BT.out B8.out)
    have Fx := Lib.hid h8
    clear h8
    clear B8
    go_wp2_with fail
    refine Calls.mono (mul_n _ _ (A) (2 ^ s) 60 6 _ ?_ ?_ (by omega) (by omega)) ?_
    · exact FA.out.below (by repeat (first | exact Below.refl _ _ | apply bel_al | apply bel_drawn | apply Below.drew))
    · exact (Fp.out.below (by repeat (first | exact Below.refl _ _ | apply bel_al | apply bel_drawn | apply Below.drew))).nv
    rintro e w9 ⟨v9, rfl, h9, hb9⟩
    have B9 := Lib.hid (bel_trans (w := w8) (by repeat (first | exact Below.refl _ _ | apply bel_al | apply bel_drawn | apply Below.drew)) hb9)
    clear hb9
    replace FA := Lib.hid (FA.out.below B9.out)
    replace Fp := Lib.hid (Fp.out.below B9.out)
    replace Fq := Lib.hid (Fq.out.below B9.out)
    replace Fx := Lib.hid (Fx.out.below B9.out)
    replace BT := Lib.hid (bel_trans BT.out B9.out)
    have Fy := Lib.hid h9
    clear h9
    clear B9
    go_wp2_with fail
    refine Calls.mono (same_n _ _ ((A) * 2 ^ s) ((A) * (2 ^ s)) 66 66 _ ?_ ?_ (rfl)) ?_
    · exact Fx.out.below (by repeat (first | exact Below.refl _ _ | apply bel_al | apply bel_drawn | apply Below.drew))
    · exact Fy.out.below (by repeat (first | exact Below.refl _ _ | apply bel_al | apply bel_drawn | apply Below.drew))
    rintro e w10 ⟨rfl, hb10⟩
    have B10 := Lib.hid (bel_trans (w := w9) (by repeat (first | exact Below.refl _ _ | apply bel_al | apply bel_drawn | apply Below.drew)) hb10)
    clear hb10
    clear Fx
    clear Fy
    replace FA := Lib.hid (FA.out.below B10.out)
    replace Fp := Lib.hid (Fp.out.below B10.out)
    replace Fq := Lib.hid (Fq.out.below B10.out)
    replace BT := Lib.hid (bel_trans BT.out B10.out)
    clear B10
    go_wp2_with fail
    refine Calls.mono (shr_n _ (A) 60 s _ ?_ (by omega) (by omega)) ?_
    · exact FA.out.below (by repeat (first | exact Below.refl _ _ | apply bel_al | apply bel_drawn | apply Below.drew))
    rintro e w11 ⟨v11, rfl, h11, hb11⟩
    have B11 := Lib.hid (bel_trans (w := w10) (by repeat (first | exact Below.refl _ _ | apply bel_al | apply bel_drawn | apply Below.drew)) hb11)
    clear hb11
    replace FA := Lib.hid (FA.out.below B11.out)
    replace Fp := Lib.hid (Fp.out.below B11.out)
    replace Fq := Lib.hid (Fq.out.below B11.out)
    replace BT := Lib.hid (bel_trans BT.out B11.out)
    have Fx := Lib.hid h11
    clear h11
    clear B11
    go_wp2_with fail
    refine Calls.mono (same_n _ _ ((A) / 2 ^ s) ((A) / (2 ^ s)) 60 60 _ ?_ ?_ (rfl)) ?_
    · exact Fx.out.below (by repeat (first | exact Below.refl _ _ | apply bel_al | apply bel_drawn | apply Below.drew))
    · exact Fq.out.below (by repeat (first | exact Below.refl _ _ | apply bel_al | apply bel_drawn | apply Below.drew))
    rintro e w12 ⟨rfl, hb12⟩
    have B12 := Lib.hid (bel_trans (w := w11) (by repeat (first | exact Below.refl _ _ | apply bel_al | apply bel_drawn | apply Below.drew)) hb12)
    clear hb12
    clear Fx
    clear Fq
    replace FA := Lib.hid (FA.out.below B12.out)
    replace Fp := Lib.hid (Fp.out.below B12.out)
    replace BT := Lib.hid (bel_trans BT.out B12.out)
    clear B12
    go_wp2_with fail
    refine Calls.mono (shl_n _ (A) 60 s 66 _ ?_ (by omega) (by omega) (by omega)) ?_
    · exact FA.out.below (by repeat (first | exact Below.refl _ _ | apply bel_al | apply bel_drawn | apply Below.drew))
    rintro e w13 ⟨v13, rfl, h13, hb13⟩
    have B13 := Lib.hid (bel_trans (w := w12) (by repeat (first | exact Below.refl _ _ | apply bel_al | apply bel_drawn | apply Below.drew)) hb13)
    clear hb13
    replace FA := Lib.hid (FA.out.below B13.out)
    replace Fp := Lib.hid (Fp.out.below B13.out)
    replace BT := Lib.hid (bel_trans BT.out B13.out)
    have Fx := Lib.hid h13
    clear h13
    clear B13
    go_wp2_with fail
    refine Calls.mono (shr_n _ ((A) * 2 ^ s) 66 s _ ?_ (by omega) (by omega)) ?_
    · exact (Fx.out.below (by repeat (first | exact Below.refl _ _ | apply bel_al | apply bel_drawn | apply Below.drew))).nv
    rintro e w14 ⟨v14, rfl, h14, hb14⟩
    have B14 := Lib.hid (bel_trans (w := w13) (by repeat (first | exact Below.refl _ _ | apply bel_al | apply bel_drawn | apply Below.drew)) hb14)
    clear hb14
    clear Fx
    replace FA := Lib.hid (FA.out.below B14.out)
    replace Fp := Lib.hid (Fp.out.below B14.out)
    replace BT := Lib.hid (bel_trans BT.out B14.out)
    have Fy := Lib.hid h14
    clear h14
    clear B14
    go_wp2_with fail
    refine Calls.mono (trim_n _ (A) 60 _ ?_ (by omega)) ?_
    · exact FA.out.below (by repeat (first | exact Below.refl _ _ | apply bel_al | apply bel_drawn | apply Below.drew))
    rintro e w15 ⟨v15, rfl, h15, hb15⟩
    have B15 := Lib.hid (bel_trans (w := w14) (by repeat (first | exact Below.refl _ _ | apply bel_al | apply bel_drawn | apply Below.drew)) hb15)
    clear hb15
    replace FA := Lib.hid (FA.out.below B15.out)
    replace Fp := Lib.hid (Fp.out.below B15.out)
    replace Fy := Lib.hid (Fy.out.below B15.out)
    replace BT := Lib.hid (bel_trans BT.out B15.out)
    have Fz := Lib.hid h15
    clear h15
    clear B15
    go_wp2_with fail
    refine Calls.mono (same_n _ _ (((A) * 2 ^ s) / 2 ^ s) ((A)) 66 60 _ ?_ ?_ (Nat.mul_div_cancel _ (Nat.two_pow_pos _))) ?_
    · exact Fy.out.below (by repeat (first | exact Below.refl _ _ | apply bel_al | apply bel_drawn | apply Below.drew))
    · exact Fz.out.below (by repeat (first | exact Below.refl _ _ | apply bel_al | apply bel_drawn | apply Below.drew))
    rintro e w16 ⟨rfl, hb16⟩
    have B16 := Lib.hid (bel_trans (w := w15) (by repeat (first | exact Below.refl _ _ | apply bel_al | apply bel_drawn | apply Below.drew)) hb16)
    clear hb16
    clear Fy
    clear Fz
    replace FA := Lib.hid (FA.out.below B16.out)
    replace Fp := Lib.hid (Fp.out.below B16.out)
    replace BT := Lib.hid (bel_trans BT.out B16.out)
    clear B16
    go_wp2_with fail
    refine Calls.mono (bits_v _ (2 ^ s) 6 (s + 1) _ ?_ (by omega) (bitsN_pow _)) ?_
    · exact (Fp.out.below (by repeat (first | exact Below.refl _ _ | apply bel_al | apply bel_drawn | apply Below.drew))).nv
    rintro e w17 ⟨rfl, hb17⟩
    have B17 := Lib.hid (bel_trans (w := w16) (by repeat (first | exact Below.refl _ _ | apply bel_al | apply bel_drawn | apply Below.drew)) hb17)
    clear hb17
    replace FA := Lib.hid (FA.out.below B17.out)
    replace Fp := Lib.hid (Fp.out.below B17.out)
    replace BT := Lib.hid (bel_trans BT.out B17.out)
    clear B17
    go_wp2_with fail
    refine Calls.mono (awake_n _) ?_
    rintro e w18 ⟨rfl, hb18⟩
    have B18 := Lib.hid (bel_trans (w := w17) (by repeat (first | exact Below.refl _ _ | apply bel_al | apply bel_drawn | apply Below.drew)) hb18)
    clear hb18
    replace FA := Lib.hid (FA.out.below B18.out)
    replace Fp := Lib.hid (Fp.out.below B18.out)
    replace BT := Lib.hid (bel_trans BT.out B18.out)
    clear B18
    go_wp2_with fail
    go_ret
    exact ⟨rfl, bel_trans BT.out (by repeat (first | exact Below.refl _ _ | apply bel_al | apply bel_drawn | apply Below.drew))⟩

end Go.Proofs.Ytbofdldkiooegaa
