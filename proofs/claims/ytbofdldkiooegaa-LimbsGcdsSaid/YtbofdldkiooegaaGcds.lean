/- tripwire/tripwirelaw01.LimbsGcds: the walk. -/
import Derived.Test.YtbofdldkiooegaaAwake
import Derived.Test.YtbofdldkiooegaaRGcd
namespace Go.Proofs.Ytbofdldkiooegaa
open Go Go.RowKit Tw
set_option linter.unusedVariables false
set_option linter.unusedSimpArgs false

set_option maxRecDepth 100000 in
set_option maxHeartbeats 8000000 in
theorem limbsGcds_n (a1 a2 : Option Addr) (c1 c2 : Nat) (l1 l2 : List Nat) (w : World) (h1 : WdS w a1 c1 l1) (h2 : WdS w a2 c2 l2) :
    Calls Try.prog 3 #[.slice a1 l1.length c1, .slice a2 l2.length c2] w (RetIs w (.bool true)) := by
  by_cases q1 : l1.length ≤ 8
  case neg =>
    clear h1 h2
    go_enter Try.func3, Try.ntmps3
    go_wp2_with fail
    refine Calls.mono (awake_n _) ?_
    rintro e w1 ⟨rfl, hb1⟩
    have B1 := Lib.hid (bel_trans (w := w) (by repeat (first | exact Below.refl _ _ | apply bel_al | apply bel_drawn | apply Below.drew)) hb1)
    clear hb1
    have BT := B1
    go_wp2_with fail
    go_ret
    exact ⟨rfl, bel_trans BT.out (by repeat (first | exact Below.refl _ _ | apply bel_al | apply bel_drawn | apply Below.drew))⟩
  by_cases q2 : l2.length ≤ 8
  case neg =>
    clear h1 h2
    go_enter Try.func3, Try.ntmps3
    go_wp2_with fail
    refine Calls.mono (awake_n _) ?_
    rintro e w1 ⟨rfl, hb1⟩
    have B1 := Lib.hid (bel_trans (w := w) (by repeat (first | exact Below.refl _ _ | apply bel_al | apply bel_drawn | apply Below.drew)) hb1)
    clear hb1
    have BT := B1
    go_wp2_with fail
    go_ret
    exact ⟨rfl, bel_trans BT.out (by repeat (first | exact Below.refl _ _ | apply bel_al | apply bel_drawn | apply Below.drew))⟩
  have FA := Lib.hid (show Nv w (.slice a1 l1.length c1) (val W l1) 8 from ⟨l1, ⟨a1, c1, rfl, h1⟩, rfl, q1⟩)
  have FB := Lib.hid (show Nv w (.slice a2 l2.length c2) (val W l2) 8 from ⟨l2, ⟨a2, c2, rfl, h2⟩, rfl, q2⟩)
  clear h1 h2
  generalize val W l1 = A at *
  generalize val W l2 = B at *
  go_enter Try.func3, Try.ntmps3
  go_wp2_with fail
  refine Calls.mono (gcd_n _ _ (A) (B) 8 8 8 _ ?_ ?_ (by omega) (by omega) (by omega)) ?_
  · exact FA.out.below (by repeat (first | exact Below.refl _ _ | apply bel_al | apply bel_drawn | apply Below.drew))
  · exact FB.out.below (by repeat (first | exact Below.refl _ _ | apply bel_al | apply bel_drawn | apply Below.drew))
  rintro e w1 ⟨v1, rfl, h1, hb1⟩
  have B1 := Lib.hid (bel_trans (w := w) (by repeat (first | exact Below.refl _ _ | apply bel_al | apply bel_drawn | apply Below.drew)) hb1)
  clear hb1
  replace FA := Lib.hid (FA.out.below B1.out)
  replace FB := Lib.hid (FB.out.below B1.out)
  have BT := B1
  have Fg := Lib.hid h1
  clear h1
  go_wp2_with fail
  refine Calls.mono (rgcd_n _ _ (A) (B) _ ?_ ?_) ?_
  · exact (FA.out.below (by repeat (first | exact Below.refl _ _ | apply bel_al | apply bel_drawn | apply Below.drew))).mono (by omega)
  · exact (FB.out.below (by repeat (first | exact Below.refl _ _ | apply bel_al | apply bel_drawn | apply Below.drew))).mono (by omega)
  rintro e w2 ⟨v2, rfl, h2, hb2⟩
  have B2 := Lib.hid (bel_trans (w := w1) (by repeat (first | exact Below.refl _ _ | apply bel_al | apply bel_drawn | apply Below.drew)) hb2)
  clear hb2
  replace FA := Lib.hid (FA.out.below B2.out)
  replace FB := Lib.hid (FB.out.below B2.out)
  replace Fg := Lib.hid (Fg.out.below B2.out)
  replace BT := Lib.hid (bel_trans BT.out B2.out)
  have Fh := Lib.hid h2
  clear h2
  clear B2
  go_wp2_with fail
  refine Calls.mono (same_n _ _ (Nat.gcd (A) (B)) (Nat.gcd (A) (B)) 8 15 _ ?_ ?_ (rfl)) ?_
  · exact Fg.out.below (by repeat (first | exact Below.refl _ _ | apply bel_al | apply bel_drawn | apply Below.drew))
  · exact Fh.out.below (by repeat (first | exact Below.refl _ _ | apply bel_al | apply bel_drawn | apply Below.drew))
  rintro e w3 ⟨rfl, hb3⟩
  have B3 := Lib.hid (bel_trans (w := w2) (by repeat (first | exact Below.refl _ _ | apply bel_al | apply bel_drawn | apply Below.drew)) hb3)
  clear hb3
  clear Fg
  clear Fh
  replace FA := Lib.hid (FA.out.below B3.out)
  replace FB := Lib.hid (FB.out.below B3.out)
  replace BT := Lib.hid (bel_trans BT.out B3.out)
  clear B3
  go_wp2_with fail
  refine Calls.mono (awake_n _) ?_
  rintro e w4 ⟨rfl, hb4⟩
  have B4 := Lib.hid (bel_trans (w := w3) (by repeat (first | exact Below.refl _ _ | apply bel_al | apply bel_drawn | apply Below.drew)) hb4)
  clear hb4
  replace FA := Lib.hid (FA.out.below B4.out)
  replace FB := Lib.hid (FB.out.below B4.out)
  replace BT := Lib.hid (bel_trans BT.out B4.out)
  clear B4
  go_wp2_with fail
  go_ret
  exact ⟨rfl, bel_trans BT.out (by repeat (first | exact Below.refl _ _ | apply bel_al | apply bel_drawn | apply Below.drew))⟩

end Go.Proofs.Ytbofdldkiooegaa
