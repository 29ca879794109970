/- The fixed examples of layer 4. -/
import Derived.Test.YtpahppekalgegaaFwL4
import Derived.Test.YtpahppekalgegaaFwL3N
namespace Go.Proofs.Ytpahppekalgegaa
open Go Go.RowKit Fw Tw Rat
set_option linter.unusedVariables false
set_option linter.unusedSimpArgs false
def noFrac : List (List UInt8) := [[], [47], [49, 47], [47, 50], [49, 47, 45, 50], [49, 47, 48, 50], [49, 47, 47, 50], [49, 47, 50, 47, 51], [45, 47, 50], [49, 32, 47, 50], [49, 47, 43, 50], [48, 46, 53], [45, 48, 47, 49], [49, 47, 45, 48]]
theorem noFrac_all : ∀ s ∈ noFrac, parseQ s = (0, 11) ∧ s.length ≤ 1300 := by decide +kernel
def sevens : List UInt8 := Lib.repeatL [55] 601
theorem parseQ2_r {s : List UInt8} {e : Int} (hs : s.length ≤ 1300) (h : (parseQ s).2 = e) : Ret Try.prog 47 [.str s] (.tup [mQ (parseQ s).1, .int .i64 e]) := by
  have := parseQ_r (s := s) (by unfold maxLen; omega)
  rwa [h] at this
theorem sz0 : Sq 0 1 := ⟨by decide, by decide, by omega⟩
theorem go_H047f7f {p q : Prop} (h : q) (f : Bx q → p := by intro h; (repeat (first | refine go1 ?_ | refine cl (by exact rfl) plain19 rfl si1 ?_ | refine cl (by exact rfl) plain19 rfl si2 ?_ | refine cl (by exact rfl) plain59 rfl mk0 ?_ | refine cl (by exact rfl) plain43 rfl wh ?_ | refine cl (by exact rfl) plain57 rfl (of_r (by omega) (by omega)) ?_ | refine cl (by exact rfl) plain23 rfl (of_q (by omega) (by omega) (by omega) (by omega)) ?_ | refine cl (by exact rfl) plain30 rfl (norm_q (by first | assumption | exact Sq.isQ (by repeat (first | assumption | exact IsQ.sq (by assumption) | apply Sq.quo | apply Sq.sub | apply Sq.add | apply Sq.mul | apply Sq.neg | apply Sq.abs | apply Sq.max | apply Sq.min | exact Sq.of (by decide) (by decide) | exact Sq.whole (by assumption) | exact Sq.floor1 (by assumption) | exact Sq.ceil1 (by assumption)))) (by omega)) ?_ | refine cl (by exact rfl) plain27 rfl (add_q (by first | assumption | exact Sq.isQ (by repeat (first | assumption | exact IsQ.sq (by assumption) | apply Sq.quo | apply Sq.sub | apply Sq.add | apply Sq.mul | apply Sq.neg | apply Sq.abs | apply Sq.max | apply Sq.min | exact Sq.of (by decide) (by decide) | exact Sq.whole (by assumption) | exact Sq.floor1 (by assumption) | exact Sq.ceil1 (by assumption)))) (by first | assumption | exact Sq.isQ (by repeat (first | assumption | exact IsQ.sq (by assumption) | apply Sq.quo | apply Sq.sub | apply Sq.add | apply Sq.mul | apply Sq.neg | apply Sq.abs | apply Sq.max | apply Sq.min | exact Sq.of (by decide) (by decide) | exact Sq.whole (by assumption) | exact Sq.floor1 (by assumption) | exact Sq.ceil1 (by assumption)))) (by omega) (by omega)) ?_ | refine cl (by exact rfl) plain29 rfl (sub_q (by first | assumption | exact Sq.isQ (by repeat (first | assumption | exact IsQ.sq (by assumption) | apply Sq.quo | apply Sq.sub | apply Sq.add | apply Sq.mul | apply Sq.neg | apply Sq.abs | apply Sq.max | apply Sq.min | exact Sq.of (by decide) (by decide) | exact Sq.whole (by assumption) | exact Sq.floor1 (by assumption) | exact Sq.ceil1 (by assumption)))) (by first | assumption | exact Sq.isQ (by repeat (first | assumption | exact IsQ.sq (by assumption) | apply Sq.quo | apply Sq.sub | apply Sq.add | apply Sq.mul | apply Sq.neg | apply Sq.abs | apply Sq.max | apply Sq.min | exact Sq.of (by decide) (by decide) | exact Sq.whole (by assumption) | exact Sq.floor1 (by assumption) | exact Sq.ceil1 (by assumption)))) (by omega) (by omega)) ?_ | refine cl (by exact rfl) plain32 rfl (mul_q (by first | assumption | exact Sq.isQ (by repeat (first | assumption | exact IsQ.sq (by assumption) | apply Sq.quo | apply Sq.sub | apply Sq.add | apply Sq.mul | apply Sq.neg | apply Sq.abs | apply Sq.max | apply Sq.min | exact Sq.of (by decide) (by decide) | exact Sq.whole (by assumption) | exact Sq.floor1 (by assumption) | exact Sq.ceil1 (by assumption)))) (by first | assumption | exact Sq.isQ (by repeat (first | assumption | exact IsQ.sq (by assumption) | apply Sq.quo | apply Sq.sub | apply Sq.add | apply Sq.mul | apply Sq.neg | apply Sq.abs | apply Sq.max | apply Sq.min | exact Sq.of (by decide) (by decide) | exact Sq.whole (by assumption) | exact Sq.floor1 (by assumption) | exact Sq.ceil1 (by assumption)))) (by omega) (by omega)) ?_ | refine cl (by exact rfl) plain33 rfl (quo_q (by first | assumption | exact Sq.isQ (by repeat (first | assumption | exact IsQ.sq (by assumption) | apply Sq.quo | apply Sq.sub | apply Sq.add | apply Sq.mul | apply Sq.neg | apply Sq.abs | apply Sq.max | apply Sq.min | exact Sq.of (by decide) (by decide) | exact Sq.whole (by assumption) | exact Sq.floor1 (by assumption) | exact Sq.ceil1 (by assumption)))) (by first | assumption | exact Sq.isQ (by repeat (first | assumption | exact IsQ.sq (by assumption) | apply Sq.quo | apply Sq.sub | apply Sq.add | apply Sq.mul | apply Sq.neg | apply Sq.abs | apply Sq.max | apply Sq.min | exact Sq.of (by decide) (by decide) | exact Sq.whole (by assumption) | exact Sq.floor1 (by assumption) | exact Sq.ceil1 (by assumption)))) (by omega) (by omega)) ?_ | refine cl (by exact rfl) plain31 rfl (neg_q (by first | assumption | exact Sq.isQ (by repeat (first | assumption | exact IsQ.sq (by assumption) | apply Sq.quo | apply Sq.sub | apply Sq.add | apply Sq.mul | apply Sq.neg | apply Sq.abs | apply Sq.max | apply Sq.min | exact Sq.of (by decide) (by decide) | exact Sq.whole (by assumption) | exact Sq.floor1 (by assumption) | exact Sq.ceil1 (by assumption)))) (by omega)) ?_ | refine cl (by exact rfl) plain42 rfl (abs_q (by first | assumption | exact Sq.isQ (by repeat (first | assumption | exact IsQ.sq (by assumption) | apply Sq.quo | apply Sq.sub | apply Sq.add | apply Sq.mul | apply Sq.neg | apply Sq.abs | apply Sq.max | apply Sq.min | exact Sq.of (by decide) (by decide) | exact Sq.whole (by assumption) | exact Sq.floor1 (by assumption) | exact Sq.ceil1 (by assumption)))) (by omega)) ?_ | refine cl (by exact rfl) plain40 rfl (max_q (by first | assumption | exact Sq.isQ (by repeat (first | assumption | exact IsQ.sq (by assumption) | apply Sq.quo | apply Sq.sub | apply Sq.add | apply Sq.mul | apply Sq.neg | apply Sq.abs | apply Sq.max | apply Sq.min | exact Sq.of (by decide) (by decide) | exact Sq.whole (by assumption) | exact Sq.floor1 (by assumption) | exact Sq.ceil1 (by assumption)))) (by first | assumption | exact Sq.isQ (by repeat (first | assumption | exact IsQ.sq (by assumption) | apply Sq.quo | apply Sq.sub | apply Sq.add | apply Sq.mul | apply Sq.neg | apply Sq.abs | apply Sq.max | apply Sq.min | exact Sq.of (by decide) (by decide) | exact Sq.whole (by assumption) | exact Sq.floor1 (by assumption) | exact Sq.ceil1 (by assumption)))) (by omega) (by omega)) ?_ | refine cl (by exact rfl) plain41 rfl (min_q (by first | assumption | exact Sq.isQ (by repeat (first | assumption | exact IsQ.sq (by assumption) | apply Sq.quo | apply Sq.sub | apply Sq.add | apply Sq.mul | apply Sq.neg | apply Sq.abs | apply Sq.max | apply Sq.min | exact Sq.of (by decide) (by decide) | exact Sq.whole (by assumption) | exact Sq.floor1 (by assumption) | exact Sq.ceil1 (by assumption)))) (by first | assumption | exact Sq.isQ (by repeat (first | assumption | exact IsQ.sq (by assumption) | apply Sq.quo | apply Sq.sub | apply Sq.add | apply Sq.mul | apply Sq.neg | apply Sq.abs | apply Sq.max | apply Sq.min | exact Sq.of (by decide) (by decide) | exact Sq.whole (by assumption) | exact Sq.floor1 (by assumption) | exact Sq.ceil1 (by assumption)))) (by omega) (by omega)) ?_ | refine cl (by exact rfl) plain39 rfl (cmp_q (by first | assumption | exact Sq.isQ (by repeat (first | assumption | exact IsQ.sq (by assumption) | apply Sq.quo | apply Sq.sub | apply Sq.add | apply Sq.mul | apply Sq.neg | apply Sq.abs | apply Sq.max | apply Sq.min | exact Sq.of (by decide) (by decide) | exact Sq.whole (by assumption) | exact Sq.floor1 (by assumption) | exact Sq.ceil1 (by assumption)))) (by first | assumption | exact Sq.isQ (by repeat (first | assumption | exact IsQ.sq (by assumption) | apply Sq.quo | apply Sq.sub | apply Sq.add | apply Sq.mul | apply Sq.neg | apply Sq.abs | apply Sq.max | apply Sq.min | exact Sq.of (by decide) (by decide) | exact Sq.whole (by assumption) | exact Sq.floor1 (by assumption) | exact Sq.ceil1 (by assumption)))) (by omega) (by omega)) ?_ | refine cl (by exact rfl) plain34 rfl (sameQ_q (by first | assumption | exact Sq.isQ (by repeat (first | assumption | exact IsQ.sq (by assumption) | apply Sq.quo | apply Sq.sub | apply Sq.add | apply Sq.mul | apply Sq.neg | apply Sq.abs | apply Sq.max | apply Sq.min | exact Sq.of (by decide) (by decide) | exact Sq.whole (by assumption) | exact Sq.floor1 (by assumption) | exact Sq.ceil1 (by assumption)))) (by first | assumption | exact Sq.isQ (by repeat (first | assumption | exact IsQ.sq (by assumption) | apply Sq.quo | apply Sq.sub | apply Sq.add | apply Sq.mul | apply Sq.neg | apply Sq.abs | apply Sq.max | apply Sq.min | exact Sq.of (by decide) (by decide) | exact Sq.whole (by assumption) | exact Sq.floor1 (by assumption) | exact Sq.ceil1 (by assumption)))) (by omega) (by omega)) ?_ | refine cl (by exact rfl) plain28 rfl (sign_q (by first | assumption | exact Sq.isQ (by repeat (first | assumption | exact IsQ.sq (by assumption) | apply Sq.quo | apply Sq.sub | apply Sq.add | apply Sq.mul | apply Sq.neg | apply Sq.abs | apply Sq.max | apply Sq.min | exact Sq.of (by decide) (by decide) | exact Sq.whole (by assumption) | exact Sq.floor1 (by assumption) | exact Sq.ceil1 (by assumption)))) (by omega)) ?_ | refine cl (by exact rfl) plain44 rfl (floor_q (by first | assumption | exact Sq.isQ (by repeat (first | assumption | exact IsQ.sq (by assumption) | apply Sq.quo | apply Sq.sub | apply Sq.add | apply Sq.mul | apply Sq.neg | apply Sq.abs | apply Sq.max | apply Sq.min | exact Sq.of (by decide) (by decide) | exact Sq.whole (by assumption) | exact Sq.floor1 (by assumption) | exact Sq.ceil1 (by assumption)))) (by omega)) ?_ | refine cl (by exact rfl) plain45 rfl (ceil_q (by first | assumption | exact Sq.isQ (by repeat (first | assumption | exact IsQ.sq (by assumption) | apply Sq.quo | apply Sq.sub | apply Sq.add | apply Sq.mul | apply Sq.neg | apply Sq.abs | apply Sq.max | apply Sq.min | exact Sq.of (by decide) (by decide) | exact Sq.whole (by assumption) | exact Sq.floor1 (by assumption) | exact Sq.ceil1 (by assumption)))) (by omega)) ?_ | refine cl (by exact rfl) plain46 rfl (isWhole_q (by first | assumption | exact Sq.isQ (by repeat (first | assumption | exact IsQ.sq (by assumption) | apply Sq.quo | apply Sq.sub | apply Sq.add | apply Sq.mul | apply Sq.neg | apply Sq.abs | apply Sq.max | apply Sq.min | exact Sq.of (by decide) (by decide) | exact Sq.whole (by assumption) | exact Sq.floor1 (by assumption) | exact Sq.ceil1 (by assumption)))) (by omega)) ?_ | refine cl (by exact rfl) plain48 rfl (textQ_r (by first | assumption | exact Sq.isQ (by repeat (first | assumption | exact IsQ.sq (by assumption) | apply Sq.quo | apply Sq.sub | apply Sq.add | apply Sq.mul | apply Sq.neg | apply Sq.abs | apply Sq.max | apply Sq.min | exact Sq.of (by decide) (by decide) | exact Sq.whole (by assumption) | exact Sq.floor1 (by assumption) | exact Sq.ceil1 (by assumption)))) (by omega)) ?_)); exact h.un) : p := f ⟨h⟩
theorem isn1 : Ret Try.prog 58 [mQ (0 : Rat), .str [48]] (.bool true) :=
  is4_r (k := 2000) (Sq.mono (j := 1) ⟨by decide +kernel, by decide +kernel, by omega⟩ (by omega)) (by omega) (textQ1 (n := 0) (s := [48]) (by decide +kernel) (by decide +kernel) (by decide))
theorem isn2 : Ret Try.prog 58 [mQ ((-6 : Int) /. (-4)), .str [51, 47, 50]] (.bool true) :=
  is4_r (k := 2000) (Sq.mono (j := 1) ⟨by decide +kernel, by decide +kernel, by omega⟩ (by omega)) (by omega) (textQ2 (n := 3) (d := 2) (s1 := [51]) (s2 := [50]) (by decide +kernel) (by decide +kernel) (by decide) (by decide) (by decide))
theorem isn3 : Ret Try.prog 58 [mQ ((1 : Int) /. 2 / (0 : Rat)), .str [48]] (.bool true) :=
  is4_r (k := 2000) (Sq.mono (j := 1) ⟨by decide +kernel, by decide +kernel, by omega⟩ (by omega)) (by omega) (textQ1 (n := 0) (s := [48]) (by decide +kernel) (by decide +kernel) (by decide))
theorem isn4 : Ret Try.prog 58 [mQ ((0 : Rat) + (1 : Int) /. 3), .str [49, 47, 51]] (.bool true) :=
  is4_r (k := 2000) (Sq.mono (j := 1) ⟨by decide +kernel, by decide +kernel, by omega⟩ (by omega)) (by omega) (textQ2 (n := 1) (d := 3) (s1 := [49]) (s2 := [51]) (by decide +kernel) (by decide +kernel) (by decide) (by decide) (by decide))
theorem isn5 : Ret Try.prog 58 [mQ ((0 : Rat) * ((-6 : Int) /. (-4))), .str [48]] (.bool true) :=
  is4_r (k := 2000) (Sq.mono (j := 1) ⟨by decide +kernel, by decide +kernel, by omega⟩ (by omega)) (by omega) (textQ1 (n := 0) (s := [48]) (by decide +kernel) (by decide +kernel) (by decide))
theorem isn6 : Ret Try.prog 58 [mQ (-((-6 : Int) /. (-4))), .str [45, 51, 47, 50]] (.bool true) :=
  is4_r (k := 2000) (Sq.mono (j := 1) ⟨by decide +kernel, by decide +kernel, by omega⟩ (by omega)) (by omega) (textQ2 (n := -3) (d := 2) (s1 := [45, 51]) (s2 := [50]) (by decide +kernel) (by decide +kernel) (by decide) (by decide) (by decide))
theorem isn7 : Ret Try.prog 58 [mQ (absQ ((-1 : Int) /. 3)), .str [49, 47, 51]] (.bool true) :=
  is4_r (k := 2000) (Sq.mono (j := 1) ⟨by decide +kernel, by decide +kernel, by omega⟩ (by omega)) (by omega) (textQ2 (n := 1) (d := 3) (s1 := [49]) (s2 := [51]) (by decide +kernel) (by decide +kernel) (by decide) (by decide) (by decide))
theorem isn8 : Ret Try.prog 58 [mQ ((3 : Int) /. 0), .str [48]] (.bool true) :=
  is4_r (k := 2000) (Sq.mono (j := 1) ⟨by decide +kernel, by decide +kernel, by omega⟩ (by omega)) (by omega) (textQ1 (n := 0) (s := [48]) (by decide +kernel) (by decide +kernel) (by decide))
theorem isn9 : Ret Try.prog 58 [mQ (maxQ ((1 : Int) /. 3) ((-6 : Int) /. (-4))), .str [51, 47, 50]] (.bool true) :=
  is4_r (k := 2000) (Sq.mono (j := 1) ⟨by decide +kernel, by decide +kernel, by omega⟩ (by omega)) (by omega) (textQ2 (n := 3) (d := 2) (s1 := [51]) (s2 := [50]) (by decide +kernel) (by decide +kernel) (by decide) (by decide) (by decide))
theorem isn10 : Ret Try.prog 58 [mQ (minQ ((-1 : Int) /. 3) ((-1 : Int) /. 2)), .str [45, 49, 47, 50]] (.bool true) :=
  is4_r (k := 2000) (Sq.mono (j := 1) ⟨by decide +kernel, by decide +kernel, by omega⟩ (by omega)) (by omega) (textQ2 (n := -1) (d := 2) (s1 := [45, 49]) (s2 := [50]) (by decide +kernel) (by decide +kernel) (by decide) (by decide) (by decide))
theorem isn11 : Ret Try.prog 58 [mQ ((-9223372036854775808 : Int) /. (-9223372036854775808)), .str [49]] (.bool true) :=
  is4_r (k := 2000) (Sq.mono (j := 1) ⟨by decide +kernel, by decide +kernel, by omega⟩ (by omega)) (by omega) (textQ1 (n := 1) (s := [49]) (by decide +kernel) (by decide +kernel) (by decide))
theorem isn12 : Ret Try.prog 58 [mQ ((-9223372036854775808 : Int) /. 1), .str [45, 57, 50, 50, 51, 51, 55, 50, 48, 51, 54, 56, 53, 52, 55, 55, 53, 56, 48, 56]] (.bool true) :=
  is4_r (k := 2000) (Sq.mono (j := 1) ⟨by decide +kernel, by decide +kernel, by omega⟩ (by omega)) (by omega) (textQ1 (n := -9223372036854775808) (s := [45, 57, 50, 50, 51, 51, 55, 50, 48, 51, 54, 56, 53, 52, 55, 55, 53, 56, 48, 56]) (by decide +kernel) (by decide +kernel) (by decide))
theorem isn13 : Ret Try.prog 58 [mQ (((-7 : Int) : Rat)), .str [45, 55]] (.bool true) :=
  is4_r (k := 2000) (Sq.mono (j := 1) ⟨by decide +kernel, by decide +kernel, by omega⟩ (by omega)) (by omega) (textQ1 (n := -7) (s := [45, 55]) (by decide +kernel) (by decide +kernel) (by decide))
abbrev zeroA : M := .agg [.bool (decide ((5 : Int) < 0)), mN (Int.natAbs 5), .bool false, mW [0]]
abbrev oddA : M := .agg [.bool true, mW [6, 0], .bool true, mW [4, 0, 0]]
theorem dig_lit {l : List Nat} (h : ∀ x ∈ l, x < 18446744073709551616) : Dig W l := by unfold Dig W; exact h
theorem zero_q : IsQ zeroA 0 3 := ⟨_, _, _, _, rfl, dig_digs W_two _, dig_lit (by decide), length_digs_le W_two (sz_mono (small64 (n := 5) (by omega) (by omega)) (by omega)), by decide, by omega, by rw [val_digs W_two]; decide +kernel⟩
theorem odd_q : IsQ oddA ((-6 : Int) /. (-4)) 3 := ⟨_, _, _, _, rfl, dig_lit (by decide), dig_lit (by decide), by decide, by decide, by omega, by decide +kernel⟩
set_option maxHeartbeats 8000000 in
theorem qnumbers_r : Ret Try.prog 11 [] (.bool true) := by
  have zq := zero_q
  have oq := odd_q
  have fz : IsZ (mI ((-3 : Int) /. 2).floor) ((-3 : Int) /. 2).floor 1 := isZ_mI (by decide +kernel)
  have fl := floor_q (Sq.isQ (Sq.of (n := -3) (d := 2) (by decide) (by decide))) (by omega)
  have ce := ceil_q (Sq.isQ (Sq.of (n := -3) (d := 2) (by decide) (by decide))) (by omega)
  have si1 := sameZ_r (z1 := ((-3 : Int) /. 2).floor) (z2 := -2) (k := 1) (by decide +kernel) ⟨by decide +kernel⟩ (by omega)
  have si2 := sameZ_r (z1 := ((-3 : Int) /. 2).ceil) (z2 := -1) (k := 1) (by decide +kernel) ⟨by decide +kernel⟩ (by omega)
  have o32 := of_q (n := -3) (d := 2) (by omega) (by omega) (by omega) (by omega)
  have mk0 := Ret.weak (make_q (of_z (n := 3) (by omega) (by omega)) (of_z (n := 0) (by omega) (by omega)) (by omega) (by omega)) (.cons (Le.refl _) (.cons le_zero .nil)) (Le.refl _)
  have wh := whole_q (of_z (n := -7) (by omega) (by omega)) (by omega)
  have l7 : sevens.length = 601 := by decide +kernel
  have r7 : Ret Try.prog 21 [.str [55], .int .i64 601] (.str sevens) := repeat_r (s := [55]) (c := 601) (by omega) (by decide)
  have pa := parseQ2_r (s := [49, 47, 48]) (e := 10) (by decide) (by decide +kernel)
  have pb := parseQ2_r (s := sevens ++ [47, 48]) (e := 3) (by rw [List.length_append, l7]; simp) (by decide +kernel)
  have pd := parseQ2_r (s := [49, 47] ++ sevens) (e := 3) (by rw [List.length_append, l7]; simp) (by decide +kernel)
  have pg := parseQl_r (s := [48, 47, 53]) (q := 0) (e := 0) (by decide) (by decide +kernel)
  generalize sevens = sv at *
  refine ret_of (L := L) lay_ok Try.func11 rfl Try.ntmps11 rfl ?_
  refine goq ?_
  refine gon ?_
  refine gon ?_
  refine gon ?_
  refine cl (by exact rfl) plain23 rfl o32 ?_
  refine goq ?_
  refine cl (by exact rfl) plain44 rfl fl ?_
  refine goq ?_
  refine cl (by exact rfl) plain23 rfl o32 ?_
  refine goq ?_
  refine cl (by exact rfl) plain45 rfl ce ?_
  refine goq ?_
  refine gon ?_
  refine cl (by exact rfl) plain57 rfl (of_r (by omega) (by omega)) ?_
  refine goq ?_
  refine gon ?_
  refine awp_frzBox (id := 28) (b := 4) rfl rfl (ds' := [.im (.bool (decide ((5 : Int) < 0))), .im (mN (Int.natAbs 5)), .im (.bool false), .im (mW [0])]) rfl ?_
  refine awp_frzBox (id := 31) (b := 5) rfl rfl (ds' := [.im (.bool true), .im (mW [6, 0]), .im (.bool true), .row 33 3 1]) rfl ?_
  refine awp_frzBox (id := 33) (b := 5) rfl rfl (ds' := [.im (.bool true), .im (mW [6, 0]), .im (.bool true), .im (mW [4, 0, 0])]) rfl ?_
  refine go_H047f7f ?_
  refine cl (by exact rfl) plain58 rfl isn1 ?_
  refine go_H047f7f ?_
  refine cl (by exact rfl) plain58 rfl isn2 ?_
  refine go_H047f7f ?_
  refine ar_eq 65 rfl (d' := .im (.bool true)) (eqt (by decide +kernel)) ?_
  refine go_H047f7f ?_
  refine cl (by exact rfl) plain58 rfl isn3 ?_
  refine go_H047f7f ?_
  refine cl (by exact rfl) plain58 rfl isn4 ?_
  refine go_H047f7f ?_
  refine cl (by exact rfl) plain58 rfl isn5 ?_
  refine go_H047f7f ?_
  refine cl (by exact rfl) plain58 rfl isn6 ?_
  refine go_H047f7f ?_
  refine cl (by exact rfl) plain58 rfl isn7 ?_
  refine go_H047f7f ?_
  refine cl (by exact rfl) plain58 rfl isn8 ?_
  refine go_H047f7f ?_
  refine cl (by exact rfl) plain58 rfl isn9 ?_
  refine go_H047f7f ?_
  refine cl (by exact rfl) plain58 rfl isn10 ?_
  refine go_H047f7f ?_
  refine ar_eq 120 rfl (d' := .im (.bool true)) (eqt (by decide +kernel)) ?_
  refine go_H047f7f ?_
  refine ar_eq 126 rfl (d' := .im (.bool true)) (eqt (by decide +kernel)) ?_
  refine go_H047f7f ?_
  refine cl (by exact rfl) plain58 rfl isn11 ?_
  refine go_H047f7f ?_
  refine cl (by exact rfl) plain58 rfl isn12 ?_
  refine go_H047f7f ?_
  refine ar_eq 142 rfl (d' := .im (.bool true)) (eqt (by decide +kernel)) ?_
  refine go_H047f7f ?_
  refine cl (by exact rfl) plain58 rfl isn13 ?_
  refine go ?_
  refine awp_frzRow (id := 147) (k := 147) (cs' := noFrac.flatMap mt) rfl rfl (by decide) rfl ?_
  refine awp_loopC (A := Nat) (B := Unit) (fun i => i ≤ 14) (fun i => [(149, some (.im (.int .i64 (i : Nat)))), (148, some (.im (.int .i64 14))), (147, some (.im (mS mt noFrac))), (6, some (.im (.bool true))), (7, some (.im (.bool true)))]) (fun _ => []) (fun i => 14 - i)
    (fun _ => True) (fun _ => [(6, some (.im (.bool true))), (7, some (.im (.bool true)))]) (fun _ => []) 0 (by omega) ?_ ?_ ?_
  · exact gou0
  · rintro i hi
    rcases Nat.lt_or_ge i 14 with hlt | hge
    · obtain ⟨g1, g2⟩ := noFrac_all _ (List.getElem_mem (show i < noFrac.length from hlt))
      have ps := parseQl_r g2 g1
      have sg := sign_q (Sq.isQ sz0) (by omega)
      refine go ?_
      refine awp_cT rfl (by rw [decide_eq_true_eq]; omega) ?_
      refine go ?_
      refine ar_at (enc := mt) (l := noFrac) i rfl rfl rfl rfl rfl (fun _ => rfl) rfl rfl hlt ?_
      refine go ?_
      refine cl (by exact rfl) plain47 rfl ps ?_
      refine go ?_
      refine cl (by exact rfl) plain28 rfl sg ?_
      refine go ?_
      refine ⟨i + 1, by omega, ?_, by omega⟩
      exact gou0
    · have : i = 14 := by omega
      subst this
      refine go ?_
      refine .inl ⟨rfl, (), trivial, ?_⟩
      exact gou0
  rintro _ -
  refine go ?_
  refine cl (by exact rfl) plain21 rfl r7 ?_
  refine go ?_
  refine cl (by exact rfl) plain47 rfl pa ?_
  refine go ?_
  refine ar_addStr (wantF_ok rfl) rfl rfl rfl (by rw [l7]; simp) ?_
  refine cl (by exact rfl) plain47 rfl pb ?_
  refine go ?_
  refine ar_addStr (wantF_ok rfl) rfl rfl rfl (by rw [l7]; simp) ?_
  refine cl (by exact rfl) plain47 rfl pd ?_
  refine go ?_
  refine cl (by exact rfl) plain47 rfl pg ?_
  refine go ?_
  refine cl (by exact rfl) plain58 rfl isn1 ?_
  refine go ?_
  refine cl (by exact rfl) plain25 rfl awake4_r ?_
  refine go ?_
  refine ⟨_, rfl, ?_⟩
  rfl
end Go.Proofs.Ytpahppekalgegaa
