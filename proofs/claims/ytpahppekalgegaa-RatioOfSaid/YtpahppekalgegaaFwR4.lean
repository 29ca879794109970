/- The document's fractions, by the logic over data. -/
import Derived.Test.YtpahppekalgegaaFwP4
import Derived.Test.YtpahppekalgegaaFwR3
namespace Go.Proofs.Ytpahppekalgegaa
open Go Go.RowKit Fw Tw Rat
set_option linter.unusedVariables false
set_option linter.unusedSimpArgs false
theorem go_LWd069d0 {p q : Prop} (h : q) (f : Bx q → p := by intro h; (repeat (first | refine go1 ?_ | refine cl (by exact rfl) plain142 rfl hg ?_ | refine cl (by exact rfl) plain143 rfl d1 ?_ | refine cl (by exact rfl) plain143 rfl d2 ?_ | refine cl (by exact rfl) plain78 rfl o1 ?_ | refine cl (by exact rfl) plain144 rfl hc ?_ | refine cl (by exact rfl) plain120 rfl sd ?_ | refine cl (by exact rfl) plain121 rfl nn ?_ | refine cl (by exact rfl) plain121 rfl nd ?_ | refine cl (by exact rfl) plain122 rfl lw ?_ | refine cl (by exact rfl) plain77 rfl mk ?_ | refine cl (by exact rfl) plain78 rfl o2 ?_)); exact h.un) : p := f ⟨h⟩
theorem rlowest_q {mn md : M} {n d : Int} {j k : Nat} (h1 : IsZ mn n j) (h2 : IsZ md d k) (hd : 0 < d) (hj : j ≤ 15) (hk : k ≤ 15) : Ret Try.prog 122 [mn, md] (mQ (n /. d)) := by
  obtain ⟨p1, p2⟩ := divInt_parts (n := n) (d := d) (by omega)
  have eg : gQ n d = ((Int.gcd n d : Nat) : Int) := by unfold gQ; rw [if_neg (by omega)]
  rw [eg] at p1 p2
  have hg := rzgcd_r h1 h2 (by omega) (by omega)
  have sg1 := Sz.gcd (Sz.of h1) (Sz.of h2)
  have d1 := rzdivmod_r h1 sg1.isZ (by omega) (by omega)
  have d2 := rzdivmod_r h2 sg1.isZ (by omega) (by omega)
  have o1 := rof_r (n := 1) (by omega) (by omega)
  have hc := rzcmp_r (Sz.isZ (Sz.div (b := ((Int.gcd n d : Nat) : Int)) (Sz.of h2))) (of_z (n := 1) (by omega) (by omega)) (by omega) (by omega)
  generalize ((Int.gcd n d : Nat) : Int) = g at *
  obtain ⟨b1, l1, rfl, _⟩ := h1
  obtain ⟨b2, l2, rfl, _⟩ := h2
  refine ret_ofL (L := L) lay_ok Try.func122 rfl Try.ntmps122 rfl ?_
  refine go_LWd069d0 ?_
  by_cases h1 : d / g = 1
  · refine awp_cT rfl (by rw [h1]; rfl) ?_
    refine go ?_
    refine ⟨_, rfl, ?_⟩
    exact le_mQ1 p1 p2 h1
  · refine awp_cF rfl (by rw [beq_eq_false_iff_ne]; unfold signZ; split <;> (try split) <;> omega) ?_
    refine go ?_
    refine ⟨_, rfl, ?_⟩
    exact le_mQ2 p1 p2 h1
theorem rmake_q {mn md : M} {n d : Int} {j k : Nat} (h1 : IsZ mn n j) (h2 : IsZ md d k) (hj : j ≤ 15) (hk : k ≤ 15) : Ret Try.prog 77 [mn, md] (mQ (n /. d)) := by
  have sd := rsign_r h2 (by omega)
  have nn := rneg_r h1 (by omega)
  have nd := rneg_r h2 (by omega)
  have z1 := (Sz.of h1).neg.isZ
  have z2 := (Sz.of h2).neg.isZ
  have n1 := h1
  have n2 := h2
  obtain ⟨b1, l1, rfl, _⟩ := h1
  obtain ⟨b2, l2, rfl, _⟩ := h2
  rcases sign_cs d with ⟨e, hd⟩ | ⟨e, hd⟩ | ⟨e, hd⟩
  all_goals rw [e] at sd
  · have lw := rlowest_q z1 z2 (by omega) (by omega) (by omega)
    rw [Rat.neg_divInt_neg] at lw
    refine ret_ofL (L := L) lay_ok Try.func77 rfl Try.ntmps77 rfl ?_
    refine go_LWd069d0 ?_
    refine ⟨_, rfl, ?_⟩
    exact Le.refl _
  · rw [hd, Rat.divInt_zero]
    refine ret_ofL (L := L) lay_ok Try.func77 rfl Try.ntmps77 rfl ?_
    refine go_LWd069d0 ?_
    refine ⟨_, rfl, ?_⟩
    exact le_zeroQ
  · have lw := rlowest_q n1 n2 hd (by omega) (by omega)
    refine ret_ofL (L := L) lay_ok Try.func77 rfl Try.ntmps77 rfl ?_
    refine go_LWd069d0 ?_
    refine ⟨_, rfl, ?_⟩
    exact Le.refl _
theorem rof_q {n d : Int} (hn1 : -9223372036854775808 ≤ n) (hn2 : n ≤ 9223372036854775807) (hd1 : -9223372036854775808 ≤ d) (hd2 : d ≤ 9223372036854775807) : Ret Try.prog 24 [.int .i64 n, .int .i64 d] (mQ (n /. d)) := by
  have o1 := rof_r hn1 hn2
  have o2 := rof_r hd1 hd2
  have mk := rmake_q (of_z hn1 hn2) (of_z hd1 hd2) (by omega) (by omega)
  refine ret_of (L := L) lay_ok Try.func24 rfl Try.ntmps24 rfl ?_
  refine go_LWd069d0 ?_
  refine ⟨_, rfl, ?_⟩
  rfl
end Go.Proofs.Ytpahppekalgegaa
