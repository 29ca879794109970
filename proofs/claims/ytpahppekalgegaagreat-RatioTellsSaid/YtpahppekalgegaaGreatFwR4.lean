/- The document's fractions, by the logic over data. -/
import Derived.Test.YtpahppekalgegaaGreatFwP4
import Derived.Test.YtpahppekalgegaaGreatFwR3
namespace Go.Proofs.YtpahppekalgegaaGreat
open Go Go.RowKit Fw Tw Rat
set_option linter.unusedVariables false
set_option linter.unusedSimpArgs false
theorem go_LWd069d0 {p q : Prop} (h : q) (f : Bx q → p := by intro h; (repeat (first | refine go1 ?_ | refine cl (by exact rfl) plain103 rfl hg ?_ | refine cl (by exact rfl) plain83 rfl d1 ?_ | refine cl (by exact rfl) plain83 rfl d2 ?_ | refine cl (by exact rfl) plain84 rfl o1 ?_ | refine cl (by exact rfl) plain80 rfl hc ?_ | refine cl (by exact rfl) plain73 rfl sd ?_ | refine cl (by exact rfl) plain79 rfl nn ?_ | refine cl (by exact rfl) plain79 rfl nd ?_ | refine cl (by exact rfl) plain66 rfl lw ?_ | refine cl (by exact rfl) plain26 rfl mk ?_ | refine cl (by exact rfl) plain84 rfl o2 ?_)); exact h.un) : p := f ⟨h⟩
theorem rlowest_q {mn md : M} {n d : Int} {j k : Nat} (h1 : IsZ mn n j) (h2 : IsZ md d k) (hd : 0 < d) (hj : j ≤ 90) (hk : k ≤ 90) : Ret Tryz.prog 66 [mn, md] (mQ (n /. d)) := by
  obtain ⟨p1, p2⟩ := divInt_parts (n := n) (d := d) (by omega)
  have eg : gQ n d = ((Int.gcd n d : Nat) : Int) := by unfold gQ; rw [if_neg (by omega)]
  rw [eg] at p1 p2
  have hg := rzgcd_r h1 h2 (by omega) (by omega)
  have sg1 : Sz ((Int.gcd n d : Nat) : Int) k := ⟨Nat.lt_of_le_of_lt (Nat.le_of_dvd (by omega) (Nat.gcd_dvd_right n.natAbs d.natAbs)) (Sz.of h2).h⟩
  have d1 := rzdivmod_r h1 sg1.isZ (by omega) (by omega)
  have d2 := rzdivmod_r h2 sg1.isZ (by omega) (by omega)
  have o1 := rof_r (n := 1) (by omega) (by omega)
  have hc := rzcmp_r (Sz.isZ (Sz.div (b := ((Int.gcd n d : Nat) : Int)) (Sz.of h2))) (of_z (n := 1) (by omega) (by omega)) (by omega) (by omega)
  generalize ((Int.gcd n d : Nat) : Int) = g at *
  obtain ⟨b1, l1, rfl, _⟩ := h1
  obtain ⟨b2, l2, rfl, _⟩ := h2
  refine ret_ofL (L := L) lay_ok Tryz.func66 rfl Tryz.ntmps66 rfl ?_
  refine go_LWd069d0 ?_
  by_cases h1 : d / g = 1
  · refine awp_cT rfl (by rw [h1]; rfl) ?_
    refine go ?_
    refine ⟨_, rfl, ?_⟩
    exact le_mQ1 p1 p2 h1
  · refine awp_cF rfl (by rw [beq_eq_false_iff_ne]; unfold signZ; split <;> (try split) <;> omega) ?_
    refine go ?_
    refine ⟨_, rfl, ?_⟩
    exact le_mQ2 p1 p2 h1
theorem rmake_q {mn md : M} {n d : Int} {j k : Nat} (h1 : IsZ mn n j) (h2 : IsZ md d k) (hj : j ≤ 90) (hk : k ≤ 90) : Ret Tryz.prog 26 [mn, md] (mQ (n /. d)) := by
  have sd := rsign_r h2 (by omega)
  have nn := rneg_r h1 (by omega)
  have nd := rneg_r h2 (by omega)
  have z1 := (Sz.of h1).neg.isZ
  have z2 := (Sz.of h2).neg.isZ
  have n1 := h1
  have n2 := h2
  obtain ⟨b1, l1, rfl, _⟩ := h1
  obtain ⟨b2, l2, rfl, _⟩ := h2
  rcases sign_cs d with ⟨e, hd⟩ | ⟨e, hd⟩ | ⟨e, hd⟩
  all_goals rw [e] at sd
  · have lw := rlowest_q z1 z2 (by omega) (by omega) (by omega)
    rw [Rat.neg_divInt_neg] at lw
    refine ret_ofL (L := L) lay_ok Tryz.func26 rfl Tryz.ntmps26 rfl ?_
    refine go_LWd069d0 ?_
    refine ⟨_, rfl, ?_⟩
    exact Le.refl _
  · rw [hd, Rat.divInt_zero]
    refine ret_ofL (L := L) lay_ok Tryz.func26 rfl Tryz.ntmps26 rfl ?_
    refine go_LWd069d0 ?_
    refine ⟨_, rfl, ?_⟩
    exact le_zeroQ
  · have lw := rlowest_q n1 n2 hd (by omega) (by omega)
    refine ret_ofL (L := L) lay_ok Tryz.func26 rfl Tryz.ntmps26 rfl ?_
    refine go_LWd069d0 ?_
    refine ⟨_, rfl, ?_⟩
    exact Le.refl _
end Go.Proofs.YtpahppekalgegaaGreat
