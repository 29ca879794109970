/- The document's fractions, by the logic over data. -/
import Derived.Test.YtkbhchlecokpiaaGreatFwP4
import Derived.Test.YtkbhchlecokpiaaGreatFwR3
namespace Go.Proofs.YtkbhchlecokpiaaGreat
open Go Go.RowKit Fw Tw Rat
set_option linter.unusedVariables false
set_option linter.unusedSimpArgs false
theorem go_LW2db7a0 {p q : Prop} (h : q) (f : Bx q → p := by intro h; (repeat (first | refine go1 ?_ | refine cl (by exact rfl) plain112 rfl hg ?_ | refine cl (by exact rfl) plain113 rfl d1 ?_ | refine cl (by exact rfl) plain113 rfl d2 ?_ | refine cl (by exact rfl) plain107 rfl o1 ?_ | refine cl (by exact rfl) plain94 rfl hc ?_ | refine cl (by exact rfl) plain108 rfl sd ?_ | refine cl (by exact rfl) plain111 rfl nn ?_ | refine cl (by exact rfl) plain111 rfl nd ?_ | refine cl (by exact rfl) plain76 rfl lw ?_ | refine cl (by exact rfl) plain107 rfl o2 ?_)); exact h.un) : p := f ⟨h⟩
theorem rlowest_q {mn md : M} {n d : Int} {j k : Nat} (h1 : IsZ mn n j) (h2 : IsZ md d k) (hd : 0 < d) (hj : j ≤ 90) (hk : k ≤ 90) : Ret Tryz.prog 76 [mn, md] (mQ (n /. d)) := by
  obtain ⟨p1, p2⟩ := divInt_parts (n := n) (d := d) (by omega)
  have eg : gQ n d = ((Int.gcd n d : Nat) : Int) := by unfold gQ; rw [if_neg (by omega)]
  rw [eg] at p1 p2
  have hg := rzgcd_r h1 h2 (by omega) (by omega)
  have sg1 : Sz ((Int.gcd n d : Nat) : Int) k := ⟨Nat.lt_of_le_of_lt (Nat.le_of_dvd (by omega) (Nat.gcd_dvd_right n.natAbs d.natAbs)) (Sz.of h2).h⟩
  have d1 := rzdivmod_r h1 sg1.isZ (by omega) (by omega)
  have d2 := rzdivmod_r h2 sg1.isZ (by omega) (by omega)
  have o1 := rof_r (n := 1) (by omega) (by omega)
  have hc := rzcmp_r (Sz.isZ (Sz.div (b := ((Int.gcd n d : Nat) : Int)) (Sz.of h2))) (of_z (n := 1) (by omega) (by omega)) (by omega) (by omega)
  generalize ((Int.gcd n d : Nat) : Int) = g at *
  obtain ⟨b1, l1, rfl, _⟩ := h1
  obtain ⟨b2, l2, rfl, _⟩ := h2
  refine ret_ofL (L := L) lay_ok Tryz.func76 rfl Tryz.ntmps76 rfl ?_
  refine go_LW2db7a0 ?_
  by_cases h1 : d / g = 1
  · refine awp_cT rfl (by rw [h1]; rfl) ?_
    refine go ?_
    refine ⟨_, rfl, ?_⟩
    exact le_mQ1 p1 p2 h1
  · refine awp_cF rfl (by rw [beq_eq_false_iff_ne]; unfold signZ; split <;> (try split) <;> omega) ?_
    refine go ?_
    refine ⟨_, rfl, ?_⟩
    exact le_mQ2 p1 p2 h1
end Go.Proofs.YtkbhchlecokpiaaGreat
