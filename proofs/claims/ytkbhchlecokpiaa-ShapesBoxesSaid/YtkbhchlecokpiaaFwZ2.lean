/- Whole numbers: Small; comparing and bounding them. -/
import Derived.Test.YtkbhchlecokpiaaFwZ
set_option linter.unusedVariables false
set_option linter.unusedSimpArgs false
namespace Go.Proofs.Ytkbhchlecokpiaa
open Go Go.RowKit Fw Tw
set_option linter.unusedVariables false
set_option linter.unusedSimpArgs false

/-- what Small hands back -/
def smallOk (z : Int) : Bool := decide (-9223372036854775808 ≤ z ∧ z ≤ 9223372036854775807)
def smallZ (z : Int) : Int := if smallOk z = true then z else 0
theorem small_in {z : Int} (h1 : -9223372036854775808 ≤ z) (h2 : z ≤ 9223372036854775807) : smallZ z = z ∧ smallOk z = true := by
  have h : smallOk z = true := by unfold smallOk; rw [decide_eq_true_eq]; exact ⟨h1, h2⟩
  exact ⟨by unfold smallZ; rw [if_pos h], h⟩
theorem small_out {z : Int} (h1 : z < -9223372036854775808 ∨ 9223372036854775807 < z) : smallZ z = 0 ∧ smallOk z = false := by
  have h : smallOk z = false := by unfold smallOk; rw [decide_eq_false_iff_not]; omega
  exact ⟨by unfold smallZ; rw [h]; rfl, h⟩
/-- the same as it stands -/
theorem sameInt_r {b1 b2 : Bool} {l1 l2 : List Nat} (hl : l1.length ≤ 1000000000) : Ret Try.prog 89 [.agg [.bool b1, mW l1], .agg [.bool b2, mW l2]] (.bool (b1 == b2 && decide (l1 = l2))) := by
  have hs := same_r (l2 := l2) hl
  cases b1 <;> cases b2
  all_goals
    refine ret_of (L := L) lay_ok Try.func89 rfl Try.ntmps89 rfl ?_
    refine go ?_
    try (refine cl (by exact rfl) plain124 rfl hs ?_)
    refine go ?_
    refine ⟨_, rfl, ?_⟩
    simp [tupM]
end Go.Proofs.Ytkbhchlecokpiaa
