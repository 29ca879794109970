/- For any text its tokens, or its fault, are as the document defines. -/
import Derived.Test.YtkbhchlecokpiaaGreatFwR9b
namespace Go.Proofs.YtkbhchlecokpiaaGreat
open Go Go.RowKit Fw Tw Rat
set_option linter.unusedVariables false
set_option linter.unusedSimpArgs false
set_option maxHeartbeats 8000000 in
theorem sameNil_r : Ret Tryz.prog 35 [.nil, .nil] (.bool true) := by
  have := sameTokens_r (l := []) (by decide) (by simp)
  exact Ret.weak this (.cons le_nil (.cons le_nil .nil)) (Le.refl _)
theorem ttells_r {x : List UInt8} (hx : x.length ≤ maxLen) : Ret Tryz.prog 5 [.str x] (.bool true) := by
  have hml : maxLen = 9223372036854775807 := rfl
  by_cases c1 : 3000 < x.length
  case pos =>
    refine ret_of (L := L) lay_ok Tryz.func5 rfl Tryz.ntmps5 rfl ?_
    refine goq ?_
    refine go ?_
    refine awp_cT rfl (by rw [decide_eq_true_eq]; omega) ?_
    refine go ?_
    refine cl (by exact rfl) plain32 rfl awake9_r ?_
    refine go ?_
    refine ⟨_, rfl, ?_⟩
    rfl
  have t1 := tokens_r hx
  have t2 := rtokens_r hx
  have sq := @tokens_sq x
  generalize tokensT x = y at *
  rcases y with l | ⟨e, n⟩
  · have hs := sameTk_r (l := l) (by have := (sq rfl).2; omega) fun t ht => ((sq rfl).1 t ht).1
    refine ret_of (L := L) lay_ok Tryz.func5 rfl Tryz.ntmps5 rfl ?_
    refine goq ?_
    refine go ?_
    refine awp_cF rfl (by rw [decide_eq_false_iff_not]; omega) ?_
    refine go ?_
    refine cl (by exact rfl) plain33 rfl t1 ?_
    refine go ?_
    refine cl (by exact rfl) plain34 rfl t2 ?_
    refine go ?_
    refine ar_eqI fault_s [0, 0] [0, 0] rfl rfl rfl rfl rfl rfl ?_
    refine go ?_
    refine cl (by exact rfl) plain35 rfl hs ?_
    refine go ?_
    refine cl (by exact rfl) plain32 rfl awake9_r ?_
    refine go ?_
    refine ⟨_, rfl, ?_⟩
    rfl
  · refine ret_of (L := L) lay_ok Tryz.func5 rfl Tryz.ntmps5 rfl ?_
    refine goq ?_
    refine go ?_
    refine awp_cF rfl (by rw [decide_eq_false_iff_not]; omega) ?_
    refine go ?_
    refine cl (by exact rfl) plain33 rfl t1 ?_
    refine go ?_
    refine cl (by exact rfl) plain34 rfl t2 ?_
    refine go ?_
    refine ar_eqI fault_s [e, (n : Nat)] [e, (n : Nat)] rfl rfl rfl rfl rfl rfl ?_
    refine go ?_
    refine ar_eq 24 rfl (d' := .im (.bool true)) (eqt (beq_self_eq_true _)) ?_
    refine go ?_
    refine cl (by exact rfl) plain35 rfl sameNil_r ?_
    refine go ?_
    refine cl (by exact rfl) plain32 rfl awake9_r ?_
    refine go ?_
    refine ⟨_, rfl, ?_⟩
    rfl
end Go.Proofs.YtkbhchlecokpiaaGreat
