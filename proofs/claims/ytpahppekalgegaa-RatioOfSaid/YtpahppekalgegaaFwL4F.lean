/- Of, as the document defines it. -/
import Derived.Test.YtpahppekalgegaaFwL4
import Derived.Test.YtpahppekalgegaaFwR4
namespace Go.Proofs.Ytpahppekalgegaa
open Go Go.RowKit Fw Tw Rat
set_option linter.unusedVariables false
set_option linter.unusedSimpArgs false
theorem qof_r {n d : Int} (hn1 : -9223372036854775808 ≤ n) (hn2 : n ≤ 9223372036854775807) (hd1 : -9223372036854775808 ≤ d) (hd2 : d ≤ 9223372036854775807) : Ret Try.prog 5 [.int .i64 n, .int .i64 d] (.bool true) := by
  have h1 := of_q hn1 hn2 hd1 hd2
  have h2 := rof_q hn1 hn2 hd1 hd2
  have h3 := sameQm_t (a := n /. d) (b := n /. d) rfl (Sq.of (by unfold W; omega) (by unfold W; omega)) (by omega)
  refine ret_of (L := L) lay_ok Try.func5 rfl Try.ntmps5 rfl ?_
  refine go ?_
  refine cl (by exact rfl) plain23 rfl h1 ?_
  refine go ?_
  refine cl (by exact rfl) plain24 rfl h2 ?_
  refine go ?_
  refine cl (by exact rfl) plain22 rfl h3 ?_
  refine go ?_
  refine cl (by exact rfl) plain25 rfl awake4_r ?_
  refine go ?_
  refine ⟨_, rfl, ?_⟩
  rfl
end Go.Proofs.Ytpahppekalgegaa
