/- The ring of the whole numbers. -/
import Derived.Test.YtbofdldkiooegaaFwL2
namespace Go.Proofs.Ytbofdldkiooegaa
open Go Go.RowKit Fw Tw
set_option linter.unusedVariables false
set_option linter.unusedSimpArgs false
theorem ring_r {b1 b2 b3 : Bool} {l1 l2 l3 : List Nat} (hd1 : Dig W l1) (hd2 : Dig W l2) (hd3 : Dig W l3) : Ret Try.prog 9 [.agg [.bool b1, mW l1], .agg [.bool b2, mW l2], .agg [.bool b3, mW l3]] (.bool true) := by
  by_cases c1 : (l1.length : Int) ≤ 40
  · by_cases c2 : (l2.length : Int) ≤ 40
    · by_cases c3 : (l3.length : Int) ≤ 40
      · obtain ⟨za, ha⟩ : ∃ z, z = sg b1 (Tw.val W l1) := ⟨_, rfl⟩
        obtain ⟨zb, hb⟩ : ∃ z, z = sg b2 (Tw.val W l2) := ⟨_, rfl⟩
        obtain ⟨zc, hc⟩ : ∃ z, z = sg b3 (Tw.val W l3) := ⟨_, rfl⟩
        have ia : IsZ (.agg [.bool b1, mW l1]) za 40 := ⟨b1, l1, rfl, hd1, by omega, ha⟩
        have ib : IsZ (.agg [.bool b2, mW l2]) zb 40 := ⟨b2, l2, rfl, hd2, by omega, hb⟩
        have ic : IsZ (.agg [.bool b3, mW l3]) zc 40 := ⟨b3, l3, rfl, hd3, by omega, hc⟩
        clear ha hb hc
        refine ret_of (L := L) lay_ok Try.func9 rfl Try.ntmps9 rfl ?_
        repeat (first
          | iterate 1 (first | refine ar_addN rfl rfl rfl rfl (by omega) ?_ | refine ar_subN rfl rfl rfl rfl (by omega) ?_ | refine ar_op rfl ?_ | refine ar_nil ?_ | refine awp_seq ?_ | refine awp_region lay_ok ?_ | refine awp_drawn lay_ok follows_ok (by kernel_rfl) ?_ | refine And.intro (by kernel_rfl) ?_ | refine awp_block ?_ | refine awp_skip ?_ | refine awp_ret ?_ | refine awp_exit ?_ | refine awp_scope ?_ | refine awp_condT rfl ?_ | refine awp_condF rfl ?_)
          | refine ar_call' (f := 42) rfl rfl rfl rfl plain42 (shortInt_t (by assumption)) ?_ | refine ar_call' (f := 60) rfl rfl rfl rfl plain60 (of_r (by omega) (by omega)) ?_ | refine ar_call' (f := 45) rfl rfl rfl rfl plain45 (zadd_r (by first | assumption | exact Sz.isZ (by repeat (first | exact Sz.of (by assumption) | apply Sz.add | apply Sz.sub | apply Sz.mul | apply Sz.neg | apply Sz.abs | apply Sz.gcd | apply Sz.div | apply Sz.mod | exact Sz.lit (by omega) (by omega)))) (by first | assumption | exact Sz.isZ (by repeat (first | exact Sz.of (by assumption) | apply Sz.add | apply Sz.sub | apply Sz.mul | apply Sz.neg | apply Sz.abs | apply Sz.gcd | apply Sz.div | apply Sz.mod | exact Sz.lit (by omega) (by omega)))) (by omega) (by omega)) ?_ | refine ar_call' (f := 47) rfl rfl rfl rfl plain47 (zsub_r (by first | assumption | exact Sz.isZ (by repeat (first | exact Sz.of (by assumption) | apply Sz.add | apply Sz.sub | apply Sz.mul | apply Sz.neg | apply Sz.abs | apply Sz.gcd | apply Sz.div | apply Sz.mod | exact Sz.lit (by omega) (by omega)))) (by first | assumption | exact Sz.isZ (by repeat (first | exact Sz.of (by assumption) | apply Sz.add | apply Sz.sub | apply Sz.mul | apply Sz.neg | apply Sz.abs | apply Sz.gcd | apply Sz.div | apply Sz.mod | exact Sz.lit (by omega) (by omega)))) (by omega) (by omega)) ?_ | refine ar_call' (f := 50) rfl rfl rfl rfl plain50 (zmul_r (by first | assumption | exact Sz.isZ (by repeat (first | exact Sz.of (by assumption) | apply Sz.add | apply Sz.sub | apply Sz.mul | apply Sz.neg | apply Sz.abs | apply Sz.gcd | apply Sz.div | apply Sz.mod | exact Sz.lit (by omega) (by omega)))) (by first | assumption | exact Sz.isZ (by repeat (first | exact Sz.of (by assumption) | apply Sz.add | apply Sz.sub | apply Sz.mul | apply Sz.neg | apply Sz.abs | apply Sz.gcd | apply Sz.div | apply Sz.mod | exact Sz.lit (by omega) (by omega)))) (by omega) (by omega)) ?_ | refine ar_call' (f := 48) rfl rfl rfl rfl plain48 (neg_r (by first | assumption | exact Sz.isZ (by repeat (first | exact Sz.of (by assumption) | apply Sz.add | apply Sz.sub | apply Sz.mul | apply Sz.neg | apply Sz.abs | apply Sz.gcd | apply Sz.div | apply Sz.mod | exact Sz.lit (by omega) (by omega)))) (by omega)) ?_ | refine ar_call' (f := 49) rfl rfl rfl rfl plain49 (norm_r (by first | assumption | exact Sz.isZ (by repeat (first | exact Sz.of (by assumption) | apply Sz.add | apply Sz.sub | apply Sz.mul | apply Sz.neg | apply Sz.abs | apply Sz.gcd | apply Sz.div | apply Sz.mod | exact Sz.lit (by omega) (by omega)))) (by omega)) ?_ | refine ar_call' (f := 59) rfl rfl rfl rfl plain59 (abs_r (by first | assumption | exact Sz.isZ (by repeat (first | exact Sz.of (by assumption) | apply Sz.add | apply Sz.sub | apply Sz.mul | apply Sz.neg | apply Sz.abs | apply Sz.gcd | apply Sz.div | apply Sz.mod | exact Sz.lit (by omega) (by omega)))) (by omega)) ?_ | refine ar_call' (f := 57) rfl rfl rfl rfl plain57 (sign_r (by first | assumption | exact Sz.isZ (by repeat (first | exact Sz.of (by assumption) | apply Sz.add | apply Sz.sub | apply Sz.mul | apply Sz.neg | apply Sz.abs | apply Sz.gcd | apply Sz.div | apply Sz.mod | exact Sz.lit (by omega) (by omega)))) (by omega)) ?_ | refine ar_call' (f := 56) rfl rfl rfl rfl plain56 (zcmp_r (by first | assumption | exact Sz.isZ (by repeat (first | exact Sz.of (by assumption) | apply Sz.add | apply Sz.sub | apply Sz.mul | apply Sz.neg | apply Sz.abs | apply Sz.gcd | apply Sz.div | apply Sz.mod | exact Sz.lit (by omega) (by omega)))) (by first | assumption | exact Sz.isZ (by repeat (first | exact Sz.of (by assumption) | apply Sz.add | apply Sz.sub | apply Sz.mul | apply Sz.neg | apply Sz.abs | apply Sz.gcd | apply Sz.div | apply Sz.mod | exact Sz.lit (by omega) (by omega)))) (by omega) (by omega)) ?_ | refine ar_call' (f := 63) rfl rfl rfl rfl plain63 (zgcd_r (by first | assumption | exact Sz.isZ (by repeat (first | exact Sz.of (by assumption) | apply Sz.add | apply Sz.sub | apply Sz.mul | apply Sz.neg | apply Sz.abs | apply Sz.gcd | apply Sz.div | apply Sz.mod | exact Sz.lit (by omega) (by omega)))) (by first | assumption | exact Sz.isZ (by repeat (first | exact Sz.of (by assumption) | apply Sz.add | apply Sz.sub | apply Sz.mul | apply Sz.neg | apply Sz.abs | apply Sz.gcd | apply Sz.div | apply Sz.mod | exact Sz.lit (by omega) (by omega)))) (by omega) (by omega)) ?_ | refine ar_call' (f := 58) rfl rfl rfl rfl plain58 (zdivmod_r (by first | assumption | exact Sz.isZ (by repeat (first | exact Sz.of (by assumption) | apply Sz.add | apply Sz.sub | apply Sz.mul | apply Sz.neg | apply Sz.abs | apply Sz.gcd | apply Sz.div | apply Sz.mod | exact Sz.lit (by omega) (by omega)))) (by first | assumption | exact Sz.isZ (by repeat (first | exact Sz.of (by assumption) | apply Sz.add | apply Sz.sub | apply Sz.mul | apply Sz.neg | apply Sz.abs | apply Sz.gcd | apply Sz.div | apply Sz.mod | exact Sz.lit (by omega) (by omega)))) (by omega) (by omega)) ?_
          | refine ar_call' (f := 44) rfl rfl rfl rfl plain44 (sameZ_r (by first | rfl | omega | exact Int.mul_comm _ _ | exact Int.mul_assoc _ _ _ | exact Int.mul_sub _ _ _ | exact Int.neg_mul _ _) (by repeat (first | exact Sz.of (by assumption) | apply Sz.add | apply Sz.sub | apply Sz.mul | apply Sz.neg | apply Sz.abs | apply Sz.gcd | apply Sz.div | apply Sz.mod | exact Sz.lit (by omega) (by omega))) (by omega)) ?_
          | refine ar_call' (f := 46) rfl rfl rfl rfl plain46 (is_r (by omega) (by omega) (by omega)) ?_
          | refine ar_call' (f := 43) rfl rfl rfl rfl plain43 awake_r ?_)
        refine ⟨_, rfl, ?_⟩
        rfl
      · refine ret_of (L := L) lay_ok Try.func9 rfl Try.ntmps9 rfl ?_
        repeat (first
          | iterate 1 (first | refine ar_addN rfl rfl rfl rfl (by omega) ?_ | refine ar_subN rfl rfl rfl rfl (by omega) ?_ | refine ar_op rfl ?_ | refine ar_nil ?_ | refine awp_seq ?_ | refine awp_region lay_ok ?_ | refine awp_drawn lay_ok follows_ok (by kernel_rfl) ?_ | refine And.intro (by kernel_rfl) ?_ | refine awp_block ?_ | refine awp_skip ?_ | refine awp_ret ?_ | refine awp_exit ?_ | refine awp_scope ?_ | refine awp_condT rfl ?_ | refine awp_condF rfl ?_)
          | refine ar_call' (f := 42) rfl rfl rfl rfl plain42 (shortInt_t (by assumption)) ?_
          | refine ar_call' (f := 42) rfl rfl rfl rfl plain42 (shortInt_f (by assumption)) ?_
          | refine ar_call' (f := 43) rfl rfl rfl rfl plain43 awake_r ?_)
        refine ⟨_, rfl, ?_⟩
        rfl
    · refine ret_of (L := L) lay_ok Try.func9 rfl Try.ntmps9 rfl ?_
      repeat (first
        | iterate 1 (first | refine ar_addN rfl rfl rfl rfl (by omega) ?_ | refine ar_subN rfl rfl rfl rfl (by omega) ?_ | refine ar_op rfl ?_ | refine ar_nil ?_ | refine awp_seq ?_ | refine awp_region lay_ok ?_ | refine awp_drawn lay_ok follows_ok (by kernel_rfl) ?_ | refine And.intro (by kernel_rfl) ?_ | refine awp_block ?_ | refine awp_skip ?_ | refine awp_ret ?_ | refine awp_exit ?_ | refine awp_scope ?_ | refine awp_condT rfl ?_ | refine awp_condF rfl ?_)
        | refine ar_call' (f := 42) rfl rfl rfl rfl plain42 (shortInt_t (by assumption)) ?_
        | refine ar_call' (f := 42) rfl rfl rfl rfl plain42 (shortInt_f (by assumption)) ?_
        | refine ar_call' (f := 43) rfl rfl rfl rfl plain43 awake_r ?_)
      refine ⟨_, rfl, ?_⟩
      rfl
  · refine ret_of (L := L) lay_ok Try.func9 rfl Try.ntmps9 rfl ?_
    repeat (first
      | iterate 1 (first | refine ar_addN rfl rfl rfl rfl (by omega) ?_ | refine ar_subN rfl rfl rfl rfl (by omega) ?_ | refine ar_op rfl ?_ | refine ar_nil ?_ | refine awp_seq ?_ | refine awp_region lay_ok ?_ | refine awp_drawn lay_ok follows_ok (by kernel_rfl) ?_ | refine And.intro (by kernel_rfl) ?_ | refine awp_block ?_ | refine awp_skip ?_ | refine awp_ret ?_ | refine awp_exit ?_ | refine awp_scope ?_ | refine awp_condT rfl ?_ | refine awp_condF rfl ?_)
      | refine ar_call' (f := 42) rfl rfl rfl rfl plain42 (shortInt_t (by assumption)) ?_
      | refine ar_call' (f := 42) rfl rfl rfl rfl plain42 (shortInt_f (by assumption)) ?_
      | refine ar_call' (f := 43) rfl rfl rfl rfl plain43 awake_r ?_)
    refine ⟨_, rfl, ?_⟩
    rfl
end Go.Proofs.Ytbofdldkiooegaa
