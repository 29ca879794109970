/- Statements of layer 3: what is asked awake. -/
import Derived.Test.YtbofdldkiooegaaFwD4
import Derived.Test.YtbofdldkiooegaaFwT2
namespace Go.Proofs.Ytbofdldkiooegaa
open Go Go.RowKit Fw Tw
set_option linter.unusedVariables false
set_option linter.unusedSimpArgs false
theorem text_lit {z : Int} {s : List UInt8} (h : parseZ s = (z, 0)) : textZ z = s := by
  have := text_parse (s := s) (by rw [h])
  rwa [h] at this
theorem textl_r {m : M} {z : Int} {k : Nat} {s : List UInt8} (h : IsZ m z k) (hk : k ≤ 10000) (hs : parseZ s = (z, 0)) : Ret Try.prog 54 [m] (.str s) := by
  have := text_r h hk
  rwa [text_lit hs] at this
theorem parsel_r {s : List UInt8} {z e : Int} (hs : s.length ≤ 700) (h : parseZ s = (z, e)) : Ret Try.prog 52 [.str s] (.tup [mI z, .int .i64 e]) := by
  have := parse_r (s := s) (by unfold maxLen; omega)
  rwa [h] at this
set_option maxHeartbeats 2000000 in
theorem awake3_r : Ret Try.prog 51 [] (.bool true) := by
  have p1 := parsel_r (s := [45, 49, 50]) (z := -12) (e := 0) (by decide) (by decide)
  have s1 := zsmall_r (of_z (n := -12) (by omega) (by omega)) (by omega)
  obtain ⟨q1, q2⟩ := small_in (z := -12) (by omega) (by omega)
  rw [q1, q2] at s1
  have i1 : IsZ (.agg [.bool false, mW [0, 1]]) 18446744073709551616 2 := ⟨false, [0, 1], rfl, fun x hx => by simp at hx; unfold W; omega, Nat.le_refl _, rfl⟩
  have t1 := textl_r i1 (by omega) (s := [49, 56, 52, 52, 54, 55, 52, 52, 48, 55, 51, 55, 48, 57, 53, 53, 49, 54, 49, 54]) (by decide)
  have t2 := textl_r (of_z (n := -5) (by omega) (by omega)) (by omega) (s := [45, 53]) (by decide)
  have t3 := textl_r (of_z (n := 0) (by omega) (by omega)) (by omega) (s := [48]) (by decide)
  have t4 : Ret Try.prog 54 [.agg [.bool false, .nil]] (.str [48]) := Ret.weak t3 (.cons le_zero .nil) (Le.refl _)
  refine ret_of (L := L) lay_ok Try.func51 rfl Try.ntmps51 rfl ?_
  repeat (first | iterate 1 (first | refine ar_addN rfl rfl rfl rfl (by omega) ?_ | refine ar_subN rfl rfl rfl rfl (by omega) ?_ | refine ar_op rfl ?_ | refine ar_div (wantF_ok rfl) rfl rfl rfl rfl (by decide) ?_ | refine ar_range rfl rfl rfl rfl rfl rfl ?_ | refine ar_nil ?_ | refine awp_seq ?_ | refine awp_region lay_ok ?_ | refine awp_drawn lay_ok follows_ok (by kernel_rfl) ?_ | refine And.intro (by kernel_rfl) ?_ | refine awp_block ?_ | refine awp_skip ?_ | refine awp_ret ?_ | refine awp_exit ?_ | refine awp_scope ?_ | refine awp_condT rfl ?_ | refine awp_condF rfl ?_) | refine ar_call' (f := 52) rfl rfl rfl rfl plain52 p1 ?_ | refine ar_call' (f := 61) rfl rfl rfl rfl plain61 s1 ?_ | refine ar_callZ' (f := 54) rfl rfl rfl rfl plain54 t1 rfl ?_ | refine ar_call' (f := 60) rfl rfl rfl rfl plain60 (of_r (by omega) (by omega)) ?_ | refine ar_call' (f := 54) rfl rfl rfl rfl plain54 t2 ?_ | refine ar_call' (f := 54) rfl rfl rfl rfl plain54 t4 ?_)
  refine ⟨_, rfl, ?_⟩
  rfl
end Go.Proofs.Ytbofdldkiooegaa
