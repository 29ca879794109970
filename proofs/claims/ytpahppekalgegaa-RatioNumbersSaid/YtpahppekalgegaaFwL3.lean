/- Statements of layer 3: what is asked awake. -/
import Derived.Test.YtpahppekalgegaaFwD4
import Derived.Test.YtpahppekalgegaaFwT2
set_option linter.unusedVariables false
set_option linter.unusedSimpArgs false
namespace Go.Proofs.Ytpahppekalgegaa
open Go Go.RowKit Fw Tw
set_option linter.unusedVariables false
set_option linter.unusedSimpArgs false
theorem text_lit {z : Int} {s : List UInt8} (h : parseZ s = (z, 0)) : textZ z = s := by
  have := text_parse (s := s) (by rw [h])
  rwa [h] at this
theorem textl_r {m : M} {z : Int} {k : Nat} {s : List UInt8} (h : IsZ m z k) (hk : k ≤ 10000) (hs : parseZ s = (z, 0)) : Ret Try.prog 17 [m] (.str s) := by
  have := text_r h hk
  rwa [text_lit hs] at this
theorem parsel_r {s : List UInt8} {z e : Int} (hs : s.length ≤ 700) (h : parseZ s = (z, e)) : Ret Try.prog 15 [.str s] (.tup [mI z, .int .i64 e]) := by
  have := parse_r (s := s) (by unfold maxLen; omega)
  rwa [h] at this
set_option maxHeartbeats 2000000 in
theorem awake3_r : Ret Try.prog 13 [] (.bool true) := by
  have p1 := parsel_r (s := [45, 49, 50]) (z := -12) (e := 0) (by decide) (by decide)
  have s1 := zsmall_r (of_z (n := -12) (by omega) (by omega)) (by omega)
  obtain ⟨q1, q2⟩ := small_in (z := -12) (by omega) (by omega)
  rw [q1, q2] at s1
  have i1 : IsZ (.agg [.bool false, mW [0, 1]]) 18446744073709551616 2 := ⟨false, [0, 1], rfl, fun x hx => by simp at hx; unfold W; omega, Nat.le_refl _, rfl⟩
  have t1 := textl_r i1 (by omega) (s := [49, 56, 52, 52, 54, 55, 52, 52, 48, 55, 51, 55, 48, 57, 53, 53, 49, 54, 49, 54]) (by decide)
  have t2 := textl_r (of_z (n := -5) (by omega) (by omega)) (by omega) (s := [45, 53]) (by decide)
  have t3 := textl_r (of_z (n := 0) (by omega) (by omega)) (by omega) (s := [48]) (by decide)
  have t4 : Ret Try.prog 17 [.agg [.bool false, .nil]] (.str [48]) := Ret.weak t3 (.cons le_zero .nil) (Le.refl _)
  refine ret_of (L := L) lay_ok Try.func13 rfl Try.ntmps13 rfl ?_
  repeat (first | refine go1 ?_ | refine cl (by exact rfl) plain15 rfl p1 ?_ | refine cl (by exact rfl) plain60 rfl s1 ?_ | refine clz (by exact rfl) plain17 rfl t1 ?_ | refine cl (by exact rfl) plain57 rfl (of_r (by omega) (by omega)) ?_ | refine cl (by exact rfl) plain17 rfl t2 ?_ | refine cl (by exact rfl) plain17 rfl t4 ?_)
  refine ⟨_, rfl, ?_⟩
  rfl
end Go.Proofs.Ytpahppekalgegaa
