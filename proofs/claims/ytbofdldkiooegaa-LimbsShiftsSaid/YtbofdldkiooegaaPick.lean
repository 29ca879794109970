/- tripwirelow.Pick by its contract. -/
import Derived.Test.YtbofdldkiooegaaProg
import Derived.Test.YtbofdldkiooegaaMem
namespace Go.Proofs.Ytbofdldkiooegaa
open Go Go.RowKit Tw
set_option linter.unusedVariables false
set_option linter.unusedSimpArgs false

theorem pick_c (x : Int) (n : Nat) (w : World) (hx : (Lit.int .i64 x).wf = true) (hn : 0 < n) (hn2 : n ≤ 1000000) :
    Calls Try.prog 23 #[.int .i64 x, .int .i64 n] w fun e w' => ∃ m : Nat, m < n ∧ e = .returned (.int .i64 m) ∧ w = w' := by
  have hb : -9223372036854775808 ≤ x ∧ x ≤ 9223372036854775807 := by
    simp [Lit.wf, IntKind.min, IntKind.max, IntKind.bits, IntKind.signed] at hx
    omega
  obtain ⟨b1, b2⟩ := hb
  have hn0 : ¬ (n : Int) ≤ 0 := by omega
  have hne : ((n : Int) == 0) = false := by rw [beq_eq_false_iff_ne]; omega
  obtain ⟨r, hr⟩ : ∃ r, r = x.tmod n := ⟨_, rfl⟩
  have hr1 : r < n := by rw [hr]; exact Int.tmod_lt_of_pos x (by omega)
  have hr2 : -(n : Int) < r := by
    rw [hr]
    exact Int.lt_tmod_of_pos x (by omega)
  have HR := Lib.hid hr
  by_cases h0 : r < 0
  · obtain ⟨m, hm⟩ : ∃ m : Nat, (m : Int) = r + n := ⟨(r + n).toNat, by omega⟩
    have hmn : m < n := by omega
    go_enter Try.func23, Try.ntmps23
    go_wp2_with fail
    go_ret
    refine ⟨m, hmn, ?_, rfl⟩
    rw [hm]
    simp [HR.out]
  · obtain ⟨m, hm⟩ : ∃ m : Nat, (m : Int) = r := ⟨r.toNat, by omega⟩
    have hmn : m < n := by omega
    go_enter Try.func23, Try.ntmps23
    go_wp2_with fail
    go_ret
    refine ⟨m, hmn, ?_, rfl⟩
    rw [hm]
    simp [HR.out]

end Go.Proofs.Ytbofdldkiooegaa
