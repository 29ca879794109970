/- Whole numbers: Small; comparing and bounding them. -/
import Derived.Test.YtpahppekalgegaaFwZ
set_option linter.unusedVariables false
set_option linter.unusedSimpArgs false
namespace Go.Proofs.Ytpahppekalgegaa
open Go Go.RowKit Fw Tw
set_option linter.unusedVariables false
set_option linter.unusedSimpArgs false

/-- what Small hands back -/
def smallOk (z : Int) : Bool := decide (-9223372036854775808 ≤ z ∧ z ≤ 9223372036854775807)
def smallZ (z : Int) : Int := if smallOk z = true then z else 0
theorem small_in {z : Int} (h1 : -9223372036854775808 ≤ z) (h2 : z ≤ 9223372036854775807) : smallZ z = z ∧ smallOk z = true := by
  have h : smallOk z = true := by unfold smallOk; rw [decide_eq_true_eq]; exact ⟨h1, h2⟩
  exact ⟨by unfold smallZ; rw [if_pos h], h⟩
theorem small_out {z : Int} (h1 : z < -9223372036854775808 ∨ 9223372036854775807 < z) : smallZ z = 0 ∧ smallOk z = false := by
  have h : smallOk z = false := by unfold smallOk; rw [decide_eq_false_iff_not]; omega
  exact ⟨by unfold smallZ; rw [h]; rfl, h⟩
theorem zsmall_r {m : M} {z : Int} {k : Nat} (h : IsZ m z k) (hk : k ≤ 60000) : Ret Try.prog 60 [m] (.tup [.int .i64 (smallZ z), .bool (smallOk z)]) := by
  obtain ⟨b, l, rfl, hd, hl, rfl⟩ := h
  have ht := trim_r hd (by omega)
  obtain ⟨X, hX⟩ : ∃ X, X = Tw.val W l := ⟨_, rfl⟩
  rw [← hX] at ht ⊢
  by_cases h0 : X = 0
  · subst h0
    unfold mN at ht
    rw [digs_zero] at ht
    have hz : sg b 0 = 0 := by cases b <;> rfl
    rw [hz]
    refine ret_of (L := L) lay_ok Try.func60 rfl Try.ntmps60 rfl ?_
    refine go ?_
    refine cl (by exact rfl) plain67 rfl ht ?_
    refine go ?_
    refine ⟨_, rfl, ?_⟩
    rfl
  by_cases hW : W ≤ X
  · have hlen : 1 < (digs W X).length := by
      rcases Nat.lt_or_ge 1 (digs W X).length with h1 | h1
      · exact h1
      · have h2 := lt_pow_length W_two X
        have h3 : W ^ (digs W X).length ≤ W ^ 1 := Nat.pow_le_pow_right W_pos h1
        rw [Nat.pow_one] at h3
        omega
    obtain ⟨e1, e2⟩ := small_out (z := sg b X) (by unfold W at hW; cases b <;> simp [sg] <;> omega)
    rw [e1, e2]
    refine ret_of (L := L) lay_ok Try.func60 rfl Try.ntmps60 rfl ?_
    refine go ?_
    refine cl (by exact rfl) plain67 rfl ht ?_
    refine go ?_
    refine awp_cond rfl (fun hb => ?_) (fun hb => ?_)
    · simp at hb; simp [hb] at hlen
    · refine go ?_
      refine awp_cond rfl (fun hb2 => ?_) (fun hb2 => ?_)
      · refine go ?_
        refine ⟨_, rfl, ?_⟩
        rfl
      · simp at hb2; omega
  have hone : digs W X = [X] := by rw [digs_pos W_two (by omega), Nat.mod_eq_of_lt (by omega), Nat.div_eq_of_lt (by omega), digs_zero]
  unfold mN at ht
  rw [hone] at ht
  have hXlt : X < 18446744073709551616 := by unfold W at hW; omega
  cases b
  · by_cases hs : X < 9223372036854775808
    · obtain ⟨e1, e2⟩ := small_in (z := sg false X) (by simp [sg] <;> omega) (by simp [sg] <;> omega)
      rw [e1, e2]
      refine ret_of (L := L) lay_ok Try.func60 rfl Try.ntmps60 rfl ?_
      refine go ?_
      refine cl (by exact rfl) plain67 rfl ht ?_
      refine go ?_
      refine ar_at (enc := mw) (l := [X]) 0 rfl rfl rfl rfl rfl (fun _ => rfl) rfl rfl (by simp) ?_
      refine gos ?_
      refine ar_nil ?_
      refine awp_cond rfl (fun hb => ?_) (fun hb => ?_)
      · refine go ?_
        refine ar_at (enc := mw) (l := [X]) 0 rfl rfl rfl rfl rfl (fun _ => rfl) rfl rfl (by simp) ?_
        refine go ?_
        refine ⟨_, rfl, ?_⟩
        have : IntKind.i64.wrap (X : Int) = X := by rw [IntKind.wrap_i64]; omega
        simp [tupM, this, sg]
      · simp at hb; omega
    · obtain ⟨e1, e2⟩ := small_out (z := sg false X) (by simp [sg] <;> omega)
      rw [e1, e2]
      refine ret_of (L := L) lay_ok Try.func60 rfl Try.ntmps60 rfl ?_
      refine go ?_
      refine cl (by exact rfl) plain67 rfl ht ?_
      refine go ?_
      refine ar_at (enc := mw) (l := [X]) 0 rfl rfl rfl rfl rfl (fun _ => rfl) rfl rfl (by simp) ?_
      refine gos ?_
      refine ar_nil ?_
      refine awp_cond rfl (fun hb => ?_) (fun hb => ?_)
      · simp at hb; omega
      · refine go ?_
        refine ⟨_, rfl, ?_⟩
        rfl
  · by_cases hs : X ≤ 9223372036854775808
    · obtain ⟨e1, e2⟩ := small_in (z := sg true X) (by simp [sg] <;> omega) (by simp [sg] <;> omega)
      rw [e1, e2]
      refine ret_of (L := L) lay_ok Try.func60 rfl Try.ntmps60 rfl ?_
      refine go ?_
      refine cl (by exact rfl) plain67 rfl ht ?_
      refine go ?_
      refine ar_at (enc := mw) (l := [X]) 0 rfl rfl rfl rfl rfl (fun _ => rfl) rfl rfl (by simp) ?_
      refine gos ?_
      refine ar_nil ?_
      refine awp_cond rfl (fun hb => ?_) (fun hb => ?_)
      · refine go ?_
        refine ar_at (enc := mw) (l := [X]) 0 rfl rfl rfl rfl rfl (fun _ => rfl) rfl rfl (by simp) ?_
        refine go ?_
        refine ⟨_, rfl, ?_⟩
        have : IntKind.i64.wrap (IntKind.u64.wrap (-(X : Int))) = -(X : Int) := by rw [IntKind.wrap_u64, IntKind.wrap_i64]; omega
        simp [tupM, this, sg]
      · simp at hb; omega
    · obtain ⟨e1, e2⟩ := small_out (z := sg true X) (by simp [sg] <;> omega)
      rw [e1, e2]
      refine ret_of (L := L) lay_ok Try.func60 rfl Try.ntmps60 rfl ?_
      refine go ?_
      refine cl (by exact rfl) plain67 rfl ht ?_
      refine go ?_
      refine ar_at (enc := mw) (l := [X]) 0 rfl rfl rfl rfl rfl (fun _ => rfl) rfl rfl (by simp) ?_
      refine gos ?_
      refine ar_nil ?_
      refine awp_cond rfl (fun hb => ?_) (fun hb => ?_)
      · simp at hb; omega
      · refine go ?_
        refine ⟨_, rfl, ?_⟩
        rfl

/-- the same as it stands -/
theorem sameInt_r {b1 b2 : Bool} {l1 l2 : List Nat} (hl : l1.length ≤ 1000000000) : Ret Try.prog 19 [.agg [.bool b1, mW l1], .agg [.bool b2, mW l2]] (.bool (b1 == b2 && decide (l1 = l2))) := by
  have hs := same_r (l2 := l2) hl
  cases b1 <;> cases b2
  all_goals
    refine ret_of (L := L) lay_ok Try.func19 rfl Try.ntmps19 rfl ?_
    refine go ?_
    try (refine cl (by exact rfl) plain20 rfl hs ?_)
    refine go ?_
    refine ⟨_, rfl, ?_⟩
    simp [tupM]
theorem shortInt_r {b : Bool} {l : List Nat} {n : Int} : Ret Try.prog 12 [.agg [.bool b, mW l], .int .i64 n] (.bool (decide ((l.length : Int) ≤ n))) := by
  refine ret_of (L := L) lay_ok Try.func12 rfl Try.ntmps12 rfl ?_
  refine go ?_
  refine ⟨_, rfl, ?_⟩
  rfl
end Go.Proofs.Ytpahppekalgegaa
