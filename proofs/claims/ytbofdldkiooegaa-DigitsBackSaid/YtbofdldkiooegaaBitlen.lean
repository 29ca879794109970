/- limbs.Bits by its contract: how many bits. -/
import Derived.Test.YtbofdldkiooegaaDiv64
import Derived.Test.YtbofdldkiooegaaShr
namespace Tw
/-- how many bits a number has -/
def bitsN (n : Nat) : Nat := if n = 0 then 0 else n.log2 + 1
theorem bitsN_zero : bitsN 0 = 0 := rfl
theorem bitsN_eq {n k : Nat} (h1 : 1 ≤ k) (h2 : 2 ^ (k - 1) ≤ n) (h3 : n < 2 ^ k) : bitsN n = k := by
  have hn : n ≠ 0 := by have := Nat.two_pow_pos (k - 1); omega
  unfold bitsN
  rw [if_neg hn]
  have := (Nat.log2_eq_iff hn (k := k - 1)).2 ⟨h2, by rw [show k - 1 + 1 = k by omega]; exact h3⟩
  omega
theorem bitsN_lt (n : Nat) : n < 2 ^ bitsN n := by
  unfold bitsN
  split
  · subst_vars; simp
  · exact Nat.lt_log2_self
theorem bitsN_ge {n : Nat} (h : n ≠ 0) : 1 ≤ bitsN n ∧ 2 ^ (bitsN n - 1) ≤ n := by
  unfold bitsN
  rw [if_neg h]
  exact ⟨by omega, by simpa using Nat.log2_self_le h⟩
theorem bitsN_pow (k : Nat) : bitsN (2 ^ k) = k + 1 := bitsN_eq (by omega) (by simp) (Nat.pow_lt_pow_right (by omega) (by omega))
theorem bitsN_pos {n : Nat} : bitsN n = 0 ↔ n = 0 := by
  constructor
  · intro h
    rcases Nat.eq_zero_or_pos n with h0 | h0
    · exact h0
    · have := (bitsN_ge (n := n) (by omega)).1; omega
  · rintro rfl; rfl
end Tw
namespace Go.Proofs.Ytbofdldkiooegaa
open Go Go.RowKit Tw
set_option linter.unusedVariables false
set_option linter.unusedSimpArgs false

theorem bits_c (v1 : Value) (l1 : List Nat) (w : World) (h1 : Wd w v1 l1) (hs1 : l1.length ≤ 60000) :
    Calls Try.prog 25 #[v1] w fun e w' => e = .returned (.int .i64 ((bitsN (val W l1) : Nat) : Int)) ∧ w = w' := by
  have H1 := Lib.hid h1
  have hle1 := length_digs_val W_two h1.dig
  have E1 := Lib.hid (val_digs W_two (val W l1))
  have T1 := Lib.hid (top_digs W_two (val W l1))
  clear h1
  by_cases hz : digs W (val W l1) = []
  · have h0 := (length_digs_zero (n := val W l1) W_two).1 (by rw [hz]; rfl)
    have HR := Lib.hid (show bitsN (val W l1) = 0 by rw [h0]; rfl)
    clear h0
    go_enter Try.func25, Try.ntmps25
    go_wp2_with fail
    refine Calls.mono (trimmed_v _ _ _ H1.out) ?_; rintro e w' ⟨t1, rfl, g1, rfl⟩
    rw [hz] at g1
    obtain ⟨a1, c1, rfl, hx1⟩ := g1
    clear hx1 hz
    go_wp2_with fail
    go_ret
    exact ⟨ret_int (by rw [HR.out]; rfl), rfl⟩
  · have hlen : 0 < (digs W (val W l1)).length := List.length_pos_iff.2 hz
    clear hz
    go_enter Try.func25, Try.ntmps25
    go_wp2_with fail
    refine Calls.mono (trimmed_v _ _ _ H1.out) ?_; rintro e w' ⟨t1, rfl, g1, rfl⟩
    clear H1
    generalize digs W (val W l1) = d1 at *
    obtain ⟨a1, c1, rfl, hx1⟩ := g1
    obtain ⟨b, o, rfl, hcl⟩ := hx1.2.2.2 (List.length_pos_iff.1 hlen)
    obtain ⟨n, hn⟩ : ∃ n, n = d1.length := ⟨_, rfl⟩
    have g1 := hcl (n - 1) (by omega)
    have hd := Lib.hid hx1.2.2.1
    have htW := Lib.hid (nth_dig hx1.2.2.1 (show n - 1 < d1.length by omega))
    have ht : 0 < nth d1 (n - 1) := by
      rcases T1.out with h | h
      · rw [h] at hlen; simp at hlen
      · rw [← hn] at h; omega
    rw [← hn] at hlen hle1 ⊢
    have HN := Lib.hid hn
    have hne0 : ((n : Int) == 0) = false := by rw [beq_eq_false_iff_ne]; omega
    obtain ⟨hb1, hb2, hb3, hb4⟩ := bitLen_bounds ht htW.out
    have hres : Hid (bitsN (val W l1) = 64 * (n - 1) + Lib.bitLen (nth d1 (n - 1))) := Lib.hid (by
      have hsp := val_split W d1 (n - 1) (by omega)
      rw [val_drop W (by omega), List.drop_of_length_le (by omega), val_nil, Nat.mul_zero, Nat.add_zero, E1.out] at hsp
      have hlo := val_lt (hd.out.take (n - 1))
      rw [List.length_take, Nat.min_eq_left (by omega)] at hlo
      have hp : W ^ (n - 1) = 2 ^ (64 * (n - 1)) := W_powk _
      refine bitsN_eq (by omega) ?_ ?_
      · have h1 := Nat.mul_le_mul_left (W ^ (n - 1)) hb2
        rw [show 64 * (n - 1) + Lib.bitLen (nth d1 (n - 1)) - 1 = 64 * (n - 1) + (Lib.bitLen (nth d1 (n - 1)) - 1) by omega, Nat.pow_add, ← hp]
        omega
      · have h1 : W ^ (n - 1) * (nth d1 (n - 1) + 1) ≤ W ^ (n - 1) * 2 ^ Lib.bitLen (nth d1 (n - 1)) := Nat.mul_le_mul_left _ hb3
        rw [Nat.pow_add, ← hp]
        rw [Nat.mul_add, Nat.mul_one] at h1; omega)
    clear hx1 hcl hn ht hb1 hb2 hb3
    go_wp2_with fail
    refine Calls.mono (len64_c _ _ htW.out) ?_; rintro e w' ⟨rfl, rfl⟩
    generalize Lib.bitLen (nth d1 (n - 1)) = bl at *
    go_wp2_with fail
    go_ret
    refine ⟨?_, rfl⟩
    rw [hres.out]
    refine ret_int ?_
    show (64 * ((n : Int) - 1) + (bl : Int)) = _
    omega

end Go.Proofs.Ytbofdldkiooegaa
