/- limbs.Shl and limbs.Shr at every int, and over numbers. -/
import Derived.Test.YtbofdldkiooegaaN
namespace Go.Proofs.Ytbofdldkiooegaa
open Go Go.RowKit Tw
set_option linter.unusedVariables false
set_option linter.unusedSimpArgs false

theorem shl_far (v1 : Value) (l1 : List Nat) (s : Int) (w : World) (h1 : Wd w v1 l1) (hs : 1048576 < s) :
    Calls Try.prog 24 #[v1, .int .i64 s] w fun e w' => e = .returned (.slice none 0 0) ∧ w = w' := by
  have H1 := Lib.hid h1
  clear h1
  go_enter Try.func24, Try.ntmps24
  go_wp2_with fail
  refine Calls.mono (trimmed_v _ _ _ H1.out) ?_; rintro e w' ⟨t1, rfl, g1, rfl⟩
  obtain ⟨a1, c1, rfl, hx1⟩ := g1
  clear hx1
  go_wp2_with fail
  go_ret
  exact ⟨rfl, rfl⟩

theorem shl_neg (v1 : Value) (l1 : List Nat) (s : Int) (w : World) (h1 : Wd w v1 l1) (hl : l1.length ≤ 60000) (hs : s < 1) :
    Calls Try.prog 24 #[v1, .int .i64 s] w fun e w' => ∃ v, e = .returned v ∧ OwnW w.heap.size w' v (digs W (val W l1)) ∧ Below w.heap.size w w' := by
  have H1 := Lib.hid h1
  have hle1 := length_digs_val W_two h1.dig
  clear h1
  by_cases hz : digs W (val W l1) = []
  · have HR := Lib.hid hz
    go_enter Try.func24, Try.ntmps24
    go_wp2_with fail
    refine Calls.mono (trimmed_v _ _ _ H1.out) ?_; rintro e w' ⟨t1, rfl, g1, rfl⟩
    rw [hz] at g1
    clear hz
    obtain ⟨a1, c1, rfl, hx1⟩ := g1
    clear hx1
    go_wp2_with fail
    go_ret
    refine ⟨_, rfl, ?_, Below.refl _ _⟩
    rw [HR.out]; exact Own.nil _ _ _ _ _
  · have hne : (((digs W (val W l1)).length : Int) == 0) = false := by simp; exact hz
    clear hz
    go_enter Try.func24, Try.ntmps24
    go_wp2_with fail
    refine Calls.mono (trimmed_v _ _ _ H1.out) ?_; rintro e w' ⟨t1, rfl, g1, rfl⟩
    have G1 := Lib.hid g1
    obtain ⟨a1, c1, rfl, hx1⟩ := g1
    clear hx1
    go_wp2_with fail
    refine Calls.mono (clone_v _ _ _ G1.out (by omega)) ?_; rintro e w' ⟨v2, rfl, h2, hb⟩
    have H2 := Lib.hid h2; have HB := Lib.hid hb; clear h2 hb
    go_wp2_with fail
    go_ret
    exact ⟨_, rfl, H2.out, HB.out⟩

theorem shr_neg (v1 : Value) (l1 : List Nat) (s : Int) (w : World) (h1 : Wd w v1 l1) (hl : l1.length ≤ 60000) (hs : s < 1) :
    Calls Try.prog 27 #[v1, .int .i64 s] w fun e w' => ∃ v, e = .returned v ∧ OwnW w.heap.size w' v (digs W (val W l1)) ∧ Below w.heap.size w w' := by
  have H1 := Lib.hid h1
  have hle1 := length_digs_val W_two h1.dig
  clear h1
  go_enter Try.func27, Try.ntmps27
  go_wp2_with fail
  refine Calls.mono (trimmed_v _ _ _ H1.out) ?_; rintro e w' ⟨t1, rfl, g1, rfl⟩
  have G1 := Lib.hid g1; clear g1
  go_wp2_with fail
  refine Calls.mono (clone_v _ _ _ G1.out (by omega)) ?_; rintro e w' ⟨v2, rfl, h2, hb⟩
  have H2 := Lib.hid h2; have HB := Lib.hid hb; clear h2 hb
  go_wp2_with fail
  go_ret
  exact ⟨_, rfl, H2.out, HB.out⟩

/-- the shifted number, by any int -/
def shlI (X : Nat) (s : Int) : Nat := if 1048576 < s then 0 else X * 2 ^ s.toNat
def shrI (X : Nat) (s : Int) : Nat := X / 2 ^ s.toNat

theorem shl_in (v1 : Value) (X k1 : Nat) (s : Int) (k : Nat) (w : World) (h1 : Nv w v1 X k1) (hk1 : k1 ≤ 20000) (hk : 1048576 < s ∨ (64 * k1 : Int) + s ≤ 64 * k ∧ k1 ≤ k) :
    Calls Try.prog 24 #[v1, .int .i64 s] w (Ret w fun v w' => Nc w' v (shlI X s) k) := by
  unfold shlI
  by_cases hf : 1048576 < s
  · rw [if_pos hf]
    obtain ⟨l1, g1, rfl, i1⟩ := h1
    refine (shl_far v1 l1 s w g1 hf).mono ?_
    rintro e w' ⟨rfl, rfl⟩
    exact ⟨_, rfl, ⟨by rw [digs_zero]; exact (Own.nil .u64 29 W w.heap.size w).ls, by rw [digs_zero]; exact Nat.zero_le _⟩, Below.refl _ _⟩
  · rw [if_neg hf]
    obtain ⟨hk, hk2⟩ : (64 * k1 : Int) + s ≤ 64 * k ∧ k1 ≤ k := hk.resolve_left hf
    by_cases h0 : s < 1
    · obtain ⟨l1, g1, rfl, i1⟩ := h1
      refine (shl_neg v1 l1 s w g1 (by omega) h0).mono ?_
      rintro e w' ⟨v', rfl, h4, h5⟩
      refine ⟨v', rfl, ?_, h5⟩
      rw [show s.toNat = 0 by omega, Nat.pow_zero, Nat.mul_one]
      have h6 := val_lt g1.dig
      exact own_nc h4 (Nat.lt_of_lt_of_le h6 (Nat.pow_le_pow_right W_pos (by omega)))
    · obtain ⟨m, rfl⟩ : ∃ m : Nat, s = m := ⟨s.toNat, by omega⟩
      rw [Int.toNat_natCast]
      exact shl_n v1 X k1 m k w h1 hk1 (by omega) (by omega)

theorem shr_in (v1 : Value) (X k1 : Nat) (s : Int) (w : World) (h1 : Nv w v1 X k1) (hk1 : k1 ≤ 60000) (hs : s ≤ 9223372036854775807) :
    Calls Try.prog 27 #[v1, .int .i64 s] w (Ret w fun v w' => Nc w' v (shrI X s) k1) := by
  unfold shrI
  by_cases h0 : s < 1
  · obtain ⟨l1, g1, rfl, i1⟩ := h1
    refine (shr_neg v1 l1 s w g1 (by omega) h0).mono ?_
    rintro e w' ⟨v', rfl, h4, h5⟩
    refine ⟨v', rfl, ?_, h5⟩
    rw [show s.toNat = 0 by omega, Nat.pow_zero, Nat.div_one]
    have h6 := val_lt g1.dig
    exact own_nc h4 (Nat.lt_of_lt_of_le h6 (Nat.pow_le_pow_right W_pos (by omega)))
  · obtain ⟨m, rfl⟩ : ∃ m : Nat, s = m := ⟨s.toNat, by omega⟩
    rw [Int.toNat_natCast]
    exact shr_n v1 X k1 m w h1 hk1 (by omega)

theorem nil_nv (w : World) : Nv w (.slice none 0 0) 0 0 := ⟨[], (Own.nil .u64 29 W w.heap.size w).ls, rfl, Nat.le_refl _⟩
theorem nil_nc (w : World) : Nc w (.slice none 0 0) 0 0 := ⟨by rw [digs_zero]; exact (Own.nil .u64 29 W w.heap.size w).ls, by rw [digs_zero]; exact Nat.zero_le _⟩

theorem shl_out_aux (v1 : Value) (n : Nat) (w : World) (hn : n = 1048576) (h1 : Nv w v1 1 1) :
    Calls Try.prog 24 #[v1, .int .i64 n] w (Ret w fun v w' => ∃ a c, v = .slice a 16385 c) := by
  refine (shl_n v1 1 1 n 16385 w h1 (by omega) (by omega) (by omega)).mono ?_
  rintro e w' ⟨v', rfl, h4, h5⟩
  obtain ⟨a, c, m, rfl, h6, h7⟩ := h4.shape
  refine ⟨_, rfl, ⟨a, c, ?_⟩, h5⟩
  have h8 := lt_pow_length W_two (1 * 2 ^ n)
  rw [← h6, W_powk, Nat.one_mul] at h8
  have h9 := (Nat.pow_lt_pow_iff_right (by omega)).1 h8
  rw [show m = 16385 by omega]

/-- 1 moved as far as can be: its digits -/
theorem shl_out (v1 : Value) (w : World) (h1 : Nv w v1 1 1) :
    Calls Try.prog 24 #[v1, .int .i64 1048576] w (Ret w fun v w' => ∃ a c, v = .slice a 16385 c) :=
  shl_out_aux v1 1048576 w rfl h1

end Go.Proofs.Ytbofdldkiooegaa
