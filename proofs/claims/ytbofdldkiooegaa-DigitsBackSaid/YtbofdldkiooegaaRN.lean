/- The reference of layer 1 over numbers. -/
import Derived.Test.YtbofdldkiooegaaRShl
namespace Go.Proofs.Ytbofdldkiooegaa
open Go Go.RowKit Tw
set_option linter.unusedVariables false
set_option linter.unusedSimpArgs false

theorem radd_n (v1 v2 : Value) (X Y k1 k2 k : Nat) (w : World) (h1 : Nv w v1 X k1) (h2 : Nv w v2 Y k2) (hk1 : k1 < k) (hk2 : k2 < k) (hk : k ≤ 2000) :
    Calls Try.prog 33 #[v1, v2] w (Ret w fun v w' => Nc w' v (X + Y) k) := by
  have a1 := h1.lt; have a2 := h2.lt
  obtain ⟨l1, g1, rfl, i1⟩ := h1
  obtain ⟨l2, g2, rfl, i2⟩ := h2
  refine (radd_c v1 v2 l1 l2 w g1 g2 (by omega) (by omega)).mono ?_
  rintro e w' ⟨v', rfl, h4, h5⟩
  refine ⟨v', rfl, own_nc h4 ?_, h5⟩
  have b1 := Nat.pow_le_pow_right W_pos (show k1 ≤ k - 1 by omega)
  have b2 := Nat.pow_le_pow_right W_pos (show k2 ≤ k - 1 by omega)
  have e : W ^ k = W ^ (k - 1) * W := by rw [← Nat.pow_succ]; congr 1; omega
  have := Nat.mul_le_mul_left (W ^ (k - 1)) W_two
  omega

theorem rsub_n (v1 v2 : Value) (X Y k1 k2 : Nat) (w : World) (h1 : Nv w v1 X k1) (h2 : Nv w v2 Y k2) (hk1 : k1 ≤ 2000) (hk2 : k2 ≤ 2000) :
    Calls Try.prog 34 #[v1, v2] w (Ret w fun v w' => Nc w' v (X - Y) k1) := by
  have a1 := h1.lt
  obtain ⟨l1, g1, rfl, i1⟩ := h1
  obtain ⟨l2, g2, rfl, i2⟩ := h2
  refine (rsubw_c v1 v2 l1 l2 w g1 g2 (by omega) (by omega)).mono ?_
  rintro e w' ⟨v', rfl, h4, h5⟩
  exact ⟨v', rfl, own_nc h4 (by omega), h5⟩

theorem rcmp_n (v1 v2 : Value) (X Y k1 k2 : Nat) (c : Int) (w : World) (h1 : Nv w v1 X k1) (h2 : Nv w v2 Y k2) (hk1 : k1 ≤ 2000) (hk2 : k2 ≤ 2000) (hc : cmpN X Y = c) :
    Calls Try.prog 36 #[v1, v2] w (RetIs w (.int .i64 c)) := by
  obtain ⟨l1, g1, rfl, i1⟩ := h1
  obtain ⟨l2, g2, rfl, i2⟩ := h2
  refine (rcmpw_c v1 v2 l1 l2 w g1 g2 (by omega) (by omega)).mono ?_
  rintro e w' ⟨rfl, h5⟩
  exact ⟨by rw [hc], h5⟩

theorem rbits_n (v1 : Value) (X k1 m : Nat) (w : World) (h1 : Nv w v1 X k1) (hk1 : k1 ≤ 2000) (hm : bitsN X = m) :
    Calls Try.prog 37 #[v1] w (RetIs w (.int .i64 (m : Int))) := by
  subst hm
  obtain ⟨l1, g1, rfl, i1⟩ := h1
  refine (rbits_c v1 l1 w g1 (by omega)).mono ?_
  rintro e w' ⟨rfl, h5⟩
  exact ⟨rfl, h5⟩

theorem rshr_n (v1 : Value) (X k1 : Nat) (s : Int) (w : World) (h1 : Nv w v1 X k1) (hk1 : k1 ≤ 2000) (hs : s ≤ 9223372036854775807) (hs2 : -9223372036854775808 ≤ s) :
    Calls Try.prog 39 #[v1, .int .i64 s] w (Ret w fun v w' => Nc w' v (shrI X s) k1) := by
  have a1 := h1.lt
  obtain ⟨l1, g1, rfl, i1⟩ := h1
  refine (rshr_c v1 l1 s w g1 (by omega) hs hs2).mono ?_
  rintro e w' ⟨v', rfl, h4, h5⟩
  exact ⟨v', rfl, own_nc h4 (Nat.lt_of_le_of_lt (Nat.div_le_self _ _) a1), h5⟩

theorem shlI_lt {X k1 k : Nat} {s : Int} (h : X < W ^ k1) (hk : 1048576 < s ∨ (64 * k1 : Int) + s ≤ 64 * k ∧ k1 ≤ k) : shlI X s < W ^ k := by
  unfold shlI
  split
  · exact Nat.pow_pos W_pos
  · rename_i hf
    obtain ⟨h1, h2⟩ := hk.resolve_left hf
    rw [W_powk] at h ⊢
    have h6 := Nat.mul_lt_mul_of_pos_right h (Nat.two_pow_pos s.toNat)
    rw [← Nat.pow_add] at h6
    exact Nat.lt_of_lt_of_le h6 (Nat.pow_le_pow_right (by omega) (by omega))

theorem rshl_n (v1 : Value) (X k1 k : Nat) (s : Int) (w : World) (h1 : Nv w v1 X k1) (hk1 : k1 ≤ 2000) (hs : s ≤ 1000 ∨ 1048576 < s) (hs2 : -9223372036854775808 ≤ s) (hk : 1048576 < s ∨ (64 * k1 : Int) + s ≤ 64 * k ∧ k1 ≤ k) :
    Calls Try.prog 38 #[v1, .int .i64 s] w (Ret w fun v w' => Nc w' v (shlI X s) k) := by
  have a1 := shlI_lt h1.lt hk
  obtain ⟨l1, g1, rfl, i1⟩ := h1
  by_cases hf : 1048576 < s
  · refine (rshl_far v1 s w hf).mono ?_
    rintro e w' ⟨rfl, rfl⟩
    refine ⟨_, rfl, ?_, Below.refl _ _⟩
    have : shlI (val W l1) s = 0 := by unfold shlI; rw [if_pos hf]
    rw [this]
    exact ⟨by rw [digs_zero]; exact (Own.nil .u64 29 W w.heap.size w).ls, by rw [digs_zero]; exact Nat.zero_le _⟩
  · refine (rshl_c v1 l1 s w g1 (by omega) (hs.resolve_right hf) hs2).mono ?_
    rintro e w' ⟨v', rfl, h4, h5⟩
    exact ⟨v', rfl, own_nc h4 a1, h5⟩

/-- digits of 8 bits that count X -/
def Nd (w : World) (v : Value) (X : Nat) : Prop := Sd w v (digs 256 X)
theorem Nd.below {w w' : World} {v : Value} {X : Nat} (h : Nd w v X) (hb : Below w.heap.size w w') : Nd w' v X := Ls.below h hb

theorem small_n (v1 : Value) (X k1 : Nat) (w : World) (h1 : Nv w v1 X k1) (hk1 : k1 ≤ 2000) :
    Calls Try.prog 41 #[v1] w (Ret w fun v w' => Nd w' v X) := by
  obtain ⟨l1, g1, rfl, i1⟩ := h1
  refine (small_c v1 l1 w g1 (by omega)).mono ?_
  rintro e w' ⟨v', rfl, h4, h5⟩
  exact ⟨v', rfl, h4.ls, h5⟩

theorem large_n (v1 : Value) (X k : Nat) (w : World) (h1 : Nd w v1 X) (hX : X < W ^ k) (hk1 : k ≤ 2000) :
    Calls Try.prog 40 #[v1] w (Ret w fun v w' => Nc w' v X k) := by
  have hl : (digs 256 X).length ≤ 8 * k := length_digs_le two56 (by rw [← W256]; exact hX)
  refine (large_c v1 _ w h1 (by omega)).mono ?_
  rintro e w' ⟨v', rfl, h4, h5⟩
  rw [val_digs two56] at h4
  exact ⟨v', rfl, own_nc h4 hX, h5⟩

theorem copy_n (v1 : Value) (X k1 : Nat) (w : World) (h1 : Nv w v1 X k1) (hk1 : k1 ≤ 2000) :
    Calls Try.prog 31 #[v1] w (Ret w fun v w' => Nv w' v X k1) := by
  obtain ⟨l1, g1, rfl, i1⟩ := h1
  refine (copyWords_c v1 l1 w g1 (by omega)).mono ?_
  rintro e w' ⟨v', rfl, h4, h5⟩
  exact ⟨v', rfl, ⟨l1, h4.ls, rfl, i1⟩, h5⟩

/-- the first word of a number -/
theorem nc_head {w : World} {v : Value} {X k : Nat} (h : Nc w v X k) (hX : 0 < X) : ∃ b off n c x, v = .slice (some ⟨b, off, none⟩) n c ∧ 0 < n ∧ n ≤ k ∧ x < 18446744073709551616 ∧ x % 2 = X % 2 ∧ w.cell? ⟨b, off, none⟩ = some (.int .u64 ((x : Nat) : Int)) := by
  obtain ⟨⟨a, c, rfl, hs⟩, h2⟩ := h
  have e := digs_pos W_two hX
  have hpos : 0 < (digs W X).length := by rw [e]; simp
  obtain ⟨b, off, rfl, hc⟩ := hs.2.2.2 (by intro h0; rw [h0] at hpos; simp at hpos)
  refine ⟨b, off, _, c, X % W, rfl, hpos, h2, by have := Nat.mod_lt X W_pos; unfold W at this ⊢; exact this, ?_, ?_⟩
  · unfold W; omega
  · have h0 := hc 0 hpos
    rw [Nat.add_zero] at h0
    rw [h0, e]; rfl
theorem nc_nil {w : World} {v : Value} {k : Nat} (h : Nc w v 0 k) : ∃ a c, v = .slice a 0 c := by
  obtain ⟨a, c, n, rfl, h1, h2⟩ := h.shape
  refine ⟨a, c, ?_⟩
  rw [h1, digs_zero]; rfl

end Go.Proofs.Ytbofdldkiooegaa
