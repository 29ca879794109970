/- The document's greatest divisor, by the logic over data. -/
import Derived.Test.YtkbhchlecokpiaaGreatFwR
import Derived.Test.YtkbhchlecokpiaaGreatFwCe
set_option linter.unusedVariables false
set_option linter.unusedSimpArgs false
namespace Go.Proofs.YtkbhchlecokpiaaGreat
open Go Go.RowKit Fw Tw
set_option linter.unusedVariables false
set_option linter.unusedSimpArgs false
theorem raddm {X Y k : Nat} (hX : X < W ^ k) (hY : Y < W ^ k) (hk : k ≤ 2000) : Ret Tryz.prog 144 [mN X, mN Y] (mN (X + Y)) := by
  have := radd_r (dig_digs W_two X) (dig_digs W_two Y) (len_W hX hk) (len_W hY hk)
  rwa [val_digs W_two, val_digs W_two] at this
theorem rsubm {X Y k : Nat} (hX : X < W ^ k) (hY : Y < W ^ k) (hk : k ≤ 2000) : Ret Tryz.prog 178 [mN X, mN Y] (mN (X - Y)) := by
  have := rsub_r (dig_digs W_two X) (dig_digs W_two Y) (len_W hX hk) (len_W hY hk)
  rwa [val_digs W_two, val_digs W_two] at this
theorem rcmpm {X Y k : Nat} (hX : X < W ^ k) (hY : Y < W ^ k) (hk : k ≤ 2000) : Ret Tryz.prog 177 [mN X, mN Y] (.int .i64 (cmpN X Y)) := by
  have := rcmp_r (dig_digs W_two X) (dig_digs W_two Y) (len_W hX hk) (len_W hY hk)
  rwa [val_digs W_two, val_digs W_two] at this
theorem rshrm {X k : Nat} (hX : X < W ^ k) (hk : k ≤ 2000) : Ret Tryz.prog 176 [mN X, .int .i64 1] (mN (X / 2)) := by
  have := rshr_r (s := 1) (dig_digs W_two X) (len_W hX hk) (by omega) (by omega)
  rwa [val_digs W_two] at this
theorem rshlm {X k : Nat} {s : Int} (hX : X < W ^ k) (hk : k ≤ 2000) (hs : s ≤ 7000) (hs2 : 0 ≤ s) : Ret Tryz.prog 179 [mN X, .int .i64 s] (mN (X * 2 ^ s.toNat)) := by
  have := rshl_r (s := s) (dig_digs W_two X) (len_W hX hk) hs (by omega)
  rw [val_digs W_two] at this
  unfold shlI at this
  rwa [if_neg (by omega)] at this
theorem rem2 {X : Nat} (h : 0 < (digs W X).length) : ((((digs W X)[0]'h : Nat)) : Int).tmod 2 = ((X % 2 : Nat) : Int) := by
  have e : (digs W X)[0]'h = X % W := by
    have hX : 0 < X := by
      rcases Nat.eq_zero_or_pos X with h0 | h0
      · subst h0; simp [digs_zero] at h
      · exact h0
    have := digs_pos W_two hX
    simp only [this, List.getElem_cons_zero]
  rw [e]
  have : (X % W) % 2 = X % 2 := by unfold W; omega
  rw [← this]
  rfl
theorem half_left {X Y : Nat} (hx : X % 2 = 0) (hy : Y % 2 = 1) : Nat.gcd (X / 2) Y = Nat.gcd X Y := by
  have e : X = 2 * (X / 2) := by omega
  have hc : Nat.Coprime 2 Y := by
    unfold Nat.Coprime
    rw [Nat.gcd_rec, hy, Nat.gcd_one_left]
  conv => rhs; rw [e]
  exact (hc.gcd_mul_left_cancel (X / 2)).symm
theorem half_right {X Y : Nat} (hy : Y % 2 = 0) (hx : X % 2 = 1) : Nat.gcd X (Y / 2) = Nat.gcd X Y := by
  rw [Nat.gcd_comm, half_left hy hx, Nat.gcd_comm]
theorem len256W {X k : Nat} (h : X < W ^ k) : (digs 256 X).length ≤ 8 * k := length_digs_le two56 (by rw [← W256]; exact h)
theorem pow_le15 {X t : Nat} (hX : X ≠ 0) (h : X * 2 ^ t < W ^ 100) : t < 6400 := by
  rw [W_powk] at h
  have h1 : 2 ^ t ≤ X * 2 ^ t := Nat.le_mul_of_pos_left _ (by omega)
  have h2 := (Nat.pow_lt_pow_iff_right (by omega)).1 (Nat.lt_of_le_of_lt h1 h)
  omega
set_option maxHeartbeats 1000000 in
theorem rgcdm {A B : Nat} (hA : A < W ^ 100) (hB : B < W ^ 100) {l1 l2 : List Nat} (hd1 : Dig W l1) (hd2 : Dig W l2) (hl1 : l1.length ≤ 100) (hl2 : l2.length ≤ 100) (e1 : val W l1 = A) (e2 : val W l2 = B) : Ret Tryz.prog 147 [mW l1, mW l2] (mN (Nat.gcd A B)) := by
  have s1 := rsmall_r hd1 (by omega)
  have s2 := rsmall_r hd2 (by omega)
  have g1 := rlarge_r (dig_digs two56 A) (Nat.le_trans (len256W hA) (by omega))
  have g2 := rlarge_r (dig_digs two56 B) (Nat.le_trans (len256W hB) (by omega))
  rw [val_digs two56] at g1 g2
  rw [e1] at s1
  rw [e2] at s2
  clear e1 e2
  refine ret_of (L := L) lay_ok Tryz.func147 rfl Tryz.ntmps147 rfl ?_
  refine go ?_
  refine cl (by exact rfl) plain171 rfl s1 ?_
  refine go ?_
  refine cl (by exact rfl) plain170 rfl g1 ?_
  refine go ?_
  refine cl (by exact rfl) plain171 rfl s2 ?_
  refine go ?_
  refine cl (by exact rfl) plain170 rfl g2 ?_
  refine go ?_
  refine awp_loopC (A := Nat × Nat × Nat) (B := Nat × Nat × Nat) (fun p => p.1 * 2 ^ p.2.2 = A ∧ p.2.1 * 2 ^ p.2.2 = B ∧ p.2.2 ≤ 6400)
    (fun p => [(5, some (.im (mN p.1))), (6, some (.im (mN p.2.1))), (7, some (.im (.int .i64 (p.2.2 : Nat))))]) (fun _ => []) (fun p => p.1 + p.2.1)
    (fun p => (p.1 * 2 ^ p.2.2 = A ∧ p.2.1 * 2 ^ p.2.2 = B ∧ p.2.2 ≤ 6400) ∧ (p.1 = 0 ∨ p.2.1 = 0 ∨ p.1 % 2 = 1 ∨ p.2.1 % 2 = 1))
    (fun p => [(5, some (.im (mN p.1))), (6, some (.im (mN p.2.1))), (7, some (.im (.int .i64 (p.2.2 : Nat))))]) (fun _ => []) (A, B, 0) ⟨by simp, by simp, by simp⟩ ?_ ?_ ?_
  · exact gou0
  · rintro ⟨X, Y, tw⟩ ⟨hx, hy, ht⟩
    simp only [] at hx hy ht
    change Awp _ _ _ _ [(5, some (.im (mN X))), (6, some (.im (mN Y))), (7, some (.im (.int .i64 (tw : Nat))))] []
    refine go ?_
    by_cases hx0 : X = 0
    · refine ar_eq 17 rfl (d' := .im (.bool false)) (eqt (lenf hx0)) ?_
      refine go ?_
      refine .inl ⟨rfl, (X, Y, tw), ⟨⟨hx, hy, ht⟩, .inl hx0⟩, ?_⟩
      exact gou0
    · refine ar_eq 17 rfl (d' := .im (.bool true)) (eqt (lent hx0)) ?_
      refine go ?_
      by_cases hy0 : Y = 0
      · refine ar_eq 22 rfl (d' := .im (.bool false)) (eqt (lenf hy0)) ?_
        refine go ?_
        refine .inl ⟨rfl, (X, Y, tw), ⟨⟨hx, hy, ht⟩, .inr (.inl hy0)⟩, ?_⟩
        exact gou0
      · refine ar_eq 22 rfl (d' := .im (.bool true)) (eqt (lent hy0)) ?_
        refine go ?_
        refine ar_at (enc := mw) (l := digs W X) 0 rfl rfl rfl rfl rfl (fun _ => rfl) rfl rfl (len_pos hx0) ?_
        refine go ?_
        by_cases hx1 : X % 2 = 1
        · refine ar_eq 29 rfl (d' := .im (.bool false)) (eqt (by rw [rem2 (len_pos hx0), hx1]; rfl)) ?_
          refine go ?_
          refine .inl ⟨rfl, (X, Y, tw), ⟨⟨hx, hy, ht⟩, .inr (.inr (.inl hx1))⟩, ?_⟩
          exact gou0
        · have hx2 : X % 2 = 0 := by omega
          refine ar_eq 29 rfl (d' := .im (.bool true)) (eqt (by rw [rem2 (len_pos hx0), hx2]; rfl)) ?_
          refine go ?_
          refine ar_at (enc := mw) (l := digs W Y) 0 rfl rfl rfl rfl rfl (fun _ => rfl) rfl rfl (len_pos hy0) ?_
          refine go ?_
          have hX15 : X < W ^ 100 := by
            have := Nat.le_mul_of_pos_right X (Nat.two_pow_pos tw)
            omega
          have hY15 : Y < W ^ 100 := by
            have := Nat.le_mul_of_pos_right Y (Nat.two_pow_pos tw)
            omega
          have ht2 := pow_le15 hx0 (by rw [hx]; exact hA)
          by_cases hy1 : Y % 2 = 1
          · refine awp_cond rfl (fun hb => ?_) (fun hb => ?_)
            · rw [rem2 (len_pos hy0), hy1] at hb; exact absurd hb (by decide)
            · refine go ?_
              refine .inl ⟨rfl, (X, Y, tw), ⟨⟨hx, hy, ht⟩, .inr (.inr (.inr hy1))⟩, ?_⟩
              exact gou0
          · have hy2 : Y % 2 = 0 := by omega
            refine awp_cond rfl (fun hb => ?_) (fun hb => ?_)
            · refine go ?_
              refine cl (by exact rfl) plain176 rfl (rshrm hX15 (by omega)) ?_
              refine go ?_
              refine cl (by exact rfl) plain176 rfl (rshrm hY15 (by omega)) ?_
              refine go ?_
              refine ⟨(X / 2, Y / 2, tw + 1), ⟨?_, ?_, ?_⟩, ?_, ?_⟩
              · show X / 2 * 2 ^ (tw + 1) = A
                rw [Nat.pow_succ, Nat.mul_comm (2 ^ tw) 2, ← Nat.mul_assoc, Nat.div_mul_cancel (by omega), hx]
              · show Y / 2 * 2 ^ (tw + 1) = B
                rw [Nat.pow_succ, Nat.mul_comm (2 ^ tw) 2, ← Nat.mul_assoc, Nat.div_mul_cancel (by omega), hy]
              · show tw + 1 ≤ 6400
                omega
              · exact gou0
              · show X / 2 + Y / 2 < X + Y
                omega
            · rw [rem2 (len_pos hy0), hy2] at hb; exact absurd hb (by decide)
  · rintro ⟨X, Y, tw⟩ ⟨⟨hx, hy, ht⟩, ho⟩
    simp only [] at hx hy ht ho
    have hX15 : X < W ^ 100 := by
      have := Nat.le_mul_of_pos_right X (Nat.two_pow_pos tw)
      omega
    have hY15 : Y < W ^ 100 := by
      have := Nat.le_mul_of_pos_right Y (Nat.two_pow_pos tw)
      omega
    have hg0 : Nat.gcd X Y * 2 ^ tw = Nat.gcd A B := by rw [← hx, ← hy, Nat.gcd_mul_right]
    refine go ?_
    refine awp_loopC (A := Nat × Nat) (B := Nat × Nat) (fun p => Nat.gcd p.1 p.2 = Nat.gcd X Y ∧ (p.1 = 0 ∨ p.2 = 0 ∨ p.1 % 2 = 1 ∨ p.2 % 2 = 1) ∧ p.1 < W ^ 100 ∧ p.2 < W ^ 100)
      (fun p => [(5, some (.im (mN p.1))), (6, some (.im (mN p.2))), (7, some (.im (.int .i64 (tw : Nat))))]) (fun _ => []) (fun p => p.1 + p.2)
      (fun p => (Nat.gcd p.1 p.2 = Nat.gcd X Y ∧ (p.1 = 0 ∨ p.2 = 0) ∧ p.1 < W ^ 100 ∧ p.2 < W ^ 100))
      (fun p => [(5, some (.im (mN p.1))), (6, some (.im (mN p.2))), (7, some (.im (.int .i64 (tw : Nat))))]) (fun _ => []) (X, Y) ⟨rfl, ho, hX15, hY15⟩ ?_ ?_ ?_
    · exact gou0
    · rintro ⟨X2, Y2⟩ ⟨hgg, ho2, hX2, hY2⟩
      simp only [] at hgg ho2 hX2 hY2
      refine go ?_
      by_cases hx0 : X2 = 0
      · refine ar_eq 45 rfl (d' := .im (.bool false)) (eqt (lenf hx0)) ?_
        refine go ?_
        refine .inl ⟨rfl, (X2, Y2), ⟨hgg, .inl hx0, hX2, hY2⟩, ?_⟩
        exact gou0
      refine ar_eq 45 rfl (d' := .im (.bool true)) (eqt (lent hx0)) ?_
      refine go ?_
      by_cases hy0 : Y2 = 0
      · refine awp_cond rfl (fun hb => ?_) (fun hb => ?_)
        · exact absurd (hb.symm.trans (lenf hy0)) (by decide)
        · refine go ?_
          refine .inl ⟨rfl, (X2, Y2), ⟨hgg, .inr hy0, hX2, hY2⟩, ?_⟩
          exact gou0
      refine awp_cond rfl (fun hb => ?_) (fun hb => ?_)
      · refine go ?_
        refine ar_at (enc := mw) (l := digs W X2) 0 rfl rfl rfl rfl rfl (fun _ => rfl) rfl rfl (len_pos hx0) ?_
        refine go ?_
        refine awp_cond rfl (fun hb2 => ?_) (fun hb2 => ?_)
        · rw [rem2 (len_pos hx0)] at hb2
          have hxe : X2 % 2 = 0 := by simp at hb2; omega
          have hyo : Y2 % 2 = 1 := by omega
          refine go ?_
          refine cl (by exact rfl) plain176 rfl (rshrm hX2 (by omega)) ?_
          refine go ?_
          refine ⟨(X2 / 2, Y2), ⟨by rw [← hgg]; exact half_left hxe hyo, .inr (.inr (.inr hyo)), ?_, hY2⟩, ?_, ?_⟩
          · show X2 / 2 < _
            omega
          · exact gou0
          · show X2 / 2 + Y2 < X2 + Y2
            omega
        · rw [rem2 (len_pos hx0)] at hb2
          have hxo : X2 % 2 = 1 := by
            have : ¬ X2 % 2 = 0 := by intro h; rw [h] at hb2; exact absurd hb2 (by decide)
            omega
          refine go ?_
          refine ar_at (enc := mw) (l := digs W Y2) 0 rfl rfl rfl rfl rfl (fun _ => rfl) rfl rfl (len_pos hy0) ?_
          refine go ?_
          refine awp_cond rfl (fun hb3 => ?_) (fun hb3 => ?_)
          · rw [rem2 (len_pos hy0)] at hb3
            have hye : Y2 % 2 = 0 := by simp at hb3; omega
            refine go ?_
            refine cl (by exact rfl) plain176 rfl (rshrm hY2 (by omega)) ?_
            refine go ?_
            refine ⟨(X2, Y2 / 2), ⟨by rw [← hgg]; exact half_right hye hxo, .inr (.inr (.inl hxo)), hX2, ?_⟩, ?_, ?_⟩
            · show Y2 / 2 < _
              omega
            · exact gou0
            · show X2 + Y2 / 2 < X2 + Y2
              omega
          · refine go ?_
            refine cl (by exact rfl) plain177 rfl (rcmpm hX2 hY2 (by omega)) ?_
            refine go ?_
            rw [rem2 (len_pos hy0)] at hb3
            have hyo : Y2 % 2 = 1 := by
              have : ¬ Y2 % 2 = 0 := by intro h; rw [h] at hb3; exact absurd hb3 (by decide)
              omega
            refine awp_cond rfl (fun hb4 => ?_) (fun hb4 => ?_)
            · have hle : Y2 ≤ X2 := by
                simp only [decide_eq_true_eq] at hb4
                unfold cmpN at hb4
                split at hb4
                · omega
                · omega
              refine go ?_
              refine cl (by exact rfl) plain178 rfl (rsubm hX2 hY2 (by omega)) ?_
              refine go ?_
              refine ⟨(X2 - Y2, Y2), ⟨by rw [← hgg]; exact Nat.gcd_sub_self_left hle, .inr (.inr (.inr hyo)), ?_, hY2⟩, ?_, ?_⟩
              · show X2 - Y2 < _
                omega
              · exact gou0
              · show X2 - Y2 + Y2 < X2 + Y2
                omega
            · have hle : X2 ≤ Y2 := by
                simp only [decide_eq_false_iff_not] at hb4
                unfold cmpN at hb4
                split at hb4
                · omega
                · exact absurd (by split <;> omega) hb4
              refine go ?_
              refine cl (by exact rfl) plain178 rfl (rsubm hY2 hX2 (by omega)) ?_
              refine go ?_
              refine ⟨(X2, Y2 - X2), ⟨by rw [← hgg]; exact Nat.gcd_sub_self_right hle, .inr (.inr (.inl hxo)), hX2, ?_⟩, ?_, ?_⟩
              · show Y2 - X2 < _
                omega
              · exact gou0
              · show X2 + (Y2 - X2) < X2 + Y2
                omega
      · exact absurd (hb.symm.trans (lent hy0)) (by decide)
    · rintro ⟨X2, Y2⟩ ⟨hgg, ho2, hX2, hY2⟩
      simp only [] at hgg ho2 hX2 hY2
      have hs : X2 + Y2 = Nat.gcd X Y := by
        rw [← hgg]
        rcases ho2 with h | h
        · rw [h, Nat.gcd_zero_left, Nat.zero_add]
        · rw [h, Nat.gcd_zero_right, Nat.add_zero]
      have hS : X2 + Y2 < W ^ 101 := by
        rw [show (101 : Nat) = 100 + 1 from rfl, Nat.pow_succ]
        have := Nat.mul_le_mul_left (W ^ 100) W_two
        omega
      refine go ?_
      refine cl (by exact rfl) plain144 rfl (raddm hX2 hY2 (by omega)) ?_
      refine go ?_
      refine cl (by exact rfl) plain179 rfl (rshlm hS (by omega) (by omega) (by omega)) ?_
      refine go ?_
      refine ⟨_, rfl, ?_⟩
      rw [Int.toNat_natCast, hs, hg0]
      rfl
end Go.Proofs.YtkbhchlecokpiaaGreat
