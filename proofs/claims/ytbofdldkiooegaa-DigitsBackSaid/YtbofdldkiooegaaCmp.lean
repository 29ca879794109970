/- limbs.Cmp by its contract: which of two numbers is greater. -/
import Derived.Test.YtbofdldkiooegaaTrim
namespace Tw
/-- which is greater -/
def cmpN (m n : Nat) : Int := if m < n then -1 else if n < m then 1 else 0
theorem cmpN_lt {m n : Nat} (h : m < n) : cmpN m n = -1 := by simp [cmpN, h]
theorem cmpN_gt {m n : Nat} (h : n < m) : cmpN m n = 1 := by unfold cmpN; rw [if_neg (by omega), if_pos h]
theorem cmpN_eq (m : Nat) : cmpN m m = 0 := by simp [cmpN]

theorem lt_of_length {m n : Nat} (h : (digs W m).length < (digs W n).length) : m < n := by
  have h1 := lt_pow_length W_two m
  have hn : 0 < n := by
    rcases Nat.eq_zero_or_pos n with e | e
    · subst e; rw [digs_zero] at h; simp at h
    · exact e
  have h2 := le_of_length_digs W_two hn
  have h3 : W ^ (digs W m).length ≤ W ^ ((digs W n).length - 1) := Nat.pow_le_pow_right (by have := W_two; omega) (by omega)
  omega

/-- two lists of one length that agree above place i -/
theorem val_lt_at {l m : List Nat} (hl : Dig W l) (hlen : l.length = m.length) {i : Nat} (hi : i < l.length)
    (hab : ∀ j, i < j → j < l.length → nth l j = nth m j) (hlt : nth l i < nth m i) : val W l < val W m := by
  have e : l.drop (i + 1) = m.drop (i + 1) := by
    apply ext_nth
    · simp [hlen]
    · intro j hj
      simp at hj
      rw [nth_drop, nth_drop]
      exact hab _ (by omega) (by omega)
  rw [val_split W l i (by omega), val_split W m i (by omega), val_drop W hi, val_drop W (by omega : i < m.length), e]
  have h1 := val_lt (hl.take i)
  rw [List.length_take, Nat.min_eq_left (by omega)] at h1
  have h2 : W ^ i * (nth l i + 1 + W * val W (m.drop (i + 1))) ≤ W ^ i * (nth m i + W * val W (m.drop (i + 1))) := Nat.mul_le_mul_left _ (by omega)
  have h3 : W ^ i * (nth l i + 1 + W * val W (m.drop (i + 1))) = W ^ i * (nth l i + W * val W (m.drop (i + 1))) + W ^ i := by
    rw [show nth l i + 1 + W * val W (m.drop (i + 1)) = (nth l i + W * val W (m.drop (i + 1))) + 1 by omega, Nat.mul_succ]
  omega
end Tw
namespace Go.Proofs.Ytbofdldkiooegaa
open Go Go.RowKit Tw
set_option linter.unusedVariables false
set_option linter.unusedSimpArgs false



set_option maxHeartbeats 400000 in
theorem cmp_c (v1 v2 : Value) (l1 l2 : List Nat) (w : World) (h1 : Wd w v1 l1) (h2 : Wd w v2 l2) :
    Calls Try.prog 26 #[v1, v2] w fun e w' => e = .returned (.int .i64 (cmpN (val W l1) (val W l2))) ∧ ∃ n, w' = w.drewN n := by
  obtain ⟨a1, c1, rfl, hw1⟩ := h1
  obtain ⟨a2, c2, rfl, hw2⟩ := h2
  have T1 := Lib.hid (trimmed_c a1 c1 l1 w hw1)
  have T2 := Lib.hid (trimmed_c a2 c2 l2 w hw2)
  have t1 := hw1.trim W_two
  have t2 := hw2.trim W_two
  have hv1 := val_digs W_two (val W l1)
  have hv2 := val_digs W_two (val W l2)
  clear hw1 hw2
  generalize val W l1 = m1 at *
  generalize val W l2 = m2 at *
  have k1 := @lt_of_length m1 m2
  have k2 := @lt_of_length m2 m1
  have kk : digs W m1 = digs W m2 → m1 = m2 := digs_inj W_two
  obtain ⟨hc1, hm1, hd1, hp1⟩ := t1
  obtain ⟨hc2, hm2, hd2, hp2⟩ := t2
  generalize digs W m1 = d1 at *
  generalize digs W m2 = d2 at *
  unfold maxLen at hm1 hm2
  have K1 := Lib.hid k1; have K2 := Lib.hid k2; have KK := Lib.hid kk
  have V1 := Lib.hid hv1; have V2 := Lib.hid hv2
  clear k1 k2 kk hv1 hv2
  rcases Nat.lt_trichotomy d1.length d2.length with hlt | heq | hgt
  · have hne : ((d1.length : Int) != (d2.length : Int)) = true := by simp; omega
    have HR := Lib.hid (cmpN_lt (K1.out hlt))
    clear hp1 hp2
    go_enter Try.func26, Try.ntmps26
    go_wp2_with fail
    refine Calls.mono T1.out ?_; rintro e w' ⟨rfl, rfl⟩
    go_wp2_with fail
    refine Calls.mono T2.out ?_; rintro e w' ⟨rfl, rfl⟩
    go_wp2
    go_ret
    exact ⟨ret_int HR.out.symm, 0, rfl⟩
  · by_cases hl : d1 = []
    · have hl2 : d2 = [] := by subst hl; exact List.eq_nil_of_length_eq_zero heq.symm
      have HR := Lib.hid (show cmpN m1 m2 = 0 by rw [KK.out (by rw [hl, hl2]), cmpN_eq])
      subst hl hl2
      clear hp1 hp2 heq
      go_enter Try.func26, Try.ntmps26
      go_wp2_with fail
      refine Calls.mono T1.out ?_; rintro e w' ⟨rfl, rfl⟩
      go_wp2_with fail
      refine Calls.mono T2.out ?_; rintro e w' ⟨rfl, rfl⟩
      go_wp2
      go_loopg [5] 0 (fun k s wr => s = .int .i64 (-1) ∧ wr = w)
      case atStart => exact ⟨rfl, rfl⟩
      case round =>
        obtain ⟨rfl, rfl⟩ := hrel
        go_wp2
        go_ret
        exact ⟨ret_int HR.out.symm, 0, rfl⟩
    · obtain ⟨b1, o1, rfl, hx1⟩ := hp1 hl
      obtain ⟨b2, o2, rfl, hx2⟩ := hp2 (by intro e; rw [e] at heq; simp at heq; exact hl heq)
      have hpos : 0 < d1.length := List.length_pos_iff.2 hl
      have HE := Lib.hid heq
      have hle1 : d1.length ≤ d2.length := by omega
      have hle2 : d2.length ≤ d1.length := by omega
      have hne : ((d1.length : Int) != (d2.length : Int)) = false := by simp; omega
      clear hp1 hp2 hl heq
      go_enter Try.func26, Try.ntmps26
      go_wp2_with fail
      refine Calls.mono T1.out ?_; rintro e w' ⟨rfl, rfl⟩
      go_wp2_with fail
      refine Calls.mono T2.out ?_; rintro e w' ⟨rfl, rfl⟩
      go_wp2
      go_loopg [5] d1.length (fun k s wr => ∃ n : Nat, k ≤ d1.length ∧ s = .int .i64 ((k : Int) - 1) ∧ wr = w.drewN n ∧ Hid (∀ j, k ≤ j → j < d1.length → nth d1 j = nth d2 j))
      case atStart => exact ⟨0, Nat.le_refl _, rfl, rfl, fun j h1 h2 => absurd h2 (by omega)⟩
      case round =>
        obtain ⟨n, hk, rfl, rfl, hab⟩ := hrel
        by_cases hk0 : 0 < gk
        · have g1 := hx1 (gk - 1) (by omega)
          have g2 := hx2 (gk - 1) (by omega)
          have eidx : ((gk : Int) - 1).toNat = gk - 1 := by omega
          have r1 := nth_dig hd1 (show gk - 1 < d1.length by omega)
          have r2 := nth_dig hd2 (show gk - 1 < d2.length by omega)
          clear hx1 hx2
          rcases Nat.lt_trichotomy (nth d1 (gk - 1)) (nth d2 (gk - 1)) with h | h | h
          · have hv : m1 < m2 := by
              rw [← V1.out, ← V2.out]
              exact val_lt_at hd1 HE.out (show gk - 1 < d1.length by omega) (fun j h1 h2 => hab.out j (by omega) h2) h
            have HR := Lib.hid (cmpN_lt hv); clear hv
            go_wp2
            go_quiet (fail)
            go_wp2
            go_ret
            exact ⟨ret_int HR.out.symm, n + nq, by simp⟩
          · have H := Lib.hid h
            have q1 : ¬ ((nth d1 (gk - 1) : Nat) : Int) < ((nth d2 (gk - 1) : Nat) : Int) := by omega
            have q2 : ¬ ((nth d2 (gk - 1) : Nat) : Int) < ((nth d1 (gk - 1) : Nat) : Int) := by omega
            clear h
            go_wp2
            go_quiet (fail)
            go_wp2
            go_quiet (fail)
            go_wp2
            go_roundg (gk - 1)
            case measure => omega
            case rel =>
              refine ⟨_, by omega, by go_num, rfl, fun j h1 h2 => ?_⟩
              by_cases e : j = gk - 1
              · subst e; exact H.out
              · exact hab.out j (by omega) h2
          · have hv : m2 < m1 := by
              rw [← V1.out, ← V2.out]
              exact val_lt_at hd2 HE.out.symm (show gk - 1 < d2.length by omega) (fun j h1 h2 => (hab.out j (by omega) (by omega)).symm) h
            have HR := Lib.hid (cmpN_gt hv); clear hv
            have q1 : ¬ ((nth d1 (gk - 1) : Nat) : Int) < ((nth d2 (gk - 1) : Nat) : Int) := by omega
            go_wp2
            go_quiet (fail)
            go_wp2
            go_quiet (fail)
            go_wp2
            go_ret
            exact ⟨ret_int HR.out.symm, _, by rw [World.drewN_drewN, World.drewN_drewN]⟩
        · have hg : gk = 0 := by omega
          have HR := Lib.hid (show cmpN m1 m2 = 0 by
            rw [KK.out (ext_nth HE.out fun j hj => hab.out j (by omega) hj), cmpN_eq])
          clear hg hx1 hx2
          go_wp2
          go_ret
          exact ⟨ret_int HR.out.symm, n, rfl⟩
  · have hne : ((d1.length : Int) != (d2.length : Int)) = true := by simp; omega
    have HR := Lib.hid (cmpN_gt (K2.out hgt))
    have q1 : ¬ (d1.length : Int) < (d2.length : Int) := by omega
    clear hp1 hp2
    go_enter Try.func26, Try.ntmps26
    go_wp2_with fail
    refine Calls.mono T1.out ?_; rintro e w' ⟨rfl, rfl⟩
    go_wp2_with fail
    refine Calls.mono T2.out ?_; rintro e w' ⟨rfl, rfl⟩
    go_wp2
    go_ret
    exact ⟨ret_int HR.out.symm, 0, rfl⟩

end Go.Proofs.Ytbofdldkiooegaa
