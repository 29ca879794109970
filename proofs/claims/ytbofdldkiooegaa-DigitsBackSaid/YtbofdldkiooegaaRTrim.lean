/- The reference of layer 1: trim, of digits of 8 bits; which of two is greater. -/
import Derived.Test.YtbofdldkiooegaaProg
import Derived.Test.YtbofdldkiooegaaCmp
namespace Tw
open Go Go.RowKit
/-- digits of 8 bits -/
abbrev SdS := LsS .i64 256
abbrev Sd := Ls .i64 256
theorem two56 : 2 ≤ 256 := by omega

theorem lt_of_lengthB {B m n : Nat} (hB : 2 ≤ B) (h : (digs B m).length < (digs B n).length) : m < n := by
  have h1 := lt_pow_length hB m
  have hn : 0 < n := by
    rcases Nat.eq_zero_or_pos n with e | e
    · subst e; rw [digs_zero] at h; simp at h
    · exact e
  have h2 := le_of_length_digs hB hn
  have h3 : B ^ (digs B m).length ≤ B ^ ((digs B n).length - 1) := Nat.pow_le_pow_right (by omega) (by omega)
  omega

/-- two lists of one length that agree above place i -/
theorem val_lt_atB {B : Nat} {l m : List Nat} (hl : Dig B l) (hlen : l.length = m.length) {i : Nat} (hi : i < l.length)
    (hab : ∀ j, i < j → j < l.length → nth l j = nth m j) (hlt : nth l i < nth m i) : val B l < val B m := by
  have e : l.drop (i + 1) = m.drop (i + 1) := by
    apply ext_nth
    · simp [hlen]
    · intro j hj
      simp at hj
      rw [nth_drop, nth_drop]
      exact hab _ (by omega) (by omega)
  rw [val_split B l i (by omega), val_split B m i (by omega), val_drop B hi, val_drop B (by omega : i < m.length), e]
  have h1 := val_lt (hl.take i)
  rw [List.length_take, Nat.min_eq_left (by omega)] at h1
  have h2 : B ^ i * (nth l i + 1 + B * val B (m.drop (i + 1))) ≤ B ^ i * (nth m i + B * val B (m.drop (i + 1))) := Nat.mul_le_mul_left _ (by omega)
  have h3 : B ^ i * (nth l i + 1 + B * val B (m.drop (i + 1))) = B ^ i * (nth l i + B * val B (m.drop (i + 1))) + B ^ i := by
    rw [show nth l i + 1 + B * val B (m.drop (i + 1)) = (nth l i + B * val B (m.drop (i + 1))) + 1 by omega, Nat.mul_succ]
  omega
end Tw
namespace Go.Proofs.Ytbofdldkiooegaa
open Go Go.RowKit Tw
set_option linter.unusedVariables false
set_option linter.unusedSimpArgs false

/-- a row of ints of the call's own -/
abbrev OwnD (base : Nat) (w : World) (v : Value) (l : List Nat) := Own .i64 3 256 base w v l

theorem rtrim_c (a : Option Addr) (cap : Nat) (l : List Nat) (w : World) (h : SdS w a cap l) :
    Calls Try.prog 92 #[.slice a l.length cap] w fun e w' => e = .returned (.slice a (digs 256 (val 256 l)).length cap) ∧ w = w' := by
  obtain ⟨h1, h2, h3, h4⟩ := h
  unfold maxLen at h2
  by_cases hl : l = []
  · subst hl
    have hd : (digs 256 (val 256 [])).length = 0 := by rw [val_nil, digs_zero]; rfl
    go_enter Try.func92, Try.ntmps92
    go_wp2
    go_loopg [3] 0 (fun k s wr => s = .int .i64 0 ∧ wr = w)
    case atStart => exact ⟨rfl, rfl⟩
    case round =>
      obtain ⟨rfl, rfl⟩ := hrel
      go_wp2
      go_ret
      exact ⟨ret_slice hd.symm, rfl⟩
  · obtain ⟨b, off, rfl, hc⟩ := h4 hl
    have HL := Lib.hid hl; clear hl h4
    go_enter Try.func92, Try.ntmps92
    go_wp2
    go_loopg [3] l.length (fun k s wr => k ≤ l.length ∧ s = .int .i64 k ∧ wr = w ∧ Hid (∀ i, k ≤ i → i < l.length → nth l i = 0))
    case atStart => exact ⟨Nat.le_refl _, rfl, rfl, fun i h1 h2 => absurd h2 (by omega)⟩
    case round =>
      obtain ⟨hk, rfl, rfl, hz⟩ := hrel
      by_cases hk0 : gk = 0
      · subst hk0
        have hd := digs_take two56 h3 hk hz.out (.inl rfl)
        have hd' : (digs 256 (val 256 l)).length = 0 := by rw [hd]; simp
        have HD := Lib.hid hd'; clear hd hd'
        clear hc
        go_wp2
        go_ret
        exact ⟨ret_slice HD.out.symm, rfl⟩
      · have hc' : wr.cell? ⟨b, off + (gk - 1), none⟩ = some (.int .i64 ((nth l (gk - 1) : Nat) : Int)) := hc (gk - 1) (by omega)
        have hg : 0 < gk := by omega
        have hi1 : ((gk : Int) - 1).toNat = gk - 1 := by omega
        clear hc hk0
        by_cases h0 : nth l (gk - 1) = 0
        · have H0 := Lib.hid h0
          have hb : (((nth l (gk - 1) : Nat) : Int) == 0) = true := by rw [h0]; rfl
          clear h0
          go_wp2
          go_roundg (gk - 1)
          case measure => omega
          case rel =>
            refine ⟨by omega, by go_num, rfl, fun i h1 h2 => ?_⟩
            by_cases e : i = gk - 1
            · subst e; exact H0.out
            · exact hz.out i (by omega) h2
        · have hd := digs_take two56 h3 hk hz.out (.inr h0)
          have hd' : (digs 256 (val 256 l)).length = gk := by rw [hd]; simp [hk]
          have HD := Lib.hid hd'; clear hd hd'
          have hb : (((nth l (gk - 1) : Nat) : Int) == 0) = false := by rw [beq_eq_false_iff_ne]; omega
          clear h0
          go_wp2
          go_ret
          exact ⟨ret_slice HD.out.symm, rfl⟩

theorem rtrim_n (a : Option Addr) (n cap : Nat) (l : List Nat) (w : World) (hn : n = l.length) (h : SdS w a cap l) :
    Calls Try.prog 92 #[.slice a n cap] w fun e w' => e = .returned (.slice a (digs 256 (val 256 l)).length cap) ∧ w = w' := by
  subst hn; exact rtrim_c a cap l w h

set_option maxHeartbeats 400000 in
theorem rcmp_c (v1 v2 : Value) (m1 m2 : Nat) (w : World) (h1 : Sd w v1 (digs 256 m1)) (h2 : Sd w v2 (digs 256 m2)) :
    Calls Try.prog 90 #[v1, v2] w fun e w' => e = .returned (.int .i64 (cmpN m1 m2)) ∧ ∃ n, w' = w.drewN n := by
  obtain ⟨a1, c1, rfl, t1⟩ := h1
  obtain ⟨a2, c2, rfl, t2⟩ := h2
  have hv1 := val_digs two56 m1
  have hv2 := val_digs two56 m2
  have k1 := @lt_of_lengthB 256 m1 m2 two56
  have k2 := @lt_of_lengthB 256 m2 m1 two56
  have kk : digs 256 m1 = digs 256 m2 → m1 = m2 := digs_inj two56
  obtain ⟨hc1, hm1, hd1, hp1⟩ := t1
  obtain ⟨hc2, hm2, hd2, hp2⟩ := t2
  generalize digs 256 m1 = d1 at *
  generalize digs 256 m2 = d2 at *
  unfold maxLen at hm1 hm2
  have K1 := Lib.hid k1; have K2 := Lib.hid k2; have KK := Lib.hid kk
  have V1 := Lib.hid hv1; have V2 := Lib.hid hv2
  clear k1 k2 kk hv1 hv2
  rcases Nat.lt_trichotomy d1.length d2.length with hlt | heq | hgt
  · have hne : ((d1.length : Int) != (d2.length : Int)) = true := by simp; omega
    have HR := Lib.hid (cmpN_lt (K1.out hlt))
    clear hp1 hp2
    go_enter Try.func90, Try.ntmps90
    go_wp2
    go_ret
    exact ⟨ret_int HR.out.symm, 0, rfl⟩
  · by_cases hl : d1 = []
    · have hl2 : d2 = [] := by subst hl; exact List.eq_nil_of_length_eq_zero heq.symm
      have HR := Lib.hid (show cmpN m1 m2 = 0 by rw [KK.out (by rw [hl, hl2]), cmpN_eq])
      subst hl hl2
      clear hp1 hp2 heq
      go_enter Try.func90, Try.ntmps90
      go_wp2
      go_loopg [5] 0 (fun k s wr => s = .int .i64 (-1) ∧ wr = w)
      case atStart => exact ⟨rfl, rfl⟩
      case round =>
        obtain ⟨rfl, rfl⟩ := hrel
        go_wp2
        go_ret
        exact ⟨ret_int HR.out.symm, 0, rfl⟩
    · obtain ⟨b1, o1, rfl, hx1⟩ := hp1 hl
      obtain ⟨b2, o2, rfl, hx2⟩ := hp2 (by intro e; rw [e] at heq; simp at heq; exact hl heq)
      have hpos : 0 < d1.length := List.length_pos_iff.2 hl
      have HE := Lib.hid heq
      have hle1 : d1.length ≤ d2.length := by omega
      have hle2 : d2.length ≤ d1.length := by omega
      have hne : ((d1.length : Int) != (d2.length : Int)) = false := by simp; omega
      clear hp1 hp2 hl heq
      go_enter Try.func90, Try.ntmps90
      go_wp2
      go_loopg [5] d1.length (fun k s wr => ∃ n : Nat, k ≤ d1.length ∧ s = .int .i64 ((k : Int) - 1) ∧ wr = w.drewN n ∧ Hid (∀ j, k ≤ j → j < d1.length → nth d1 j = nth d2 j))
      case atStart => exact ⟨0, Nat.le_refl _, rfl, rfl, fun j h1 h2 => absurd h2 (by omega)⟩
      case round =>
        obtain ⟨n, hk, rfl, rfl, hab⟩ := hrel
        by_cases hk0 : 0 < gk
        · have g1 := hx1 (gk - 1) (by omega)
          have g2 := hx2 (gk - 1) (by omega)
          have eidx : ((gk : Int) - 1).toNat = gk - 1 := by omega
          have r1 := nth_dig hd1 (show gk - 1 < d1.length by omega)
          have r2 := nth_dig hd2 (show gk - 1 < d2.length by omega)
          clear hx1 hx2
          rcases Nat.lt_trichotomy (nth d1 (gk - 1)) (nth d2 (gk - 1)) with h | h | h
          · have hv : m1 < m2 := by
              rw [← V1.out, ← V2.out]
              exact val_lt_atB hd1 HE.out (show gk - 1 < d1.length by omega) (fun j h1 h2 => hab.out j (by omega) h2) h
            have HR := Lib.hid (cmpN_lt hv); clear hv
            go_wp2
            go_quiet (fail)
            go_wp2
            go_ret
            exact ⟨ret_int HR.out.symm, n + nq, by simp⟩
          · have H := Lib.hid h
            have q1 : ¬ ((nth d1 (gk - 1) : Nat) : Int) < ((nth d2 (gk - 1) : Nat) : Int) := by omega
            have q2 : ¬ ((nth d2 (gk - 1) : Nat) : Int) < ((nth d1 (gk - 1) : Nat) : Int) := by omega
            clear h
            go_wp2
            go_quiet (fail)
            go_wp2
            go_quiet (fail)
            go_wp2
            go_roundg (gk - 1)
            case measure => omega
            case rel =>
              refine ⟨_, by omega, by go_num, rfl, fun j h1 h2 => ?_⟩
              by_cases e : j = gk - 1
              · subst e; exact H.out
              · exact hab.out j (by omega) h2
          · have hv : m2 < m1 := by
              rw [← V1.out, ← V2.out]
              exact val_lt_atB hd2 HE.out.symm (show gk - 1 < d2.length by omega) (fun j h1 h2 => (hab.out j (by omega) (by omega)).symm) h
            have HR := Lib.hid (cmpN_gt hv); clear hv
            have q1 : ¬ ((nth d1 (gk - 1) : Nat) : Int) < ((nth d2 (gk - 1) : Nat) : Int) := by omega
            go_wp2
            go_quiet (fail)
            go_wp2
            go_quiet (fail)
            go_wp2
            go_ret
            exact ⟨ret_int HR.out.symm, _, by rw [World.drewN_drewN, World.drewN_drewN]⟩
        · have hg : gk = 0 := by omega
          have HR := Lib.hid (show cmpN m1 m2 = 0 by
            rw [KK.out (ext_nth HE.out fun j hj => hab.out j (by omega) hj), cmpN_eq])
          clear hg hx1 hx2
          go_wp2
          go_ret
          exact ⟨ret_int HR.out.symm, n, rfl⟩
  · have hne : ((d1.length : Int) != (d2.length : Int)) = true := by simp; omega
    have HR := Lib.hid (cmpN_gt (K2.out hgt))
    have q1 : ¬ (d1.length : Int) < (d2.length : Int) := by omega
    clear hp1 hp2
    go_enter Try.func90, Try.ntmps90
    go_wp2
    go_ret
    exact ⟨ret_int HR.out.symm, 0, rfl⟩

end Go.Proofs.Ytbofdldkiooegaa
