/- Words: limbs' contracts, as the logic over data has them. -/
import Derived.Test.YtkbhchlecokpiaaLay
import Derived.Test.YtkbhchlecokpiaaFwCf
import Derived.Test.YtkbhchlecokpiaaL1c
set_option linter.unusedVariables false
set_option linter.unusedSimpArgs false
namespace Tw
open Go Go.RowKit Fw
set_option linter.unusedVariables false
set_option linter.unusedSimpArgs false

def mw (x : Nat) : List M := [.int .u64 ((x : Nat) : Int)]
/-- words -/
abbrev mW (l : List Nat) : M := mS mw l
/-- a number's words, in the one form -/
abbrev mN (X : Nat) : M := mW (digs W X)

theorem rmc_words {ok : Nat → Prop} {w : World} {b : Nat} : ∀ {l : List Nat} {off : Nat}, RMc ok w b off (l.flatMap mw) → CellsG .u64 w b off l
  | [], off, h => by intro i hi; simp at hi
  | x :: l, off, h => by
    simp only [List.flatMap_cons, mw, List.cons_append, List.nil_append, RMc, RM] at h
    intro i hi
    cases i with
    | zero =>
      obtain ⟨⟨u, h1, _, rfl⟩, _⟩ := h
      simpa [nth] using h1
    | succ i =>
      have := rmc_words (l := l) (off := off + 1) h.2 i (by simpa using hi)
      rw [show off + (i + 1) = off + 1 + i by omega]
      simpa [nth] using this
theorem words_rmc {ok : Nat → Prop} {w : World} {b : Nat} : ∀ {l : List Nat} {off : Nat}, CellsG .u64 w b off l → RMc ok w b off (l.flatMap mw)
  | [], off, h => by simp [RMc]
  | x :: l, off, h => by
    simp only [List.flatMap_cons, mw, List.cons_append, List.nil_append, RMc, RM]
    refine ⟨⟨_, ?_, rfl, rfl⟩, words_rmc fun i hi => ?_⟩
    · have := h 0 (by simp)
      simpa [nth] using this
    · have := h (i + 1) (by simpa using hi)
      rw [show off + 1 + i = off + (i + 1) by omega]
      simpa [nth] using this

theorem flat_nil {l : List Nat} : l.flatMap mw = [] ↔ l = [] := by cases l <;> simp [mw]

theorem rm_wd {ok : Nat → Prop} {w : World} {v : Value} {l : List Nat} (h : RM ok w (mW l) v) (hd : Dig W l) : Wd w v l := by
  simp only [mW, mS, RM] at h
  obtain ⟨a, cap, rfl, h1, h2, h3, h4, h5⟩ := h
  refine ⟨a, cap, rfl, h1, h2, hd, fun hne => ?_⟩
  obtain ⟨b, off, rfl, _⟩ := h4 (fun h => hne (flat_nil.1 h))
  exact ⟨b, off, rfl, rmc_words (h5 b off rfl)⟩
theorem own_rm {base : Nat} {w : World} {v : Value} {l : List Nat} (h : Own .u64 49 W base w v l) : RM (fun b => base ≤ b) w (mW l) v := by
  simp only [mW, mS, RM]
  rcases h.shape with ⟨rfl, rfl⟩ | ⟨g, cap, rfl, h1, h2, h3, h4⟩
  · exact ⟨none, 0, rfl, Nat.le_refl _, by unfold maxLen; omega, by simp, by simp, by simp⟩
  · refine ⟨_, cap, rfl, h3, h4, fun h0 => ?_, fun _ => ⟨g, 0, rfl, h1⟩, fun b off hb => ?_⟩
    · rw [List.eq_nil_of_length_eq_zero h0]; rfl
    · simp only [Option.some.injEq, Addr.mk.injEq, and_true] at hb
      obtain ⟨rfl, rfl⟩ := hb
      exact words_rmc fun i hi => by rw [Nat.zero_add]; exact h.cell hi
theorem own_rm' {ok : Nat → Prop} {base : Nat} {w : World} {v : Value} {l : List Nat} (h : Own .u64 49 W base w v l) : RM (fun b => ok b ∨ base ≤ b) w (mW l) v :=
  RM.mono (fun b hb _ => ⟨.inr hb, rfl⟩) _ _ (own_rm h)
theorem rmt1 {ok : Nat → Prop} {w : World} {m : M} {vs : List Value} (h : RMt ok w [m] vs) : ∃ v, vs = [v] ∧ RM ok w m v := by
  simp only [RMt] at h
  obtain ⟨u, us, rfl, h1, rfl⟩ := h
  exact ⟨u, rfl, h1⟩
theorem rmt2 {ok : Nat → Prop} {w : World} {m m' : M} {vs : List Value} (h : RMt ok w [m, m'] vs) : ∃ v v', vs = [v, v'] ∧ RM ok w m v ∧ RM ok w m' v' := by
  simp only [RMt] at h
  obtain ⟨u, us, rfl, h1, u', us', rfl, h2, rfl⟩ := h
  exact ⟨u, u', rfl, h1, h2⟩
end Tw
namespace Go.Proofs.Ytkbhchlecokpiaa
open Go Go.RowKit Fw Tw
set_option linter.unusedVariables false
set_option linter.unusedSimpArgs false

theorem trim_r {l : List Nat} (hd : Dig W l) (hl : l.length ≤ 60000) : Ret Try.prog 131 [mW l] (mN (val W l)) := by
  intro ok w vs h
  obtain ⟨v, rfl, hv⟩ := rmt1 h
  refine (trim_c v l w (rm_wd hv hd) hl).mono ?_
  rintro e w' ⟨v', rfl, h4, h5⟩
  exact ⟨v', rfl, own_rm' h4, h5⟩
theorem add_r {l1 l2 : List Nat} (hd1 : Dig W l1) (hd2 : Dig W l2) (hl1 : l1.length ≤ 60000) (hl2 : l2.length ≤ 60000) : Ret Try.prog 112 [mW l1, mW l2] (mN (val W l1 + val W l2)) := by
  intro ok w vs h
  obtain ⟨v, v', rfl, hv, hv'⟩ := rmt2 h
  refine (add_c v v' l1 l2 w (rm_wd hv hd1) (rm_wd hv' hd2) hl1 hl2).mono ?_
  rintro e w' ⟨v', rfl, h4, h5⟩
  exact ⟨v', rfl, own_rm' h4, h5⟩
theorem sub_r {l1 l2 : List Nat} (hd1 : Dig W l1) (hd2 : Dig W l2) (hl1 : l1.length ≤ 60000) (hl2 : l2.length ≤ 60000) : Ret Try.prog 114 [mW l1, mW l2] (mN (val W l1 - val W l2)) := by
  intro ok w vs h
  obtain ⟨v, v', rfl, hv, hv'⟩ := rmt2 h
  refine (sub_c v v' l1 l2 w (rm_wd hv hd1) (rm_wd hv' hd2) hl1 hl2).mono ?_
  rintro e w' ⟨v', rfl, h4, h5⟩
  exact ⟨v', rfl, own_rm' h4, h5⟩
theorem mul_r {l1 l2 : List Nat} (hd1 : Dig W l1) (hd2 : Dig W l2) (hl1 : l1.length ≤ 30000) (hl2 : l2.length ≤ 30000) : Ret Try.prog 141 [mW l1, mW l2] (mN (val W l1 * val W l2)) := by
  intro ok w vs h
  obtain ⟨v, v', rfl, hv, hv'⟩ := rmt2 h
  refine (mul_c v v' l1 l2 w (rm_wd hv hd1) (rm_wd hv' hd2) hl1 hl2).mono ?_
  rintro e w' ⟨v', rfl, h4, h5⟩
  exact ⟨v', rfl, own_rm' h4, h5⟩
theorem gcd_r {l1 l2 : List Nat} (hd1 : Dig W l1) (hd2 : Dig W l2) (hl1 : l1.length ≤ 20000) (hl2 : l2.length ≤ 20000) : Ret Try.prog 134 [mW l1, mW l2] (mN (Nat.gcd (val W l1) (val W l2))) := by
  intro ok w vs h
  obtain ⟨v, v', rfl, hv, hv'⟩ := rmt2 h
  refine (gcd_c v v' l1 l2 w (rm_wd hv hd1) (rm_wd hv' hd2) hl1 hl2).mono ?_
  rintro e w' ⟨v', rfl, h4, h5⟩
  exact ⟨v', rfl, own_rm' h4, h5⟩
theorem divmod_r {l1 l2 : List Nat} (hd1 : Dig W l1) (hd2 : Dig W l2) (hl1 : l1.length ≤ 20000) (hl2 : l2.length ≤ 20000) : Ret Try.prog 132 [mW l1, mW l2] (.tup [mN (val W l1 / val W l2), mN (remN (val W l1) (val W l2))]) := by
  intro ok w vs h
  obtain ⟨v, v', rfl, hv, hv'⟩ := rmt2 h
  refine (divmod_c v v' l1 l2 w (rm_wd hv hd1) (rm_wd hv' hd2) hl1 hl2).mono ?_
  rintro e w' ⟨v3, v4, rfl, h4, h5, h6⟩
  refine ⟨_, rfl, ?_, h6⟩
  simp only [RM, RMt]
  exact ⟨_, rfl, v3, _, rfl, own_rm' h4, v4, _, rfl, own_rm' h5, rfl⟩
theorem cmp_r {l1 l2 : List Nat} (hd1 : Dig W l1) (hd2 : Dig W l2) : Ret Try.prog 113 [mW l1, mW l2] (.int .i64 (cmpN (val W l1) (val W l2))) := by
  intro ok w vs h
  obtain ⟨v, v', rfl, hv, hv'⟩ := rmt2 h
  refine (cmp_c v v' l1 l2 w (rm_wd hv hd1) (rm_wd hv' hd2)).mono ?_
  rintro e w' ⟨rfl, n, rfl⟩
  exact ⟨_, rfl, by simp only [RM], bel_drewN _ _ _⟩
theorem bits_r {l : List Nat} (hd : Dig W l) (hl : l.length ≤ 60000) : Ret Try.prog 110 [mW l] (.int .i64 ((bitsN (val W l) : Nat) : Int)) := by
  intro ok w vs h
  obtain ⟨v, rfl, hv⟩ := rmt1 h
  refine (bits_c v l w (rm_wd hv hd) hl).mono ?_
  rintro e w' ⟨rfl, rfl⟩
  exact ⟨_, rfl, by simp only [RM], Below.refl _ _⟩

theorem same_r {l1 l2 : List Nat} (hl : l1.length ≤ 1000000000) : Ret Try.prog 124 [mW l1, mW l2] (.bool (decide (l1 = l2))) := by
  refine ret_of (L := L) lay_ok Try.func124 rfl Try.ntmps124 rfl ?_
  refine go ?_
  refine awp_cond rfl (fun hb => ?_) (fun hb => ?_)
  · refine go ?_
    have hne : l1 ≠ l2 := by rintro rfl; simp at hb
    refine ⟨_, rfl, ?_⟩
    simp [tupM, hne]
  · have hlen : l1.length = l2.length := by simp at hb; omega
    clear hb
    refine go ?_
    refine awp_loop1 (fun i : Nat => i ≤ l1.length ∧ l1.take i = l2.take i) (fun i => [(5, some (.im (.int .i64 (i : Nat)))), (0, some (.im (mW l1))), (1, some (.im (mW l2)))]) (fun _ => []) (fun i => l1.length - i) 0 ⟨by omega, rfl⟩ ?_ ?_
    · exact gou0
    · rintro i ⟨hi, hit⟩
      refine go ?_
      refine awp_cond rfl (fun hb => ?_) (fun hb => ?_)
      · have hlt : i < l1.length := by simp at hb; omega
        refine go ?_
        refine ar_at (enc := mw) i rfl rfl rfl rfl rfl (fun _ => rfl) rfl rfl hlt ?_
        refine go ?_
        refine ar_at (enc := mw) i rfl rfl rfl rfl rfl (fun _ => rfl) rfl rfl (by omega) ?_
        refine go ?_
        refine awp_cond rfl (fun hb => ?_) (fun hb => ?_)
        · refine go ?_
          refine ⟨_, rfl, ?_⟩
          have hne : l1 ≠ l2 := by rintro rfl; simp at hb
          simp [tupM, hne]
        · refine go ?_
          refine ⟨i + 1, ⟨by omega, ?_⟩, ?_, ?_⟩
          · rw [List.take_succ_eq_append_getElem hlt, List.take_succ_eq_append_getElem (by omega), hit]
            congr 2
            simp at hb; omega
          · exact gou0
          · omega
      · have hge : i = l1.length := by simp at hb; omega
        subst hge
        refine go ?_
        refine ⟨_, rfl, ?_⟩
        have he : l1 = l2 := by rw [List.take_length] at hit; rw [hit, hlen, List.take_length]
        simp [tupM, he]
theorem len_W {X k : Nat} (h : X < W ^ k) {n : Nat} (hk : k ≤ n) : (digs W X).length ≤ n := Nat.le_trans (length_digs_le W_two h) hk
theorem len_pos {X : Nat} (h : X ≠ 0) : 0 < (digs W X).length := by rw [digs_pos W_two (by omega)]; simp
theorem lenf {X : Nat} (h : X = 0) : decide ((((digs W X).length : Nat) : Int) > 0) = false := by subst h; simp [digs_zero]
theorem lent {X : Nat} (h : X ≠ 0) : decide ((((digs W X).length : Nat) : Int) > 0) = true := by have := len_pos h; simp; omega
end Go.Proofs.Ytkbhchlecokpiaa
