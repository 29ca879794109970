/- limbs.guess, take, giveBack by their contracts. -/
import Derived.Test.YtbofdldkiooegaaDiv64
import Derived.Test.YtbofdldkiooegaaMul
namespace Go.Proofs.Ytbofdldkiooegaa
open Go Go.RowKit Tw
set_option linter.unusedVariables false
set_option linter.unusedSimpArgs false

theorem cmp2_le {h l r u : Nat} (hl : l < W) (hu : u < W) (hc : h < r ∨ (h = r ∧ l ≤ u)) : l + W * h ≤ W * r + u := by
  rcases hc with h1 | ⟨h1, h2⟩
  · have := Nat.mul_le_mul_left W (show h + 1 ≤ r from h1)
    rw [Nat.mul_add, Nat.mul_one] at this; omega
  · subst h1; omega
theorem cmp2_gt {h l r u : Nat} (hl : l < W) (hu : u < W) (hc : r < h ∨ (h = r ∧ u < l)) : W * r + u < l + W * h := by
  rcases hc with h1 | ⟨h1, h2⟩
  · have := Nat.mul_le_mul_left W (show r + 1 ≤ h from h1)
    rw [Nat.mul_add, Nat.mul_one] at this; omega
  · subst h1; omega

/-- the state of the guess: q, and what is left of the two digits on top -/
def GI (u2 u1 u0 b1 b0 q r : Nat) : Prop := u2 * W + u1 = q * b1 + r ∧ guessN u2 u1 u0 b1 b0 ≤ q ∧ q < W

theorem gi_stop {u2 u1 u0 b1 b0 q r : Nat} (hb : 0 < b1) (h : GI u2 u1 u0 b1 b0 q r) (hle : q * b0 ≤ W * r + u0) : q = guessN u2 u1 u0 b1 b0 := by
  obtain ⟨h1, h2, h3⟩ := h
  refine Nat.le_antisymm ?_ h2
  have hV : 0 < b1 * W + b0 := by have := Nat.mul_pos hb W_pos; omega
  have := le_quot hV (est_le h1 hle)
  exact Nat.le_min.2 ⟨Nat.le_sub_one_of_lt h3, this⟩
theorem gi_more {u2 u1 u0 b1 b0 q r : Nat} (hb : 0 < b1) (h : GI u2 u1 u0 b1 b0 q r) (hlt : W * r + u0 < q * b0) : 0 < q ∧ GI u2 u1 u0 b1 b0 (q - 1) (r + b1) := by
  obtain ⟨h1, h2, h3⟩ := h
  have hq : 0 < q := by
    rcases Nat.eq_zero_or_pos q with h | h
    · subst h; simp at hlt
    · exact h
  refine ⟨hq, ?_, ?_, by omega⟩
  · obtain ⟨q', rfl⟩ : ∃ q', q = q' + 1 := ⟨q - 1, by omega⟩
    rw [h1, Nat.add_mul, Nat.one_mul]; simp only [Nat.add_sub_cancel]; omega
  · have h4 := est_more W_pos hb h1 hlt
    unfold guessN
    exact Nat.le_trans (Nat.min_le_right _ _) h4
theorem gi_over {u2 u1 u0 b1 b0 q r : Nat} (hb : 0 < b1) (hb0 : b0 < W) (h : GI u2 u1 u0 b1 b0 q r) (hr : W ≤ r) : q = guessN u2 u1 u0 b1 b0 := by
  refine gi_stop hb h ?_
  have h3 := h.2.2
  have h1 : q * b0 ≤ W * W := Nat.mul_le_mul (by omega) (by omega)
  have h2 : W * W ≤ W * r := Nat.mul_le_mul_left _ hr
  omega

set_option maxRecDepth 100000 in
set_option maxHeartbeats 2000000 in
theorem guess_c (u2 u1 u0 b1 b0 : Nat) (w : World) (hu2 : u2 ≤ b1) (hu1 : u1 < W) (hu0 : u0 < W) (hb1 : 0 < b1) (hb1W : b1 < W) (hb0W : b0 < W) :
    Calls Try.prog 81 #[.int .u64 u2, .int .u64 u1, .int .u64 u0, .int .u64 b1, .int .u64 b0] w fun e w' =>
      e = .returned (.int .u64 ((guessN u2 u1 u0 b1 b0 : Nat) : Int)) ∧ ∃ n, w' = w.drewN n := by
  obtain ⟨s, hs⟩ : ∃ s, s = (u1 + b1) % W := ⟨_, rfl⟩
  have hws : IntKind.u64.wrap ((u1 : Int) + (b1 : Int)) = (s : Int) := by rw [IntKind.wrap_u64, hs]; unfold W; omega
  clear hs
  by_cases hlt : u2 < b1
  · have hd : decide ((u2 : Int) < (b1 : Int)) = true := by rw [decide_eq_true_eq]; omega
    go_enter Try.func81, Try.ntmps81
    go_wp2_with fail
    refine Calls.mono (div64_c u2 u1 b1 _ hb1 hlt hu1 hb1W) ?_; rintro e w' ⟨rfl, nd, rfl⟩
    have HG : Hid (GI u2 u1 u0 b1 b0 ((u2 * W + u1) / b1) ((u2 * W + u1) % b1)) := Lib.hid (by
      refine ⟨(Nat.div_add_mod' _ _).symm, ?_, ?_⟩
      · unfold guessN
        exact Nat.le_trans (Nat.min_le_right _ _) (est_init W_pos hu0 hb1)
      · rw [Nat.div_lt_iff_lt_mul hb1]
        have h1 := Nat.mul_le_mul_right W (show u2 + 1 ≤ b1 from hlt)
        rw [Nat.add_mul, Nat.one_mul] at h1
        rw [Nat.mul_comm W b1]; omega)
    have HR : Hid ((u2 * W + u1) % b1 < W) := Lib.hid (Nat.lt_trans (Nat.mod_lt _ hb1) hb1W)
    generalize (u2 * W + u1) / b1 = q0 at *
    generalize (u2 * W + u1) % b1 = r0 at *
    clear hws
    go_wp2_with fail
    go_loopg [11, 12] q0 (fun k qv rv wr => ∃ q r n : Nat, k = q ∧ qv = .int .u64 q ∧ rv = .int .u64 r ∧ wr = w.drewN n ∧ Hid (GI u2 u1 u0 b1 b0 q r) ∧ Hid (r < W))
    case atStart => exact ⟨q0, r0, nd, rfl, rfl, rfl, rfl, HG, HR⟩
    case round =>
      obtain ⟨q, r, n, hk, rfl, rfl, rfl, hG, hr⟩ := hrel
      have HK := Lib.hid hk; clear hk
      by_cases c1 : mulH q b0 < r
      · have hd1 : decide (((mulH q b0 : Nat) : Int) < (r : Int)) = true := by rw [decide_eq_true_eq]; omega
        have hd1n : decide (mulH q b0 < r) = true := by rw [decide_eq_true_eq]; omega
        have hres : Hid (q = guessN u2 u1 u0 b1 b0) := Lib.hid (gi_stop hb1 hG.out (by rw [← mul_eq q b0]; exact cmp2_le (mulL_lt _ _) hu0 (.inl c1)))
        go_wp2_with fail
        refine Calls.mono (mul64_c q b0 (hG.out.2.2) hb0W _) ?_; rintro e w' ⟨rfl, rfl⟩
        go_wp2_with fail
        go_ret
        refine ⟨ret_int ?_, n, rfl⟩
        show ((q : Nat) : Int) = _
        rw [← hres.out]
      · have hd1 : decide (((mulH q b0 : Nat) : Int) < (r : Int)) = false := by rw [decide_eq_false_iff_not]; omega
        have hd1n : decide (mulH q b0 < r) = false := by rw [decide_eq_false_iff_not]; omega
        by_cases c2 : mulH q b0 = r
        · have hd2 : (((mulH q b0 : Nat) : Int) == (r : Int)) = true := by rw [beq_iff_eq]; omega
          have hd2n : (mulH q b0 == r) = true := by rw [beq_iff_eq]; omega
          have C2 := Lib.hid c2
          by_cases c3 : mulL q b0 ≤ u0
          · have hd3 : decide (((mulL q b0 : Nat) : Int) ≤ (u0 : Int)) = true := by rw [decide_eq_true_eq]; omega
            have hd3n : decide (mulL q b0 ≤ u0) = true := by rw [decide_eq_true_eq]; omega
            clear c1 c2
            have hres : Hid (q = guessN u2 u1 u0 b1 b0) := Lib.hid (gi_stop hb1 hG.out (by rw [← mul_eq q b0]; exact cmp2_le (mulL_lt _ _) hu0 (.inr ⟨C2.out, c3⟩)))
            go_wp2_with fail
            refine Calls.mono (mul64_c q b0 (hG.out.2.2) hb0W _) ?_; rintro e w' ⟨rfl, rfl⟩
            go_wp2_with fail
            go_ret
            refine ⟨ret_int ?_, n, rfl⟩
            show ((q : Nat) : Int) = _
            rw [← hres.out]
          · have hd3 : decide (((mulL q b0 : Nat) : Int) ≤ (u0 : Int)) = false := by rw [decide_eq_false_iff_not]; omega
            have hd3n : decide (mulL q b0 ≤ u0) = false := by rw [decide_eq_false_iff_not]; omega
            have C3 : Hid (u0 < mulL q b0) := Lib.hid (by omega)
            clear c1 c2 c3
            have hmr := gi_more hb1 hG.out (by rw [← mul_eq q b0]; exact cmp2_gt (mulL_lt _ _) hu0 (.inr ⟨C2.out, C3.out⟩))
            obtain ⟨q', hq'⟩ : ∃ q', q' = q - 1 := ⟨_, rfl⟩
            have hwq : IntKind.u64.wrap ((q : Int) - 1) = (q' : Int) := by rw [IntKind.wrap_u64, hq']; have := hG.out.2.2; unfold W at this; omega
            obtain ⟨nx, hnx⟩ : ∃ x, x = (r + b1) % W := ⟨_, rfl⟩
            have hwn : IntKind.u64.wrap ((r : Int) + (b1 : Int)) = (nx : Int) := by rw [IntKind.wrap_u64, hnx]; unfold W; omega
            have HM : Hid (GI u2 u1 u0 b1 b0 q' (r + b1)) := Lib.hid (by rw [hq']; exact hmr.2)
            have HQ' : Hid (q' + 1 = q) := Lib.hid (by omega)
            clear hq'
            by_cases hov : W ≤ r + b1
            · have hres : Hid (q' = guessN u2 u1 u0 b1 b0) := Lib.hid (gi_over hb1 hb0W HM.out hov)
              have hd4 : decide ((nx : Int) < (r : Int)) = true := by have hrw := hr.out; rw [decide_eq_true_eq, hnx, Nat.mod_eq_sub_mod hov, Nat.mod_eq_of_lt (by omega)]; omega
              have hd4n : decide (nx < r) = true := by have := of_decide_eq_true hd4; rw [decide_eq_true_eq]; omega
              clear hnx hmr hov
              go_wp2_with fail
              refine Calls.mono (mul64_c q b0 (hG.out.2.2) hb0W _) ?_; rintro e w' ⟨rfl, rfl⟩
              go_wp2_with fail
              go_ret
              refine ⟨ret_int ?_, n, rfl⟩
              show ((q' : Nat) : Int) = _
              rw [hres.out]
            · have hnx' : nx = r + b1 := by rw [hnx, Nat.mod_eq_of_lt (by omega)]
              have HNX : Hid (nx = r + b1) := Lib.hid hnx'
              have hd4 : decide ((nx : Int) < (r : Int)) = false := by rw [decide_eq_false_iff_not]; omega
              have hd4n : decide (nx < r) = false := by rw [decide_eq_false_iff_not]; omega
              have HNW : Hid (nx < W) := Lib.hid (by omega)
              clear hnx hnx' hmr hov
              go_wp2_with fail
              refine Calls.mono (mul64_c q b0 (hG.out.2.2) hb0W _) ?_; rintro e w' ⟨rfl, rfl⟩
              go_wp2_with fail
              go_roundg q'
              case measure => have := HK.out; have := HQ'.out; omega
              case rel => exact ⟨q', nx, n, rfl, rfl, rfl, rfl, by rw [HNX.out]; exact HM, HNW⟩
        · have hd2 : (((mulH q b0 : Nat) : Int) == (r : Int)) = false := by rw [beq_eq_false_iff_ne]; omega
          have hd2n : (mulH q b0 == r) = false := by rw [beq_eq_false_iff_ne]; omega
          have C1 : Hid (r < mulH q b0) := Lib.hid (by omega)
          clear c1 c2
          have hmr := gi_more hb1 hG.out (by rw [← mul_eq q b0]; exact cmp2_gt (mulL_lt _ _) hu0 (.inl C1.out))
          obtain ⟨q', hq'⟩ : ∃ q', q' = q - 1 := ⟨_, rfl⟩
          have hwq : IntKind.u64.wrap ((q : Int) - 1) = (q' : Int) := by rw [IntKind.wrap_u64, hq']; have := hG.out.2.2; unfold W at this; omega
          obtain ⟨nx, hnx⟩ : ∃ x, x = (r + b1) % W := ⟨_, rfl⟩
          have hwn : IntKind.u64.wrap ((r : Int) + (b1 : Int)) = (nx : Int) := by rw [IntKind.wrap_u64, hnx]; unfold W; omega
          have HM : Hid (GI u2 u1 u0 b1 b0 q' (r + b1)) := Lib.hid (by rw [hq']; exact hmr.2)
          have HQ' : Hid (q' + 1 = q) := Lib.hid (by omega)
          clear hq'
          by_cases hov : W ≤ r + b1
          · have hres : Hid (q' = guessN u2 u1 u0 b1 b0) := Lib.hid (gi_over hb1 hb0W HM.out hov)
            have hd4 : decide ((nx : Int) < (r : Int)) = true := by have hrw := hr.out; rw [decide_eq_true_eq, hnx, Nat.mod_eq_sub_mod hov, Nat.mod_eq_of_lt (by omega)]; omega
            have hd4n : decide (nx < r) = true := by have := of_decide_eq_true hd4; rw [decide_eq_true_eq]; omega
            clear hnx hmr hov
            go_wp2_with fail
            refine Calls.mono (mul64_c q b0 (hG.out.2.2) hb0W _) ?_; rintro e w' ⟨rfl, rfl⟩
            go_wp2_with fail
            go_ret
            refine ⟨ret_int ?_, n, rfl⟩
            show ((q' : Nat) : Int) = _
            rw [hres.out]
          · have hnx' : nx = r + b1 := by rw [hnx, Nat.mod_eq_of_lt (by omega)]
            have HNX : Hid (nx = r + b1) := Lib.hid hnx'
            have hd4 : decide ((nx : Int) < (r : Int)) = false := by rw [decide_eq_false_iff_not]; omega
            have hd4n : decide (nx < r) = false := by rw [decide_eq_false_iff_not]; omega
            have HNW : Hid (nx < W) := Lib.hid (by omega)
            clear hnx hnx' hmr hov
            go_wp2_with fail
            refine Calls.mono (mul64_c q b0 (hG.out.2.2) hb0W _) ?_; rintro e w' ⟨rfl, rfl⟩
            go_wp2_with fail
            go_roundg q'
            case measure => have := HK.out; have := HQ'.out; omega
            case rel => exact ⟨q', nx, n, rfl, rfl, rfl, rfl, by rw [HNX.out]; exact HM, HNW⟩
  · have hueq : u2 = b1 := by omega
    have hd : decide ((u2 : Int) < (b1 : Int)) = false := by rw [decide_eq_false_iff_not]; omega
    have hdn : decide (u2 < b1) = false := by rw [decide_eq_false_iff_not]; omega
    have hadd := add64_run0 u1 b1
    have hae := add_eq u1 b1 0
    have HGQ : Hid (GI u2 u1 u0 b1 b0 (W - 1) (u1 + b1)) := Lib.hid (by
      refine ⟨?_, Nat.min_le_left _ _, by have := W_pos; omega⟩
      subst hueq
      obtain ⟨v, hv⟩ : ∃ v, W = v + 1 := ⟨W - 1, by have := W_pos; omega⟩
      rw [hv, Nat.add_sub_cancel, Nat.mul_comm v, Nat.mul_add, Nat.mul_one]; omega)
    obtain ⟨q0, hq0⟩ : ∃ q, q = W - 1 := ⟨_, rfl⟩
    have hqw : (18446744073709551615 : Int) = (q0 : Int) := by rw [hq0]; unfold W; rfl
    rw [← hq0] at HGQ
    have HQW := Lib.hid hqw; have HQ0 := Lib.hid hq0
    clear hq0 hqw
    by_cases hov : W ≤ u1 + b1
    · have hc1 : addC u1 b1 0 = 1 := by
        have h1 := addS_lt u1 b1 0
        have h2 := addC_le hu1 hb1W (Nat.zero_le 1)
        rcases Nat.eq_zero_or_pos (addC u1 b1 0) with h | h
        · rw [h] at hae; omega
        · omega
      have hd1 : decide ((0 : Int) < ((addC u1 b1 0 : Nat) : Int)) = true := by rw [decide_eq_true_eq]; omega
      have hd1n : decide (0 < addC u1 b1 0) = true := by rw [decide_eq_true_eq]; omega
      have hd1p : 0 < addC u1 b1 0 := by omega
      have hres : Hid (q0 = guessN u2 u1 u0 b1 b0) := Lib.hid (gi_over hb1 hb0W HGQ.out hov)
      clear hc1 hueq hlt hov hae
      go_enter Try.func81, Try.ntmps81
      go_wp2_with fail
      go_ret
      exact ⟨ret_int (by rw [HQW.out, hres.out]), 0, rfl⟩
    · have hc0 : addC u1 b1 0 = 0 := by
        rcases Nat.eq_zero_or_pos (addC u1 b1 0) with h | h
        · exact h
        · have := Nat.mul_le_mul_left W h; omega
      have hd1 : decide ((0 : Int) < ((addC u1 b1 0 : Nat) : Int)) = false := by rw [decide_eq_false_iff_not]; omega
      have hd1n : decide (0 < addC u1 b1 0) = false := by rw [decide_eq_false_iff_not]; omega
      obtain ⟨r0, hr0⟩ : ∃ r, r = addS u1 b1 0 := ⟨_, rfl⟩
      have hsum : r0 = u1 + b1 := by rw [hr0]; rw [hc0] at hae; omega
      have HG : Hid (GI u2 u1 u0 b1 b0 q0 r0) := Lib.hid (by rw [hsum]; exact HGQ.out)
      have HR : Hid (r0 < W) := Lib.hid (by rw [hr0]; exact addS_lt _ _ _)
      rw [← hr0] at hadd
      clear hc0 hueq hlt hov hae hr0 hsum
      go_enter Try.func81, Try.ntmps81
      go_wp2_with fail
      rw [HQW.out]
      go_loopg [11, 12] q0 (fun k qv rv wr => ∃ q r n : Nat, k = q ∧ qv = .int .u64 q ∧ rv = .int .u64 r ∧ wr = w.drewN n ∧ Hid (GI u2 u1 u0 b1 b0 q r) ∧ Hid (r < W))
      case atStart => exact ⟨q0, r0, 0, rfl, rfl, rfl, rfl, HG, HR⟩
      case round =>
        obtain ⟨q, r, n, hk, rfl, rfl, rfl, hG, hr⟩ := hrel
        have HK := Lib.hid hk; clear hk
        by_cases c1 : mulH q b0 < r
        · have hd1 : decide (((mulH q b0 : Nat) : Int) < (r : Int)) = true := by rw [decide_eq_true_eq]; omega
          have hd1n : decide (mulH q b0 < r) = true := by rw [decide_eq_true_eq]; omega
          have hres : Hid (q = guessN u2 u1 u0 b1 b0) := Lib.hid (gi_stop hb1 hG.out (by rw [← mul_eq q b0]; exact cmp2_le (mulL_lt _ _) hu0 (.inl c1)))
          go_wp2_with fail
          refine Calls.mono (mul64_c q b0 (hG.out.2.2) hb0W _) ?_; rintro e w' ⟨rfl, rfl⟩
          go_wp2_with fail
          go_ret
          refine ⟨ret_int ?_, n, rfl⟩
          show ((q : Nat) : Int) = _
          rw [← hres.out]
        · have hd1 : decide (((mulH q b0 : Nat) : Int) < (r : Int)) = false := by rw [decide_eq_false_iff_not]; omega
          have hd1n : decide (mulH q b0 < r) = false := by rw [decide_eq_false_iff_not]; omega
          by_cases c2 : mulH q b0 = r
          · have hd2 : (((mulH q b0 : Nat) : Int) == (r : Int)) = true := by rw [beq_iff_eq]; omega
            have hd2n : (mulH q b0 == r) = true := by rw [beq_iff_eq]; omega
            have C2 := Lib.hid c2
            by_cases c3 : mulL q b0 ≤ u0
            · have hd3 : decide (((mulL q b0 : Nat) : Int) ≤ (u0 : Int)) = true := by rw [decide_eq_true_eq]; omega
              have hd3n : decide (mulL q b0 ≤ u0) = true := by rw [decide_eq_true_eq]; omega
              clear c1 c2
              have hres : Hid (q = guessN u2 u1 u0 b1 b0) := Lib.hid (gi_stop hb1 hG.out (by rw [← mul_eq q b0]; exact cmp2_le (mulL_lt _ _) hu0 (.inr ⟨C2.out, c3⟩)))
              go_wp2_with fail
              refine Calls.mono (mul64_c q b0 (hG.out.2.2) hb0W _) ?_; rintro e w' ⟨rfl, rfl⟩
              go_wp2_with fail
              go_ret
              refine ⟨ret_int ?_, n, rfl⟩
              show ((q : Nat) : Int) = _
              rw [← hres.out]
            · have hd3 : decide (((mulL q b0 : Nat) : Int) ≤ (u0 : Int)) = false := by rw [decide_eq_false_iff_not]; omega
              have hd3n : decide (mulL q b0 ≤ u0) = false := by rw [decide_eq_false_iff_not]; omega
              have C3 : Hid (u0 < mulL q b0) := Lib.hid (by omega)
              clear c1 c2 c3
              have hmr := gi_more hb1 hG.out (by rw [← mul_eq q b0]; exact cmp2_gt (mulL_lt _ _) hu0 (.inr ⟨C2.out, C3.out⟩))
              obtain ⟨q', hq'⟩ : ∃ q', q' = q - 1 := ⟨_, rfl⟩
              have hwq : IntKind.u64.wrap ((q : Int) - 1) = (q' : Int) := by rw [IntKind.wrap_u64, hq']; have := hG.out.2.2; unfold W at this; omega
              obtain ⟨nx, hnx⟩ : ∃ x, x = (r + b1) % W := ⟨_, rfl⟩
              have hwn : IntKind.u64.wrap ((r : Int) + (b1 : Int)) = (nx : Int) := by rw [IntKind.wrap_u64, hnx]; unfold W; omega
              have HM : Hid (GI u2 u1 u0 b1 b0 q' (r + b1)) := Lib.hid (by rw [hq']; exact hmr.2)
              have HQ' : Hid (q' + 1 = q) := Lib.hid (by omega)
              clear hq'
              by_cases hov : W ≤ r + b1
              · have hres : Hid (q' = guessN u2 u1 u0 b1 b0) := Lib.hid (gi_over hb1 hb0W HM.out hov)
                have hd4 : decide ((nx : Int) < (r : Int)) = true := by have hrw := hr.out; rw [decide_eq_true_eq, hnx, Nat.mod_eq_sub_mod hov, Nat.mod_eq_of_lt (by omega)]; omega
                have hd4n : decide (nx < r) = true := by have := of_decide_eq_true hd4; rw [decide_eq_true_eq]; omega
                clear hnx hmr hov
                go_wp2_with fail
                refine Calls.mono (mul64_c q b0 (hG.out.2.2) hb0W _) ?_; rintro e w' ⟨rfl, rfl⟩
                go_wp2_with fail
                go_ret
                refine ⟨ret_int ?_, n, rfl⟩
                show ((q' : Nat) : Int) = _
                rw [hres.out]
              · have hnx' : nx = r + b1 := by rw [hnx, Nat.mod_eq_of_lt (by omega)]
                have HNX : Hid (nx = r + b1) := Lib.hid hnx'
                have hd4 : decide ((nx : Int) < (r : Int)) = false := by rw [decide_eq_false_iff_not]; omega
                have hd4n : decide (nx < r) = false := by rw [decide_eq_false_iff_not]; omega
                have HNW : Hid (nx < W) := Lib.hid (by omega)
                clear hnx hnx' hmr hov
                go_wp2_with fail
                refine Calls.mono (mul64_c q b0 (hG.out.2.2) hb0W _) ?_; rintro e w' ⟨rfl, rfl⟩
                go_wp2_with fail
                go_roundg q'
                case measure => have := HK.out; have := HQ'.out; omega
                case rel => exact ⟨q', nx, n, rfl, rfl, rfl, rfl, by rw [HNX.out]; exact HM, HNW⟩
          · have hd2 : (((mulH q b0 : Nat) : Int) == (r : Int)) = false := by rw [beq_eq_false_iff_ne]; omega
            have hd2n : (mulH q b0 == r) = false := by rw [beq_eq_false_iff_ne]; omega
            have C1 : Hid (r < mulH q b0) := Lib.hid (by omega)
            clear c1 c2
            have hmr := gi_more hb1 hG.out (by rw [← mul_eq q b0]; exact cmp2_gt (mulL_lt _ _) hu0 (.inl C1.out))
            obtain ⟨q', hq'⟩ : ∃ q', q' = q - 1 := ⟨_, rfl⟩
            have hwq : IntKind.u64.wrap ((q : Int) - 1) = (q' : Int) := by rw [IntKind.wrap_u64, hq']; have := hG.out.2.2; unfold W at this; omega
            obtain ⟨nx, hnx⟩ : ∃ x, x = (r + b1) % W := ⟨_, rfl⟩
            have hwn : IntKind.u64.wrap ((r : Int) + (b1 : Int)) = (nx : Int) := by rw [IntKind.wrap_u64, hnx]; unfold W; omega
            have HM : Hid (GI u2 u1 u0 b1 b0 q' (r + b1)) := Lib.hid (by rw [hq']; exact hmr.2)
            have HQ' : Hid (q' + 1 = q) := Lib.hid (by omega)
            clear hq'
            by_cases hov : W ≤ r + b1
            · have hres : Hid (q' = guessN u2 u1 u0 b1 b0) := Lib.hid (gi_over hb1 hb0W HM.out hov)
              have hd4 : decide ((nx : Int) < (r : Int)) = true := by have hrw := hr.out; rw [decide_eq_true_eq, hnx, Nat.mod_eq_sub_mod hov, Nat.mod_eq_of_lt (by omega)]; omega
              have hd4n : decide (nx < r) = true := by have := of_decide_eq_true hd4; rw [decide_eq_true_eq]; omega
              clear hnx hmr hov
              go_wp2_with fail
              refine Calls.mono (mul64_c q b0 (hG.out.2.2) hb0W _) ?_; rintro e w' ⟨rfl, rfl⟩
              go_wp2_with fail
              go_ret
              refine ⟨ret_int ?_, n, rfl⟩
              show ((q' : Nat) : Int) = _
              rw [hres.out]
            · have hnx' : nx = r + b1 := by rw [hnx, Nat.mod_eq_of_lt (by omega)]
              have HNX : Hid (nx = r + b1) := Lib.hid hnx'
              have hd4 : decide ((nx : Int) < (r : Int)) = false := by rw [decide_eq_false_iff_not]; omega
              have hd4n : decide (nx < r) = false := by rw [decide_eq_false_iff_not]; omega
              have HNW : Hid (nx < W) := Lib.hid (by omega)
              clear hnx hnx' hmr hov
              go_wp2_with fail
              refine Calls.mono (mul64_c q b0 (hG.out.2.2) hb0W _) ?_; rintro e w' ⟨rfl, rfl⟩
              go_wp2_with fail
              go_roundg q'
              case measure => have := HK.out; have := HQ'.out; omega
              case rel => exact ⟨q', nx, n, rfl, rfl, rfl, rfl, by rw [HNX.out]; exact HM, HNW⟩
end Go.Proofs.Ytbofdldkiooegaa
