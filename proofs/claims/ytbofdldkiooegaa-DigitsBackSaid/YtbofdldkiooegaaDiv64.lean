/- math/bits.Div64 by its contract: quotient and rest of two digits by one. -/
import Derived.Test.YtbofdldkiooegaaBits
import Derived.Test.YtbofdldkiooegaaDivN
import Derived.Test.YtbofdldkiooegaaShl
import Derived.Deep.DeepCutAuto
import Derived.Deep.CutBlock
import Derived.Lib.ItoaNum
namespace Go.Proofs.Ytbofdldkiooegaa
open Go Go.RowKit Tw
set_option linter.unusedVariables false
set_option linter.unusedSimpArgs false

theorem bitLen_bounds {x : Nat} (h0 : 0 < x) (hx : x < W) : 1 ≤ Lib.bitLen x ∧ 2 ^ (Lib.bitLen x - 1) ≤ x ∧ x < 2 ^ Lib.bitLen x ∧ Lib.bitLen x ≤ 64 := by
  have h := Lib.bitLenAux_bounds 64 x hx (by omega)
  exact ⟨h.1, h.2.1, h.2.2, Lib.bitLen_le x 64 (Nat.le_refl _) hx⟩

theorem len64_c (x : Nat) (w : World) (hx : x < W) :
    Calls Try.prog 86 #[.int .u64 x] w fun e w' => e = .returned (.int .i64 ((Lib.bitLen x : Nat) : Int)) ∧ w = w' := by
  have h := Try.bits_Len64 (x : Int) w (by omega) (by unfold W at hx; omega)
  refine h.mono ?_
  rintro e w' ⟨rfl, rfl⟩
  exact ⟨by simp, rfl⟩

theorem lz64_c (x : Nat) (w : World) (hx : x < W) :
    Calls Try.prog 80 #[.int .u64 x] w fun e w' => e = .returned (.int .i64 ((64 - Lib.bitLen x : Nat) : Int)) ∧ w = w' := by
  have hb : Lib.bitLen x ≤ 64 := Lib.bitLen_le x 64 (Nat.le_refl _) hx
  go_enter Try.func80, Try.ntmps80
  go_wp2_with fail
  refine Calls.mono (len64_c x _ hx) ?_; rintro e w' ⟨rfl, rfl⟩
  go_wp2_with fail
  go_ret
  exact ⟨by go_num, rfl⟩

/-- the numbers of the division, put in order -/
structure DivS (hi lo y s yv n1 n0 h2 lh U L l1 l0 : Nat) : Prop where
  yv_eq : yv = y * 2 ^ s
  yv_lt : yv < W
  yv_ge : 9223372036854775808 ≤ yv
  n_eq : yv = n1 * 4294967296 + n0
  n0_lt : n0 < 4294967296
  n1_lt : n1 < 4294967296
  n1_ge : 2147483648 ≤ n1
  U_eq : U = h2 + lh
  U_lt : U < yv
  X_eq : (hi * W + lo) * 2 ^ s = U * W + L
  L_eq : L = l1 * 4294967296 + l0
  l1_lt : l1 < 4294967296
  l0_lt : l0 < 4294967296
  w1 : IntKind.u64.wrap ((y : Int) * 2 ^ s) = (yv : Int)
  w2 : (yv : Int) / 4294967296 = (n1 : Int)
  w3 : bits .and .u64 (yv : Int) 4294967295 = (n0 : Int)
  w4 : IntKind.u64.wrap ((hi : Int) * 2 ^ s) = (h2 : Int)
  w5 : (lo : Int) / 2 ^ (64 - s) = (lh : Int)
  w6 : bits .or .u64 (h2 : Int) (lh : Int) = (U : Int)
  w7 : IntKind.u64.wrap ((lo : Int) * 2 ^ s) = (L : Int)
  w8 : (L : Int) / 4294967296 = (l1 : Int)
  w9 : bits .and .u64 (L : Int) 4294967295 = (l0 : Int)

theorem wrapN {n : Int} {m : Nat} (h : n = (m : Int)) (hm : m < W) : IntKind.u64.wrap n = (m : Int) := by
  subst h; exact IntWalk.u64_in _ (by unfold W at hm; omega)

theorem divS {hi lo y s bl : Nat} (hy : 0 < y) (hhi : hi < y) (hlo : lo < W) (h1 : 1 ≤ bl) (h2 : 2 ^ (bl - 1) ≤ y) (h3 : y < 2 ^ bl) (h4 : bl ≤ 64) (hs : s = 64 - bl) :
    ∃ yv n1 n0 h2 lh U L l1 l0, DivS hi lo y s yv n1 n0 h2 lh U L l1 l0 := by
  obtain ⟨hv1, hv2⟩ := norm_bounds h1 h2 h3 h4 hs
  have hs64 : s < 64 := by omega
  have e1 := up_eq lo s
  have e2 := upH_lt (r := s) hlo
  have e3 := upL_lt lo s
  have hp := Nat.two_pow_pos s
  have hmul : hi * 2 ^ s + 2 ^ s ≤ y * 2 ^ s := by
    have := Nat.mul_le_mul_right (2 ^ s) hhi
    rw [Nat.succ_mul] at this; exact this
  have hX : (hi * W + lo) * 2 ^ s = (hi * 2 ^ s + upH lo s) * W + upL lo s := by
    rw [Nat.add_mul, Nat.add_mul, ← e1, Nat.mul_right_comm]; rw [Nat.mul_comm (upH lo s) W]; omega
  have hUl : hi * 2 ^ s + upH lo s < y * 2 ^ s := by omega
  have hv1' := hv1
  unfold W at hv1'
  refine ⟨y * 2 ^ s, y * 2 ^ s / 4294967296, y * 2 ^ s % 4294967296, hi * 2 ^ s, upH lo s, hi * 2 ^ s + upH lo s, upL lo s, upL lo s / 4294967296, upL lo s % 4294967296,
    rfl, hv1, hv2, by omega, by omega, by omega, by omega, rfl, hUl, hX, by omega, ?_, by omega, ?_, ?_, ?_, ?_, ?_, ?_, ?_, ?_, ?_⟩
  · unfold W at e3; omega
  · exact wrapN (by simp) hv1
  · omega
  · rw [and_low32 _ (by omega) (by omega)]; omega
  · exact wrapN (by simp) (by omega)
  · rw [show (64 - s) = (63 - s) + 1 by omega, Int.pow_succ, Int.mul_comm, ← upH_int hs64, Int.ediv_ediv_of_nonneg (by decide)]
  · have a1 : hi * 2 ^ s < 18446744073709551616 := by omega
    have a2 : upH lo s < 18446744073709551616 := by omega
    rw [bits_or_u64_nat _ _ a1 a2, Nat.mul_comm hi, Nat.two_pow_add_eq_or_of_lt e2]
  · exact up_wrap lo s
  · omega
  · unfold W at e3
    rw [and_low32 _ (by omega) (by omega)]; omega

set_option maxRecDepth 100000 in
set_option maxHeartbeats 2000000 in
theorem div64_c (hi lo y : Nat) (w : World) (hy : 0 < y) (hhi : hi < y) (hlo : lo < W) (hyW : y < W) :
    Calls Try.prog 103 #[.int .u64 hi, .int .u64 lo, .int .u64 y] w fun e w' =>
      e = .returned (.tuple #[.int .u64 (((hi * W + lo) / y : Nat) : Int), .int .u64 (((hi * W + lo) % y : Nat) : Int)]) ∧ ∃ n, w' = w.drewN n := by
  have hyne : ((y : Int) == 0) = false := by simp; omega
  have hyle : ¬ (y : Int) ≤ (hi : Int) := by omega
  by_cases hz : hi = 0
  · subst hz
    obtain ⟨q, hq⟩ : ∃ q, q = lo / y := ⟨_, rfl⟩
    obtain ⟨r, hr⟩ : ∃ r, r = lo % y := ⟨_, rfl⟩
    have HQ := Lib.hid (show (0 * W + lo) / y = q by rw [hq]; simp)
    have HR := Lib.hid (show (0 * W + lo) % y = r by rw [hr]; simp)
    have e1 : (lo : Int) / (y : Int) = (q : Int) := by rw [hq]; simp
    have e2 : (lo : Int) % (y : Int) = (r : Int) := by rw [hr]; simp
    have e3 : IntKind.u64.wrap (q : Int) = (q : Int) := wrapN rfl (by rw [hq]; exact Nat.lt_of_le_of_lt (Nat.div_le_self _ _) hlo)
    have e1' : (lo : Int).tdiv (y : Int) = (q : Int) := by rw [hq]; rfl
    have e2' : (lo : Int).tmod (y : Int) = (r : Int) := by rw [hr]; rfl
    have hy1 : 1 ≤ y := hy
    clear hq hr
    go_enter Try.func103, Try.ntmps103
    go_wp2_with fail
    go_quiet (fail)
    go_wp2_with fail
    go_ret2
    rw [HQ.out, HR.out]
    exact ⟨rfl, _, rfl⟩
  · have hzne : ((hi : Int) == 0) = false := by simp; exact hz
    obtain ⟨hb1, hb2, hb3, hb4⟩ := bitLen_bounds hy hyW
    have HL := Lib.hid (lz64_c y w hyW)
    generalize hss : Lib.bitLen y = bl at *
    obtain ⟨s, hs⟩ : ∃ s, s = 64 - bl := ⟨_, rfl⟩
    rw [← hs] at HL
    have hs63 : s ≤ 63 := by omega
    obtain ⟨yv, n1, n0, h2, lh, U, L, l1, l0, hd⟩ := divS hy hhi hlo hb1 hb2 hb3 hb4 hs
    have HD := Lib.hid hd
    have HZ := Lib.hid hz
    have w1 := hd.w1; have w2 := hd.w2; have w3 := hd.w3; have w4 := hd.w4; have w5 := hd.w5; have w6 := hd.w6; have w7 := hd.w7; have w8 := hd.w8; have w9 := hd.w9
    have hn1 := hd.n1_ge
    have hn2 := hd.n1_lt
    have hn1' : (1 : Int) ≤ (n1 : Int) := by omega
    -- the first guess
    obtain ⟨q1, hq1⟩ : ∃ q, q = U / n1 := ⟨_, rfl⟩
    obtain ⟨m1, hm1⟩ : ∃ m, m = q1 * n1 := ⟨_, rfl⟩
    obtain ⟨r1, hr1⟩ : ∃ r, r = U % n1 := ⟨_, rfl⟩
    have hmr : m1 + r1 = U := by rw [hm1, hr1, hq1, Nat.mul_comm]; exact Nat.div_add_mod U n1
    have hUW : U < W := Nat.lt_trans hd.U_lt hd.yv_lt
    have a1 : (U : Int).tdiv (n1 : Int) = (q1 : Int) := by rw [hq1]; rfl
    have a1' : (U : Int) / (n1 : Int) = (q1 : Int) := by rw [hq1]; simp
    have a2 : IntKind.u64.wrap (q1 : Int) = (q1 : Int) := wrapN rfl (by rw [hq1]; exact Nat.lt_of_le_of_lt (Nat.div_le_self _ _) hUW)
    have a3 : IntKind.u64.wrap ((q1 : Int) * (n1 : Int)) = (m1 : Int) := wrapN (by rw [hm1]; simp) (by omega)
    have a4 : IntKind.u64.wrap ((U : Int) - (m1 : Int)) = (r1 : Int) := wrapN (by omega) (by omega)
    have A5 : Hid (r1 < n1) := Lib.hid (by rw [hr1]; exact Nat.mod_lt _ (by omega))
    have A6 : Hid (U = q1 * n1 + r1) := Lib.hid (by rw [← hm1]; exact hmr.symm)
    have A7 : Hid (q1 ≤ 4294967297) := Lib.hid (by
      rw [hq1]
      have : U / n1 < 4294967298 := by
        rw [Nat.div_lt_iff_lt_mul (by omega)]
        have := hd.U_lt; have := hd.n_eq; have := hd.n0_lt; omega
      omega)
    have A8 : Hid ((U * 4294967296 + l1) / yv ≤ q1) := Lib.hid (by rw [hq1, hd.n_eq]; exact est_init (by omega) hd.l1_lt (by omega))
    obtain ⟨Q1, hQ1⟩ : ∃ Q, Q = (U * 4294967296 + l1) / yv := ⟨_, rfl⟩
    have HQ1 := Lib.hid hQ1; clear hQ1
    clear hs hb1 hb2 hb3 hb4 hss hd hz hq1 hm1 hr1 hmr hUW hn1 hn2
    go_enter Try.func103, Try.ntmps103
    go_wp2_with fail
    refine Calls.mono HL.out ?_; rintro e w' ⟨rfl, rfl⟩
    go_upto_block 0 with fail
    go_cut [15] (fun s wx => w = wx ∧ s = .int .u64 ((Q1 : Nat) : Int))
    case first =>
      go_wp2_with fail
      clear w1 w2 w3 w4 w5 w6 w7 w8 w9 a1 a1' a2 a3 a4
      go_loopg [15, 16] (q1) (fun k qv rv wr => ∃ q r : Nat, k = q ∧ qv = .int .u64 q ∧ rv = .int .u64 r ∧ w = wr ∧ Hid (U = q * n1 + r) ∧ (r : Int) < 4294967296 ∧ Hid ((U * 4294967296 + l1) / yv ≤ q) ∧ (q : Int) ≤ 4294967297)
      case atStart => exact ⟨_, _, rfl, rfl, rfl, rfl, A6, by have := A5.out; have := HD.out.n1_lt; omega, A8, by have := A7.out; omega⟩
      case round =>
        obtain ⟨q, r, hk, rfl, rfl, rfl, hU, hr, hT, hq⟩ := hrel
        have HK := Lib.hid hk; clear hk
        obtain ⟨m, hm⟩ : ∃ m, m = q * n0 := ⟨_, rfl⟩
        have HM := Lib.hid hm
        have hn1lt : (n1 : Int) < 4294967296 := by have := HD.out.n1_lt; omega
        have HLT := Lib.hid HD.out.l1_lt
        have hlt : (l1 : Int) < 4294967296 := by have := HLT.out; omega
        have hne := HD.out.n_eq
        have HNE := Lib.hid hne
        by_cases c1 : (4294967296 : Int) ≤ (q : Int)
        · have hT' : Hid ((U * 4294967296 + l1) / yv ≤ q - 1) := Lib.hid (by have h1 := HD.out; rw [hne]; exact est_big (by omega) HLT.out (by rw [← hne]; exact h1.U_lt) (by omega))
          have hU' : Hid (U = (q - 1) * n1 + (r + n1)) := Lib.hid (by have := hU.out; obtain ⟨q', rfl⟩ : ∃ q', q = q' + 1 := ⟨q - 1, by omega⟩; rw [Nat.add_mul, Nat.one_mul] at this; simp only [Nat.add_sub_cancel]; omega)
          clear hm hne
          by_cases c2 : (r : Int) + (n1 : Int) < 4294967296
          · have hd2 : decide ((4294967296 : Int) ≤ (r : Int) + (n1 : Int)) = false := by rw [decide_eq_false_iff_not]; omega
            go_wp2_with fail
            go_roundg (q - 1)
            case measure => have := HK.out; omega
            case rel => exact ⟨q - 1, r + n1, rfl, by go_num, by go_num, rfl, hU', by omega, hT', by omega⟩
          · have hQ : Hid (q - 1 = (U * 4294967296 + l1) / yv) := Lib.hid (by
              rw [HNE.out]; refine est_stop (by omega) (by have := HD.out.n1_ge; omega) hU'.out (by rw [← HNE.out]; exact hT'.out) ?_
              have a1 : (q - 1) * n0 ≤ 4294967296 * n0 := Nat.mul_le_mul_right _ (by omega)
              have := HD.out.n0_lt; omega)
            have hd2 : decide ((4294967296 : Int) ≤ (r : Int) + (n1 : Int)) = true := by rw [decide_eq_true_eq]; omega
            go_wp2_with fail
            go_meet
            exact ⟨rfl, by rw [HQ1.out, ← hQ.out]; go_num⟩
        · have hmW : m < W := by
            rw [hm, W_eq]
            exact Nat.mul_lt_mul'' (by omega) HD.out.n0_lt
          have hwm : IntKind.u64.wrap ((q : Int) * (n0 : Int)) = (m : Int) := wrapN (by rw [hm]; simp) hmW
          by_cases c3 : 4294967296 * (r : Int) + (l1 : Int) < (m : Int)
          · have hT' : Hid ((U * 4294967296 + l1) / yv ≤ q - 1) := Lib.hid (by rw [hne]; exact est_more (by omega) (by have := HD.out.n1_ge; omega) hU.out (by rw [← hm]; omega))
            have hq0 : 0 < q := by rcases Nat.eq_zero_or_pos q with h | h; (subst h; simp at hm; omega); exact h
            have hU' : Hid (U = (q - 1) * n1 + (r + n1)) := Lib.hid (by have := hU.out; obtain ⟨q', rfl⟩ : ∃ q', q = q' + 1 := ⟨q - 1, by omega⟩; rw [Nat.add_mul, Nat.one_mul] at this; simp only [Nat.add_sub_cancel]; omega)
            clear hm hne hmW
            by_cases c2 : (r : Int) + (n1 : Int) < 4294967296
            · have hd2 : decide ((4294967296 : Int) ≤ (r : Int) + (n1 : Int)) = false := by rw [decide_eq_false_iff_not]; omega
              go_wp2_with fail
              go_roundg (q - 1)
              case measure => have := HK.out; omega
              case rel => exact ⟨q - 1, r + n1, rfl, by go_num, by go_num, rfl, hU', by omega, hT', by omega⟩
            · have hQ : Hid (q - 1 = (U * 4294967296 + l1) / yv) := Lib.hid (by
                rw [HNE.out]; refine est_stop (by omega) (by have := HD.out.n1_ge; omega) hU'.out (by rw [← HNE.out]; exact hT'.out) ?_
                have a1 : (q - 1) * n0 ≤ 4294967296 * n0 := Nat.mul_le_mul_right _ (by omega)
                have := HD.out.n0_lt; omega)
              have hd2 : decide ((4294967296 : Int) ≤ (r : Int) + (n1 : Int)) = true := by rw [decide_eq_true_eq]; omega
              go_wp2_with fail
              go_meet
              exact ⟨rfl, by rw [HQ1.out, ← hQ.out]; go_num⟩
          · have hQ : Hid (q = (U * 4294967296 + l1) / yv) := Lib.hid (by
              rw [hne]; exact est_stop (by omega) (by have := HD.out.n1_ge; omega) hU.out (by rw [← hne]; exact hT.out) (by rw [← hm]; omega))
            clear hm hne hmW
            go_wp2_with fail
            go_meet
            exact ⟨rfl, by rw [HQ1.out, ← hQ.out]⟩
    case rest =>
      obtain ⟨rfl, rfl⟩ := hcut
      have hyp : 0 < yv := by have := HD.out.yv_ge; omega
      have hQ1l : Q1 < 4294967296 := by rw [HQ1.out, HD.out.n_eq]; exact est_lt (by omega) HD.out.l1_lt (by rw [← HD.out.n_eq]; exact HD.out.U_lt)
      obtain ⟨u21, hu⟩ : ∃ u, u = (U * 4294967296 + l1) % yv := ⟨_, rfl⟩
      have hul : u21 < yv := by rw [hu]; exact Nat.mod_lt _ hyp
      have huT : U * 4294967296 + l1 = Q1 * yv + u21 := by rw [hu, HQ1.out]; exact (Nat.div_add_mod' _ _).symm
      have huW : u21 < W := Nat.lt_trans hul HD.out.yv_lt
      have hl1 := HD.out.l1_lt
      obtain ⟨x1, hx1⟩ : ∃ x, x = (U * 4294967296) % W := ⟨_, rfl⟩
      obtain ⟨x2, hx2⟩ : ∃ x, x = (U * 4294967296 + l1) % W := ⟨_, rfl⟩
      obtain ⟨x3, hx3⟩ : ∃ x, x = (Q1 * yv) % W := ⟨_, rfl⟩
      have b1 : IntKind.u64.wrap ((U : Int) * 4294967296) = (x1 : Int) := by rw [IntKind.wrap_u64, hx1]; unfold W; omega
      have b2 : IntKind.u64.wrap ((x1 : Int) + (l1 : Int)) = (x2 : Int) := by rw [IntKind.wrap_u64, hx1, hx2]; unfold W; omega
      have b3 : IntKind.u64.wrap ((Q1 : Int) * (yv : Int)) = (x3 : Int) := by rw [← Int.natCast_mul, IntKind.wrap_u64, hx3]; unfold W; omega
      have b4 : IntKind.u64.wrap ((x2 : Int) - (x3 : Int)) = (u21 : Int) := by rw [IntKind.wrap_u64, hx2, hx3, huT]; unfold W at huW ⊢; omega
      obtain ⟨q2, hq2⟩ : ∃ q, q = u21 / n1 := ⟨_, rfl⟩
      obtain ⟨m2, hm2⟩ : ∃ m, m = q2 * n1 := ⟨_, rfl⟩
      obtain ⟨r2, hr2⟩ : ∃ r, r = u21 % n1 := ⟨_, rfl⟩
      have hmr : m2 + r2 = u21 := by rw [hm2, hr2, hq2, Nat.mul_comm]; exact Nat.div_add_mod u21 n1
      have b5 : (u21 : Int).tdiv (n1 : Int) = (q2 : Int) := by rw [hq2]; rfl
      have b5' : (u21 : Int) / (n1 : Int) = (q2 : Int) := by rw [hq2]; simp
      have b6 : IntKind.u64.wrap (q2 : Int) = (q2 : Int) := wrapN rfl (by rw [hq2]; exact Nat.lt_of_le_of_lt (Nat.div_le_self _ _) huW)
      have b7 : IntKind.u64.wrap ((q2 : Int) * (n1 : Int)) = (m2 : Int) := wrapN (by rw [hm2]; simp) (by omega)
      have b8 : IntKind.u64.wrap ((u21 : Int) - (m2 : Int)) = (r2 : Int) := wrapN (by omega) (by omega)
      have B5 : Hid (r2 < n1) := Lib.hid (by rw [hr2]; exact Nat.mod_lt _ (by have := HD.out.n1_ge; omega))
      have B6 : Hid (u21 = q2 * n1 + r2) := Lib.hid (by rw [← hm2]; exact hmr.symm)
      have B7 : Hid (q2 ≤ 4294967297) := Lib.hid (by
        rw [hq2]
        have : u21 / n1 < 4294967298 := by
          rw [Nat.div_lt_iff_lt_mul (by have := HD.out.n1_ge; omega)]
          have := HD.out.n_eq; have := HD.out.n0_lt; have := HD.out.n1_ge; omega
        omega)
      have B8 : Hid ((u21 * 4294967296 + l0) / yv ≤ q2) := Lib.hid (by rw [hq2, HD.out.n_eq]; exact est_init (by omega) HD.out.l0_lt (by have := HD.out.n1_ge; omega))
      obtain ⟨Q0, hQ0⟩ : ∃ Q, Q = (u21 * 4294967296 + l0) / yv := ⟨_, rfl⟩
      have HQ0 := Lib.hid hQ0
      have HUL := Lib.hid hul; have HU := Lib.hid hu; have HQL := Lib.hid hQ1l; have HYP := Lib.hid hyp
      clear hyp hQ1l hu hul huT huW hl1 hx1 hx2 hx3 hq2 hm2 hr2 hmr hQ0
      go_upto_block 2 with fail
      go_cut [18] (fun s wx => w = wx ∧ s = .int .u64 ((Q0 : Nat) : Int))
      case first =>
        go_wp2_with fail
        clear w1 w2 w3 w4 w5 w6 w7 w8 w9 b1 b2 b3 b4 b5 b5' b6 b7 b8
        go_loopg [18, 16] (q2) (fun k qv rv wr => ∃ q r : Nat, k = q ∧ qv = .int .u64 q ∧ rv = .int .u64 r ∧ w = wr ∧ Hid (u21 = q * n1 + r) ∧ (r : Int) < 4294967296 ∧ Hid ((u21 * 4294967296 + l0) / yv ≤ q) ∧ (q : Int) ≤ 4294967297)
        case atStart => exact ⟨_, _, rfl, rfl, rfl, rfl, B6, by have := B5.out; have := HD.out.n1_lt; omega, B8, by have := B7.out; omega⟩
        case round =>
          obtain ⟨q, r, hk, rfl, rfl, rfl, hU, hr, hT, hq⟩ := hrel
          have HK := Lib.hid hk; clear hk
          obtain ⟨m, hm⟩ : ∃ m, m = q * n0 := ⟨_, rfl⟩
          have HM := Lib.hid hm
          have hn1lt : (n1 : Int) < 4294967296 := by have := HD.out.n1_lt; omega
          have HLT := Lib.hid HD.out.l0_lt
          have hlt : (l0 : Int) < 4294967296 := by have := HLT.out; omega
          have hne := HD.out.n_eq
          have HNE := Lib.hid hne
          by_cases c1 : (4294967296 : Int) ≤ (q : Int)
          · have hT' : Hid ((u21 * 4294967296 + l0) / yv ≤ q - 1) := Lib.hid (by have h1 := HD.out; rw [hne]; exact est_big (by omega) HLT.out (by rw [← hne]; exact HUL.out) (by omega))
            have hU' : Hid (u21 = (q - 1) * n1 + (r + n1)) := Lib.hid (by have := hU.out; obtain ⟨q', rfl⟩ : ∃ q', q = q' + 1 := ⟨q - 1, by omega⟩; rw [Nat.add_mul, Nat.one_mul] at this; simp only [Nat.add_sub_cancel]; omega)
            clear hm hne
            by_cases c2 : (r : Int) + (n1 : Int) < 4294967296
            · have hd2 : decide ((4294967296 : Int) ≤ (r : Int) + (n1 : Int)) = false := by rw [decide_eq_false_iff_not]; omega
              go_wp2_with fail
              go_roundg (q - 1)
              case measure => have := HK.out; omega
              case rel => exact ⟨q - 1, r + n1, rfl, by go_num, by go_num, rfl, hU', by omega, hT', by omega⟩
            · have hQ : Hid (q - 1 = (u21 * 4294967296 + l0) / yv) := Lib.hid (by
                rw [HNE.out]; refine est_stop (by omega) (by have := HD.out.n1_ge; omega) hU'.out (by rw [← HNE.out]; exact hT'.out) ?_
                have a1 : (q - 1) * n0 ≤ 4294967296 * n0 := Nat.mul_le_mul_right _ (by omega)
                have := HD.out.n0_lt; omega)
              have hd2 : decide ((4294967296 : Int) ≤ (r : Int) + (n1 : Int)) = true := by rw [decide_eq_true_eq]; omega
              go_wp2_with fail
              go_meet
              exact ⟨rfl, by rw [HQ0.out, ← hQ.out]; go_num⟩
          · have hmW : m < W := by
              rw [hm, W_eq]
              exact Nat.mul_lt_mul'' (by omega) HD.out.n0_lt
            have hwm : IntKind.u64.wrap ((q : Int) * (n0 : Int)) = (m : Int) := wrapN (by rw [hm]; simp) hmW
            by_cases c3 : 4294967296 * (r : Int) + (l0 : Int) < (m : Int)
            · have hT' : Hid ((u21 * 4294967296 + l0) / yv ≤ q - 1) := Lib.hid (by rw [hne]; exact est_more (by omega) (by have := HD.out.n1_ge; omega) hU.out (by rw [← hm]; omega))
              have hq0 : 0 < q := by rcases Nat.eq_zero_or_pos q with h | h; (subst h; simp at hm; omega); exact h
              have hU' : Hid (u21 = (q - 1) * n1 + (r + n1)) := Lib.hid (by have := hU.out; obtain ⟨q', rfl⟩ : ∃ q', q = q' + 1 := ⟨q - 1, by omega⟩; rw [Nat.add_mul, Nat.one_mul] at this; simp only [Nat.add_sub_cancel]; omega)
              clear hm hne hmW
              by_cases c2 : (r : Int) + (n1 : Int) < 4294967296
              · have hd2 : decide ((4294967296 : Int) ≤ (r : Int) + (n1 : Int)) = false := by rw [decide_eq_false_iff_not]; omega
                go_wp2_with fail
                go_roundg (q - 1)
                case measure => have := HK.out; omega
                case rel => exact ⟨q - 1, r + n1, rfl, by go_num, by go_num, rfl, hU', by omega, hT', by omega⟩
              · have hQ : Hid (q - 1 = (u21 * 4294967296 + l0) / yv) := Lib.hid (by
                  rw [HNE.out]; refine est_stop (by omega) (by have := HD.out.n1_ge; omega) hU'.out (by rw [← HNE.out]; exact hT'.out) ?_
                  have a1 : (q - 1) * n0 ≤ 4294967296 * n0 := Nat.mul_le_mul_right _ (by omega)
                  have := HD.out.n0_lt; omega)
                have hd2 : decide ((4294967296 : Int) ≤ (r : Int) + (n1 : Int)) = true := by rw [decide_eq_true_eq]; omega
                go_wp2_with fail
                go_meet
                exact ⟨rfl, by rw [HQ0.out, ← hQ.out]; go_num⟩
            · have hQ : Hid (q = (u21 * 4294967296 + l0) / yv) := Lib.hid (by
                rw [hne]; exact est_stop (by omega) (by have := HD.out.n1_ge; omega) hU.out (by rw [← hne]; exact hT.out) (by rw [← hm]; omega))
              clear hm hne hmW
              go_wp2_with fail
              go_meet
              exact ⟨rfl, by rw [HQ0.out, ← hQ.out]⟩
      case rest =>
        obtain ⟨rfl, rfl⟩ := hcut
        have h2s := two_steps (b := 4294967296) (V := yv) (A := U * 4294967296 + l1) (l0 := l0) (by omega) HYP.out
        rw [← HQ1.out, ← HU.out, ← HQ0.out] at h2s
        have hXX : (hi * W + lo) * 2 ^ s = (U * 4294967296 + l1) * 4294967296 + l0 := by rw [HD.out.X_eq, HD.out.L_eq, W_eq]; omega
        have hQ0l : Q0 < 4294967296 := by rw [HQ0.out, HD.out.n_eq]; exact est_lt (by omega) HD.out.l0_lt (by rw [← HD.out.n_eq]; exact HUL.out)
        have hqq : (hi * W + lo) / y = Q1 * 4294967296 + Q0 := by
          rw [← h2s.1, ← hXX, HD.out.yv_eq, Nat.mul_div_mul_right _ _ (Nat.two_pow_pos s)]
        obtain ⟨z4, hz4⟩ : ∃ z, z = (u21 * 4294967296 + l0) % yv := ⟨_, rfl⟩
        have hrr : (hi * W + lo) % y = z4 / 2 ^ s := by
          rw [hz4, ← h2s.2, ← hXX, HD.out.yv_eq, Nat.mul_mod_mul_right, Nat.mul_div_cancel _ (Nat.two_pow_pos s)]
        have hzT : u21 * 4294967296 + l0 = Q0 * yv + z4 := by rw [hz4, HQ0.out]; exact (Nat.div_add_mod' _ _).symm
        have hzW : z4 < W := by rw [hz4]; exact Nat.lt_trans (Nat.mod_lt _ HYP.out) HD.out.yv_lt
        have hl0 := HD.out.l0_lt
        obtain ⟨y1, hy1⟩ : ∃ x, x = Q1 * 4294967296 := ⟨_, rfl⟩
        obtain ⟨qq, hq⟩ : ∃ x, x = Q1 * 4294967296 + Q0 := ⟨_, rfl⟩
        obtain ⟨z1, hz1⟩ : ∃ x, x = (u21 * 4294967296) % W := ⟨_, rfl⟩
        obtain ⟨z2, hz2⟩ : ∃ x, x = (u21 * 4294967296 + l0) % W := ⟨_, rfl⟩
        obtain ⟨z3, hz3⟩ : ∃ x, x = (Q0 * yv) % W := ⟨_, rfl⟩
        obtain ⟨rr, hr⟩ : ∃ x, x = z4 / 2 ^ s := ⟨_, rfl⟩
        have hQ1l := HQL.out
        have d1 : IntKind.u64.wrap ((Q1 : Int) * 4294967296) = (y1 : Int) := by rw [IntKind.wrap_u64, hy1]; omega
        have d2 : IntKind.u64.wrap ((y1 : Int) + (Q0 : Int)) = (qq : Int) := by rw [IntKind.wrap_u64, hy1, hq]; omega
        have d3 : IntKind.u64.wrap ((u21 : Int) * 4294967296) = (z1 : Int) := by rw [IntKind.wrap_u64, hz1]; unfold W; omega
        have d4 : IntKind.u64.wrap ((z1 : Int) + (l0 : Int)) = (z2 : Int) := by rw [IntKind.wrap_u64, hz1, hz2]; unfold W; omega
        have d5 : IntKind.u64.wrap ((Q0 : Int) * (yv : Int)) = (z3 : Int) := by rw [← Int.natCast_mul, IntKind.wrap_u64, hz3]; unfold W; omega
        have d6 : IntKind.u64.wrap ((z2 : Int) - (z3 : Int)) = (z4 : Int) := by rw [IntKind.wrap_u64, hz2, hz3, hzT]; unfold W at hzW ⊢; omega
        have d7 : (z4 : Int) / 2 ^ s = (rr : Int) := by rw [hr]; simp
        have HQQ : Hid ((hi * W + lo) / y = qq) := Lib.hid (by rw [hqq, hq])
        have HRR : Hid ((hi * W + lo) % y = rr) := Lib.hid (by rw [hrr, hr])
        clear h2s hXX hQ0l hqq hrr hzT hzW hl0 hy1 hq hz1 hz2 hz3 hr hQ1l hz4
        go_wp2_with fail
        go_ret2
        rw [HQQ.out, HRR.out]
        exact ⟨rfl, 0, rfl⟩

end Go.Proofs.Ytbofdldkiooegaa
