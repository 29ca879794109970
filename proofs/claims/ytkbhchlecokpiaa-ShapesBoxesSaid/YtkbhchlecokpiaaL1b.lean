/- Plain law: the next digit of a quotient, estimated by the two digits on top (Knuth), and what is taken away by it. No program in sight. -/
import Derived.Test.YtkbhchlecokpiaaL1a
import Derived.Deep.DeepCutAuto
import Derived.Deep.CutBlock
import Derived.Lib.ItoaNum
import Derived.BigRegion
/-! ## DivN: Plain law: the next digit of a quotient, estimated by the two digits on top (Knuth), and what is taken away by it. No program in sight. -/
set_option linter.unusedVariables false
set_option linter.unusedSimpArgs false
namespace Tw
set_option linter.unusedVariables false
set_option linter.unusedSimpArgs false

theorem W_eq : W = 4294967296 * 4294967296 := rfl

theorem est_le {b U q r v1 v0 u0 : Nat} (h : U = q * v1 + r) (hle : q * v0 ≤ b * r + u0) : q * (v1 * b + v0) ≤ U * b + u0 := by
  subst h
  rw [Nat.mul_add, Nat.add_mul, Nat.mul_assoc, Nat.mul_comm r b]
  omega
theorem est_gt {b U q r v1 v0 u0 : Nat} (h : U = q * v1 + r) (hlt : b * r + u0 < q * v0) : U * b + u0 < q * (v1 * b + v0) := by
  subst h
  rw [Nat.mul_add, Nat.add_mul, Nat.mul_assoc, Nat.mul_comm r b]
  omega
theorem le_quot {q V X : Nat} (hV : 0 < V) (h : q * V ≤ X) : q ≤ X / V := (Nat.le_div_iff_mul_le hV).2 h
theorem quot_lt {q V X : Nat} (hV : 0 < V) (h : X < q * V) : X / V < q := (Nat.div_lt_iff_lt_mul hV).2 h

theorem est_init {b U v1 v0 u0 : Nat} (hb : 0 < b) (hu : u0 < b) (hv : 0 < v1) : (U * b + u0) / (v1 * b + v0) ≤ U / v1 := by
  have hV : 0 < v1 * b + v0 := by have := Nat.mul_pos hv hb; omega
  refine le_quot hv ?_
  have h1 := Nat.div_mul_le_self (U * b + u0) (v1 * b + v0)
  generalize (U * b + u0) / (v1 * b + v0) = q at *
  have h2 : q * v1 * b ≤ U * b + u0 := by
    have : q * v1 * b ≤ q * (v1 * b + v0) := by rw [Nat.mul_add, Nat.mul_assoc]; omega
    omega
  have h3 : q * v1 * b < (U + 1) * b := by rw [Nat.add_mul, Nat.one_mul]; omega
  have := Nat.lt_of_mul_lt_mul_right h3
  omega

/-- one step of the 32-bit estimate: the last guess is not too small -/
theorem est_stop {b U q r v1 v0 u0 : Nat} (hb : 0 < b) (hv : 0 < v1) (h : U = q * v1 + r) (hq : (U * b + u0) / (v1 * b + v0) ≤ q) (hle : q * v0 ≤ b * r + u0) :
    q = (U * b + u0) / (v1 * b + v0) := by
  have hV : 0 < v1 * b + v0 := by have := Nat.mul_pos hv hb; omega
  exact Nat.le_antisymm (le_quot hV (est_le h hle)) hq
theorem est_more {b U q r v1 v0 u0 : Nat} (hb : 0 < b) (hv : 0 < v1) (h : U = q * v1 + r) (hlt : b * r + u0 < q * v0) :
    (U * b + u0) / (v1 * b + v0) ≤ q - 1 := by
  have hV : 0 < v1 * b + v0 := by have := Nat.mul_pos hv hb; omega
  have := quot_lt hV (est_gt h hlt)
  omega
theorem est_big {b U q v1 v0 u0 : Nat} (hb : 0 < b) (hu : u0 < b) (hU : U < v1 * b + v0) (hq : b ≤ q) : (U * b + u0) / (v1 * b + v0) ≤ q - 1 := by
  have hV : 0 < v1 * b + v0 := by omega
  have h1 : U * b + u0 < b * (v1 * b + v0) := by
    have h2 : (U + 1) * b ≤ (v1 * b + v0) * b := Nat.mul_le_mul_right b hU
    rw [Nat.mul_comm b]
    rw [Nat.add_mul, Nat.one_mul] at h2
    omega
  have := quot_lt hV h1
  omega
theorem est_lt {b U v1 v0 u0 : Nat} (hb : 0 < b) (hu : u0 < b) (hU : U < v1 * b + v0) : (U * b + u0) / (v1 * b + v0) < b := by
  have := est_big (q := b) hb hu hU (Nat.le_refl b)
  omega

/-- the next digit by three digits over two -/
def guessN (u2 u1 u0 b1 b0 : Nat) : Nat := min (W - 1) (((u2 * W + u1) * W + u0) / (b1 * W + b0))

/-- U below W times V, by their digits on top: the guess is the quotient's digit or one more -/
theorem guess_ge {P u' ul v' vl : Nat} (hul : ul < P) (hvl : vl < P) (hv : 0 < v') (hU : u' * P + ul < W * (v' * P + vl)) :
    (u' * P + ul) / (v' * P + vl) ≤ min (W - 1) (u' / v') := by
  have hP : 0 < P := by omega
  have hV : 0 < v' * P + vl := by have := Nat.mul_pos hv hP; omega
  have h1 := quot_lt hV hU
  have h2 := Nat.div_mul_le_self (u' * P + ul) (v' * P + vl)
  generalize (u' * P + ul) / (v' * P + vl) = q at *
  have h3 : q * v' * P < (u' + 1) * P := by
    have : q * v' * P ≤ q * (v' * P + vl) := by rw [Nat.mul_add, Nat.mul_assoc]; omega
    rw [Nat.add_mul, Nat.one_mul]; omega
  have h4 := Nat.lt_of_mul_lt_mul_right h3
  have h5 : q ≤ u' / v' := le_quot hv (by omega)
  omega

theorem guess_le {P u' ul v' vl : Nat} (hul : ul < P) (hvl : vl < P) (hv : W ≤ v') : min (W - 1) (u' / v') ≤ (u' * P + ul) / (v' * P + vl) + 1 := by
  have hP : 0 < P := by omega
  have hv0 : 0 < v' := by have := W_pos; omega
  have hV : 0 < v' * P + vl := by have := Nat.mul_pos hv0 hP; omega
  have hg : min (W - 1) (u' / v') ≤ u' / v' := Nat.min_le_right _ _
  have hw : min (W - 1) (u' / v') ≤ W - 1 := Nat.min_le_left _ _
  have hd := Nat.div_mul_le_self u' v'
  generalize min (W - 1) (u' / v') = g at *
  rcases Nat.eq_zero_or_pos g with h0 | h0
  · rw [h0]; exact Nat.zero_le _
  · obtain ⟨k, rfl⟩ : ∃ k, g = k + 1 := ⟨g - 1, by omega⟩
    have h1 : (k + 1) * v' ≤ u' := Nat.le_trans (Nat.mul_le_mul_right _ hg) hd
    have h2 : k * (v' * P + vl) ≤ u' * P + ul := by
      have e1 : k * vl ≤ k * P := Nat.mul_le_mul_left _ (by omega)
      have e2 : k * P ≤ v' * P := Nat.mul_le_mul_right _ (by omega)
      have e3 : (k + 1) * v' * P ≤ u' * P := Nat.mul_le_mul_right _ h1
      rw [Nat.mul_add, ← Nat.mul_assoc]
      rw [Nat.add_mul, Nat.one_mul, Nat.add_mul] at e3
      omega
    have := le_quot hV h2
    omega

theorem norm_bounds {y bl s : Nat} (h1 : 1 ≤ bl) (h2 : 2 ^ (bl - 1) ≤ y) (h3 : y < 2 ^ bl) (h4 : bl ≤ 64) (hs : s = 64 - bl) : y * 2 ^ s < W ∧ 9223372036854775808 ≤ y * 2 ^ s := by
  subst hs
  constructor
  · have : y * 2 ^ (64 - bl) < 2 ^ bl * 2 ^ (64 - bl) := Nat.mul_lt_mul_of_pos_right h3 (Nat.two_pow_pos _)
    rw [← Nat.pow_add, show bl + (64 - bl) = 64 by omega] at this
    exact this
  · have : 2 ^ (bl - 1) * 2 ^ (64 - bl) ≤ y * 2 ^ (64 - bl) := Nat.mul_le_mul_right _ h2
    rw [← Nat.pow_add, show bl - 1 + (64 - bl) = 63 by omega] at this
    exact this

theorem two_steps {b V A l0 : Nat} (hb : 0 < b) (hV : 0 < V) : (A * b + l0) / V = A / V * b + (A % V * b + l0) / V ∧ (A * b + l0) % V = (A % V * b + l0) % V := by
  have e : A * b + l0 = V * (A / V * b) + (A % V * b + l0) := by
    have := Nat.div_add_mod A V
    have h2 : A * b = (V * (A / V) + A % V) * b := by rw [this]
    rw [h2, Nat.add_mul, Nat.mul_assoc]; omega
  constructor
  · rw [e, Nat.add_comm (V * _), Nat.add_mul_div_left _ _ hV]; omega
  · rw [e, Nat.add_comm (V * _), Nat.add_mul_mod_self_left]

end Tw

/-! ## Div64: math/bits.Div64 by its contract: quotient and rest of two digits by one. -/
set_option linter.unusedVariables false
set_option linter.unusedSimpArgs false
namespace Go.Proofs.Ytkbhchlecokpiaa
open Go Go.RowKit Tw
set_option linter.unusedVariables false
set_option linter.unusedSimpArgs false

theorem bitLen_bounds {x : Nat} (h0 : 0 < x) (hx : x < W) : 1 ≤ Lib.bitLen x ∧ 2 ^ (Lib.bitLen x - 1) ≤ x ∧ x < 2 ^ Lib.bitLen x ∧ Lib.bitLen x ≤ 64 := by
  have h := Lib.bitLenAux_bounds 64 x hx (by omega)
  exact ⟨h.1, h.2.1, h.2.2, Lib.bitLen_le x 64 (Nat.le_refl _) hx⟩

theorem len64_c (x : Nat) (w : World) (hx : x < W) :
    Calls Try.prog 140 #[.int .u64 x] w fun e w' => e = .returned (.int .i64 ((Lib.bitLen x : Nat) : Int)) ∧ w = w' := by
  have h := Try.bits_Len64 (x : Int) w (by omega) (by unfold W at hx; omega)
  refine h.mono ?_
  rintro e w' ⟨rfl, rfl⟩
  exact ⟨by simp, rfl⟩

theorem lz64_c (x : Nat) (w : World) (hx : x < W) :
    Calls Try.prog 161 #[.int .u64 x] w fun e w' => e = .returned (.int .i64 ((64 - Lib.bitLen x : Nat) : Int)) ∧ w = w' := by
  have hb : Lib.bitLen x ≤ 64 := Lib.bitLen_le x 64 (Nat.le_refl _) hx
  go_enter Try.func161, Try.ntmps161
  go_wp2_with fail
  refine Calls.mono (len64_c x _ hx) ?_; rintro e w' ⟨rfl, rfl⟩
  go_wp2_with fail
  go_ret
  exact ⟨by go_num, rfl⟩

/-- the numbers of the division, put in order -/
structure DivS (hi lo y s yv n1 n0 h2 lh U L l1 l0 : Nat) : Prop where
  yv_eq : yv = y * 2 ^ s
  yv_lt : yv < W
  yv_ge : 9223372036854775808 ≤ yv
  n_eq : yv = n1 * 4294967296 + n0
  n0_lt : n0 < 4294967296
  n1_lt : n1 < 4294967296
  n1_ge : 2147483648 ≤ n1
  U_eq : U = h2 + lh
  U_lt : U < yv
  X_eq : (hi * W + lo) * 2 ^ s = U * W + L
  L_eq : L = l1 * 4294967296 + l0
  l1_lt : l1 < 4294967296
  l0_lt : l0 < 4294967296
  w1 : IntKind.u64.wrap ((y : Int) * 2 ^ s) = (yv : Int)
  w2 : (yv : Int) / 4294967296 = (n1 : Int)
  w3 : bits .and .u64 (yv : Int) 4294967295 = (n0 : Int)
  w4 : IntKind.u64.wrap ((hi : Int) * 2 ^ s) = (h2 : Int)
  w5 : (lo : Int) / 2 ^ (64 - s) = (lh : Int)
  w6 : bits .or .u64 (h2 : Int) (lh : Int) = (U : Int)
  w7 : IntKind.u64.wrap ((lo : Int) * 2 ^ s) = (L : Int)
  w8 : (L : Int) / 4294967296 = (l1 : Int)
  w9 : bits .and .u64 (L : Int) 4294967295 = (l0 : Int)

theorem wrapN {n : Int} {m : Nat} (h : n = (m : Int)) (hm : m < W) : IntKind.u64.wrap n = (m : Int) := by
  subst h; exact IntWalk.u64_in _ (by unfold W at hm; omega)

theorem divS {hi lo y s bl : Nat} (hy : 0 < y) (hhi : hi < y) (hlo : lo < W) (h1 : 1 ≤ bl) (h2 : 2 ^ (bl - 1) ≤ y) (h3 : y < 2 ^ bl) (h4 : bl ≤ 64) (hs : s = 64 - bl) :
    ∃ yv n1 n0 h2 lh U L l1 l0, DivS hi lo y s yv n1 n0 h2 lh U L l1 l0 := by
  obtain ⟨hv1, hv2⟩ := norm_bounds h1 h2 h3 h4 hs
  have hs64 : s < 64 := by omega
  have e1 := up_eq lo s
  have e2 := upH_lt (r := s) hlo
  have e3 := upL_lt lo s
  have hp := Nat.two_pow_pos s
  have hmul : hi * 2 ^ s + 2 ^ s ≤ y * 2 ^ s := by
    have := Nat.mul_le_mul_right (2 ^ s) hhi
    rw [Nat.succ_mul] at this; exact this
  have hX : (hi * W + lo) * 2 ^ s = (hi * 2 ^ s + upH lo s) * W + upL lo s := by
    rw [Nat.add_mul, Nat.add_mul, ← e1, Nat.mul_right_comm]; rw [Nat.mul_comm (upH lo s) W]; omega
  have hUl : hi * 2 ^ s + upH lo s < y * 2 ^ s := by omega
  have hv1' := hv1
  unfold W at hv1'
  refine ⟨y * 2 ^ s, y * 2 ^ s / 4294967296, y * 2 ^ s % 4294967296, hi * 2 ^ s, upH lo s, hi * 2 ^ s + upH lo s, upL lo s, upL lo s / 4294967296, upL lo s % 4294967296,
    rfl, hv1, hv2, by omega, by omega, by omega, by omega, rfl, hUl, hX, by omega, ?_, by omega, ?_, ?_, ?_, ?_, ?_, ?_, ?_, ?_, ?_⟩
  · unfold W at e3; omega
  · exact wrapN (by simp) hv1
  · omega
  · rw [and_low32 _ (by omega) (by omega)]; omega
  · exact wrapN (by simp) (by omega)
  · rw [show (64 - s) = (63 - s) + 1 by omega, Int.pow_succ, Int.mul_comm, ← upH_int hs64, Int.ediv_ediv_of_nonneg (by decide)]
  · have a1 : hi * 2 ^ s < 18446744073709551616 := by omega
    have a2 : upH lo s < 18446744073709551616 := by omega
    rw [bits_or_u64_nat _ _ a1 a2, Nat.mul_comm hi, Nat.two_pow_add_eq_or_of_lt e2]
  · exact up_wrap lo s
  · omega
  · unfold W at e3
    rw [and_low32 _ (by omega) (by omega)]; omega

set_option maxRecDepth 100000 in
set_option maxHeartbeats 2000000 in
theorem div64_c (hi lo y : Nat) (w : World) (hy : 0 < y) (hhi : hi < y) (hlo : lo < W) (hyW : y < W) :
    Calls Try.prog 173 #[.int .u64 hi, .int .u64 lo, .int .u64 y] w fun e w' =>
      e = .returned (.tuple #[.int .u64 (((hi * W + lo) / y : Nat) : Int), .int .u64 (((hi * W + lo) % y : Nat) : Int)]) ∧ ∃ n, w' = w.drewN n := by
  have hyne : ((y : Int) == 0) = false := by simp; omega
  have hyle : ¬ (y : Int) ≤ (hi : Int) := by omega
  by_cases hz : hi = 0
  · subst hz
    obtain ⟨q, hq⟩ : ∃ q, q = lo / y := ⟨_, rfl⟩
    obtain ⟨r, hr⟩ : ∃ r, r = lo % y := ⟨_, rfl⟩
    have HQ := Lib.hid (show (0 * W + lo) / y = q by rw [hq]; simp)
    have HR := Lib.hid (show (0 * W + lo) % y = r by rw [hr]; simp)
    have e1 : (lo : Int) / (y : Int) = (q : Int) := by rw [hq]; simp
    have e2 : (lo : Int) % (y : Int) = (r : Int) := by rw [hr]; simp
    have e3 : IntKind.u64.wrap (q : Int) = (q : Int) := wrapN rfl (by rw [hq]; exact Nat.lt_of_le_of_lt (Nat.div_le_self _ _) hlo)
    have e1' : (lo : Int).tdiv (y : Int) = (q : Int) := by rw [hq]; rfl
    have e2' : (lo : Int).tmod (y : Int) = (r : Int) := by rw [hr]; rfl
    have hy1 : 1 ≤ y := hy
    clear hq hr
    go_enter Try.func173, Try.ntmps173
    go_wp2_with fail
    go_quiet (fail)
    go_wp2_with fail
    go_ret2
    rw [HQ.out, HR.out]
    exact ⟨rfl, _, rfl⟩
  · have hzne : ((hi : Int) == 0) = false := by simp; exact hz
    obtain ⟨hb1, hb2, hb3, hb4⟩ := bitLen_bounds hy hyW
    have HL := Lib.hid (lz64_c y w hyW)
    generalize hss : Lib.bitLen y = bl at *
    obtain ⟨s, hs⟩ : ∃ s, s = 64 - bl := ⟨_, rfl⟩
    rw [← hs] at HL
    have hs63 : s ≤ 63 := by omega
    obtain ⟨yv, n1, n0, h2, lh, U, L, l1, l0, hd⟩ := divS hy hhi hlo hb1 hb2 hb3 hb4 hs
    have HD := Lib.hid hd
    have HZ := Lib.hid hz
    have w1 := hd.w1; have w2 := hd.w2; have w3 := hd.w3; have w4 := hd.w4; have w5 := hd.w5; have w6 := hd.w6; have w7 := hd.w7; have w8 := hd.w8; have w9 := hd.w9
    have hn1 := hd.n1_ge
    have hn2 := hd.n1_lt
    have hn1' : (1 : Int) ≤ (n1 : Int) := by omega
    -- the first guess
    obtain ⟨q1, hq1⟩ : ∃ q, q = U / n1 := ⟨_, rfl⟩
    obtain ⟨m1, hm1⟩ : ∃ m, m = q1 * n1 := ⟨_, rfl⟩
    obtain ⟨r1, hr1⟩ : ∃ r, r = U % n1 := ⟨_, rfl⟩
    have hmr : m1 + r1 = U := by rw [hm1, hr1, hq1, Nat.mul_comm]; exact Nat.div_add_mod U n1
    have hUW : U < W := Nat.lt_trans hd.U_lt hd.yv_lt
    have a1 : (U : Int).tdiv (n1 : Int) = (q1 : Int) := by rw [hq1]; rfl
    have a1' : (U : Int) / (n1 : Int) = (q1 : Int) := by rw [hq1]; simp
    have a2 : IntKind.u64.wrap (q1 : Int) = (q1 : Int) := wrapN rfl (by rw [hq1]; exact Nat.lt_of_le_of_lt (Nat.div_le_self _ _) hUW)
    have a3 : IntKind.u64.wrap ((q1 : Int) * (n1 : Int)) = (m1 : Int) := wrapN (by rw [hm1]; simp) (by omega)
    have a4 : IntKind.u64.wrap ((U : Int) - (m1 : Int)) = (r1 : Int) := wrapN (by omega) (by omega)
    have A5 : Hid (r1 < n1) := Lib.hid (by rw [hr1]; exact Nat.mod_lt _ (by omega))
    have A6 : Hid (U = q1 * n1 + r1) := Lib.hid (by rw [← hm1]; exact hmr.symm)
    have A7 : Hid (q1 ≤ 4294967297) := Lib.hid (by
      rw [hq1]
      have : U / n1 < 4294967298 := by
        rw [Nat.div_lt_iff_lt_mul (by omega)]
        have := hd.U_lt; have := hd.n_eq; have := hd.n0_lt; omega
      omega)
    have A8 : Hid ((U * 4294967296 + l1) / yv ≤ q1) := Lib.hid (by rw [hq1, hd.n_eq]; exact est_init (by omega) hd.l1_lt (by omega))
    obtain ⟨Q1, hQ1⟩ : ∃ Q, Q = (U * 4294967296 + l1) / yv := ⟨_, rfl⟩
    have HQ1 := Lib.hid hQ1; clear hQ1
    clear hs hb1 hb2 hb3 hb4 hss hd hz hq1 hm1 hr1 hmr hUW hn1 hn2
    go_enter Try.func173, Try.ntmps173
    go_wp2_with fail
    refine Calls.mono HL.out ?_; rintro e w' ⟨rfl, rfl⟩
    go_upto_block 0 with fail
    go_cut [15] (fun s wx => w = wx ∧ s = .int .u64 ((Q1 : Nat) : Int))
    case first =>
      go_wp2_with fail
      clear w1 w2 w3 w4 w5 w6 w7 w8 w9 a1 a1' a2 a3 a4
      go_loopg [15, 16] (q1) (fun k qv rv wr => ∃ q r : Nat, k = q ∧ qv = .int .u64 q ∧ rv = .int .u64 r ∧ w = wr ∧ Hid (U = q * n1 + r) ∧ (r : Int) < 4294967296 ∧ Hid ((U * 4294967296 + l1) / yv ≤ q) ∧ (q : Int) ≤ 4294967297)
      case atStart => exact ⟨_, _, rfl, rfl, rfl, rfl, A6, by have := A5.out; have := HD.out.n1_lt; omega, A8, by have := A7.out; omega⟩
      case round =>
        obtain ⟨q, r, hk, rfl, rfl, rfl, hU, hr, hT, hq⟩ := hrel
        have HK := Lib.hid hk; clear hk
        obtain ⟨m, hm⟩ : ∃ m, m = q * n0 := ⟨_, rfl⟩
        have HM := Lib.hid hm
        have hn1lt : (n1 : Int) < 4294967296 := by have := HD.out.n1_lt; omega
        have HLT := Lib.hid HD.out.l1_lt
        have hlt : (l1 : Int) < 4294967296 := by have := HLT.out; omega
        have hne := HD.out.n_eq
        have HNE := Lib.hid hne
        by_cases c1 : (4294967296 : Int) ≤ (q : Int)
        · have hT' : Hid ((U * 4294967296 + l1) / yv ≤ q - 1) := Lib.hid (by have h1 := HD.out; rw [hne]; exact est_big (by omega) HLT.out (by rw [← hne]; exact h1.U_lt) (by omega))
          have hU' : Hid (U = (q - 1) * n1 + (r + n1)) := Lib.hid (by have := hU.out; obtain ⟨q', rfl⟩ : ∃ q', q = q' + 1 := ⟨q - 1, by omega⟩; rw [Nat.add_mul, Nat.one_mul] at this; simp only [Nat.add_sub_cancel]; omega)
          clear hm hne
          by_cases c2 : (r : Int) + (n1 : Int) < 4294967296
          · have hd2 : decide ((4294967296 : Int) ≤ (r : Int) + (n1 : Int)) = false := by rw [decide_eq_false_iff_not]; omega
            go_wp2_with fail
            go_roundg (q - 1)
            case measure => have := HK.out; omega
            case rel => exact ⟨q - 1, r + n1, rfl, by go_num, by go_num, rfl, hU', by omega, hT', by omega⟩
          · have hQ : Hid (q - 1 = (U * 4294967296 + l1) / yv) := Lib.hid (by
              rw [HNE.out]; refine est_stop (by omega) (by have := HD.out.n1_ge; omega) hU'.out (by rw [← HNE.out]; exact hT'.out) ?_
              have a1 : (q - 1) * n0 ≤ 4294967296 * n0 := Nat.mul_le_mul_right _ (by omega)
              have := HD.out.n0_lt; omega)
            have hd2 : decide ((4294967296 : Int) ≤ (r : Int) + (n1 : Int)) = true := by rw [decide_eq_true_eq]; omega
            go_wp2_with fail
            go_meet
            exact ⟨rfl, by rw [HQ1.out, ← hQ.out]; go_num⟩
        · have hmW : m < W := by
            rw [hm, W_eq]
            exact Nat.mul_lt_mul'' (by omega) HD.out.n0_lt
          have hwm : IntKind.u64.wrap ((q : Int) * (n0 : Int)) = (m : Int) := wrapN (by rw [hm]; simp) hmW
          by_cases c3 : 4294967296 * (r : Int) + (l1 : Int) < (m : Int)
          · have hT' : Hid ((U * 4294967296 + l1) / yv ≤ q - 1) := Lib.hid (by rw [hne]; exact est_more (by omega) (by have := HD.out.n1_ge; omega) hU.out (by rw [← hm]; omega))
            have hq0 : 0 < q := by rcases Nat.eq_zero_or_pos q with h | h; (subst h; simp at hm; omega); exact h
            have hU' : Hid (U = (q - 1) * n1 + (r + n1)) := Lib.hid (by have := hU.out; obtain ⟨q', rfl⟩ : ∃ q', q = q' + 1 := ⟨q - 1, by omega⟩; rw [Nat.add_mul, Nat.one_mul] at this; simp only [Nat.add_sub_cancel]; omega)
            clear hm hne hmW
            by_cases c2 : (r : Int) + (n1 : Int) < 4294967296
            · have hd2 : decide ((4294967296 : Int) ≤ (r : Int) + (n1 : Int)) = false := by rw [decide_eq_false_iff_not]; omega
              go_wp2_with fail
              go_roundg (q - 1)
              case measure => have := HK.out; omega
              case rel => exact ⟨q - 1, r + n1, rfl, by go_num, by go_num, rfl, hU', by omega, hT', by omega⟩
            · have hQ : Hid (q - 1 = (U * 4294967296 + l1) / yv) := Lib.hid (by
                rw [HNE.out]; refine est_stop (by omega) (by have := HD.out.n1_ge; omega) hU'.out (by rw [← HNE.out]; exact hT'.out) ?_
                have a1 : (q - 1) * n0 ≤ 4294967296 * n0 := Nat.mul_le_mul_right _ (by omega)
                have := HD.out.n0_lt; omega)
              have hd2 : decide ((4294967296 : Int) ≤ (r : Int) + (n1 : Int)) = true := by rw [decide_eq_true_eq]; omega
              go_wp2_with fail
              go_meet
              exact ⟨rfl, by rw [HQ1.out, ← hQ.out]; go_num⟩
          · have hQ : Hid (q = (U * 4294967296 + l1) / yv) := Lib.hid (by
              rw [hne]; exact est_stop (by omega) (by have := HD.out.n1_ge; omega) hU.out (by rw [← hne]; exact hT.out) (by rw [← hm]; omega))
            clear hm hne hmW
            go_wp2_with fail
            go_meet
            exact ⟨rfl, by rw [HQ1.out, ← hQ.out]⟩
    case rest =>
      obtain ⟨rfl, rfl⟩ := hcut
      have hyp : 0 < yv := by have := HD.out.yv_ge; omega
      have hQ1l : Q1 < 4294967296 := by rw [HQ1.out, HD.out.n_eq]; exact est_lt (by omega) HD.out.l1_lt (by rw [← HD.out.n_eq]; exact HD.out.U_lt)
      obtain ⟨u21, hu⟩ : ∃ u, u = (U * 4294967296 + l1) % yv := ⟨_, rfl⟩
      have hul : u21 < yv := by rw [hu]; exact Nat.mod_lt _ hyp
      have huT : U * 4294967296 + l1 = Q1 * yv + u21 := by rw [hu, HQ1.out]; exact (Nat.div_add_mod' _ _).symm
      have huW : u21 < W := Nat.lt_trans hul HD.out.yv_lt
      have hl1 := HD.out.l1_lt
      obtain ⟨x1, hx1⟩ : ∃ x, x = (U * 4294967296) % W := ⟨_, rfl⟩
      obtain ⟨x2, hx2⟩ : ∃ x, x = (U * 4294967296 + l1) % W := ⟨_, rfl⟩
      obtain ⟨x3, hx3⟩ : ∃ x, x = (Q1 * yv) % W := ⟨_, rfl⟩
      have b1 : IntKind.u64.wrap ((U : Int) * 4294967296) = (x1 : Int) := by rw [IntKind.wrap_u64, hx1]; unfold W; omega
      have b2 : IntKind.u64.wrap ((x1 : Int) + (l1 : Int)) = (x2 : Int) := by rw [IntKind.wrap_u64, hx1, hx2]; unfold W; omega
      have b3 : IntKind.u64.wrap ((Q1 : Int) * (yv : Int)) = (x3 : Int) := by rw [← Int.natCast_mul, IntKind.wrap_u64, hx3]; unfold W; omega
      have b4 : IntKind.u64.wrap ((x2 : Int) - (x3 : Int)) = (u21 : Int) := by rw [IntKind.wrap_u64, hx2, hx3, huT]; unfold W at huW ⊢; omega
      obtain ⟨q2, hq2⟩ : ∃ q, q = u21 / n1 := ⟨_, rfl⟩
      obtain ⟨m2, hm2⟩ : ∃ m, m = q2 * n1 := ⟨_, rfl⟩
      obtain ⟨r2, hr2⟩ : ∃ r, r = u21 % n1 := ⟨_, rfl⟩
      have hmr : m2 + r2 = u21 := by rw [hm2, hr2, hq2, Nat.mul_comm]; exact Nat.div_add_mod u21 n1
      have b5 : (u21 : Int).tdiv (n1 : Int) = (q2 : Int) := by rw [hq2]; rfl
      have b5' : (u21 : Int) / (n1 : Int) = (q2 : Int) := by rw [hq2]; simp
      have b6 : IntKind.u64.wrap (q2 : Int) = (q2 : Int) := wrapN rfl (by rw [hq2]; exact Nat.lt_of_le_of_lt (Nat.div_le_self _ _) huW)
      have b7 : IntKind.u64.wrap ((q2 : Int) * (n1 : Int)) = (m2 : Int) := wrapN (by rw [hm2]; simp) (by omega)
      have b8 : IntKind.u64.wrap ((u21 : Int) - (m2 : Int)) = (r2 : Int) := wrapN (by omega) (by omega)
      have B5 : Hid (r2 < n1) := Lib.hid (by rw [hr2]; exact Nat.mod_lt _ (by have := HD.out.n1_ge; omega))
      have B6 : Hid (u21 = q2 * n1 + r2) := Lib.hid (by rw [← hm2]; exact hmr.symm)
      have B7 : Hid (q2 ≤ 4294967297) := Lib.hid (by
        rw [hq2]
        have : u21 / n1 < 4294967298 := by
          rw [Nat.div_lt_iff_lt_mul (by have := HD.out.n1_ge; omega)]
          have := HD.out.n_eq; have := HD.out.n0_lt; have := HD.out.n1_ge; omega
        omega)
      have B8 : Hid ((u21 * 4294967296 + l0) / yv ≤ q2) := Lib.hid (by rw [hq2, HD.out.n_eq]; exact est_init (by omega) HD.out.l0_lt (by have := HD.out.n1_ge; omega))
      obtain ⟨Q0, hQ0⟩ : ∃ Q, Q = (u21 * 4294967296 + l0) / yv := ⟨_, rfl⟩
      have HQ0 := Lib.hid hQ0
      have HUL := Lib.hid hul; have HU := Lib.hid hu; have HQL := Lib.hid hQ1l; have HYP := Lib.hid hyp
      clear hyp hQ1l hu hul huT huW hl1 hx1 hx2 hx3 hq2 hm2 hr2 hmr hQ0
      go_upto_block 2 with fail
      go_cut [18] (fun s wx => w = wx ∧ s = .int .u64 ((Q0 : Nat) : Int))
      case first =>
        go_wp2_with fail
        clear w1 w2 w3 w4 w5 w6 w7 w8 w9 b1 b2 b3 b4 b5 b5' b6 b7 b8
        go_loopg [18, 16] (q2) (fun k qv rv wr => ∃ q r : Nat, k = q ∧ qv = .int .u64 q ∧ rv = .int .u64 r ∧ w = wr ∧ Hid (u21 = q * n1 + r) ∧ (r : Int) < 4294967296 ∧ Hid ((u21 * 4294967296 + l0) / yv ≤ q) ∧ (q : Int) ≤ 4294967297)
        case atStart => exact ⟨_, _, rfl, rfl, rfl, rfl, B6, by have := B5.out; have := HD.out.n1_lt; omega, B8, by have := B7.out; omega⟩
        case round =>
          obtain ⟨q, r, hk, rfl, rfl, rfl, hU, hr, hT, hq⟩ := hrel
          have HK := Lib.hid hk; clear hk
          obtain ⟨m, hm⟩ : ∃ m, m = q * n0 := ⟨_, rfl⟩
          have HM := Lib.hid hm
          have hn1lt : (n1 : Int) < 4294967296 := by have := HD.out.n1_lt; omega
          have HLT := Lib.hid HD.out.l0_lt
          have hlt : (l0 : Int) < 4294967296 := by have := HLT.out; omega
          have hne := HD.out.n_eq
          have HNE := Lib.hid hne
          by_cases c1 : (4294967296 : Int) ≤ (q : Int)
          · have hT' : Hid ((u21 * 4294967296 + l0) / yv ≤ q - 1) := Lib.hid (by have h1 := HD.out; rw [hne]; exact est_big (by omega) HLT.out (by rw [← hne]; exact HUL.out) (by omega))
            have hU' : Hid (u21 = (q - 1) * n1 + (r + n1)) := Lib.hid (by have := hU.out; obtain ⟨q', rfl⟩ : ∃ q', q = q' + 1 := ⟨q - 1, by omega⟩; rw [Nat.add_mul, Nat.one_mul] at this; simp only [Nat.add_sub_cancel]; omega)
            clear hm hne
            by_cases c2 : (r : Int) + (n1 : Int) < 4294967296
            · have hd2 : decide ((4294967296 : Int) ≤ (r : Int) + (n1 : Int)) = false := by rw [decide_eq_false_iff_not]; omega
              go_wp2_with fail
              go_roundg (q - 1)
              case measure => have := HK.out; omega
              case rel => exact ⟨q - 1, r + n1, rfl, by go_num, by go_num, rfl, hU', by omega, hT', by omega⟩
            · have hQ : Hid (q - 1 = (u21 * 4294967296 + l0) / yv) := Lib.hid (by
                rw [HNE.out]; refine est_stop (by omega) (by have := HD.out.n1_ge; omega) hU'.out (by rw [← HNE.out]; exact hT'.out) ?_
                have a1 : (q - 1) * n0 ≤ 4294967296 * n0 := Nat.mul_le_mul_right _ (by omega)
                have := HD.out.n0_lt; omega)
              have hd2 : decide ((4294967296 : Int) ≤ (r : Int) + (n1 : Int)) = true := by rw [decide_eq_true_eq]; omega
              go_wp2_with fail
              go_meet
              exact ⟨rfl, by rw [HQ0.out, ← hQ.out]; go_num⟩
          · have hmW : m < W := by
              rw [hm, W_eq]
              exact Nat.mul_lt_mul'' (by omega) HD.out.n0_lt
            have hwm : IntKind.u64.wrap ((q : Int) * (n0 : Int)) = (m : Int) := wrapN (by rw [hm]; simp) hmW
            by_cases c3 : 4294967296 * (r : Int) + (l0 : Int) < (m : Int)
            · have hT' : Hid ((u21 * 4294967296 + l0) / yv ≤ q - 1) := Lib.hid (by rw [hne]; exact est_more (by omega) (by have := HD.out.n1_ge; omega) hU.out (by rw [← hm]; omega))
              have hq0 : 0 < q := by rcases Nat.eq_zero_or_pos q with h | h; (subst h; simp at hm; omega); exact h
              have hU' : Hid (u21 = (q - 1) * n1 + (r + n1)) := Lib.hid (by have := hU.out; obtain ⟨q', rfl⟩ : ∃ q', q = q' + 1 := ⟨q - 1, by omega⟩; rw [Nat.add_mul, Nat.one_mul] at this; simp only [Nat.add_sub_cancel]; omega)
              clear hm hne hmW
              by_cases c2 : (r : Int) + (n1 : Int) < 4294967296
              · have hd2 : decide ((4294967296 : Int) ≤ (r : Int) + (n1 : Int)) = false := by rw [decide_eq_false_iff_not]; omega
                go_wp2_with fail
                go_roundg (q - 1)
                case measure => have := HK.out; omega
                case rel => exact ⟨q - 1, r + n1, rfl, by go_num, by go_num, rfl, hU', by omega, hT', by omega⟩
              · have hQ : Hid (q - 1 = (u21 * 4294967296 + l0) / yv) := Lib.hid (by
                  rw [HNE.out]; refine est_stop (by omega) (by have := HD.out.n1_ge; omega) hU'.out (by rw [← HNE.out]; exact hT'.out) ?_
                  have a1 : (q - 1) * n0 ≤ 4294967296 * n0 := Nat.mul_le_mul_right _ (by omega)
                  have := HD.out.n0_lt; omega)
                have hd2 : decide ((4294967296 : Int) ≤ (r : Int) + (n1 : Int)) = true := by rw [decide_eq_true_eq]; omega
                go_wp2_with fail
                go_meet
                exact ⟨rfl, by rw [HQ0.out, ← hQ.out]; go_num⟩
            · have hQ : Hid (q = (u21 * 4294967296 + l0) / yv) := Lib.hid (by
                rw [hne]; exact est_stop (by omega) (by have := HD.out.n1_ge; omega) hU.out (by rw [← hne]; exact hT.out) (by rw [← hm]; omega))
              clear hm hne hmW
              go_wp2_with fail
              go_meet
              exact ⟨rfl, by rw [HQ0.out, ← hQ.out]⟩
      case rest =>
        obtain ⟨rfl, rfl⟩ := hcut
        have h2s := two_steps (b := 4294967296) (V := yv) (A := U * 4294967296 + l1) (l0 := l0) (by omega) HYP.out
        rw [← HQ1.out, ← HU.out, ← HQ0.out] at h2s
        have hXX : (hi * W + lo) * 2 ^ s = (U * 4294967296 + l1) * 4294967296 + l0 := by rw [HD.out.X_eq, HD.out.L_eq, W_eq]; omega
        have hQ0l : Q0 < 4294967296 := by rw [HQ0.out, HD.out.n_eq]; exact est_lt (by omega) HD.out.l0_lt (by rw [← HD.out.n_eq]; exact HUL.out)
        have hqq : (hi * W + lo) / y = Q1 * 4294967296 + Q0 := by
          rw [← h2s.1, ← hXX, HD.out.yv_eq, Nat.mul_div_mul_right _ _ (Nat.two_pow_pos s)]
        obtain ⟨z4, hz4⟩ : ∃ z, z = (u21 * 4294967296 + l0) % yv := ⟨_, rfl⟩
        have hrr : (hi * W + lo) % y = z4 / 2 ^ s := by
          rw [hz4, ← h2s.2, ← hXX, HD.out.yv_eq, Nat.mul_mod_mul_right, Nat.mul_div_cancel _ (Nat.two_pow_pos s)]
        have hzT : u21 * 4294967296 + l0 = Q0 * yv + z4 := by rw [hz4, HQ0.out]; exact (Nat.div_add_mod' _ _).symm
        have hzW : z4 < W := by rw [hz4]; exact Nat.lt_trans (Nat.mod_lt _ HYP.out) HD.out.yv_lt
        have hl0 := HD.out.l0_lt
        obtain ⟨y1, hy1⟩ : ∃ x, x = Q1 * 4294967296 := ⟨_, rfl⟩
        obtain ⟨qq, hq⟩ : ∃ x, x = Q1 * 4294967296 + Q0 := ⟨_, rfl⟩
        obtain ⟨z1, hz1⟩ : ∃ x, x = (u21 * 4294967296) % W := ⟨_, rfl⟩
        obtain ⟨z2, hz2⟩ : ∃ x, x = (u21 * 4294967296 + l0) % W := ⟨_, rfl⟩
        obtain ⟨z3, hz3⟩ : ∃ x, x = (Q0 * yv) % W := ⟨_, rfl⟩
        obtain ⟨rr, hr⟩ : ∃ x, x = z4 / 2 ^ s := ⟨_, rfl⟩
        have hQ1l := HQL.out
        have d1 : IntKind.u64.wrap ((Q1 : Int) * 4294967296) = (y1 : Int) := by rw [IntKind.wrap_u64, hy1]; omega
        have d2 : IntKind.u64.wrap ((y1 : Int) + (Q0 : Int)) = (qq : Int) := by rw [IntKind.wrap_u64, hy1, hq]; omega
        have d3 : IntKind.u64.wrap ((u21 : Int) * 4294967296) = (z1 : Int) := by rw [IntKind.wrap_u64, hz1]; unfold W; omega
        have d4 : IntKind.u64.wrap ((z1 : Int) + (l0 : Int)) = (z2 : Int) := by rw [IntKind.wrap_u64, hz1, hz2]; unfold W; omega
        have d5 : IntKind.u64.wrap ((Q0 : Int) * (yv : Int)) = (z3 : Int) := by rw [← Int.natCast_mul, IntKind.wrap_u64, hz3]; unfold W; omega
        have d6 : IntKind.u64.wrap ((z2 : Int) - (z3 : Int)) = (z4 : Int) := by rw [IntKind.wrap_u64, hz2, hz3, hzT]; unfold W at hzW ⊢; omega
        have d7 : (z4 : Int) / 2 ^ s = (rr : Int) := by rw [hr]; simp
        have HQQ : Hid ((hi * W + lo) / y = qq) := Lib.hid (by rw [hqq, hq])
        have HRR : Hid ((hi * W + lo) % y = rr) := Lib.hid (by rw [hrr, hr])
        clear h2s hXX hQ0l hqq hrr hzT hzW hl0 hy1 hq hz1 hz2 hz3 hr hQ1l hz4
        go_wp2_with fail
        go_ret2
        rw [HQQ.out, HRR.out]
        exact ⟨rfl, 0, rfl⟩

end Go.Proofs.Ytkbhchlecokpiaa

/-! ## ByDigit: limbs.byDigit by its contract: divided by one digit. -/
set_option linter.unusedVariables false
set_option linter.unusedSimpArgs false
namespace Go.Proofs.Ytkbhchlecokpiaa
open Go Go.RowKit Tw
set_option linter.unusedVariables false
set_option linter.unusedSimpArgs false

theorem byd_step {l q : List Nat} {k r d : Nat} (hk : k < l.length) (hq : k < q.length) (hv : val W (l.drop (k + 1)) = d * val W (q.drop (k + 1)) + r) :
    val W (l.drop k) = d * val W ((q.set k ((r * W + nth l k) / d)).drop k) + (r * W + nth l k) % d := by
  have e := Nat.div_add_mod (r * W + nth l k) d
  rw [val_drop W hk, val_drop W (l := q.set k ((r * W + nth l k) / d)) (by simpa using hq), nth_set_eq hq, List.drop_set_of_lt (by omega), hv, Nat.mul_add d]
  generalize (r * W + nth l k) / d = u at *
  generalize (r * W + nth l k) % d = v at *
  have : W * (d * val W (q.drop (k + 1)) + r) = d * (W * val W (q.drop (k + 1))) + r * W := by
    rw [Nat.mul_add, Nat.mul_left_comm, Nat.mul_comm W r]
  omega

set_option maxRecDepth 100000 in
set_option maxHeartbeats 1000000 in
theorem byDigit_c (v : Value) (l : List Nat) (d : Nat) (w : World) (h : Wd w v l) (hs : l.length ≤ 60000) (hd : 0 < d) (hdW : d < W) :
    Calls Try.prog 160 #[v, .int .u64 d] w fun e w' => ∃ v1 v2, e = .returned (.tuple #[v1, v2]) ∧
      OwnW w.heap.size w' v1 (digs W (val W l / d)) ∧ OwnW w.heap.size w' v2 (digs W (val W l % d)) ∧ Below w.heap.size w w' := by
  have H := Lib.hid h
  have D := h.dig
  obtain ⟨a, cap, rfl, hw⟩ := h
  have HX := Lib.hid hw
  clear hw
  obtain ⟨n, hn⟩ : ∃ n, n = l.length := ⟨_, rfl⟩
  have HN := Lib.hid hn
  rw [← hn] at hs ⊢
  clear hn
  go_enter Try.func160, Try.ntmps160
  go_wp2_with (at_make; refine wpList_make_z _ rfl _ _ 22 rfl w.heap.size 49 .u64 8 W Try.underlying22 info_u64 .i64 .i64 _ _ n n rfl rfl rfl rfl (by omega) (by omega) (by unfold maxLen; omega) (Nat.le_refl _) (by have := W_two; omega) ?_; intro wm hown hbel hsz; have Hsz := Lib.hid hsz; clear hsz)
  go_loopg [7, 8] n (fun k rv i wr => ∃ (r : Nat) (q : List Nat), k ≤ n ∧ i = .int .i64 ((k : Int) - 1) ∧ rv = .int .u64 r ∧ Hid (r < d) ∧
    OwnW w.heap.size wr (.slice (some ⟨w.heap.size, 0, none⟩) n n) q ∧ q.length = n ∧ Hid (val W (l.drop k) = d * val W (q.drop k) + r) ∧ Below w.heap.size w wr)
  case atStart => exact ⟨0, List.replicate n 0, Nat.le_refl _, rfl, rfl, hd, hown, by simp, by show val W (l.drop n) = d * val W ((List.replicate n 0).drop n) + 0; rw [List.drop_of_length_le (by have := HN.out; omega), List.drop_of_length_le (by simp)]; simp [val], hbel⟩
  case round =>
    clear hown hbel
    obtain ⟨r, q, hk, rfl, rfl, hr, hown, hol, hv, hbel⟩ := hrel
    have HL := Lib.hid hol; have HO := Lib.hid hown; have HB := Lib.hid hbel
    by_cases hk0 : 0 < gk
    · obtain ⟨b1, o1, rfl, hcl⟩ := HX.out.2.2.2 (by intro e; have := HN.out; rw [e] at this; simp at this; omega)
      have hlt : gk - 1 < l.length := by have := HN.out; omega
      have g1 : wr.cell? ⟨b1, o1 + (gk - 1), none⟩ = some (.int .u64 ((nth l (gk - 1) : Nat) : Int)) := hcl.below (hcl.lt (by omega)) hbel _ hlt
      have hcell := (show OwnW w.heap.size wr (.slice (some ⟨w.heap.size, 0, none⟩) q.length n) q by rw [hol]; exact hown).cell (i := gk - 1) (by omega)
      have hfree := hown.free hol.symm (gk - 1)
      have eidx : ((gk : Int) - 1).toNat = gk - 1 := by omega
      have x1 := Lib.hid (nth_dig D hlt)
      have HLT := Lib.hid hlt
      clear hol hown hbel hcl hlt
      go_wp2_with fail
      refine Calls.mono (div64_c r (nth l (gk - 1)) d _ hd hr.out x1.out hdW) ?_; rintro e w' ⟨rfl, nd, rfl⟩
      have HV : Hid _ := Lib.hid (byd_step (d := d) (q := q) (k := gk - 1) HLT.out (by rw [HL.out]; omega) (by rw [show gk - 1 + 1 = gk by omega]; exact hv.out))
      have HM : Hid ((r * W + nth l (gk - 1)) % d < d) := Lib.hid (Nat.mod_lt _ hd)
      have HQ : Hid ((r * W + nth l (gk - 1)) / d < W) := Lib.hid (by
        rw [Nat.div_lt_iff_lt_mul hd]
        have h1 := Nat.mul_le_mul_right W (show r + 1 ≤ d from hr.out)
        rw [Nat.add_mul, Nat.one_mul] at h1
        have := x1.out
        rw [Nat.mul_comm W d]; omega)
      generalize (r * W + nth l (gk - 1)) / d = dq at *
      generalize (r * W + nth l (gk - 1)) % d = dr at *
      go_wp2_with fail
      go_roundg (gk - 1)
      case measure => omega
      case rel =>
        refine ⟨dr, q.set (gk - 1) dq, by omega, by go_num, rfl, HM, ?_, ?_, HV, ?_⟩
        · exact (HO.out.drawn nd).set HL.out.symm _ _ HQ.out
        · simpa using HL.out
        · exact (bel_drawn HB.out nd).setCell (Nat.le_refl _) _
    · obtain rfl : gk = 0 := by omega
      have hfin := hv.out
      simp only [List.drop_zero] at hfin
      have HF1 : Hid (val W l / d = val W q) := Lib.hid (by rw [hfin, Nat.add_comm, Nat.add_mul_div_left _ _ hd, Nat.div_eq_of_lt hr.out]; omega)
      have HF2 : Hid (val W l % d = r) := Lib.hid (by rw [hfin, Nat.add_comm, Nat.add_mul_mod_self_left, Nat.mod_eq_of_lt hr.out])
      have hrW : Hid (r < W) := Lib.hid (Nat.lt_trans hr.out hdW)
      clear hfin hol hown hbel hk0
      go_wp2_with fail
      refine Calls.mono (trimmed_n _ n n q _ HL.out.symm HO.out.lsS) ?_; rintro e w' ⟨rfl, rfl⟩
      go_wp2_with fail
      have HO2 : Hid (OwnW w.heap.size (wr.alloc (.cells #[.int .u64 ((r : Nat) : Int)] 49)) (.slice (some ⟨wr.heap.size, 0, none⟩) 1 1) [r]) :=
        Lib.hid (Own.lit .u64 _ W _ wr _ [r] HB.out.size (by simp; unfold maxLen; omega) rfl (Dig.one hrW.out))
      refine Calls.mono (trimmed_n _ 1 1 [r] _ rfl HO2.out.lsS) ?_; rintro e w' ⟨rfl, rfl⟩
      go_wp2_with fail
      go_ret2
      refine ⟨_, _, rfl, ?_, ?_, HB.out.alloc HB.out.size _⟩
      · rw [HF1.out]; exact (HO.out.trim W_two HL.out.symm).alloc _
      · rw [HF2.out]
        have h3 := HO2.out.trim W_two rfl
        have e1 : val W [r] = r := by simp [val]
        rw [e1] at h3 ⊢
        exact h3

end Go.Proofs.Ytkbhchlecokpiaa

/-! ## Guess: limbs.guess, take, giveBack by their contracts. -/
set_option linter.unusedVariables false
set_option linter.unusedSimpArgs false
namespace Go.Proofs.Ytkbhchlecokpiaa
open Go Go.RowKit Tw
set_option linter.unusedVariables false
set_option linter.unusedSimpArgs false

theorem cmp2_le {h l r u : Nat} (hl : l < W) (hu : u < W) (hc : h < r ∨ (h = r ∧ l ≤ u)) : l + W * h ≤ W * r + u := by
  rcases hc with h1 | ⟨h1, h2⟩
  · have := Nat.mul_le_mul_left W (show h + 1 ≤ r from h1)
    rw [Nat.mul_add, Nat.mul_one] at this; omega
  · subst h1; omega
theorem cmp2_gt {h l r u : Nat} (hl : l < W) (hu : u < W) (hc : r < h ∨ (h = r ∧ u < l)) : W * r + u < l + W * h := by
  rcases hc with h1 | ⟨h1, h2⟩
  · have := Nat.mul_le_mul_left W (show r + 1 ≤ h from h1)
    rw [Nat.mul_add, Nat.mul_one] at this; omega
  · subst h1; omega

/-- the state of the guess: q, and what is left of the two digits on top -/
def GI (u2 u1 u0 b1 b0 q r : Nat) : Prop := u2 * W + u1 = q * b1 + r ∧ guessN u2 u1 u0 b1 b0 ≤ q ∧ q < W

theorem gi_stop {u2 u1 u0 b1 b0 q r : Nat} (hb : 0 < b1) (h : GI u2 u1 u0 b1 b0 q r) (hle : q * b0 ≤ W * r + u0) : q = guessN u2 u1 u0 b1 b0 := by
  obtain ⟨h1, h2, h3⟩ := h
  refine Nat.le_antisymm ?_ h2
  have hV : 0 < b1 * W + b0 := by have := Nat.mul_pos hb W_pos; omega
  have := le_quot hV (est_le h1 hle)
  exact Nat.le_min.2 ⟨Nat.le_sub_one_of_lt h3, this⟩
theorem gi_more {u2 u1 u0 b1 b0 q r : Nat} (hb : 0 < b1) (h : GI u2 u1 u0 b1 b0 q r) (hlt : W * r + u0 < q * b0) : 0 < q ∧ GI u2 u1 u0 b1 b0 (q - 1) (r + b1) := by
  obtain ⟨h1, h2, h3⟩ := h
  have hq : 0 < q := by
    rcases Nat.eq_zero_or_pos q with h | h
    · subst h; simp at hlt
    · exact h
  refine ⟨hq, ?_, ?_, by omega⟩
  · obtain ⟨q', rfl⟩ : ∃ q', q = q' + 1 := ⟨q - 1, by omega⟩
    rw [h1, Nat.add_mul, Nat.one_mul]; simp only [Nat.add_sub_cancel]; omega
  · have h4 := est_more W_pos hb h1 hlt
    unfold guessN
    exact Nat.le_trans (Nat.min_le_right _ _) h4
theorem gi_over {u2 u1 u0 b1 b0 q r : Nat} (hb : 0 < b1) (hb0 : b0 < W) (h : GI u2 u1 u0 b1 b0 q r) (hr : W ≤ r) : q = guessN u2 u1 u0 b1 b0 := by
  refine gi_stop hb h ?_
  have h3 := h.2.2
  have h1 : q * b0 ≤ W * W := Nat.mul_le_mul (by omega) (by omega)
  have h2 : W * W ≤ W * r := Nat.mul_le_mul_left _ hr
  omega

set_option maxRecDepth 100000 in
set_option maxHeartbeats 2000000 in
theorem guess_c (u2 u1 u0 b1 b0 : Nat) (w : World) (hu2 : u2 ≤ b1) (hu1 : u1 < W) (hu0 : u0 < W) (hb1 : 0 < b1) (hb1W : b1 < W) (hb0W : b0 < W) :
    Calls Try.prog 163 #[.int .u64 u2, .int .u64 u1, .int .u64 u0, .int .u64 b1, .int .u64 b0] w fun e w' =>
      e = .returned (.int .u64 ((guessN u2 u1 u0 b1 b0 : Nat) : Int)) ∧ ∃ n, w' = w.drewN n := by
  obtain ⟨s, hs⟩ : ∃ s, s = (u1 + b1) % W := ⟨_, rfl⟩
  have hws : IntKind.u64.wrap ((u1 : Int) + (b1 : Int)) = (s : Int) := by rw [IntKind.wrap_u64, hs]; unfold W; omega
  clear hs
  by_cases hlt : u2 < b1
  · have hd : decide ((u2 : Int) < (b1 : Int)) = true := by rw [decide_eq_true_eq]; omega
    go_enter Try.func163, Try.ntmps163
    go_wp2_with fail
    refine Calls.mono (div64_c u2 u1 b1 _ hb1 hlt hu1 hb1W) ?_; rintro e w' ⟨rfl, nd, rfl⟩
    have HG : Hid (GI u2 u1 u0 b1 b0 ((u2 * W + u1) / b1) ((u2 * W + u1) % b1)) := Lib.hid (by
      refine ⟨(Nat.div_add_mod' _ _).symm, ?_, ?_⟩
      · unfold guessN
        exact Nat.le_trans (Nat.min_le_right _ _) (est_init W_pos hu0 hb1)
      · rw [Nat.div_lt_iff_lt_mul hb1]
        have h1 := Nat.mul_le_mul_right W (show u2 + 1 ≤ b1 from hlt)
        rw [Nat.add_mul, Nat.one_mul] at h1
        rw [Nat.mul_comm W b1]; omega)
    have HR : Hid ((u2 * W + u1) % b1 < W) := Lib.hid (Nat.lt_trans (Nat.mod_lt _ hb1) hb1W)
    generalize (u2 * W + u1) / b1 = q0 at *
    generalize (u2 * W + u1) % b1 = r0 at *
    clear hws
    go_wp2_with fail
    go_loopg [11, 12] q0 (fun k qv rv wr => ∃ q r n : Nat, k = q ∧ qv = .int .u64 q ∧ rv = .int .u64 r ∧ wr = w.drewN n ∧ Hid (GI u2 u1 u0 b1 b0 q r) ∧ Hid (r < W))
    case atStart => exact ⟨q0, r0, nd, rfl, rfl, rfl, rfl, HG, HR⟩
    case round =>
      obtain ⟨q, r, n, hk, rfl, rfl, rfl, hG, hr⟩ := hrel
      have HK := Lib.hid hk; clear hk
      by_cases c1 : mulH q b0 < r
      · have hd1 : decide (((mulH q b0 : Nat) : Int) < (r : Int)) = true := by rw [decide_eq_true_eq]; omega
        have hd1n : decide (mulH q b0 < r) = true := by rw [decide_eq_true_eq]; omega
        have hres : Hid (q = guessN u2 u1 u0 b1 b0) := Lib.hid (gi_stop hb1 hG.out (by rw [← mul_eq q b0]; exact cmp2_le (mulL_lt _ _) hu0 (.inl c1)))
        go_wp2_with fail
        refine Calls.mono (mul64_c q b0 (hG.out.2.2) hb0W _) ?_; rintro e w' ⟨rfl, rfl⟩
        go_wp2_with fail
        go_ret
        refine ⟨ret_int ?_, n, rfl⟩
        show ((q : Nat) : Int) = _
        rw [← hres.out]
      · have hd1 : decide (((mulH q b0 : Nat) : Int) < (r : Int)) = false := by rw [decide_eq_false_iff_not]; omega
        have hd1n : decide (mulH q b0 < r) = false := by rw [decide_eq_false_iff_not]; omega
        by_cases c2 : mulH q b0 = r
        · have hd2 : (((mulH q b0 : Nat) : Int) == (r : Int)) = true := by rw [beq_iff_eq]; omega
          have hd2n : (mulH q b0 == r) = true := by rw [beq_iff_eq]; omega
          have C2 := Lib.hid c2
          by_cases c3 : mulL q b0 ≤ u0
          · have hd3 : decide (((mulL q b0 : Nat) : Int) ≤ (u0 : Int)) = true := by rw [decide_eq_true_eq]; omega
            have hd3n : decide (mulL q b0 ≤ u0) = true := by rw [decide_eq_true_eq]; omega
            clear c1 c2
            have hres : Hid (q = guessN u2 u1 u0 b1 b0) := Lib.hid (gi_stop hb1 hG.out (by rw [← mul_eq q b0]; exact cmp2_le (mulL_lt _ _) hu0 (.inr ⟨C2.out, c3⟩)))
            go_wp2_with fail
            refine Calls.mono (mul64_c q b0 (hG.out.2.2) hb0W _) ?_; rintro e w' ⟨rfl, rfl⟩
            go_wp2_with fail
            go_ret
            refine ⟨ret_int ?_, n, rfl⟩
            show ((q : Nat) : Int) = _
            rw [← hres.out]
          · have hd3 : decide (((mulL q b0 : Nat) : Int) ≤ (u0 : Int)) = false := by rw [decide_eq_false_iff_not]; omega
            have hd3n : decide (mulL q b0 ≤ u0) = false := by rw [decide_eq_false_iff_not]; omega
            have C3 : Hid (u0 < mulL q b0) := Lib.hid (by omega)
            clear c1 c2 c3
            have hmr := gi_more hb1 hG.out (by rw [← mul_eq q b0]; exact cmp2_gt (mulL_lt _ _) hu0 (.inr ⟨C2.out, C3.out⟩))
            obtain ⟨q', hq'⟩ : ∃ q', q' = q - 1 := ⟨_, rfl⟩
            have hwq : IntKind.u64.wrap ((q : Int) - 1) = (q' : Int) := by rw [IntKind.wrap_u64, hq']; have := hG.out.2.2; unfold W at this; omega
            obtain ⟨nx, hnx⟩ : ∃ x, x = (r + b1) % W := ⟨_, rfl⟩
            have hwn : IntKind.u64.wrap ((r : Int) + (b1 : Int)) = (nx : Int) := by rw [IntKind.wrap_u64, hnx]; unfold W; omega
            have HM : Hid (GI u2 u1 u0 b1 b0 q' (r + b1)) := Lib.hid (by rw [hq']; exact hmr.2)
            have HQ' : Hid (q' + 1 = q) := Lib.hid (by omega)
            clear hq'
            by_cases hov : W ≤ r + b1
            · have hres : Hid (q' = guessN u2 u1 u0 b1 b0) := Lib.hid (gi_over hb1 hb0W HM.out hov)
              have hd4 : decide ((nx : Int) < (r : Int)) = true := by have hrw := hr.out; rw [decide_eq_true_eq, hnx, Nat.mod_eq_sub_mod hov, Nat.mod_eq_of_lt (by omega)]; omega
              have hd4n : decide (nx < r) = true := by have := of_decide_eq_true hd4; rw [decide_eq_true_eq]; omega
              clear hnx hmr hov
              go_wp2_with fail
              refine Calls.mono (mul64_c q b0 (hG.out.2.2) hb0W _) ?_; rintro e w' ⟨rfl, rfl⟩
              go_wp2_with fail
              go_ret
              refine ⟨ret_int ?_, n, rfl⟩
              show ((q' : Nat) : Int) = _
              rw [hres.out]
            · have hnx' : nx = r + b1 := by rw [hnx, Nat.mod_eq_of_lt (by omega)]
              have HNX : Hid (nx = r + b1) := Lib.hid hnx'
              have hd4 : decide ((nx : Int) < (r : Int)) = false := by rw [decide_eq_false_iff_not]; omega
              have hd4n : decide (nx < r) = false := by rw [decide_eq_false_iff_not]; omega
              have HNW : Hid (nx < W) := Lib.hid (by omega)
              clear hnx hnx' hmr hov
              go_wp2_with fail
              refine Calls.mono (mul64_c q b0 (hG.out.2.2) hb0W _) ?_; rintro e w' ⟨rfl, rfl⟩
              go_wp2_with fail
              go_roundg q'
              case measure => have := HK.out; have := HQ'.out; omega
              case rel => exact ⟨q', nx, n, rfl, rfl, rfl, rfl, by rw [HNX.out]; exact HM, HNW⟩
        · have hd2 : (((mulH q b0 : Nat) : Int) == (r : Int)) = false := by rw [beq_eq_false_iff_ne]; omega
          have hd2n : (mulH q b0 == r) = false := by rw [beq_eq_false_iff_ne]; omega
          have C1 : Hid (r < mulH q b0) := Lib.hid (by omega)
          clear c1 c2
          have hmr := gi_more hb1 hG.out (by rw [← mul_eq q b0]; exact cmp2_gt (mulL_lt _ _) hu0 (.inl C1.out))
          obtain ⟨q', hq'⟩ : ∃ q', q' = q - 1 := ⟨_, rfl⟩
          have hwq : IntKind.u64.wrap ((q : Int) - 1) = (q' : Int) := by rw [IntKind.wrap_u64, hq']; have := hG.out.2.2; unfold W at this; omega
          obtain ⟨nx, hnx⟩ : ∃ x, x = (r + b1) % W := ⟨_, rfl⟩
          have hwn : IntKind.u64.wrap ((r : Int) + (b1 : Int)) = (nx : Int) := by rw [IntKind.wrap_u64, hnx]; unfold W; omega
          have HM : Hid (GI u2 u1 u0 b1 b0 q' (r + b1)) := Lib.hid (by rw [hq']; exact hmr.2)
          have HQ' : Hid (q' + 1 = q) := Lib.hid (by omega)
          clear hq'
          by_cases hov : W ≤ r + b1
          · have hres : Hid (q' = guessN u2 u1 u0 b1 b0) := Lib.hid (gi_over hb1 hb0W HM.out hov)
            have hd4 : decide ((nx : Int) < (r : Int)) = true := by have hrw := hr.out; rw [decide_eq_true_eq, hnx, Nat.mod_eq_sub_mod hov, Nat.mod_eq_of_lt (by omega)]; omega
            have hd4n : decide (nx < r) = true := by have := of_decide_eq_true hd4; rw [decide_eq_true_eq]; omega
            clear hnx hmr hov
            go_wp2_with fail
            refine Calls.mono (mul64_c q b0 (hG.out.2.2) hb0W _) ?_; rintro e w' ⟨rfl, rfl⟩
            go_wp2_with fail
            go_ret
            refine ⟨ret_int ?_, n, rfl⟩
            show ((q' : Nat) : Int) = _
            rw [hres.out]
          · have hnx' : nx = r + b1 := by rw [hnx, Nat.mod_eq_of_lt (by omega)]
            have HNX : Hid (nx = r + b1) := Lib.hid hnx'
            have hd4 : decide ((nx : Int) < (r : Int)) = false := by rw [decide_eq_false_iff_not]; omega
            have hd4n : decide (nx < r) = false := by rw [decide_eq_false_iff_not]; omega
            have HNW : Hid (nx < W) := Lib.hid (by omega)
            clear hnx hnx' hmr hov
            go_wp2_with fail
            refine Calls.mono (mul64_c q b0 (hG.out.2.2) hb0W _) ?_; rintro e w' ⟨rfl, rfl⟩
            go_wp2_with fail
            go_roundg q'
            case measure => have := HK.out; have := HQ'.out; omega
            case rel => exact ⟨q', nx, n, rfl, rfl, rfl, rfl, by rw [HNX.out]; exact HM, HNW⟩
  · have hueq : u2 = b1 := by omega
    have hd : decide ((u2 : Int) < (b1 : Int)) = false := by rw [decide_eq_false_iff_not]; omega
    have hdn : decide (u2 < b1) = false := by rw [decide_eq_false_iff_not]; omega
    have hadd := add64_run0 u1 b1
    have hae := add_eq u1 b1 0
    have HGQ : Hid (GI u2 u1 u0 b1 b0 (W - 1) (u1 + b1)) := Lib.hid (by
      refine ⟨?_, Nat.min_le_left _ _, by have := W_pos; omega⟩
      subst hueq
      obtain ⟨v, hv⟩ : ∃ v, W = v + 1 := ⟨W - 1, by have := W_pos; omega⟩
      rw [hv, Nat.add_sub_cancel, Nat.mul_comm v, Nat.mul_add, Nat.mul_one]; omega)
    obtain ⟨q0, hq0⟩ : ∃ q, q = W - 1 := ⟨_, rfl⟩
    have hqw : (18446744073709551615 : Int) = (q0 : Int) := by rw [hq0]; unfold W; rfl
    rw [← hq0] at HGQ
    have HQW := Lib.hid hqw; have HQ0 := Lib.hid hq0
    clear hq0 hqw
    by_cases hov : W ≤ u1 + b1
    · have hc1 : addC u1 b1 0 = 1 := by
        have h1 := addS_lt u1 b1 0
        have h2 := addC_le hu1 hb1W (Nat.zero_le 1)
        rcases Nat.eq_zero_or_pos (addC u1 b1 0) with h | h
        · rw [h] at hae; omega
        · omega
      have hd1 : decide ((0 : Int) < ((addC u1 b1 0 : Nat) : Int)) = true := by rw [decide_eq_true_eq]; omega
      have hd1n : decide (0 < addC u1 b1 0) = true := by rw [decide_eq_true_eq]; omega
      have hd1p : 0 < addC u1 b1 0 := by omega
      have hres : Hid (q0 = guessN u2 u1 u0 b1 b0) := Lib.hid (gi_over hb1 hb0W HGQ.out hov)
      clear hc1 hueq hlt hov hae
      go_enter Try.func163, Try.ntmps163
      go_wp2_with fail
      go_ret
      exact ⟨ret_int (by rw [HQW.out, hres.out]), 0, rfl⟩
    · have hc0 : addC u1 b1 0 = 0 := by
        rcases Nat.eq_zero_or_pos (addC u1 b1 0) with h | h
        · exact h
        · have := Nat.mul_le_mul_left W h; omega
      have hd1 : decide ((0 : Int) < ((addC u1 b1 0 : Nat) : Int)) = false := by rw [decide_eq_false_iff_not]; omega
      have hd1n : decide (0 < addC u1 b1 0) = false := by rw [decide_eq_false_iff_not]; omega
      obtain ⟨r0, hr0⟩ : ∃ r, r = addS u1 b1 0 := ⟨_, rfl⟩
      have hsum : r0 = u1 + b1 := by rw [hr0]; rw [hc0] at hae; omega
      have HG : Hid (GI u2 u1 u0 b1 b0 q0 r0) := Lib.hid (by rw [hsum]; exact HGQ.out)
      have HR : Hid (r0 < W) := Lib.hid (by rw [hr0]; exact addS_lt _ _ _)
      rw [← hr0] at hadd
      clear hc0 hueq hlt hov hae hr0 hsum
      go_enter Try.func163, Try.ntmps163
      go_wp2_with fail
      rw [HQW.out]
      go_loopg [11, 12] q0 (fun k qv rv wr => ∃ q r n : Nat, k = q ∧ qv = .int .u64 q ∧ rv = .int .u64 r ∧ wr = w.drewN n ∧ Hid (GI u2 u1 u0 b1 b0 q r) ∧ Hid (r < W))
      case atStart => exact ⟨q0, r0, 0, rfl, rfl, rfl, rfl, HG, HR⟩
      case round =>
        obtain ⟨q, r, n, hk, rfl, rfl, rfl, hG, hr⟩ := hrel
        have HK := Lib.hid hk; clear hk
        by_cases c1 : mulH q b0 < r
        · have hd1 : decide (((mulH q b0 : Nat) : Int) < (r : Int)) = true := by rw [decide_eq_true_eq]; omega
          have hd1n : decide (mulH q b0 < r) = true := by rw [decide_eq_true_eq]; omega
          have hres : Hid (q = guessN u2 u1 u0 b1 b0) := Lib.hid (gi_stop hb1 hG.out (by rw [← mul_eq q b0]; exact cmp2_le (mulL_lt _ _) hu0 (.inl c1)))
          go_wp2_with fail
          refine Calls.mono (mul64_c q b0 (hG.out.2.2) hb0W _) ?_; rintro e w' ⟨rfl, rfl⟩
          go_wp2_with fail
          go_ret
          refine ⟨ret_int ?_, n, rfl⟩
          show ((q : Nat) : Int) = _
          rw [← hres.out]
        · have hd1 : decide (((mulH q b0 : Nat) : Int) < (r : Int)) = false := by rw [decide_eq_false_iff_not]; omega
          have hd1n : decide (mulH q b0 < r) = false := by rw [decide_eq_false_iff_not]; omega
          by_cases c2 : mulH q b0 = r
          · have hd2 : (((mulH q b0 : Nat) : Int) == (r : Int)) = true := by rw [beq_iff_eq]; omega
            have hd2n : (mulH q b0 == r) = true := by rw [beq_iff_eq]; omega
            have C2 := Lib.hid c2
            by_cases c3 : mulL q b0 ≤ u0
            · have hd3 : decide (((mulL q b0 : Nat) : Int) ≤ (u0 : Int)) = true := by rw [decide_eq_true_eq]; omega
              have hd3n : decide (mulL q b0 ≤ u0) = true := by rw [decide_eq_true_eq]; omega
              clear c1 c2
              have hres : Hid (q = guessN u2 u1 u0 b1 b0) := Lib.hid (gi_stop hb1 hG.out (by rw [← mul_eq q b0]; exact cmp2_le (mulL_lt _ _) hu0 (.inr ⟨C2.out, c3⟩)))
              go_wp2_with fail
              refine Calls.mono (mul64_c q b0 (hG.out.2.2) hb0W _) ?_; rintro e w' ⟨rfl, rfl⟩
              go_wp2_with fail
              go_ret
              refine ⟨ret_int ?_, n, rfl⟩
              show ((q : Nat) : Int) = _
              rw [← hres.out]
            · have hd3 : decide (((mulL q b0 : Nat) : Int) ≤ (u0 : Int)) = false := by rw [decide_eq_false_iff_not]; omega
              have hd3n : decide (mulL q b0 ≤ u0) = false := by rw [decide_eq_false_iff_not]; omega
              have C3 : Hid (u0 < mulL q b0) := Lib.hid (by omega)
              clear c1 c2 c3
              have hmr := gi_more hb1 hG.out (by rw [← mul_eq q b0]; exact cmp2_gt (mulL_lt _ _) hu0 (.inr ⟨C2.out, C3.out⟩))
              obtain ⟨q', hq'⟩ : ∃ q', q' = q - 1 := ⟨_, rfl⟩
              have hwq : IntKind.u64.wrap ((q : Int) - 1) = (q' : Int) := by rw [IntKind.wrap_u64, hq']; have := hG.out.2.2; unfold W at this; omega
              obtain ⟨nx, hnx⟩ : ∃ x, x = (r + b1) % W := ⟨_, rfl⟩
              have hwn : IntKind.u64.wrap ((r : Int) + (b1 : Int)) = (nx : Int) := by rw [IntKind.wrap_u64, hnx]; unfold W; omega
              have HM : Hid (GI u2 u1 u0 b1 b0 q' (r + b1)) := Lib.hid (by rw [hq']; exact hmr.2)
              have HQ' : Hid (q' + 1 = q) := Lib.hid (by omega)
              clear hq'
              by_cases hov : W ≤ r + b1
              · have hres : Hid (q' = guessN u2 u1 u0 b1 b0) := Lib.hid (gi_over hb1 hb0W HM.out hov)
                have hd4 : decide ((nx : Int) < (r : Int)) = true := by have hrw := hr.out; rw [decide_eq_true_eq, hnx, Nat.mod_eq_sub_mod hov, Nat.mod_eq_of_lt (by omega)]; omega
                have hd4n : decide (nx < r) = true := by have := of_decide_eq_true hd4; rw [decide_eq_true_eq]; omega
                clear hnx hmr hov
                go_wp2_with fail
                refine Calls.mono (mul64_c q b0 (hG.out.2.2) hb0W _) ?_; rintro e w' ⟨rfl, rfl⟩
                go_wp2_with fail
                go_ret
                refine ⟨ret_int ?_, n, rfl⟩
                show ((q' : Nat) : Int) = _
                rw [hres.out]
              · have hnx' : nx = r + b1 := by rw [hnx, Nat.mod_eq_of_lt (by omega)]
                have HNX : Hid (nx = r + b1) := Lib.hid hnx'
                have hd4 : decide ((nx : Int) < (r : Int)) = false := by rw [decide_eq_false_iff_not]; omega
                have hd4n : decide (nx < r) = false := by rw [decide_eq_false_iff_not]; omega
                have HNW : Hid (nx < W) := Lib.hid (by omega)
                clear hnx hnx' hmr hov
                go_wp2_with fail
                refine Calls.mono (mul64_c q b0 (hG.out.2.2) hb0W _) ?_; rintro e w' ⟨rfl, rfl⟩
                go_wp2_with fail
                go_roundg q'
                case measure => have := HK.out; have := HQ'.out; omega
                case rel => exact ⟨q', nx, n, rfl, rfl, rfl, rfl, by rw [HNX.out]; exact HM, HNW⟩
          · have hd2 : (((mulH q b0 : Nat) : Int) == (r : Int)) = false := by rw [beq_eq_false_iff_ne]; omega
            have hd2n : (mulH q b0 == r) = false := by rw [beq_eq_false_iff_ne]; omega
            have C1 : Hid (r < mulH q b0) := Lib.hid (by omega)
            clear c1 c2
            have hmr := gi_more hb1 hG.out (by rw [← mul_eq q b0]; exact cmp2_gt (mulL_lt _ _) hu0 (.inl C1.out))
            obtain ⟨q', hq'⟩ : ∃ q', q' = q - 1 := ⟨_, rfl⟩
            have hwq : IntKind.u64.wrap ((q : Int) - 1) = (q' : Int) := by rw [IntKind.wrap_u64, hq']; have := hG.out.2.2; unfold W at this; omega
            obtain ⟨nx, hnx⟩ : ∃ x, x = (r + b1) % W := ⟨_, rfl⟩
            have hwn : IntKind.u64.wrap ((r : Int) + (b1 : Int)) = (nx : Int) := by rw [IntKind.wrap_u64, hnx]; unfold W; omega
            have HM : Hid (GI u2 u1 u0 b1 b0 q' (r + b1)) := Lib.hid (by rw [hq']; exact hmr.2)
            have HQ' : Hid (q' + 1 = q) := Lib.hid (by omega)
            clear hq'
            by_cases hov : W ≤ r + b1
            · have hres : Hid (q' = guessN u2 u1 u0 b1 b0) := Lib.hid (gi_over hb1 hb0W HM.out hov)
              have hd4 : decide ((nx : Int) < (r : Int)) = true := by have hrw := hr.out; rw [decide_eq_true_eq, hnx, Nat.mod_eq_sub_mod hov, Nat.mod_eq_of_lt (by omega)]; omega
              have hd4n : decide (nx < r) = true := by have := of_decide_eq_true hd4; rw [decide_eq_true_eq]; omega
              clear hnx hmr hov
              go_wp2_with fail
              refine Calls.mono (mul64_c q b0 (hG.out.2.2) hb0W _) ?_; rintro e w' ⟨rfl, rfl⟩
              go_wp2_with fail
              go_ret
              refine ⟨ret_int ?_, n, rfl⟩
              show ((q' : Nat) : Int) = _
              rw [hres.out]
            · have hnx' : nx = r + b1 := by rw [hnx, Nat.mod_eq_of_lt (by omega)]
              have HNX : Hid (nx = r + b1) := Lib.hid hnx'
              have hd4 : decide ((nx : Int) < (r : Int)) = false := by rw [decide_eq_false_iff_not]; omega
              have hd4n : decide (nx < r) = false := by rw [decide_eq_false_iff_not]; omega
              have HNW : Hid (nx < W) := Lib.hid (by omega)
              clear hnx hnx' hmr hov
              go_wp2_with fail
              refine Calls.mono (mul64_c q b0 (hG.out.2.2) hb0W _) ?_; rintro e w' ⟨rfl, rfl⟩
              go_wp2_with fail
              go_roundg q'
              case measure => have := HK.out; have := HQ'.out; omega
              case rel => exact ⟨q', nx, n, rfl, rfl, rfl, rfl, by rw [HNX.out]; exact HM, HNW⟩
end Go.Proofs.Ytkbhchlecokpiaa

/-! ## Take: limbs.take, giveBack by their contracts: they write a part of a row that the caller owns. -/
set_option linter.unusedVariables false
set_option linter.unusedSimpArgs false
namespace Tw
/-- what i digits from place j on count -/
def vr (U : List Nat) (j i : Nat) : Nat := val W ((U.drop j).take i)
theorem vr_zero (U : List Nat) (j : Nat) : vr U j 0 = 0 := by simp [vr, val]
theorem vr_step (U : List Nat) (j i : Nat) : vr U j (i + 1) = vr U j i + W ^ i * nth U (j + i) := by
  unfold vr; rw [val_take_step, nth_drop]
theorem vr_congr {U V : List Nat} {j i : Nat} (h : ∀ t, j ≤ t → t < j + i → nth U t = nth V t) : vr U j i = vr V j i := by
  induction i with
  | zero => rw [vr_zero, vr_zero]
  | succ i ih => rw [vr_step, vr_step, ih (fun t h1 h2 => h t h1 (by omega)), h (j + i) (by omega) (by omega)]
theorem vr_set {U : List Nat} {j i x : Nat} : vr (U.set (j + i) x) j i = vr U j i :=
  vr_congr fun t h1 h2 => nth_set_ne (by omega)
theorem vr_lt {U : List Nat} (h : Dig W U) (j i : Nat) : vr U j i < W ^ i := by
  unfold vr
  have h1 := val_lt ((h.drop j).take i)
  refine Nat.lt_of_lt_of_le h1 (Nat.pow_le_pow_right W_pos ?_)
  simp; omega
end Tw
namespace Go.Proofs.Ytkbhchlecokpiaa
open Go Go.RowKit Tw
set_option linter.unusedVariables false
set_option linter.unusedSimpArgs false

theorem take_step {U U' V : List Nat} {j i d c br : Nat} (hl : j + i < U'.length) (hx : nth U' (j + i) < W) (hbr : br ≤ 1) (hsame : nth U' (j + i) = nth U (j + i))
    (hv : vr U' j i + val W (V.take i) * d = vr U j i + W ^ i * (c + br)) (hlo : rowL (nth V i) d c < W) :
    vr (U'.set (j + i) (subS (nth U' (j + i)) (rowL (nth V i) d c) br)) j (i + 1) + val W (V.take (i + 1)) * d =
      vr U j (i + 1) + W ^ (i + 1) * (rowH (nth V i) d c + subB (nth U' (j + i)) (rowL (nth V i) d c) br) := by
  have e1 := row_eq1 (nth V i) d c
  have e2 := sub_eq hx hlo hbr
  rw [vr_step, vr_step, vr_set, nth_set_eq hl, val_take_step, Nat.pow_succ, Nat.add_mul, ← hsame]
  generalize subS (nth U' (j + i)) (rowL (nth V i) d c) br = s at *
  generalize subB (nth U' (j + i)) (rowL (nth V i) d c) br = b' at *
  generalize rowL (nth V i) d c = lo at *
  generalize rowH (nth V i) d c = hi at *
  generalize nth U' (j + i) = u at *
  generalize nth V i = x at *
  generalize W ^ i = p at *
  have e3 : p * s + p * x * d + p * (c + br) = p * u + p * W * (hi + b') := by
    rw [Nat.mul_assoc, Nat.mul_assoc, ← Nat.mul_add, ← Nat.mul_add, ← Nat.mul_add]
    congr 1
    rw [Nat.mul_add]; omega
  omega

/-- what a call has written: row g alone -/
abbrev OnlyG (g : Nat) (w w' : World) : Prop := w.grownBy w' (some g)

theorem only_refl (g : Nat) (w : World) : OnlyG g w w := ⟨rfl, rfl, rfl, Nat.le_refl _, fun _ _ _ => rfl⟩
theorem only_set {g : Nat} {w w' : World} (h : OnlyG g w w') (i : Nat) (u : Value) : OnlyG g w (w'.setCell ⟨g, i, none⟩ u) :=
  ⟨h.os, h.tape, h.output, by have := h.size; simp [World.setCell]; omega, fun k hk hne => by
    rw [Below.heap_setCell _ _ _ _ (by intro e; exact hne (by rw [e]))]; exact h.block k hk hne⟩
theorem only_drawn {g : Nat} {w w' : World} (h : OnlyG g w w') (n : Nat) : OnlyG g w (w'.drewN n) := ⟨h.os, h.tape, h.output, h.size, h.block⟩
theorem only_below {g B : Nat} {w w' : World} (h : OnlyG g w w') (hB : B ≤ g) (hs : g < w.heap.size) : Below B w w' :=
  ⟨h.os, h.tape, h.output, h.size, fun k hk => h.block k (by omega) (by intro e; simp at e; omega)⟩
theorem only_trans {g : Nat} {a b c : World} (h : OnlyG g a b) (k : OnlyG g b c) : OnlyG g a c :=
  ⟨k.os.trans h.os, k.tape.trans h.tape, k.output.trans h.output, Nat.le_trans h.size k.size, fun i hi hne => (k.block i (Nat.lt_of_lt_of_le hi h.size) hne).trans (h.block i hi hne)⟩
theorem only_cells {k : IntKind} {g b off : Nat} {w w' : World} {l : List Nat} (hc : CellsG k w b off l) (h : OnlyG g w w') (hb : b ≠ g) : CellsG k w' b off l := by
  intro i hi
  have hlt := hc.lt (by omega)
  rw [World.cell?_of_block (w := w) (h.block b hlt (by simp; exact hb))]
  exact hc i hi

set_option maxRecDepth 100000 in
set_option maxHeartbeats 1000000 in
theorem take_c (g N cap base j c b off c2 : Nat) (U V : List Nat) (d : Nat) (w : World)
    (hO : OwnW base w (.slice (some ⟨g, 0, none⟩) N cap) U) (hUN : U.length = N) (hN : N ≤ 60000) (hV : CellsG .u64 w b off V) (hVd : Dig W V) (hne : b ≠ g) (hj : j + V.length < N) (hd : d < W) :
    Calls Try.prog 164 #[.slice (some ⟨g, j, none⟩) (V.length + 1) c, .slice (some ⟨b, off, none⟩) V.length c2, .int .u64 d] w fun e w' =>
      ∃ (U' : List Nat) (br : Nat), e = .returned (.bool (decide (br ≠ 0))) ∧ OwnW base w' (.slice (some ⟨g, 0, none⟩) N cap) U' ∧ U'.length = N ∧ br ≤ 1 ∧
        vr U' j (V.length + 1) + val W V * d = vr U j (V.length + 1) + W ^ (V.length + 1) * br ∧ (∀ t, t < j ∨ j + V.length < t → nth U' t = nth U t) ∧ OnlyG g w w' := by
  have HO0 := Lib.hid hO; have HV := Lib.hid hV; have HU0 := Lib.hid hUN
  obtain ⟨n, hn⟩ : ∃ n, n = V.length := ⟨_, rfl⟩
  rw [← hn] at hj ⊢
  have HN := Lib.hid hn
  have HNE := Lib.hid hne
  clear hO hV hUN hn hne
  go_enter Try.func164, Try.ntmps164
  go_wp2_with fail
  go_loopg [7, 8, 16] n (fun k cv bv iv wr => ∃ (i cy br : Nat) (U' : List Nat), i ≤ n ∧ k = n - i ∧ iv = .int .i64 i ∧ cv = .int .u64 cy ∧ bv = .int .u64 br ∧ Hid (cy < W) ∧ br ≤ 1 ∧
    OwnW base wr (.slice (some ⟨g, 0, none⟩) N cap) U' ∧ U'.length = N ∧ Hid (vr U' j i + val W (V.take i) * d = vr U j i + W ^ i * (cy + br)) ∧ (∀ t, t < j ∨ j + i ≤ t → nth U' t = nth U t) ∧ OnlyG g w wr)
  case atStart => exact ⟨0, 0, 0, U, Nat.zero_le _, rfl, rfl, rfl, rfl, W_pos, Nat.zero_le _, HO0.out, HU0.out, by show _ = _; simp [vr_zero, val], fun _ _ => rfl, only_refl _ _⟩
  case round =>
    obtain ⟨i, cy, br, U', hi, hk, rfl, rfl, rfl, hcy, hbr, hown, hol, hv, hsm, honly⟩ := hrel
    have HK := Lib.hid hk; have HL := Lib.hid hol; have HO := Lib.hid hown; have HS := Lib.hid hsm; have HY := Lib.hid honly
    clear hk
    by_cases hlt : i < n
    · have hiV : i < V.length := by have := HN.out; omega
      have g1 : wr.cell? ⟨b, off + i, none⟩ = some (.int .u64 ((nth V i : Nat) : Int)) := only_cells HV.out honly HNE.out i hiV
      have x1 := nth_dig hVd hiV
      have x3 := nth_digW W_pos hown.dig (j + i)
      have hcell := (show OwnW base wr (.slice (some ⟨g, 0, none⟩) U'.length cap) U' by rw [hol]; exact hown).cell (i := j + i) (by omega)
      have hfree := hown.free hol.symm (j + i)
      have hlo : rowL (nth V i) d cy < W := addS_lt _ _ _
      have hfin := Lib.hid (take_step (U := U) (U' := U') (V := V) (j := j) (i := i) (d := d) (c := cy) (br := br) (by omega) x3 hbr (hsm _ (.inr (Nat.le_refl _))) hv.out hlo)
      have S1 := Lib.hid (rowH_lt x1 hd hcy.out)
      have S2 := Lib.hid (subB_le (nth U' (j + i)) (rowL (nth V i) d cy) br)
      have S3 := Lib.hid (subS_lt (nth U' (j + i)) (rowL (nth V i) d cy) br)
      have X1 := Lib.hid x1
      have hadd1 := add64_run0 (mulL (nth V i) d) cy
      have hw1 : IntKind.u64.wrap (((mulH (nth V i) d : Nat) : Int) + ((addC (mulL (nth V i) d) cy 0 : Nat) : Int)) = ((rowH (nth V i) d cy : Nat) : Int) := wrap_u64 S1.out
      have hf1 : addS (mulL (nth V i) d) cy 0 = rowL (nth V i) d cy := rfl
      have hsub := sub64_run (nth U' (j + i)) (rowL (nth V i) d cy) br hbr
      have HD := Lib.hid hd
      clear hol hown hsm honly hiV x1 x3 hlo
      go_wp2_with fail
      refine Calls.mono (mul64_c _ _ X1.out HD.out _) ?_; rintro e w' ⟨rfl, rfl⟩
      go_wp2_with fail
      go_roundg (n - (i + 1))
      case measure => have := HK.out; omega
      case rel =>
        refine ⟨i + 1, rowH (nth V i) d cy, subB (nth U' (j + i)) (rowL (nth V i) d cy) br, U'.set (j + i) (subS (nth U' (j + i)) (rowL (nth V i) d cy) br), by omega, rfl, by go_num, rfl, rfl, S1, S2.out, ?_, ?_, hfin, ?_, ?_⟩
        · exact HO.out.set HL.out.symm _ _ S3.out
        · simpa using HL.out
        · intro t ht; rw [nth_set_ne (by omega)]; exact HS.out t (by omega)
        · exact only_set HY.out _ _
    · obtain rfl : i = n := by omega
      have x3 := nth_digW W_pos hown.dig (j + i)
      have hcell := (show OwnW base wr (.slice (some ⟨g, 0, none⟩) U'.length cap) U' by rw [hol]; exact hown).cell (i := j + i) (by omega)
      have hfree := hown.free hol.symm (j + i)
      have hsub := sub64_run (nth U' (j + i)) cy br hbr
      have e2 := sub_eq x3 hcy.out hbr
      have hfin : Hid (vr (U'.set (j + i) (subS (nth U' (j + i)) cy br)) j (i + 1) + val W V * d = vr U j (i + 1) + W ^ (i + 1) * subB (nth U' (j + i)) cy br) := Lib.hid (by
        have h := hv.out
        rw [List.take_of_length_le (by have := HN.out; omega)] at h
        rw [vr_step, vr_step, vr_set, nth_set_eq (by omega), Nat.pow_succ, ← hsm (j + i) (.inr (Nat.le_refl _))]
        have e3 : W ^ i * subS (nth U' (j + i)) cy br + W ^ i * (cy + br) = W ^ i * nth U' (j + i) + W ^ i * W * subB (nth U' (j + i)) cy br := by
          rw [Nat.mul_assoc, ← Nat.mul_add, ← Nat.mul_add]
          congr 1; omega
        omega)
      have S2 := Lib.hid (subB_le (nth U' (j + i)) cy br)
      have S3 := Lib.hid (subS_lt (nth U' (j + i)) cy br)
      have hdec : (((subB (nth U' (j + i)) cy br : Nat) : Int) != 0) = decide (subB (nth U' (j + i)) cy br ≠ 0) := by
        rw [Bool.eq_iff_iff]; simp
      have HDEC := Lib.hid hdec
      clear hol hown hsm honly x3 e2 hdec hlt
      go_wp2_with fail
      go_ret
      refine ⟨U'.set (j + i) (subS (nth U' (j + i)) cy br), subB (nth U' (j + i)) cy br, ?_, ?_, ?_, S2.out, hfin.out, ?_, ?_⟩
      · exact ret_bool HDEC.out
      · exact HO.out.set HL.out.symm _ _ S3.out
      · simpa using HL.out
      · intro t ht; rw [nth_set_ne (by omega)]; exact HS.out t (by omega)
      · exact only_set HY.out _ _

end Go.Proofs.Ytkbhchlecokpiaa

/-! ## Give: limbs.giveBack by its contract. -/
set_option linter.unusedVariables false
set_option linter.unusedSimpArgs false
namespace Go.Proofs.Ytkbhchlecokpiaa
open Go Go.RowKit Tw
set_option linter.unusedVariables false
set_option linter.unusedSimpArgs false

theorem give_step {U U' V : List Nat} {j i c : Nat} (hl : j + i < U'.length) (hsame : nth U' (j + i) = nth U (j + i))
    (hv : vr U' j i + W ^ i * c = vr U j i + val W (V.take i)) :
    vr (U'.set (j + i) (addS (nth U' (j + i)) (nth V i) c)) j (i + 1) + W ^ (i + 1) * addC (nth U' (j + i)) (nth V i) c = vr U j (i + 1) + val W (V.take (i + 1)) := by
  have e := add_eq (nth U' (j + i)) (nth V i) c
  rw [vr_step, vr_step, vr_set, nth_set_eq hl, val_take_step, Nat.pow_succ, ← hsame]
  generalize addS (nth U' (j + i)) (nth V i) c = s at *
  generalize addC (nth U' (j + i)) (nth V i) c = b' at *
  generalize nth U' (j + i) = u at *
  generalize nth V i = x at *
  generalize W ^ i = p at *
  have e3 : p * s + p * W * b' = p * u + p * x + p * c := by
    rw [Nat.mul_assoc, ← Nat.mul_add, e, Nat.mul_add, Nat.mul_add]
  omega

set_option maxRecDepth 100000 in
set_option maxHeartbeats 1000000 in
theorem give_c (g N cap base j c b off c2 : Nat) (U V : List Nat) (w : World)
    (hO : OwnW base w (.slice (some ⟨g, 0, none⟩) N cap) U) (hUN : U.length = N) (hN : N ≤ 60000) (hV : CellsG .u64 w b off V) (hVd : Dig W V) (hne : b ≠ g) (hj : j + V.length < N) :
    Calls Try.prog 165 #[.slice (some ⟨g, j, none⟩) (V.length + 1) c, .slice (some ⟨b, off, none⟩) V.length c2] w fun e w' =>
      ∃ (U' : List Nat) (k : Nat), e = .returned (.tuple #[]) ∧ OwnW base w' (.slice (some ⟨g, 0, none⟩) N cap) U' ∧ U'.length = N ∧
        vr U' j (V.length + 1) + W ^ (V.length + 1) * k = vr U j (V.length + 1) + val W V ∧ (∀ t, t < j ∨ j + V.length < t → nth U' t = nth U t) ∧ OnlyG g w w' := by
  have HO0 := Lib.hid hO; have HV := Lib.hid hV; have HU0 := Lib.hid hUN
  obtain ⟨n, hn⟩ : ∃ n, n = V.length := ⟨_, rfl⟩
  rw [← hn] at hj ⊢
  have HN := Lib.hid hn
  have HNE := Lib.hid hne
  clear hO hV hUN hn hne
  go_enter Try.func165, Try.ntmps165
  go_wp2_with fail
  go_loopg [4, 9] n (fun k cv iv wr => ∃ (i cy : Nat) (U' : List Nat), i ≤ n ∧ k = n - i ∧ iv = .int .i64 i ∧ cv = .int .u64 cy ∧ cy ≤ 1 ∧
    OwnW base wr (.slice (some ⟨g, 0, none⟩) N cap) U' ∧ U'.length = N ∧ Hid (vr U' j i + W ^ i * cy = vr U j i + val W (V.take i)) ∧ (∀ t, t < j ∨ j + i ≤ t → nth U' t = nth U t) ∧ OnlyG g w wr)
  case atStart => exact ⟨0, 0, U, Nat.zero_le _, rfl, rfl, rfl, Nat.zero_le _, HO0.out, HU0.out, by show _ = _; simp [vr_zero, val], fun _ _ => rfl, only_refl _ _⟩
  case round =>
    obtain ⟨i, cy, U', hi, hk, rfl, rfl, hcy, hown, hol, hv, hsm, honly⟩ := hrel
    have HK := Lib.hid hk; have HL := Lib.hid hol; have HO := Lib.hid hown; have HS := Lib.hid hsm; have HY := Lib.hid honly
    clear hk
    by_cases hlt : i < n
    · have hiV : i < V.length := by have := HN.out; omega
      have g1 : wr.cell? ⟨b, off + i, none⟩ = some (.int .u64 ((nth V i : Nat) : Int)) := only_cells HV.out honly HNE.out i hiV
      have x1 := nth_dig hVd hiV
      have x3 := nth_digW W_pos hown.dig (j + i)
      have hcell := (show OwnW base wr (.slice (some ⟨g, 0, none⟩) U'.length cap) U' by rw [hol]; exact hown).cell (i := j + i) (by omega)
      have hfree := hown.free hol.symm (j + i)
      have hfin := Lib.hid (give_step (U := U) (U' := U') (V := V) (j := j) (i := i) (c := cy) (by omega) (hsm _ (.inr (Nat.le_refl _))) hv.out)
      have S2 := Lib.hid (addC_le x3 x1 hcy)
      have S3 := Lib.hid (addS_lt (nth U' (j + i)) (nth V i) cy)
      have hadd := add64_run (nth U' (j + i)) (nth V i) cy hcy
      clear hol hown hsm honly hiV x1 x3
      go_wp2_with fail
      go_roundg (n - (i + 1))
      case measure => have := HK.out; omega
      case rel =>
        refine ⟨i + 1, addC (nth U' (j + i)) (nth V i) cy, U'.set (j + i) (addS (nth U' (j + i)) (nth V i) cy), by omega, rfl, by go_num, rfl, S2.out, ?_, ?_, hfin, ?_, ?_⟩
        · exact HO.out.set HL.out.symm _ _ S3.out
        · simpa using HL.out
        · intro t ht; rw [nth_set_ne (by omega)]; exact HS.out t (by omega)
        · exact only_set HY.out _ _
    · obtain rfl : i = n := by omega
      have hcell := (show OwnW base wr (.slice (some ⟨g, 0, none⟩) U'.length cap) U' by rw [hol]; exact hown).cell (i := j + i) (by omega)
      have hfree := hown.free hol.symm (j + i)
      obtain ⟨s, hs⟩ : ∃ s, s = (nth U' (j + i) + cy) % W := ⟨_, rfl⟩
      have hw : IntKind.u64.wrap (((nth U' (j + i) : Nat) : Int) + (cy : Int)) = (s : Int) := by rw [IntKind.wrap_u64, hs]; unfold W; omega
      have hfin : Hid (vr (U'.set (j + i) s) j (i + 1) + W ^ (i + 1) * ((nth U' (j + i) + cy) / W) = vr U j (i + 1) + val W V) := Lib.hid (by
        have h := hv.out
        have e := Nat.mod_add_div (nth U' (j + i) + cy) W
        rw [← hs] at e
        rw [List.take_of_length_le (by have := HN.out; omega)] at h
        rw [vr_step, vr_step, vr_set, nth_set_eq (by omega), Nat.pow_succ, ← hsm (j + i) (.inr (Nat.le_refl _))]
        have e3 : W ^ i * s + W ^ i * W * ((nth U' (j + i) + cy) / W) = W ^ i * nth U' (j + i) + W ^ i * cy := by
          rw [Nat.mul_assoc, ← Nat.mul_add, e, Nat.mul_add]
        omega)
      have S3 : Hid (s < W) := Lib.hid (by rw [hs]; exact Nat.mod_lt _ W_pos)
      clear hol hown hsm honly hs hlt
      go_wp2_with fail
      go_end0
      refine ⟨U'.set (j + i) s, _, rfl, ?_, ?_, hfin.out, ?_, ?_⟩
      · exact HO.out.set HL.out.symm _ _ S3.out
      · simpa using HL.out
      · intro t ht; rw [nth_set_ne (by omega)]; exact HS.out t (by omega)
      · exact only_set HY.out _ _

end Go.Proofs.Ytkbhchlecokpiaa

/-! ## Shr: limbs.Shr by its contract: divided by a power of 2. -/
set_option linter.unusedVariables false
set_option linter.unusedSimpArgs false
namespace Go.Proofs.Ytkbhchlecokpiaa
open Go Go.RowKit Tw
set_option linter.unusedVariables false
set_option linter.unusedSimpArgs false

theorem W_powk (k : Nat) : W ^ k = 2 ^ (64 * k) := by rw [W_pow, ← Nat.pow_mul]

/-- the digit moved down -/
def dn (o : List Nat) (i r : Nat) : Nat := nth o i / 2 ^ r + upL (nth o (i + 1)) (64 - r)

theorem dn_lt {o : List Nat} {i r : Nat} (hd : Dig W o) (hr : r < 64) : nth o i / 2 ^ r < 2 ^ (64 - r) := by
  rw [Nat.div_lt_iff_lt_mul (Nat.two_pow_pos r), ← Nat.pow_add, show 64 - r + r = 64 by omega]
  exact nth_digW W_pos hd i

theorem shr_step {o o' : List Nat} {i r : Nat} (hi : i < o'.length) (hd : Dig W o) (hr : r < 64)
    (hv : 2 ^ r * (val W (o'.take i) + W ^ i * (nth o i / 2 ^ r)) + nth o 0 % 2 ^ r = val W (o.take (i + 1))) :
    2 ^ r * (val W ((o'.set i (dn o i r)).take (i + 1)) + W ^ (i + 1) * (nth o (i + 1) / 2 ^ r)) + nth o 0 % 2 ^ r = val W (o.take (i + 2)) := by
  have e := up_eq (nth o (i + 1)) (64 - r)
  have eh : upH (nth o (i + 1)) (64 - r) = nth o (i + 1) / 2 ^ r := by
    unfold upH
    rw [W_pow, show (2 : Nat) ^ 64 = 2 ^ r * 2 ^ (64 - r) by rw [← Nat.pow_add]; congr 1; omega, Nat.mul_div_mul_right _ _ (Nat.two_pow_pos _)]
  rw [eh] at e
  rw [val_take_step, nth_set_eq hi, List.take_set_of_le (Nat.le_refl i), val_take_step W o (i + 1), ← hv]
  unfold dn
  have hp : (2 : Nat) ^ r * 2 ^ (64 - r) = W := by rw [← Nat.pow_add, show r + (64 - r) = 64 by omega]; rfl
  generalize nth o i / 2 ^ r = f at *
  generalize nth o (i + 1) / 2 ^ r = f' at *
  generalize upL (nth o (i + 1)) (64 - r) = u at *
  generalize nth o (i + 1) = y at *
  generalize val W (o'.take i) = A at *
  have e1 : 2 ^ r * (A + W ^ i * (f + u) + W ^ (i + 1) * f') = 2 ^ r * (A + W ^ i * f) + W ^ i * (2 ^ r * (u + W * f')) := by
    rw [Nat.pow_succ, Nat.mul_add (W ^ i), Nat.mul_add (2 ^ r), Nat.mul_add (2 ^ r), Nat.mul_add (2 ^ r), Nat.mul_add (2 ^ r), Nat.mul_add (2 ^ r) u, Nat.mul_add (W ^ i)]
    rw [Nat.mul_left_comm (W ^ i) (2 ^ r) u, Nat.mul_left_comm (W ^ i) (2 ^ r) (W * f'), Nat.mul_assoc (W ^ i) W f']
    omega
  have e2 : W ^ i * (2 ^ r * (y * 2 ^ (64 - r))) = W ^ (i + 1) * y := by
    rw [Nat.mul_comm y, ← Nat.mul_assoc (2 ^ r), hp, Nat.pow_succ, Nat.mul_assoc]
  rw [e1, e, e2]
  omega

theorem shr_end {o o' : List Nat} {n r : Nat} (ho : o.length = n) (ho' : o'.length = n) (hr : 0 < 2 ^ r)
    (hv : 2 ^ r * (val W (o'.take n) + W ^ n * (nth o n / 2 ^ r)) + nth o 0 % 2 ^ r = val W (o.take (n + 1))) : val W o' = val W o / 2 ^ r := by
  rw [nth_ge (by omega : o.length ≤ n), List.take_of_length_le (by omega), List.take_of_length_le (by omega), Nat.zero_div, Nat.mul_zero, Nat.add_zero] at hv
  rw [← hv, Nat.add_comm, Nat.add_mul_div_left _ _ hr, Nat.div_eq_of_lt (Nat.mod_lt _ hr)]
  omega

theorem dn_bits {o : List Nat} {i r : Nat} (hd : Dig W o) (hr : r < 64) : bits .or .u64 ((nth o i / 2 ^ r : Nat) : Int) ((upL (nth o (i + 1)) (64 - r) : Nat) : Int) = ((dn o i r : Nat) : Int) := by
  have h1 := dn_lt (i := i) hd hr
  have h := @up_bits (nth o (i + 1)) (64 - r) (nth o i / 2 ^ r) (by omega) h1
  have h2 := upL_lt (nth o (i + 1)) (64 - r)
  have h3 := lt_W (by omega : 64 - r ≤ 64) h1
  unfold W at h2 h3
  rw [bits_or_u64_nat _ _ h2 h3] at h
  rw [bits_or_u64_nat _ _ h3 h2, Nat.or_comm, h]
  unfold dn; rw [Nat.add_comm]
theorem up_two (y r : Nat) (hr : r < 64) : IntKind.u64.wrap (IntKind.u64.wrap (((y : Nat) : Int) * 2) * 2 ^ (63 - r)) = ((upL y (64 - r) : Nat) : Int) := by
  have e : IntKind.u64.wrap (((y : Nat) : Int) * 2) = ((upL y 1 : Nat) : Int) := by have := up_wrap y 1; simpa using this
  rw [e, up_wrap]
  unfold upL
  rw [Nat.mod_mul_mod, Nat.pow_one, Nat.mul_assoc, show 64 - r = (63 - r) + 1 by omega, Nat.pow_succ, Nat.mul_comm 2]
theorem dn_ltW {o : List Nat} {i r : Nat} (hd : Dig W o) (hr : r < 64) : dn o i r < W := by
  have h := up_add_lt (x := nth o (i + 1)) (by omega : 64 - r ≤ 64) (dn_lt (i := i) hd hr)
  unfold dn; omega

set_option maxRecDepth 100000 in
set_option maxHeartbeats 1000000 in
theorem shr_c (v1 : Value) (l1 : List Nat) (s : Nat) (w : World) (h1 : Wd w v1 l1) (hs1 : l1.length ≤ 60000) (hs : s ≤ 9223372036854775807) :
    Calls Try.prog 166 #[v1, .int .i64 s] w fun e w' => ∃ v, e = .returned v ∧ OwnW w.heap.size w' v (digs W (val W l1 / 2 ^ s)) ∧ Below w.heap.size w w' := by
  have H1 := Lib.hid h1
  have hle1 := length_digs_val W_two h1.dig
  have E1 := Lib.hid (val_digs W_two (val W l1))
  have HS := Lib.hid hs
  clear h1 hs
  by_cases hs0 : s = 0
  · subst hs0
    go_enter Try.func166, Try.ntmps166
    go_wp2_with fail
    refine Calls.mono (trimmed_v _ _ _ H1.out) ?_; rintro e w' ⟨t1, rfl, g1, rfl⟩
    have G1 := Lib.hid g1; clear g1
    go_wp2_with fail
    refine Calls.mono (clone_v _ _ _ G1.out (by omega)) ?_; rintro e w' ⟨v2, rfl, h2, hb⟩
    have H2 := Lib.hid h2; have HB := Lib.hid hb; clear h2 hb
    go_wp2_with fail
    go_ret
    refine ⟨_, rfl, ?_, HB.out⟩
    simpa using H2.out
  · have hs0' : 0 < s := by omega
    have hs1' : (s : Int) ≤ 9223372036854775807 := by have := HS.out; omega
    obtain ⟨q, hq⟩ : ∃ q, q = s / 64 := ⟨_, rfl⟩
    have HQ := Lib.hid hq
    have hqs : ((s : Int) / 64) = (q : Int) := by omega
    clear hq hs0
    by_cases hqn : (digs W (val W l1)).length ≤ q
    · have HR := Lib.hid (show digs W (val W l1 / 2 ^ s) = [] by
        have h1 := lt_pow_length W_two (val W l1)
        have h2 : W ^ (digs W (val W l1)).length ≤ 2 ^ s := by
          rw [W_powk]; exact Nat.pow_le_pow_right (by omega) (by have := HQ.out; omega)
        rw [Nat.div_eq_of_lt (by omega), digs_zero])
      go_enter Try.func166, Try.ntmps166
      go_wp2_with fail
      refine Calls.mono (trimmed_v _ _ _ H1.out) ?_; rintro e w' ⟨t1, rfl, g1, rfl⟩
      obtain ⟨a1, c1, rfl, hx1⟩ := g1
      clear hx1
      go_wp2_with fail
      go_ret
      refine ⟨_, rfl, ?_, Below.refl _ _⟩
      rw [HR.out]; exact Own.nil _ _ _ _ _
    · have hqn' : q < (digs W (val W l1)).length := by omega
      clear hqn
      have hr64 : s % 64 < 64 := by omega
      go_enter Try.func166, Try.ntmps166
      go_wp2_with fail
      refine Calls.mono (trimmed_v _ _ _ H1.out) ?_; rintro e w' ⟨t1, rfl, g1, rfl⟩
      have G1 := Lib.hid g1; clear g1
      clear H1
      generalize digs W (val W l1) = d1 at *
      obtain ⟨a1, c1, rfl, hx1⟩ := G1
      have hc1 := hx1.1
      obtain ⟨b1, o1, rfl, hcl⟩ := hx1.2.2.2 (by intro e; rw [e] at hqn'; simp at hqn')
      have HCL := Lib.hid hcl; have HX1 := Lib.hid hx1
      clear hx1 hcl
      go_wp2_with fail
      have hls := HX1.out.drop HCL.out q
      obtain ⟨o, ho⟩ : ∃ o, o = d1.drop q := ⟨_, rfl⟩
      rw [← ho] at hls
      have HOD := Lib.hid ho
      have hol : d1.length - q = o.length := by rw [ho]; simp
      clear ho
      refine Calls.mono (clone_n _ _ _ o _ hol hls (by omega)) ?_; rintro e w1 ⟨v, rfl, hown, hbel⟩
      have HBE := Lib.hid hbel
      have hpos : 0 < o.length := by omega
      rcases hown.shape with ⟨rfl, h0⟩ | ⟨g, cap, rfl, hg1, hg2, hg3, hg4⟩
      · rw [h0] at hpos; simp at hpos
      have HOW := Lib.hid hown
      obtain ⟨n, hn⟩ : ∃ n, n = o.length := ⟨_, rfl⟩
      rw [← hn] at hpos hol ⊢
      have HN := Lib.hid hn; have HOL := Lib.hid hol
      have hlen : d1.length = q + n := by omega
      have HLEN := Lib.hid hlen
      have hlenle : d1.length ≤ q + n := by omega
      have hlenge : q + n ≤ d1.length := by omega
      have hgw : w.heap.size ≤ g := hg1
      have HDO := Lib.hid hown.dig
      clear hls hn hol hown hbel hg1 hg2 hg3 hg4 hlen
      go_wp2_with fail
      go_loopg [26] n (fun k iv wr => ∃ (i : Nat) (o' : List Nat), i ≤ n ∧ k = n - i ∧ iv = .int .i64 i ∧ OwnW w.heap.size wr (.slice (some ⟨g, 0, none⟩) n cap) o' ∧ o'.length = n ∧
        Hid (2 ^ (s % 64) * (val W (o'.take i) + W ^ i * (nth o i / 2 ^ (s % 64))) + nth o 0 % 2 ^ (s % 64) = val W (o.take (i + 1))) ∧ Below w.heap.size w wr ∧ (∀ t, i ≤ t → nth o' t = nth o t))
      case atStart =>
        refine ⟨0, o, Nat.zero_le _, rfl, rfl, by rw [HN.out]; exact HOW.out, HN.out.symm, ?_, HBE.out, fun _ _ => rfl⟩
        show _ = _
        rw [val_take_step]; simp [val]; exact Nat.div_add_mod _ _
      case round =>
        obtain ⟨i, o', hi, hk, rfl, hown, hol, hv, hbel, hsm⟩ := hrel
        have HK := Lib.hid hk; have HL := Lib.hid hol; have HO := Lib.hid hown; have HB := Lib.hid hbel; have HS := Lib.hid hsm
        clear hk
        by_cases hlt : i < n
        · have hcell := (show OwnW w.heap.size wr (.slice (some ⟨g, 0, none⟩) o'.length cap) o' by rw [hol]; exact hown).cell (i := i) (by omega)
          rw [hsm i (Nat.le_refl _)] at hcell
          have hfree := hown.free hol.symm i
          obtain ⟨f, hf⟩ : ∃ f, f = nth o i / 2 ^ (s % 64) := ⟨_, rfl⟩
          have hfe : ((nth o i : Nat) : Int) / 2 ^ (s % 64) = (f : Int) := by rw [hf]; simp
          have HF := Lib.hid hf
          by_cases hk2 : q + i + 1 < d1.length
          · obtain ⟨y, hy⟩ : ∃ y, y = nth o (i + 1) := ⟨_, rfl⟩
            have g2 : wr.cell? ⟨b1, o1 + (q + i + 1), none⟩ = some (.int .u64 ((y : Nat) : Int)) := by
              rw [hy, HOD.out, nth_drop, show q + (i + 1) = q + i + 1 by omega]
              exact HCL.out.below (HCL.out.lt (by omega)) hbel _ hk2
            have hb1g : b1 < g := Nat.lt_of_lt_of_le (HCL.out.lt (by omega)) hgw
            have HY := Lib.hid hy
            clear hf hy hol hown hbel hsm
            go_wp2_with fail
            rw [hfe]
            go_region
            have hX : bits .or .u64 (f : Int) (IntKind.u64.wrap (IntKind.u64.wrap (((y : Nat) : Int) * 2) * 2 ^ (63 - s % 64))) = ((dn o i (s % 64) : Nat) : Int) := by
              rw [up_two y _ hr64, HF.out, HY.out]; exact dn_bits HDO.out hr64
            rw [hX]
            clear hX hcell hfree hfe g2
            go_wp2_with fail
            go_roundg (n - (i + 1))
            case measure => have := HK.out; omega
            case rel =>
              refine ⟨i + 1, o'.set i (dn o i (s % 64)), by omega, rfl, by go_num, ?_, ?_, ?_, ?_, ?_⟩
              · have h1 := HO.out.set HL.out.symm i f (by rw [HF.out]; exact lt_W (by omega) (dn_lt HDO.out hr64))
                have h2 := h1.set (by simpa using HL.out.symm) i (dn o i (s % 64)) (dn_ltW HDO.out hr64)
                rw [List.set_set] at h2
                exact h2.drew
              · simpa using HL.out
              · exact shr_step (by rw [HL.out]; exact hlt) HDO.out hr64 hv.out
              · exact ((HB.out.setCell hgw _).setCell hgw _).drew
              · intro t ht; rw [nth_set_ne (by omega)]; exact HS.out t (by omega)
          · have hdz : Hid (f = dn o i (s % 64)) := Lib.hid (by
              have hz : nth o (i + 1) = 0 := nth_ge (by have := HN.out; omega)
              rw [hf]; unfold dn; rw [hz]; simp [upL])
            clear hf hol hown hbel hsm
            go_wp2_with fail
            go_roundg (n - (i + 1))
            case measure => have := HK.out; omega
            case rel =>
              (try rw [hfe]); rw [hdz.out]
              refine ⟨i + 1, o'.set i (dn o i (s % 64)), by omega, rfl, by go_num, ?_, ?_, ?_, ?_, ?_⟩
              · exact HO.out.set HL.out.symm i _ (dn_ltW HDO.out hr64)
              · simpa using HL.out
              · exact shr_step (by rw [HL.out]; exact hlt) HDO.out hr64 hv.out
              · exact HB.out.setCell hgw _
              · intro t ht; rw [nth_set_ne (by omega)]; exact HS.out t (by omega)
        · obtain rfl : i = n := by omega
          have hfin : Hid (val W o' = val W l1 / 2 ^ s) := Lib.hid (by
            rw [shr_end HN.out.symm HL.out (Nat.two_pow_pos _) hv.out, HOD.out]
            have hsp := val_split W d1 q (by have := HLEN.out; omega)
            have hlt' := val_lt ((HX1.out.2.2.1).take q)
            rw [List.length_take, Nat.min_eq_left (by have := HLEN.out; omega)] at hlt'
            have hq : val W (d1.drop q) = val W l1 / W ^ q := by
              rw [← E1.out, hsp, Nat.add_mul_div_left _ _ (Nat.pow_pos W_pos), Nat.div_eq_of_lt hlt']; omega
            rw [hq, Nat.div_div_eq_div_mul, W_powk, ← Nat.pow_add]
            congr 2; have := HQ.out; omega)
          clear hol hown hbel hsm hv hlt
          go_wp2_with fail
          refine Calls.mono (trimmed_n _ i cap o' _ HL.out.symm HO.out.lsS) ?_; rintro e w'' ⟨rfl, rfl⟩
          go_wp2_with fail
          go_ret
          refine ⟨_, rfl, ?_, HB.out⟩
          rw [← hfin.out]
          exact HO.out.trim W_two HL.out.symm

end Go.Proofs.Ytkbhchlecokpiaa
