/- Whole numbers: package whole by its contracts, as the logic over data has them. -/
import Derived.Test.YtkbhchlecokpiaaFwW
set_option linter.unusedVariables false
set_option linter.unusedSimpArgs false
namespace Tw
open Go Go.RowKit Fw
set_option linter.unusedVariables false
set_option linter.unusedSimpArgs false

/-- a whole number of a sign and a size -/
def sg (neg : Bool) (X : Nat) : Int := if neg then -(X : Int) else (X : Int)
/-- .. as data, in its one form -/
def mI (z : Int) : M := .agg [.bool (decide (z < 0)), mN z.natAbs]
/-- data that counts as a whole number, of k words at most -/
def IsZ (m : M) (z : Int) (k : Nat) : Prop := ∃ neg l, m = .agg [.bool neg, mW l] ∧ Dig W l ∧ l.length ≤ k ∧ z = sg neg (val W l)

theorem sg_abs (b : Bool) (X : Nat) : (sg b X).natAbs = X := by unfold sg; split <;> omega
theorem sg_dec (z : Int) : z = sg (decide (z < 0)) z.natAbs := by
  unfold sg
  by_cases h : z < 0
  · rw [decide_eq_true h, if_pos rfl]; omega
  · rw [decide_eq_false h, if_neg (by decide)]; omega
theorem IsZ.sz {m : M} {z : Int} {k : Nat} (h : IsZ m z k) : z.natAbs < W ^ k := by
  obtain ⟨b, l, rfl, h1, h2, rfl⟩ := h
  rw [sg_abs]
  exact Nat.lt_of_lt_of_le (val_lt h1) (Nat.pow_le_pow_right W_pos h2)
theorem IsZ.mono {m : M} {z : Int} {k k' : Nat} (h : IsZ m z k) (hk : k ≤ k') : IsZ m z k' := by
  obtain ⟨b, l, h0, h1, h2, h3⟩ := h
  exact ⟨b, l, h0, h1, by omega, h3⟩
theorem isZ_mI {z : Int} {k : Nat} (h : z.natAbs < W ^ k) : IsZ (mI z) z k :=
  ⟨decide (z < 0), digs W z.natAbs, rfl, dig_digs W_two _, length_digs_le W_two h, by rw [val_digs W_two]; exact sg_dec z⟩
theorem mI_sg (b : Bool) (X : Nat) : mI (sg b X) = .agg [.bool (b && decide (0 < (digs W X).length)), mN X] := by
  unfold mI
  rw [sg_abs]
  congr 3
  unfold sg
  rcases Nat.eq_zero_or_pos X with h | h
  · subst h; cases b <;> simp [digs_zero]
  · have : 0 < (digs W X).length := by
      rcases Nat.eq_zero_or_pos (digs W X).length with h1 | h1
      · rw [length_digs_zero W_two] at h1; omega
      · exact h1
    cases b <;> simp [this] <;> omega
theorem sz_add {a b : Int} {j k n : Nat} (ha : a.natAbs < W ^ j) (hb : b.natAbs < W ^ k) (hj : j < n) (hk : k < n) : (a + b).natAbs < W ^ n := by
  have h1 : W ^ j ≤ W ^ (n - 1) := Nat.pow_le_pow_right W_pos (by omega)
  have h2 : W ^ k ≤ W ^ (n - 1) := Nat.pow_le_pow_right W_pos (by omega)
  have h3 : W ^ n = W ^ (n - 1) * W := by rw [← Nat.pow_succ]; congr 1; omega
  have h4 : W ^ (n - 1) * 2 ≤ W ^ (n - 1) * W := Nat.mul_le_mul_left _ W_two
  omega
theorem sz_mul {a b : Int} {j k : Nat} (ha : a.natAbs < W ^ j) (hb : b.natAbs < W ^ k) : (a * b).natAbs < W ^ (j + k) := by
  rw [Int.natAbs_mul, Nat.pow_add]
  exact Nat.mul_lt_mul'' ha hb
theorem sz_mono {a : Int} {j k : Nat} (ha : a.natAbs < W ^ j) (h : j ≤ k) : a.natAbs < W ^ k := Nat.lt_of_lt_of_le ha (Nat.pow_le_pow_right W_pos h)
def signZ (z : Int) : Int := if z < 0 then -1 else if 0 < z then 1 else 0
theorem bits_zero {X : Nat} : (bitsN X : Int) = 0 ↔ X = 0 := by
  unfold bitsN
  by_cases h : X = 0
  · simp [h]
  · simp [h]; omega
end Tw
namespace Go.Proofs.Ytkbhchlecokpiaa
open Go Go.RowKit Fw Tw
set_option linter.unusedVariables false
set_option linter.unusedSimpArgs false

theorem made_r {neg : Bool} {l : List Nat} (hd : Dig W l) (hl : l.length ≤ 60000) : Ret Try.prog 109 [.bool neg, mW l] (mI (sg neg (val W l))) := by
  cases neg
  all_goals
    refine ret_of (L := L) lay_ok Try.func109 rfl Try.ntmps109 rfl ?_
    refine go ?_
    refine cl (by exact rfl) plain131 rfl (trim_r hd hl) ?_
    refine go ?_
    refine ⟨_, rfl, ?_⟩
    rw [mI_sg]
    simp [tupM]

theorem norm_r {m : M} {z : Int} {k : Nat} (h : IsZ m z k) (hk : k ≤ 60000) : Ret Try.prog 156 [m] (mI z) := by
  obtain ⟨b, l, rfl, hd, hl, rfl⟩ := h
  refine ret_of (L := L) lay_ok Try.func156 rfl Try.ntmps156 rfl ?_
  refine go ?_
  refine cl (by exact rfl) plain109 rfl (made_r hd (by omega)) ?_
  refine go ?_
  refine ⟨_, rfl, ?_⟩
  rfl
theorem neg_r {m : M} {z : Int} {k : Nat} (h : IsZ m z k) (hk : k ≤ 60000) : Ret Try.prog 83 [m] (mI (-z)) := by
  obtain ⟨b, l, rfl, hd, hl, rfl⟩ := h
  refine ret_of (L := L) lay_ok Try.func83 rfl Try.ntmps83 rfl ?_
  refine go ?_
  refine cl (by exact rfl) plain109 rfl (made_r hd (by omega)) ?_
  refine go ?_
  refine ⟨_, rfl, ?_⟩
  have : -sg b (val W l) = sg (!b) (val W l) := by cases b <;> simp [sg]
  rw [this]; rfl
theorem sign_r {m : M} {z : Int} {k : Nat} (h : IsZ m z k) (hk : k ≤ 60000) : Ret Try.prog 79 [m] (.int .i64 (signZ z)) := by
  obtain ⟨b, l, rfl, hd, hl, rfl⟩ := h
  refine ret_of (L := L) lay_ok Try.func79 rfl Try.ntmps79 rfl ?_
  refine go ?_
  refine cl (by exact rfl) plain110 rfl (bits_r hd (by omega)) ?_
  refine go ?_
  refine awp_cond rfl (fun hb => ?_) (fun hb => ?_)
  · refine go ?_
    refine ⟨_, rfl, ?_⟩
    have : val W l = 0 := by rw [← bits_zero]; simpa using hb
    simp [tupM, signZ, sg, this]
  · have : val W l ≠ 0 := fun h => by rw [← bits_zero] at h; simp [h] at hb
    cases b
    all_goals
      refine go ?_
      refine ⟨_, rfl, ?_⟩
      simp [tupM, signZ, sg]
      omega
theorem cmp1_r {m : M} {z : Int} {k : Nat} (h : IsZ m z k) (hk : k ≤ 60000) : Ret Try.prog 136 [m] (.int .i64 (signZ z)) := by
  have hs := sign_r h hk
  obtain ⟨b, l, rfl, hd, hl, rfl⟩ := h
  refine ret_of (L := L) lay_ok Try.func136 rfl Try.ntmps136 rfl ?_
  refine go ?_
  refine cl (by exact rfl) plain79 rfl hs ?_
  refine go ?_
  refine ⟨_, rfl, ?_⟩
  rfl
def cmpZ (a b : Int) : Int := if a < b then -1 else if b < a then 1 else 0
theorem cmp_negs {b1 b2 : Bool} {X1 X2 : Nat} (h : signZ (sg b1 X1) = signZ (sg b2 X2)) (h2 : signZ (sg b1 X1) < 0) : cmpN X2 X1 = cmpZ (sg b1 X1) (sg b2 X2) := by
  have e1 := sg_abs b1 X1
  have e2 := sg_abs b2 X2
  generalize sg b1 X1 = z1 at *
  generalize sg b2 X2 = z2 at *
  unfold signZ at h h2
  unfold cmpN cmpZ
  have g1 : z1 < 0 := by split at h2 <;> first | assumption | (split at h2 <;> omega)
  rw [if_pos g1] at h
  have g2 : z2 < 0 := by split at h <;> first | assumption | (split at h <;> omega)
  split <;> split <;> first | rfl | omega | (split <;> first | rfl | omega | (split <;> first | rfl | omega))
theorem cmp_poss {b1 b2 : Bool} {X1 X2 : Nat} (h : signZ (sg b1 X1) = signZ (sg b2 X2)) (h2 : ¬ signZ (sg b1 X1) < 0) : cmpN X1 X2 = cmpZ (sg b1 X1) (sg b2 X2) := by
  have e1 := sg_abs b1 X1
  have e2 := sg_abs b2 X2
  generalize sg b1 X1 = z1 at *
  generalize sg b2 X2 = z2 at *
  have g1 : ¬ z1 < 0 := by
    intro hh
    unfold signZ at h2
    rw [if_pos hh] at h2; omega
  have g2 : ¬ z2 < 0 := by
    intro hh
    unfold signZ at h
    rw [if_neg g1, if_pos hh] at h
    split at h <;> omega
  unfold cmpN cmpZ
  split <;> split <;> first | rfl | omega | (split <;> first | rfl | omega | (split <;> first | rfl | omega))
theorem zcmp_r {m1 m2 : M} {z1 z2 : Int} {k1 k2 : Nat} (h1 : IsZ m1 z1 k1) (h2 : IsZ m2 z2 k2) (hk1 : k1 ≤ 60000) (hk2 : k2 ≤ 60000) : Ret Try.prog 102 [m1, m2] (.int .i64 (cmpZ z1 z2)) := by
  have s1 := cmp1_r h1 hk1
  have s2 := cmp1_r h2 hk2
  obtain ⟨b1, l1, rfl, hd1, hl1, rfl⟩ := h1
  obtain ⟨b2, l2, rfl, hd2, hl2, rfl⟩ := h2
  refine ret_of (L := L) lay_ok Try.func102 rfl Try.ntmps102 rfl ?_
  refine go ?_
  refine cl (by exact rfl) plain136 rfl s1 ?_
  refine go ?_
  refine cl (by exact rfl) plain136 rfl s2 ?_
  refine go ?_
  refine awp_cond rfl (fun hb => ?_) (fun hb => ?_)
  · refine go ?_
    refine cl (by exact rfl) plain136 rfl s1 ?_
    refine go ?_
    refine cl (by exact rfl) plain136 rfl s2 ?_
    refine go ?_
    refine awp_cond rfl (fun hb2 => ?_) (fun hb2 => ?_)
    · refine go ?_
      refine ⟨_, rfl, ?_⟩
      simp only [tupM, cmpZ]
      congr 1
      simp only [decide_eq_true_eq] at hb2
      unfold signZ at hb2
      split <;> split at hb2 <;> split at hb2 <;> omega
    · refine go ?_
      refine ⟨_, rfl, ?_⟩
      simp only [tupM, cmpZ]
      congr 1
      simp only [decide_eq_false_iff_not, bne_iff_ne, ne_eq] at hb2 hb
      unfold signZ at hb2 hb
      split <;> split at hb2 <;> split at hb2 <;> omega
  · refine go ?_
    refine cl (by exact rfl) plain136 rfl s1 ?_
    refine go ?_
    refine awp_cond rfl (fun hb2 => ?_) (fun hb2 => ?_)
    · refine go ?_
      refine cl (by exact rfl) plain113 rfl (cmp_r hd2 hd1) ?_
      refine go ?_
      refine ⟨_, rfl, ?_⟩
      simp only [tupM]
      congr 1
      simp only [decide_eq_true_eq, bne_eq_false_iff_eq] at hb2 hb
      exact cmp_negs hb hb2
    · refine go ?_
      refine cl (by exact rfl) plain113 rfl (cmp_r hd1 hd2) ?_
      refine go ?_
      refine ⟨_, rfl, ?_⟩
      simp only [tupM]
      congr 1
      simp only [decide_eq_false_iff_not, bne_eq_false_iff_eq] at hb2 hb
      exact cmp_poss hb hb2

theorem zmul_r {m1 m2 : M} {z1 z2 : Int} {k1 k2 : Nat} (h1 : IsZ m1 z1 k1) (h2 : IsZ m2 z2 k2) (hk1 : k1 ≤ 30000) (hk2 : k2 ≤ 30000) : Ret Try.prog 111 [m1, m2] (mI (z1 * z2)) := by
  have hz := sz_mul h1.sz h2.sz
  obtain ⟨b1, l1, rfl, hd1, hl1, rfl⟩ := h1
  obtain ⟨b2, l2, rfl, hd2, hl2, rfl⟩ := h2
  rw [Int.natAbs_mul, sg_abs, sg_abs] at hz
  refine ret_of (L := L) lay_ok Try.func111 rfl Try.ntmps111 rfl ?_
  refine go ?_
  refine cl (by exact rfl) plain141 rfl (mul_r hd1 hd2 (by omega) (by omega)) ?_
  refine go ?_
  refine cl (by exact rfl) plain109 rfl (made_r (dig_digs W_two _) (Nat.le_trans (length_digs_le W_two hz) (by omega))) ?_
  refine go ?_
  refine ⟨_, rfl, ?_⟩
  rw [val_digs W_two]
  have : sg b1 (val W l1) * sg b2 (val W l2) = sg (!(b1 == b2)) (val W l1 * val W l2) := by
    cases b1 <;> cases b2 <;> simp [sg, Int.neg_mul, Int.mul_neg]
  rw [this]; rfl
theorem len_le {X k : Nat} (h : X < W ^ k) {n : Nat} (hk : k ≤ n) : (digs W X).length ≤ n := Nat.le_trans (length_digs_le W_two h) hk
theorem zadd_r {m1 m2 : M} {z1 z2 : Int} {k1 k2 : Nat} (h1 : IsZ m1 z1 k1) (h2 : IsZ m2 z2 k2) (hk1 : k1 ≤ 29999) (hk2 : k2 ≤ 29999) : Ret Try.prog 82 [m1, m2] (mI (z1 + z2)) := by
  have q1 := h1.sz
  have q2 := h2.sz
  have hz : z1.natAbs + z2.natAbs < W ^ (k1 + k2 + 1) := by
    have := sz_add (a := (z1.natAbs : Int)) (b := (z2.natAbs : Int)) (n := k1 + k2 + 1) (by simpa using q1) (by simpa using q2) (by omega) (by omega)
    omega
  obtain ⟨b1, l1, rfl, hd1, hl1, rfl⟩ := h1
  obtain ⟨b2, l2, rfl, hd2, hl2, rfl⟩ := h2
  rw [sg_abs, sg_abs] at hz
  refine ret_of (L := L) lay_ok Try.func82 rfl Try.ntmps82 rfl ?_
  refine go ?_
  refine awp_cond rfl (fun hb => ?_) (fun hb => ?_)
  · refine go ?_
    refine cl (by exact rfl) plain112 rfl (add_r hd1 hd2 (by omega) (by omega)) ?_
    refine go ?_
    refine cl (by exact rfl) plain109 rfl (made_r (dig_digs W_two _) (len_le hz (by omega))) ?_
    refine go ?_
    refine ⟨_, rfl, ?_⟩
    rw [val_digs W_two]
    have : sg b1 (val W l1) + sg b2 (val W l2) = sg b1 (val W l1 + val W l2) := by
      simp only [beq_iff_eq] at hb; subst hb
      cases b1 <;> simp [sg] <;> omega
    rw [this]; rfl
  · refine go ?_
    refine cl (by exact rfl) plain113 rfl (cmp_r hd1 hd2) ?_
    refine go ?_
    refine awp_cond rfl (fun hb2 => ?_) (fun hb2 => ?_)
    · refine go ?_
      refine cl (by exact rfl) plain114 rfl (sub_r hd2 hd1 (by omega) (by omega)) ?_
      refine go ?_
      refine cl (by exact rfl) plain109 rfl (made_r (dig_digs W_two _) (len_le (k := k1 + k2 + 1) (by omega) (by omega))) ?_
      refine go ?_
      refine ⟨_, rfl, ?_⟩
      rw [val_digs W_two]
      have : sg b1 (val W l1) + sg b2 (val W l2) = sg b2 (val W l2 - val W l1) := by
        simp only [decide_eq_true_eq] at hb2
        unfold cmpN at hb2
        have : val W l1 < val W l2 := by split at hb2 <;> first | assumption | (split at hb2 <;> omega)
        cases b1 <;> cases b2 <;> simp [sg] at hb ⊢ <;> omega
      rw [this]; rfl
    · refine go ?_
      refine cl (by exact rfl) plain114 rfl (sub_r hd1 hd2 (by omega) (by omega)) ?_
      refine go ?_
      refine cl (by exact rfl) plain109 rfl (made_r (dig_digs W_two _) (len_le (k := k1 + k2 + 1) (by omega) (by omega))) ?_
      refine go ?_
      refine ⟨_, rfl, ?_⟩
      rw [val_digs W_two]
      have : sg b1 (val W l1) + sg b2 (val W l2) = sg b1 (val W l1 - val W l2) := by
        simp only [decide_eq_false_iff_not] at hb2
        unfold cmpN at hb2
        have : ¬ val W l1 < val W l2 := by intro hh; rw [if_pos hh] at hb2; omega
        cases b1 <;> cases b2 <;> simp [sg] at hb ⊢ <;> omega
      rw [this]; rfl
theorem zgcd_r {m1 m2 : M} {z1 z2 : Int} {k1 k2 : Nat} (h1 : IsZ m1 z1 k1) (h2 : IsZ m2 z2 k2) (hk1 : k1 ≤ 20000) (hk2 : k2 ≤ 20000) : Ret Try.prog 100 [m1, m2] (mI ((Int.gcd z1 z2 : Nat) : Int)) := by
  have q1 := h1.sz
  have q2 := h2.sz
  have hz : Nat.gcd z1.natAbs z2.natAbs < W ^ (k1 + k2) := by
    have e1 : W ^ k1 ≤ W ^ (k1 + k2) := Nat.pow_le_pow_right W_pos (by omega)
    have e2 : W ^ k2 ≤ W ^ (k1 + k2) := Nat.pow_le_pow_right W_pos (by omega)
    rcases Nat.eq_zero_or_pos z1.natAbs with h | h
    · rw [h, Nat.gcd_zero_left]; omega
    · exact Nat.lt_of_le_of_lt (Nat.gcd_le_left _ h) (by omega)
  obtain ⟨b1, l1, rfl, hd1, hl1, rfl⟩ := h1
  obtain ⟨b2, l2, rfl, hd2, hl2, rfl⟩ := h2
  rw [sg_abs, sg_abs] at hz
  refine ret_of (L := L) lay_ok Try.func100 rfl Try.ntmps100 rfl ?_
  refine go ?_
  refine cl (by exact rfl) plain134 rfl (gcd_r hd1 hd2 (by omega) (by omega)) ?_
  refine go ?_
  refine cl (by exact rfl) plain109 rfl (made_r (dig_digs W_two _) (len_le hz (by omega))) ?_
  refine go ?_
  refine ⟨_, rfl, ?_⟩
  rw [val_digs W_two]
  have : ((Int.gcd (sg b1 (val W l1)) (sg b2 (val W l2)) : Nat) : Int) = sg false (Nat.gcd (val W l1) (val W l2)) := by
    unfold Int.gcd; rw [sg_abs, sg_abs]; rfl
  rw [this]; rfl

def modZ (a b : Int) : Int := if b = 0 then 0 else a % b
theorem W_powl {X k : Nat} (h : X < W ^ k) : X + 1 < W ^ (k + 1) := by
  rw [Nat.pow_succ]
  have h1 : 0 < W ^ k := Nat.pow_pos W_pos
  have := Nat.mul_le_mul_left (W ^ k) W_two
  omega
theorem val_one (x : Nat) : Tw.val W [x] = x := by simp [Tw.val]
theorem ediv_core {a : Int} {b2 : Bool} {Y : Nat} (hY : Y ≠ 0) {q r : Int} (h : r + (Y : Int) * q = a) (h0 : 0 ≤ r) (h1 : r < Y) : a / sg b2 Y = (if b2 then -q else q) ∧ modZ a (sg b2 Y) = r := by
  have hu := (Int.ediv_emod_unique (a := a) (b := (Y : Int)) (r := r) (q := q) (by omega)).2 ⟨h, h0, h1⟩
  cases b2
  · refine ⟨hu.1, ?_⟩
    unfold modZ
    rw [if_neg (by simp [sg]; omega)]
    exact hu.2
  · refine ⟨?_, ?_⟩
    · show a / (-(Y : Int)) = -q
      rw [Int.ediv_neg, hu.1]
    · unfold modZ
      rw [if_neg (by simp [sg]; omega)]
      show a % (-(Y : Int)) = r
      rw [Int.emod_neg, hu.2]
theorem ediv_plain {b1 b2 : Bool} {X Y : Nat} (h : Y = 0 ∨ b1 = false ∨ remN X Y = 0) : sg b1 X / sg b2 Y = sg (b1 != b2) (X / Y) ∧ modZ (sg b1 X) (sg b2 Y) = sg false (remN X Y) := by
  by_cases hY : Y = 0
  · subst hY
    cases b1 <;> cases b2 <;> simp [sg, modZ, remN]
  · have hr : remN X Y = X % Y := if_neg hY
    have hd := Nat.mod_add_div X Y
    have hm := Nat.mod_lt X (Nat.pos_of_ne_zero hY)
    have hd' : ((X % Y : Nat) : Int) + (Y : Int) * ((X / Y : Nat) : Int) = X := by rw [← Int.natCast_mul]; omega
    cases b1
    · obtain ⟨e1, e2⟩ := ediv_core (a := sg false X) (b2 := b2) hY (q := ((X / Y : Nat) : Int)) (r := ((X % Y : Nat) : Int)) (by rw [hd']; rfl) (by omega) (by omega)
      rw [e1, e2, hr]
      cases b2 <;> simp [sg]
    · have h0 : X % Y = 0 := by
        rcases h with h | h | h
        · exact absurd h hY
        · cases h
        · rw [← hr]; exact h
      obtain ⟨e1, e2⟩ := ediv_core (a := sg true X) (b2 := b2) hY (q := -((X / Y : Nat) : Int)) (r := 0) (by
        rw [h0] at hd'
        show 0 + (Y : Int) * -((X / Y : Nat) : Int) = -(X : Int)
        rw [Int.mul_neg]; omega) (by omega) (by omega)
      rw [e1, e2, hr, h0]
      cases b2 <;> simp [sg]
theorem ediv_other {b2 : Bool} {X Y : Nat} (h : remN X Y ≠ 0) (hY : Y ≠ 0) : sg true X / sg b2 Y = sg (!b2) (X / Y + 1) ∧ modZ (sg true X) (sg b2 Y) = sg false (Y - remN X Y) := by
  have hr : remN X Y = X % Y := if_neg hY
  have hd := Nat.mod_add_div X Y
  have hm := Nat.mod_lt X (Nat.pos_of_ne_zero hY)
  have hd' : ((X % Y : Nat) : Int) + (Y : Int) * ((X / Y : Nat) : Int) = X := by rw [← Int.natCast_mul]; omega
  rw [hr] at h
  obtain ⟨e1, e2⟩ := ediv_core (a := sg true X) (b2 := b2) hY (q := -((X / Y : Nat) : Int) - 1) (r := (Y : Int) - ((X % Y : Nat) : Int)) (by
    show (Y : Int) - ((X % Y : Nat) : Int) + (Y : Int) * (-((X / Y : Nat) : Int) - 1) = -(X : Int)
    rw [Int.mul_sub, Int.mul_neg]; omega) (by omega) (by omega)
  rw [e1, e2, hr]
  cases b2 <;> simp [sg] <;> omega
theorem zdivmod_r {m1 m2 : M} {z1 z2 : Int} {k1 k2 : Nat} (h1 : IsZ m1 z1 k1) (h2 : IsZ m2 z2 k2) (hk1 : k1 ≤ 20000) (hk2 : k2 ≤ 20000) : Ret Try.prog 135 [m1, m2] (.tup [mI (z1 / z2), mI (modZ z1 z2)]) := by
  have q1 := h1.sz
  have q2 := h2.sz
  have hs := sign_r h2 (by omega)
  obtain ⟨b1, l1, rfl, hd1, hl1, rfl⟩ := h1
  obtain ⟨b2, l2, rfl, hd2, hl2, rfl⟩ := h2
  rw [sg_abs] at q1 q2
  have hq : val W l1 / val W l2 < W ^ k1 := Nat.lt_of_le_of_lt (Nat.div_le_self _ _) q1
  have hr : remN (val W l1) (val W l2) < W ^ k2 := by
    unfold remN
    split
    · exact Nat.pow_pos W_pos
    · exact Nat.lt_trans (Nat.mod_lt _ (by omega)) q2
  have hr2 : val W l2 ≠ 0 → remN (val W l1) (val W l2) = val W l1 % val W l2 := fun h => if_neg h
  have lenr : (digs W (remN (val W l1) (val W l2))).length = 0 ↔ remN (val W l1) (val W l2) = 0 := length_digs_zero W_two
  -- both ends
  have plain : (val W l2 = 0 ∨ b1 = false ∨ remN (val W l1) (val W l2) = 0) → M.tup [mI (sg (b1 != b2) (val W l1 / val W l2)), mI (sg false (remN (val W l1) (val W l2)))] = .tup [mI (sg b1 (val W l1) / sg b2 (val W l2)), mI (modZ (sg b1 (val W l1)) (sg b2 (val W l2)))] := by
    intro hc
    obtain ⟨e1, e2⟩ := ediv_plain hc
    rw [e1, e2]
  have other : b1 = true → remN (val W l1) (val W l2) ≠ 0 → val W l2 ≠ 0 → M.tup [mI (sg (!b2) (val W l1 / val W l2 + 1)), mI (sg false (val W l2 - remN (val W l1) (val W l2)))] = .tup [mI (sg b1 (val W l1) / sg b2 (val W l2)), mI (modZ (sg b1 (val W l1)) (sg b2 (val W l2)))] := by
    intro hb1 h3 h4
    subst hb1
    obtain ⟨e1, e2⟩ := ediv_other (b2 := b2) h3 h4
    rw [e1, e2]
  by_cases hz2 : val W l2 = 0
  · have hsz : signZ (sg b2 (val W l2)) = 0 := by rw [hz2]; cases b2 <;> rfl
    rw [hsz] at hs
    have hp := plain (.inl hz2)
    clear plain other
    refine ret_of (L := L) lay_ok Try.func135 rfl Try.ntmps135 rfl ?_
    refine go ?_
    refine cl (by exact rfl) plain132 rfl (divmod_r hd1 hd2 (by omega) (by omega)) ?_
    refine go ?_
    refine cl (by exact rfl) plain79 rfl hs ?_
    refine go ?_
    refine cl (by exact rfl) plain109 rfl (made_r (dig_digs W_two _) (len_le hq (by omega))) ?_
    refine go ?_
    refine cl (by exact rfl) plain109 rfl (made_r (dig_digs W_two _) (len_le hr (by omega))) ?_
    refine go ?_
    refine ⟨_, rfl, ?_⟩
    rw [val_digs W_two, val_digs W_two]
    rw [← hp]
    cases b1 <;> cases b2 <;> rfl
  · have hsz : (signZ (sg b2 (val W l2)) == 0) = false := by
      rw [beq_eq_false_iff_ne]; unfold signZ sg; cases b2 <;> simp <;> omega
    generalize signZ (sg b2 (val W l2)) = sz2 at *
    cases b1
    · have hp := plain (.inr (.inl rfl))
      clear plain other
      refine ret_of (L := L) lay_ok Try.func135 rfl Try.ntmps135 rfl ?_
      refine go ?_
      refine cl (by exact rfl) plain132 rfl (divmod_r hd1 hd2 (by omega) (by omega)) ?_
      refine go ?_
      refine cl (by exact rfl) plain79 rfl hs ?_
      refine gos ?_
      refine ar_eq 19 rfl (d' := .im (.bool false)) (by rw [hsz]) ?_
      refine go ?_
      refine cl (by exact rfl) plain109 rfl (made_r (dig_digs W_two _) (len_le hq (by omega))) ?_
      refine go ?_
      refine cl (by exact rfl) plain109 rfl (made_r (dig_digs W_two _) (len_le hr (by omega))) ?_
      refine go ?_
      refine ⟨_, rfl, ?_⟩
      rw [val_digs W_two, val_digs W_two]
      rw [← hp]
      cases b2 <;> rfl
    · refine ret_of (L := L) lay_ok Try.func135 rfl Try.ntmps135 rfl ?_
      refine go ?_
      refine cl (by exact rfl) plain132 rfl (divmod_r hd1 hd2 (by omega) (by omega)) ?_
      refine go ?_
      refine cl (by exact rfl) plain79 rfl hs ?_
      refine gos ?_
      refine ar_eq 19 rfl (d' := .im (.bool false)) (by rw [hsz]) ?_
      refine go ?_
      refine awp_cond rfl (fun hb => ?_) (fun hb => ?_)
      · have hr0 : remN (val W l1) (val W l2) = 0 := by rw [← lenr]; simp at hb; simp [hb]
        refine go ?_
        refine cl (by exact rfl) plain109 rfl (made_r (dig_digs W_two _) (len_le hq (by omega))) ?_
        refine go ?_
        refine cl (by exact rfl) plain109 rfl (made_r (dig_digs W_two _) (len_le hr (by omega))) ?_
        refine go ?_
        refine ⟨_, rfl, ?_⟩
        rw [val_digs W_two, val_digs W_two]
        rw [← plain (.inr (.inr hr0))]
        cases b2 <;> rfl
      · have hr0 : remN (val W l1) (val W l2) ≠ 0 := by intro h0; rw [← lenr] at h0; simp [h0] at hb
        refine go ?_
        refine clz (by exact rfl) plain112 rfl (add_r (l2 := [1]) (dig_digs W_two _) (Dig.one (by unfold W; omega)) (len_le hq (by omega)) (by simp)) ?_
        refine go ?_
        refine cl (by exact rfl) plain109 rfl (made_r (dig_digs W_two _) (len_le (k := k1 + 1) (by rw [val_digs W_two]; have := W_powl hq; rw [val_one]; omega) (by omega))) ?_
        refine go ?_
        refine cl (by exact rfl) plain114 rfl (sub_r hd2 (dig_digs W_two _) (by omega) (len_le hr (by omega))) ?_
        refine go ?_
        refine cl (by exact rfl) plain109 rfl (made_r (dig_digs W_two _) (len_le (k := k2) (by omega) (by omega))) ?_
        refine go ?_
        refine ⟨_, rfl, ?_⟩
        rw [val_digs W_two, val_digs W_two, val_digs W_two, val_digs W_two]
        rw [← other rfl hr0 hz2]
        rw [val_one]
        cases b2 <;> rfl
def mInt64 (n : Int) : M := .int .i64 n
theorem of_r {n : Int} (h1 : -9223372036854775808 ≤ n) (h2 : n ≤ 9223372036854775807) : Ret Try.prog 78 [.int .i64 n] (mI n) := by
  have hw1 : IntKind.u64.wrap n = if n < 0 then n + 18446744073709551616 else n := by rw [IntKind.wrap_u64]; split <;> omega
  have hw2 : n < 0 → IntKind.u64.wrap (0 - (n + 18446744073709551616)) = (n.natAbs : Int) := by intro h; rw [IntKind.wrap_u64]; omega
  have hd : Dig W [n.natAbs] := Dig.one (by unfold W; omega)
  refine ret_of (L := L) lay_ok Try.func78 rfl Try.ntmps78 rfl ?_
  refine go ?_
  refine awp_cond rfl (fun hb => ?_) (fun hb => ?_)
  · simp only [decide_eq_true_eq] at hb
    rw [if_pos hb] at hw1
    iterate 5 refine go1 ?_
    refine ar_eq 7 rfl (d' := .im (.int .u64 (n.natAbs : Int))) (by rw [hw1, hw2 hb]) ?_
    refine go ?_
    refine clz (by exact rfl) plain109 rfl (made_r (l := [n.natAbs]) hd (by simp)) ?_
    refine go ?_
    refine ⟨_, rfl, ?_⟩
    have : sg true n.natAbs = n := by simp [sg]; omega
    rw [val_one, this]; rfl
  · simp only [decide_eq_false_iff_not] at hb
    rw [if_neg hb] at hw1
    iterate 5 refine go1 ?_
    refine ar_eq 11 rfl (d' := .im (.int .u64 (n.natAbs : Int))) (by rw [hw1]; congr 2; omega) ?_
    refine go ?_
    refine clz (by exact rfl) plain109 rfl (made_r (l := [n.natAbs]) hd (by simp)) ?_
    refine go ?_
    refine ⟨_, rfl, ?_⟩
    have : sg false n.natAbs = n := by simp [sg]; omega
    rw [val_one, this]; rfl

end Go.Proofs.Ytkbhchlecokpiaa
