/- Fractions, in plain Lean: how they lie in data, how long they are. No program in sight. -/
import Derived.Test.YtkbhchlecokpiaaFwL2
set_option linter.unusedVariables false
set_option linter.unusedSimpArgs false
namespace Go.Proofs.Ytkbhchlecokpiaa
open Go Go.RowKit Fw Tw Rat
set_option linter.unusedVariables false
set_option linter.unusedSimpArgs false
theorem sign_cs (z : Int) : (signZ z = -1 ∧ z < 0) ∨ (signZ z = 0 ∧ z = 0) ∨ (signZ z = 1 ∧ 0 < z) := by
  unfold signZ
  split
  · exact .inl ⟨rfl, by assumption⟩
  · split
    · exact .inr (.inr ⟨rfl, by assumption⟩)
    · exact .inr (.inl ⟨rfl, by omega⟩)
/-- a fraction's data, in its one form -/
def mQ (q : Rat) : M := .agg [.bool (decide (q.num < 0)), mN q.num.natAbs, .bool false, mN (if q.den = 1 then 0 else q.den)]
/-- what words count as that a fraction is divided by -/
def denI (b : Bool) (l : List Nat) : Int := if l = [] then 1 else sg b (Tw.val W l)
/-- data that counts as a fraction, of k words at most above and below -/
def IsQ (m : M) (q : Rat) (k : Nat) : Prop := ∃ b1 l1 b2 l2, m = .agg [.bool b1, mW l1, .bool b2, mW l2] ∧ Dig W l1 ∧ Dig W l2 ∧ l1.length ≤ k ∧ l2.length ≤ k ∧ 1 ≤ k ∧ q = (sg b1 (Tw.val W l1) : Int) /. denI b2 l2
/-- a fraction of k words at most -/
structure Sq (q : Rat) (k : Nat) : Prop where
  n : q.num.natAbs < W ^ k
  d : q.den < W ^ k
  p : 1 ≤ k
theorem one_lt_W {k : Nat} (h : 1 ≤ k) : 1 < W ^ k := by
  have h1 : W ^ 1 ≤ W ^ k := Nat.pow_le_pow_right W_pos h
  rw [Nat.pow_one] at h1
  exact Nat.lt_of_lt_of_le (by unfold W; omega) h1
theorem div_bound {n d : Int} {B : Nat} (hn : n.natAbs < B) (hd : d.natAbs < B) (h1 : 1 < B) : (n /. d).num.natAbs < B ∧ (n /. d).den < B := by
  rw [Rat.num_divInt, Rat.den_divInt]
  constructor
  · by_cases h : d = 0
    · subst h; simp; omega
    · refine Nat.lt_of_le_of_lt (Int.natAbs_ediv_le_natAbs _ _) ?_
      rw [Int.natAbs_mul, Int.natAbs_sign_of_ne_zero h, Nat.one_mul]
      exact hn
  · split
    · exact h1
    · exact Nat.lt_of_le_of_lt (Nat.div_le_self _ _) hd
theorem Sq.div {n d : Int} {k : Nat} (hn : n.natAbs < W ^ k) (hd : d.natAbs < W ^ k) (hk : 1 ≤ k) : Sq (n /. d) k := by
  obtain ⟨h1, h2⟩ := div_bound hn hd (one_lt_W hk)
  exact ⟨h1, h2, hk⟩
theorem Sq.mono {q : Rat} {j k : Nat} (h : Sq q j) (hk : j ≤ k) : Sq q k :=
  have e : W ^ j ≤ W ^ k := Nat.pow_le_pow_right W_pos hk
  ⟨Nat.lt_of_lt_of_le h.n e, Nat.lt_of_lt_of_le h.d e, Nat.le_trans h.p hk⟩
theorem denI_sz {b : Bool} {l : List Nat} {k : Nat} (hd : Dig W l) (hl : l.length ≤ k) (hk : 1 ≤ k) : (denI b l).natAbs < W ^ k := by
  unfold denI
  split
  · exact one_lt_W hk
  · rw [sg_abs]; exact Nat.lt_of_lt_of_le (val_lt hd) (Nat.pow_le_pow_right W_pos hl)
theorem IsQ.sq {m : M} {q : Rat} {k : Nat} (h : IsQ m q k) : Sq q k := by
  obtain ⟨b1, l1, b2, l2, rfl, h1, h2, h3, h4, h5, rfl⟩ := h
  exact Sq.div (by rw [sg_abs]; exact Nat.lt_of_lt_of_le (val_lt h1) (Nat.pow_le_pow_right W_pos h3)) (denI_sz h2 h4 h5) h5
theorem Sq.isQ {q : Rat} {k : Nat} (h : Sq q k) : IsQ (mQ q) q k := by
  refine ⟨decide (q.num < 0), digs W q.num.natAbs, false, digs W (if q.den = 1 then 0 else q.den), rfl, dig_digs W_two _, dig_digs W_two _, length_digs_le W_two h.n, ?_, h.p, ?_⟩
  · split
    · rw [digs_zero]; simp
    · exact length_digs_le W_two h.d
  · rw [val_digs W_two, ← sg_dec]
    unfold denI
    by_cases h1 : q.den = 1
    · rw [if_pos h1, digs_zero, if_pos rfl]
      have := Rat.num_divInt_den q
      rw [h1] at this
      exact this.symm
    · rw [if_neg h1, if_neg, val_digs W_two]
      · exact (Rat.num_divInt_den q).symm
      · intro h0
        have := congrArg (Tw.val W) h0
        rw [val_digs W_two] at this
        exact absurd this q.den_nz
theorem Sq.add {a b : Rat} {j k : Nat} (ha : Sq a j) (hb : Sq b k) : Sq (a + b) (j + k + 1) := by
  have e : a + b = (a.num * b.den + b.num * a.den) /. ((a.den * b.den : Nat) : Int) := by rw [Rat.add_def', Rat.divInt_ofNat]
  rw [e]
  have h1 : a.num.natAbs * b.den < W ^ (j + k) := by rw [Nat.pow_add]; exact Nat.mul_lt_mul'' ha.n hb.d
  have h2 : b.num.natAbs * a.den < W ^ (j + k) := by rw [Nat.pow_add, Nat.mul_comm]; exact Nat.mul_lt_mul'' ha.d hb.n
  have h3 : a.den * b.den < W ^ (j + k) := by rw [Nat.pow_add]; exact Nat.mul_lt_mul'' ha.d hb.d
  have h4 : W ^ (j + k + 1) = W ^ (j + k) * W := Nat.pow_succ ..
  have h5 : W ^ (j + k) * 2 ≤ W ^ (j + k) * W := Nat.mul_le_mul_left _ (by unfold W; omega)
  have h6 : (a.num * b.den).natAbs = a.num.natAbs * b.den := by rw [Int.natAbs_mul]; rfl
  have h7 : (b.num * a.den).natAbs = b.num.natAbs * a.den := by rw [Int.natAbs_mul]; rfl
  refine Sq.div ?_ ?_ (by have := ha.p; omega)
  · have := Int.natAbs_add_le (a.num * b.den) (b.num * a.den)
    omega
  · show a.den * b.den < _
    omega
theorem Sq.neg {a : Rat} {j : Nat} (ha : Sq a j) : Sq (-a) j := ⟨by rw [Rat.neg_num, Int.natAbs_neg]; exact ha.n, by rw [Rat.neg_den]; exact ha.d, ha.p⟩
theorem Sq.sub {a b : Rat} {j k : Nat} (ha : Sq a j) (hb : Sq b k) : Sq (a - b) (j + k + 1) := by rw [Rat.sub_eq_add_neg]; exact ha.add hb.neg
theorem Sq.mul {a b : Rat} {j k : Nat} (ha : Sq a j) (hb : Sq b k) : Sq (a * b) (j + k) := by
  have e : a * b = (a.num * b.num) /. ((a.den * b.den : Nat) : Int) := by rw [Rat.mul_def', Rat.divInt_ofNat]
  rw [e]
  refine Sq.div ?_ ?_ (by have := ha.p; omega)
  · rw [Int.natAbs_mul, Nat.pow_add]; exact Nat.mul_lt_mul'' ha.n hb.n
  · show a.den * b.den < _
    rw [Nat.pow_add]; exact Nat.mul_lt_mul'' ha.d hb.d
theorem Sq.inv {a : Rat} {j : Nat} (ha : Sq a j) : Sq a⁻¹ j := by
  rw [Rat.inv_def]
  exact Sq.div ha.d ha.n ha.p
theorem Sq.quo {a b : Rat} {j k : Nat} (ha : Sq a j) (hb : Sq b k) : Sq (a / b) (j + k) := by rw [Rat.div_def]; exact ha.mul hb.inv
theorem Sq.int {z : Int} {k : Nat} (h : z.natAbs < W ^ k) (hk : 1 ≤ k) : Sq (z : Rat) k := ⟨by rw [Rat.num_intCast]; exact h, by rw [Rat.den_intCast]; exact one_lt_W hk, hk⟩
theorem Sq.of {n d : Int} (hn : n.natAbs < W) (hd : d.natAbs < W) : Sq (n /. d) 1 := Sq.div (by rwa [Nat.pow_one]) (by rwa [Nat.pow_one]) (Nat.le_refl _)
theorem Sq.floor {a : Rat} {j : Nat} (ha : Sq a j) : a.floor.natAbs < W ^ j := by
  rw [Rat.floor_def]
  exact Nat.lt_of_le_of_lt (Int.natAbs_ediv_le_natAbs _ _) ha.n
theorem Sq.ceil {a : Rat} {j : Nat} (ha : Sq a j) : a.ceil.natAbs < W ^ j := by
  rw [Rat.ceil_eq_neg_floor_neg, Int.natAbs_neg]
  exact ha.neg.floor
def signQ (q : Rat) : Int := signZ q.num
def cmpQ (a b : Rat) : Int := signQ (a - b)
def absQ (a : Rat) : Rat := if a < 0 then -a else a
def maxQ (a b : Rat) : Rat := if a < b then b else a
def minQ (a b : Rat) : Rat := if b < a then b else a
theorem Sq.abs {a : Rat} {j : Nat} (ha : Sq a j) : Sq (absQ a) j := by
  unfold absQ; split
  · exact ha.neg
  · exact ha
theorem Sq.max {a b : Rat} {j k : Nat} (ha : Sq a j) (hb : Sq b k) : Sq (maxQ a b) (j + k) := by
  unfold maxQ; split
  · exact hb.mono (by omega)
  · exact ha.mono (by omega)
theorem Sq.min {a b : Rat} {j k : Nat} (ha : Sq a j) (hb : Sq b k) : Sq (minQ a b) (j + k) := by
  unfold minQ; split
  · exact hb.mono (by omega)
  · exact ha.mono (by omega)
theorem signQ_lt {q : Rat} : signQ q < 0 ↔ q < 0 := by
  unfold signQ signZ
  have h := (@Rat.num_nonneg q)
  rw [← Rat.not_le, ← h]
  split <;> (try split) <;> omega
theorem signQ_pos {q : Rat} : 0 < signQ q ↔ 0 < q := by
  unfold signQ signZ
  have h : 0 < q ↔ 0 < q.num := by
    have e1 := (@Rat.num_nonneg (-q))
    rw [Rat.neg_num] at e1
    have e2 : 0 ≤ -q ↔ q ≤ 0 := by constructor <;> intro h <;> grind
    rw [← Rat.not_le, ← e2, ← e1]
    omega
  rw [h]
  split <;> (try split) <;> omega
theorem signQ_zero {q : Rat} : signQ q = 0 ↔ q = 0 := by
  unfold signQ signZ
  rw [← Rat.num_eq_zero]
  split <;> (try split) <;> omega
theorem signQ_cases (q : Rat) : (signQ q = -1 ∧ q < 0) ∨ (signQ q = 0 ∧ q = 0) ∨ (signQ q = 1 ∧ 0 < q) := by
  have h1 := @signQ_lt q
  have h2 := @signQ_pos q
  have h3 := @signQ_zero q
  have h4 : signQ q = -1 ∨ signQ q = 0 ∨ signQ q = 1 := by unfold signQ signZ; split <;> (try split) <;> omega
  rcases h4 with h | h | h
  · exact .inl ⟨h, h1.1 (by omega)⟩
  · exact .inr (.inl ⟨h, h3.1 h⟩)
  · exact .inr (.inr ⟨h, h2.1 (by omega)⟩)
/-- the sign of what is divided, times that of what it is divided by -/
theorem sign_divInt (n d : Int) : signQ (n /. d) = signZ n * signZ d := by
  unfold signQ
  rw [Rat.num_divInt]
  by_cases hd : d = 0
  · subst hd; simp [signZ]
  have hg : 0 < ((Int.gcd d n : Nat) : Int) := by
    have := Int.gcd_pos_of_ne_zero_left n hd
    omega
  have hdv : ((Int.gcd d n : Nat) : Int) ∣ d.sign * n := Int.dvd_mul_of_dvd_right (Int.gcd_dvd_right ..)
  obtain ⟨c, hc⟩ := hdv
  rw [hc, Int.mul_ediv_cancel_left _ (by omega)]
  generalize ((Int.gcd d n : Nat) : Int) = g at *
  have key : signZ c = signZ (g * c) := by
    rcases Int.lt_trichotomy c 0 with h | h | h
    · have := Int.mul_neg_of_pos_of_neg hg h
      unfold signZ
      rw [if_pos h, if_pos this]
    · subst h; simp
    · have := Int.mul_pos hg h
      unfold signZ
      rw [if_neg (by omega), if_pos h, if_neg (by omega), if_pos this]
  rw [key, ← hc]
  have h1 : d < 0 ∨ 0 < d := by omega
  rcases h1 with h1 | h1
  · rw [Int.sign_eq_neg_one_of_neg h1]
    unfold signZ
    rw [if_pos h1]
    split <;> (try split) <;> (try split) <;> (try split) <;> omega
  · rw [Int.sign_eq_one_of_pos h1, Int.one_mul]
    unfold signZ
    rw [if_neg (show ¬ d < 0 by omega), if_pos h1, Int.mul_one]
end Go.Proofs.Ytkbhchlecokpiaa
