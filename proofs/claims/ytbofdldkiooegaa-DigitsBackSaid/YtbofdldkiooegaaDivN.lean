/- Plain law: the next digit of a quotient, estimated by the two digits on top (Knuth), and what is taken away by it. No program in sight. -/
import Derived.Test.YtbofdldkiooegaaNum
namespace Tw
set_option linter.unusedVariables false
set_option linter.unusedSimpArgs false

theorem W_eq : W = 4294967296 * 4294967296 := rfl

theorem est_le {b U q r v1 v0 u0 : Nat} (h : U = q * v1 + r) (hle : q * v0 ≤ b * r + u0) : q * (v1 * b + v0) ≤ U * b + u0 := by
  subst h
  rw [Nat.mul_add, Nat.add_mul, Nat.mul_assoc, Nat.mul_comm r b]
  omega
theorem est_gt {b U q r v1 v0 u0 : Nat} (h : U = q * v1 + r) (hlt : b * r + u0 < q * v0) : U * b + u0 < q * (v1 * b + v0) := by
  subst h
  rw [Nat.mul_add, Nat.add_mul, Nat.mul_assoc, Nat.mul_comm r b]
  omega
theorem le_quot {q V X : Nat} (hV : 0 < V) (h : q * V ≤ X) : q ≤ X / V := (Nat.le_div_iff_mul_le hV).2 h
theorem quot_lt {q V X : Nat} (hV : 0 < V) (h : X < q * V) : X / V < q := (Nat.div_lt_iff_lt_mul hV).2 h

theorem est_init {b U v1 v0 u0 : Nat} (hb : 0 < b) (hu : u0 < b) (hv : 0 < v1) : (U * b + u0) / (v1 * b + v0) ≤ U / v1 := by
  have hV : 0 < v1 * b + v0 := by have := Nat.mul_pos hv hb; omega
  refine le_quot hv ?_
  have h1 := Nat.div_mul_le_self (U * b + u0) (v1 * b + v0)
  generalize (U * b + u0) / (v1 * b + v0) = q at *
  have h2 : q * v1 * b ≤ U * b + u0 := by
    have : q * v1 * b ≤ q * (v1 * b + v0) := by rw [Nat.mul_add, Nat.mul_assoc]; omega
    omega
  have h3 : q * v1 * b < (U + 1) * b := by rw [Nat.add_mul, Nat.one_mul]; omega
  have := Nat.lt_of_mul_lt_mul_right h3
  omega

/-- one step of the 32-bit estimate: the last guess is not too small -/
theorem est_stop {b U q r v1 v0 u0 : Nat} (hb : 0 < b) (hv : 0 < v1) (h : U = q * v1 + r) (hq : (U * b + u0) / (v1 * b + v0) ≤ q) (hle : q * v0 ≤ b * r + u0) :
    q = (U * b + u0) / (v1 * b + v0) := by
  have hV : 0 < v1 * b + v0 := by have := Nat.mul_pos hv hb; omega
  exact Nat.le_antisymm (le_quot hV (est_le h hle)) hq
theorem est_more {b U q r v1 v0 u0 : Nat} (hb : 0 < b) (hv : 0 < v1) (h : U = q * v1 + r) (hlt : b * r + u0 < q * v0) :
    (U * b + u0) / (v1 * b + v0) ≤ q - 1 := by
  have hV : 0 < v1 * b + v0 := by have := Nat.mul_pos hv hb; omega
  have := quot_lt hV (est_gt h hlt)
  omega
theorem est_big {b U q v1 v0 u0 : Nat} (hb : 0 < b) (hu : u0 < b) (hU : U < v1 * b + v0) (hq : b ≤ q) : (U * b + u0) / (v1 * b + v0) ≤ q - 1 := by
  have hV : 0 < v1 * b + v0 := by omega
  have h1 : U * b + u0 < b * (v1 * b + v0) := by
    have h2 : (U + 1) * b ≤ (v1 * b + v0) * b := Nat.mul_le_mul_right b hU
    rw [Nat.mul_comm b]
    rw [Nat.add_mul, Nat.one_mul] at h2
    omega
  have := quot_lt hV h1
  omega
theorem est_lt {b U v1 v0 u0 : Nat} (hb : 0 < b) (hu : u0 < b) (hU : U < v1 * b + v0) : (U * b + u0) / (v1 * b + v0) < b := by
  have := est_big (q := b) hb hu hU (Nat.le_refl b)
  omega

/-- the next digit by three digits over two -/
def guessN (u2 u1 u0 b1 b0 : Nat) : Nat := min (W - 1) (((u2 * W + u1) * W + u0) / (b1 * W + b0))

/-- U below W times V, by their digits on top: the guess is the quotient's digit or one more -/
theorem guess_ge {P u' ul v' vl : Nat} (hul : ul < P) (hvl : vl < P) (hv : 0 < v') (hU : u' * P + ul < W * (v' * P + vl)) :
    (u' * P + ul) / (v' * P + vl) ≤ min (W - 1) (u' / v') := by
  have hP : 0 < P := by omega
  have hV : 0 < v' * P + vl := by have := Nat.mul_pos hv hP; omega
  have h1 := quot_lt hV hU
  have h2 := Nat.div_mul_le_self (u' * P + ul) (v' * P + vl)
  generalize (u' * P + ul) / (v' * P + vl) = q at *
  have h3 : q * v' * P < (u' + 1) * P := by
    have : q * v' * P ≤ q * (v' * P + vl) := by rw [Nat.mul_add, Nat.mul_assoc]; omega
    rw [Nat.add_mul, Nat.one_mul]; omega
  have h4 := Nat.lt_of_mul_lt_mul_right h3
  have h5 : q ≤ u' / v' := le_quot hv (by omega)
  omega

theorem guess_le {P u' ul v' vl : Nat} (hul : ul < P) (hvl : vl < P) (hv : W ≤ v') : min (W - 1) (u' / v') ≤ (u' * P + ul) / (v' * P + vl) + 1 := by
  have hP : 0 < P := by omega
  have hv0 : 0 < v' := by have := W_pos; omega
  have hV : 0 < v' * P + vl := by have := Nat.mul_pos hv0 hP; omega
  have hg : min (W - 1) (u' / v') ≤ u' / v' := Nat.min_le_right _ _
  have hw : min (W - 1) (u' / v') ≤ W - 1 := Nat.min_le_left _ _
  have hd := Nat.div_mul_le_self u' v'
  generalize min (W - 1) (u' / v') = g at *
  rcases Nat.eq_zero_or_pos g with h0 | h0
  · rw [h0]; exact Nat.zero_le _
  · obtain ⟨k, rfl⟩ : ∃ k, g = k + 1 := ⟨g - 1, by omega⟩
    have h1 : (k + 1) * v' ≤ u' := Nat.le_trans (Nat.mul_le_mul_right _ hg) hd
    have h2 : k * (v' * P + vl) ≤ u' * P + ul := by
      have e1 : k * vl ≤ k * P := Nat.mul_le_mul_left _ (by omega)
      have e2 : k * P ≤ v' * P := Nat.mul_le_mul_right _ (by omega)
      have e3 : (k + 1) * v' * P ≤ u' * P := Nat.mul_le_mul_right _ h1
      rw [Nat.mul_add, ← Nat.mul_assoc]
      rw [Nat.add_mul, Nat.one_mul, Nat.add_mul] at e3
      omega
    have := le_quot hV h2
    omega

theorem norm_bounds {y bl s : Nat} (h1 : 1 ≤ bl) (h2 : 2 ^ (bl - 1) ≤ y) (h3 : y < 2 ^ bl) (h4 : bl ≤ 64) (hs : s = 64 - bl) : y * 2 ^ s < W ∧ 9223372036854775808 ≤ y * 2 ^ s := by
  subst hs
  constructor
  · have : y * 2 ^ (64 - bl) < 2 ^ bl * 2 ^ (64 - bl) := Nat.mul_lt_mul_of_pos_right h3 (Nat.two_pow_pos _)
    rw [← Nat.pow_add, show bl + (64 - bl) = 64 by omega] at this
    exact this
  · have : 2 ^ (bl - 1) * 2 ^ (64 - bl) ≤ y * 2 ^ (64 - bl) := Nat.mul_le_mul_right _ h2
    rw [← Nat.pow_add, show bl - 1 + (64 - bl) = 63 by omega] at this
    exact this

theorem two_steps {b V A l0 : Nat} (hb : 0 < b) (hV : 0 < V) : (A * b + l0) / V = A / V * b + (A % V * b + l0) / V ∧ (A * b + l0) % V = (A % V * b + l0) % V := by
  have e : A * b + l0 = V * (A / V * b) + (A % V * b + l0) := by
    have := Nat.div_add_mod A V
    have h2 : A * b = (V * (A / V) + A % V) * b := by rw [this]
    rw [h2, Nat.add_mul, Nat.mul_assoc]; omega
  constructor
  · rw [e, Nat.add_comm (V * _), Nat.add_mul_div_left _ _ hV]; omega
  · rw [e, Nat.add_comm (V * _), Nat.add_mul_mod_self_left]

end Tw
