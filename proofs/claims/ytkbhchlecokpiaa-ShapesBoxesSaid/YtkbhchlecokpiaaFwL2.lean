/- Statements of the whole numbers: what they ask of a number. -/
import Derived.Test.YtkbhchlecokpiaaFwZ2
import Derived.Test.YtkbhchlecokpiaaFwCe
set_option linter.unusedVariables false
set_option linter.unusedSimpArgs false
namespace Go.Proofs.Ytkbhchlecokpiaa
open Go Go.RowKit Fw Tw
set_option linter.unusedVariables false
set_option linter.unusedSimpArgs false

theorem small64 {n : Int} (h1 : -9223372036854775808 ≤ n) (h2 : n ≤ 9223372036854775807) : n.natAbs < W ^ 1 := by
  rw [Nat.pow_one]; unfold W; omega
theorem digs_le1 {X : Nat} (h : X < W ^ 1) : (digs W X).length ≤ 1 := length_digs_le W_two h
theorem mI_zero : mI 0 = .agg [.bool false, mW []] := by
  have : digs W (Int.natAbs 0) = [] := digs_zero W
  unfold mI mN
  rw [this]
  rfl
theorem sz_add' {a b : Int} {j k : Nat} (ha : a.natAbs < W ^ j) (hb : b.natAbs < W ^ k) : (a + b).natAbs < W ^ (j + k + 1) := sz_add ha hb (by omega) (by omega)
theorem sz_neg {a : Int} {j : Nat} (ha : a.natAbs < W ^ j) : (-a).natAbs < W ^ j := by rw [Int.natAbs_neg]; exact ha
theorem sz_sub' {a b : Int} {j k : Nat} (ha : a.natAbs < W ^ j) (hb : b.natAbs < W ^ k) : (a - b).natAbs < W ^ (j + k + 1) := sz_add' (b := -b) ha (sz_neg hb)
theorem sz_abs {a : Int} {j : Nat} (ha : a.natAbs < W ^ j) : ((a.natAbs : Nat) : Int).natAbs < W ^ j := by simpa using ha
theorem sz_gcd {a b : Int} {j k : Nat} (ha : a.natAbs < W ^ j) (hb : b.natAbs < W ^ k) : ((Int.gcd a b : Nat) : Int).natAbs < W ^ (j + k) := by
  have e1 : W ^ j ≤ W ^ (j + k) := Nat.pow_le_pow_right W_pos (by omega)
  have e2 : W ^ k ≤ W ^ (j + k) := Nat.pow_le_pow_right W_pos (by omega)
  show Nat.gcd a.natAbs b.natAbs < _
  rcases Nat.eq_zero_or_pos a.natAbs with h | h
  · rw [h, Nat.gcd_zero_left]; omega
  · exact Nat.lt_of_le_of_lt (Nat.gcd_le_left _ h) (by omega)
theorem sz_div {z1 z2 : Int} {k : Nat} (h : z1.natAbs < W ^ k) : (z1 / z2).natAbs < W ^ k := by
  have := Int.natAbs_ediv_le_natAbs z1 z2
  omega
theorem sz_mod {z1 z2 : Int} {k : Nat} (h : z2.natAbs < W ^ k) : (modZ z1 z2).natAbs < W ^ k := by
  unfold modZ
  split
  · have : 0 < W ^ k := Nat.pow_pos W_pos
    simpa using this
  · rename_i h0
    have h3 := Int.emod_nonneg z1 h0
    have h4 : z1 % z2 < z2.natAbs := by
      have := Int.emod_lt z1 h0
      omega
    omega
/-- a number of k words at most -/
structure Sz (z : Int) (k : Nat) : Prop where
  h : z.natAbs < W ^ k
theorem Sz.of {m : M} {z : Int} {k : Nat} (h : IsZ m z k) : Sz z k := ⟨h.sz⟩
theorem Sz.add {a b : Int} {j k : Nat} (ha : Sz a j) (hb : Sz b k) : Sz (a + b) (j + k + 1) := ⟨sz_add' ha.h hb.h⟩
theorem Sz.sub {a b : Int} {j k : Nat} (ha : Sz a j) (hb : Sz b k) : Sz (a - b) (j + k + 1) := ⟨sz_sub' ha.h hb.h⟩
theorem Sz.mul {a b : Int} {j k : Nat} (ha : Sz a j) (hb : Sz b k) : Sz (a * b) (j + k) := ⟨sz_mul ha.h hb.h⟩
theorem Sz.neg {a : Int} {j : Nat} (ha : Sz a j) : Sz (-a) j := ⟨sz_neg ha.h⟩
theorem Sz.abs {a : Int} {j : Nat} (ha : Sz a j) : Sz ((a.natAbs : Nat) : Int) j := ⟨sz_abs ha.h⟩
theorem Sz.gcd {a b : Int} {j k : Nat} (ha : Sz a j) (hb : Sz b k) : Sz ((Int.gcd a b : Nat) : Int) (j + k) := ⟨sz_gcd ha.h hb.h⟩
theorem Sz.div {a b : Int} {j : Nat} (ha : Sz a j) : Sz (a / b) j := ⟨sz_div ha.h⟩
theorem Sz.mod {a b : Int} {j : Nat} (ha : Sz b j) : Sz (modZ a b) j := ⟨sz_mod ha.h⟩
theorem Sz.lit {n : Int} (h1 : -9223372036854775808 ≤ n) (h2 : n ≤ 9223372036854775807) : Sz n 1 := ⟨small64 h1 h2⟩
theorem Sz.isZ {z : Int} {k : Nat} (h : Sz z k) : IsZ (mI z) z k := isZ_mI h.h
/-- the same number twice -/
theorem sameZ_r {z1 z2 : Int} {k : Nat} (h : z1 = z2) (hz : Sz z1 k) (hk : k ≤ 1000000) : Ret Try.prog 89 [mI z1, mI z2] (.bool true) := by
  subst h
  have := sameInt_r (b1 := decide (z1 < 0)) (b2 := decide (z1 < 0)) (l1 := digs W z1.natAbs) (l2 := digs W z1.natAbs) (Nat.le_trans (length_digs_le W_two hz.h) (by omega))
  simpa [mI] using this
theorem of_z {n : Int} (h1 : -9223372036854775808 ≤ n) (h2 : n ≤ 9223372036854775807) : IsZ (mI n) n 1 := isZ_mI (small64 h1 h2)
end Go.Proofs.Ytkbhchlecokpiaa
