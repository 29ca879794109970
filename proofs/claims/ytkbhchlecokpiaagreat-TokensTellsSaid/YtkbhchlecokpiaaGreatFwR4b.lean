/- The document's fractions: sums, products, order, texts, by the logic over data. -/
import Derived.Test.YtkbhchlecokpiaaGreatFwR4
import Derived.Test.YtkbhchlecokpiaaGreatFwP4c
import Derived.Test.YtkbhchlecokpiaaGreatFwD5
namespace Go.Proofs.YtkbhchlecokpiaaGreat
open Go Go.RowKit Fw Tw Rat
set_option linter.unusedVariables false
set_option linter.unusedSimpArgs false
theorem go_V6f5acc {p q : Prop} (h : q) (f : Bx q → p := by intro h; (repeat (first | refine go1 ?_ | refine cl (by exact rfl) plain75 rfl pa ?_ | refine cl (by exact rfl) plain75 rfl pb ?_ | refine cl (by exact rfl) plain110 rfl r1 ?_ | refine cl (by exact rfl) plain110 rfl r2 ?_ | refine cl (by exact rfl) plain107 rfl o1 ?_ | refine cl (by exact rfl) plain108 rfl sd ?_ | refine cl (by exact rfl) plain111 rfl nn ?_ | refine cl (by exact rfl) plain111 rfl nd ?_ | refine cl (by exact rfl) plain95 rfl m1 ?_ | refine cl (by exact rfl) plain95 rfl m2 ?_ | refine cl (by exact rfl) plain95 rfl m3 ?_ | refine cl (by exact rfl) plain149 rfl ad ?_ | refine cl (by exact rfl) plain94 rfl cm ?_ | refine cl (by exact rfl) plain113 rfl dm ?_ | refine cl (by exact rfl) plain76 rfl lw ?_ | refine cl (by exact rfl) plain192 rfl qa ?_ | refine cl (by exact rfl) plain39 rfl qn ?_ | refine cl (by exact rfl) plain39 rfl qm ?_ | refine cl (by exact rfl) plain211 rfl qs ?_ | refine cl (by exact rfl) plain58 rfl qc ?_)); exact h.un) : p := f ⟨h⟩
theorem rparts_q {m : M} {q : Rat} {k : Nat} (h : IsQ m q k) (hk : k ≤ 80) : ∃ n d : Int, 0 < d ∧ Sz n k ∧ Sz d k ∧ q = n /. d ∧ Ret Tryz.prog 75 [m] (.tup [mI n, mI d]) := by
  obtain ⟨b1, l1, b2, l2, rfl, hd1, hd2, hl1, hl2, h1, rfl⟩ := h
  have i1 : IsZ (.agg [.bool b1, mW l1]) (sg b1 (Tw.val W l1)) k := ⟨b1, l1, rfl, hd1, hl1, rfl⟩
  have i2 : IsZ (.agg [.bool b2, mW l2]) (sg b2 (Tw.val W l2)) k := ⟨b2, l2, rfl, hd2, hl2, rfl⟩
  have r1 := rnorm_r i1 (by omega)
  have r2 := rnorm_r i2 (by omega)
  have o1 := rof_r (n := 1) (by omega) (by omega)
  have s1 : Sz 1 k := ⟨one_lt_W h1⟩
  have s0 : Sz 0 k := ⟨Nat.lt_trans Nat.zero_lt_one (one_lt_W h1)⟩
  have z1 := Sz.of i1
  have z2 := Sz.of i2
  have nn := rneg_r z1.isZ (by omega)
  have nd := rneg_r z2.isZ (by omega)
  by_cases hl : l2 = []
  · subst hl
    have sd := rsign_r s1.isZ (by omega)
    rw [show signZ 1 = 1 from rfl] at sd
    refine ⟨_, 1, by omega, z1, s1, rfl, ?_⟩
    refine ret_of (L := L) lay_ok Tryz.func75 rfl Tryz.ntmps75 rfl ?_
    refine go_V6f5acc ?_
    refine ⟨_, rfl, ?_⟩
    rfl
  have hlen : 0 < l2.length := by cases l2 with
    | nil => exact absurd rfl hl
    | cons x l => simp
  have hlb : ((((l2.length : Nat) : Int)) == 0) = false := by rw [beq_eq_false_iff_ne]; omega
  have sd := rsign_r z2.isZ (by omega)
  have e2 : denI b2 l2 = sg b2 (Tw.val W l2) := by unfold denI; rw [if_neg hl]
  rw [e2]
  generalize sg b1 (Tw.val W l1) = n at *
  generalize sg b2 (Tw.val W l2) = d at *
  rcases sign_cs d with ⟨e, hd⟩ | ⟨e, hd⟩ | ⟨e, hd⟩
  all_goals rw [e] at sd
  · refine ⟨-n, -d, by omega, z1.neg, z2.neg, (Rat.neg_divInt_neg n d).symm, ?_⟩
    refine ret_of (L := L) lay_ok Tryz.func75 rfl Tryz.ntmps75 rfl ?_
    refine go_V6f5acc ?_
    refine awp_cF rfl hlb ?_
    refine go_V6f5acc ?_
    refine awp_cT rfl (decide_eq_true hd) ?_
    refine go_V6f5acc ?_
    refine ⟨_, rfl, ?_⟩
    rfl
  · refine ⟨0, 1, by omega, s0, s1, by rw [hd, Rat.divInt_zero, Rat.zero_divInt], ?_⟩
    refine ret_ofL (L := L) lay_ok Tryz.func75 rfl Tryz.ntmps75 rfl ?_
    refine go_V6f5acc ?_
    refine awp_cF rfl hlb ?_
    refine go_V6f5acc ?_
    refine ⟨_, rfl, ?_⟩
    exact le_tup (.cons le_zero (.cons (Le.refl _) .nil))
  · refine ⟨n, d, hd, z1, z2, rfl, ?_⟩
    refine ret_of (L := L) lay_ok Tryz.func75 rfl Tryz.ntmps75 rfl ?_
    refine go_V6f5acc ?_
    refine awp_cF rfl hlb ?_
    refine go_V6f5acc ?_
    refine awp_cF rfl (decide_eq_false (by omega)) ?_
    refine go_V6f5acc ?_
    refine ⟨_, rfl, ?_⟩
    rfl
theorem rnorm_q {ma : M} {a : Rat} {j : Nat} (ha : IsQ ma a j) (hj : j ≤ 40) : Ret Tryz.prog 39 [ma] (mQ a) := by
  obtain ⟨n, d, hd, zn, zd, rfl, pa⟩ := rparts_q ha (by omega)
  have lw := rlowest_q zn.isZ zd.isZ hd (by omega) (by omega)
  obtain ⟨b1, l1, b2, l2, rfl, _⟩ := ha
  refine ret_of (L := L) lay_ok Tryz.func39 rfl Tryz.ntmps39 rfl ?_
  refine go_V6f5acc ?_
  refine ⟨_, rfl, ?_⟩
  rfl
theorem radd_q {ma mb : M} {a b : Rat} {j k : Nat} (ha : IsQ ma a j) (hb : IsQ mb b k) (hj : j ≤ 20) (hk : k ≤ 20) : Ret Tryz.prog 192 [ma, mb] (mQ (a + b)) := by
  obtain ⟨n, d, hd, zn, zd, rfl, pa⟩ := rparts_q ha (by omega)
  obtain ⟨m, e, he, zm, ze, rfl, pb⟩ := rparts_q hb (by omega)
  have m1 := rzmul_r zn.isZ ze.isZ (by omega) (by omega)
  have m2 := rzmul_r zm.isZ zd.isZ (by omega) (by omega)
  have m3 := rzmul_r zd.isZ ze.isZ (by omega) (by omega)
  have ad := rzadd_r (zn.mul ze).isZ (zm.mul zd).isZ (by omega) (by omega)
  have lw := rlowest_q ((zn.mul ze).add (zm.mul zd)).isZ (zd.mul ze).isZ (Int.mul_pos hd he) (by omega) (by omega)
  rw [Rat.divInt_add_divInt _ _ (by omega) (by omega)]
  obtain ⟨b1, l1, b2, l2, rfl, _⟩ := ha
  obtain ⟨b3, l3, b4, l4, rfl, _⟩ := hb
  refine ret_of (L := L) lay_ok Tryz.func192 rfl Tryz.ntmps192 rfl ?_
  refine go_V6f5acc ?_
  refine ⟨_, rfl, ?_⟩
  rfl
theorem rmul_q {ma mb : M} {a b : Rat} {j k : Nat} (ha : IsQ ma a j) (hb : IsQ mb b k) (hj : j ≤ 20) (hk : k ≤ 20) : Ret Tryz.prog 194 [ma, mb] (mQ (a * b)) := by
  obtain ⟨n, d, hd, zn, zd, rfl, pa⟩ := rparts_q ha (by omega)
  obtain ⟨m, e, he, zm, ze, rfl, pb⟩ := rparts_q hb (by omega)
  have m1 := rzmul_r zn.isZ zm.isZ (by omega) (by omega)
  have m2 := rzmul_r zd.isZ ze.isZ (by omega) (by omega)
  have lw := rlowest_q (zn.mul zm).isZ (zd.mul ze).isZ (Int.mul_pos hd he) (by omega) (by omega)
  rw [Rat.divInt_mul_divInt]
  obtain ⟨b1, l1, b2, l2, rfl, _⟩ := ha
  obtain ⟨b3, l3, b4, l4, rfl, _⟩ := hb
  refine ret_of (L := L) lay_ok Tryz.func194 rfl Tryz.ntmps194 rfl ?_
  refine go_V6f5acc ?_
  refine ⟨_, rfl, ?_⟩
  rfl
theorem sign_pos {n d : Int} (hd : 0 < d) : signZ n = signQ (n /. d) := by
  rw [sign_divInt]
  have : signZ d = 1 := by unfold signZ; rw [if_neg (by omega), if_pos hd]
  rw [this, Int.mul_one]
theorem rsign_q {ma : M} {a : Rat} {j : Nat} (ha : IsQ ma a j) (hj : j ≤ 40) : Ret Tryz.prog 211 [ma] (.int .i64 (signQ a)) := by
  obtain ⟨n, d, hd, zn, zd, rfl, pa⟩ := rparts_q ha (by omega)
  have sd := rsign_r zn.isZ (by omega)
  rw [sign_pos hd] at sd
  obtain ⟨b1, l1, b2, l2, rfl, _⟩ := ha
  refine ret_of (L := L) lay_ok Tryz.func211 rfl Tryz.ntmps211 rfl ?_
  refine go_V6f5acc ?_
  refine ⟨_, rfl, ?_⟩
  rfl
theorem rcmp_q {ma mb : M} {a b : Rat} {j k : Nat} (ha : IsQ ma a j) (hb : IsQ mb b k) (hj : j ≤ 20) (hk : k ≤ 20) : Ret Tryz.prog 58 [ma, mb] (.int .i64 (cmpQ a b)) := by
  obtain ⟨n, d, hd, zn, zd, rfl, pa⟩ := rparts_q ha (by omega)
  obtain ⟨m, e, he, zm, ze, rfl, pb⟩ := rparts_q hb (by omega)
  have m1 := rzmul_r zn.isZ ze.isZ (by omega) (by omega)
  have m2 := rzmul_r zm.isZ zd.isZ (by omega) (by omega)
  have cm := rzcmp_r (zn.mul ze).isZ (zm.mul zd).isZ (by omega) (by omega)
  rw [sign_pos (Int.mul_pos hd he), ← Rat.divInt_sub_divInt _ _ (by omega) (by omega)] at cm
  unfold cmpQ
  obtain ⟨b1, l1, b2, l2, rfl, _⟩ := ha
  obtain ⟨b3, l3, b4, l4, rfl, _⟩ := hb
  refine ret_of (L := L) lay_ok Tryz.func58 rfl Tryz.ntmps58 rfl ?_
  refine go_V6f5acc ?_
  refine ⟨_, rfl, ?_⟩
  rfl
theorem floor_divInt {n d : Int} (hd : 0 < d) : (n /. d).floor = n / d := by
  obtain ⟨p1, p2⟩ := divInt_parts (n := n) (d := d) (by omega)
  have eg : gQ n d = ((Int.gcd n d : Nat) : Int) := by unfold gQ; rw [if_neg (by omega)]
  have hg : 0 < ((Int.gcd n d : Nat) : Int) := by have := Int.gcd_pos_of_ne_zero_right n (show d ≠ 0 by omega); omega
  have h1 : ((Int.gcd n d : Nat) : Int) ∣ n := Int.gcd_dvd_left ..
  have h2 : ((Int.gcd n d : Nat) : Int) ∣ d := Int.gcd_dvd_right ..
  rw [Rat.floor_def, p1, p2, eg]
  generalize ((Int.gcd n d : Nat) : Int) = g at *
  obtain ⟨x, rfl⟩ := h1
  obtain ⟨y, rfl⟩ := h2
  rw [Int.mul_ediv_cancel_left _ (by omega), Int.mul_ediv_cancel_left _ (by omega), Int.mul_ediv_mul_of_pos _ _ hg]
theorem ceil_divInt {n d : Int} (hd : 0 < d) : (n /. d).ceil = if 0 < signZ (n % d) then n / d + 1 else n / d := by
  rw [Rat.ceil_eq_neg_floor_neg, Rat.neg_divInt, floor_divInt hd]
  have h1 := Int.emod_nonneg n (show d ≠ 0 by omega)
  have h2 := Int.emod_lt_of_pos n hd
  have h3 := Int.mul_ediv_add_emod n d
  by_cases h0 : n % d = 0
  · rw [h0, if_neg (by decide)]
    have : -n = d * (-(n / d)) := by rw [Int.mul_neg]; omega
    rw [this, Int.mul_ediv_cancel_left _ (by omega), Int.neg_neg]
  · have hs : signZ (n % d) = 1 := by unfold signZ; rw [if_neg (by omega), if_pos (by omega)]
    rw [hs, if_pos (by decide)]
    have hu := (Int.ediv_emod_unique (a := -n) (b := d) (r := d - n % d) (q := -(n / d) - 1) hd).2 ⟨by rw [Int.mul_sub, Int.mul_neg, Int.mul_one]; omega, by omega, by omega⟩
    rw [hu.1]
    omega
end Go.Proofs.YtkbhchlecokpiaaGreat
