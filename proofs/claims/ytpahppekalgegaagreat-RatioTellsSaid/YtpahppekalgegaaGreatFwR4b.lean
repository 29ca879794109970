/- The document's fractions: sums, products, order, texts, by the logic over data. -/
import Derived.Test.YtpahppekalgegaaGreatFwR4
import Derived.Test.YtpahppekalgegaaGreatFwP4c
import Derived.Test.YtpahppekalgegaaGreatFwD5
namespace Go.Proofs.YtpahppekalgegaaGreat
open Go Go.RowKit Fw Tw Rat
set_option linter.unusedVariables false
set_option linter.unusedSimpArgs false
theorem go_V90588b {p q : Prop} (h : q) (f : Bx q → p := by intro h; (repeat (first | refine go1 ?_ | refine cl (by exact rfl) plain65 rfl pa ?_ | refine cl (by exact rfl) plain65 rfl pb ?_ | refine cl (by exact rfl) plain102 rfl r1 ?_ | refine cl (by exact rfl) plain102 rfl r2 ?_ | refine cl (by exact rfl) plain84 rfl o1 ?_ | refine cl (by exact rfl) plain73 rfl sd ?_ | refine cl (by exact rfl) plain79 rfl nn ?_ | refine cl (by exact rfl) plain79 rfl nd ?_ | refine cl (by exact rfl) plain68 rfl m1 ?_ | refine cl (by exact rfl) plain68 rfl m2 ?_ | refine cl (by exact rfl) plain68 rfl m3 ?_ | refine cl (by exact rfl) plain67 rfl ad ?_ | refine cl (by exact rfl) plain80 rfl cm ?_ | refine cl (by exact rfl) plain83 rfl dm ?_ | refine cl (by exact rfl) plain66 rfl lw ?_ | refine cl (by exact rfl) plain26 rfl mk ?_ | refine cl (by exact rfl) plain29 rfl ng ?_ | refine cl (by exact rfl) plain15 rfl qa ?_ | refine cl (by exact rfl) plain24 rfl qn ?_ | refine cl (by exact rfl) plain24 rfl qm ?_ | refine cl (by exact rfl) plain22 rfl qs ?_ | refine cl (by exact rfl) plain38 rfl qc ?_)); exact h.un) : p := f ⟨h⟩
theorem rparts_q {m : M} {q : Rat} {k : Nat} (h : IsQ m q k) (hk : k ≤ 80) : ∃ n d : Int, 0 < d ∧ Sz n k ∧ Sz d k ∧ q = n /. d ∧ Ret Tryz.prog 65 [m] (.tup [mI n, mI d]) := by
  obtain ⟨b1, l1, b2, l2, rfl, hd1, hd2, hl1, hl2, h1, rfl⟩ := h
  have i1 : IsZ (.agg [.bool b1, mW l1]) (sg b1 (Tw.val W l1)) k := ⟨b1, l1, rfl, hd1, hl1, rfl⟩
  have i2 : IsZ (.agg [.bool b2, mW l2]) (sg b2 (Tw.val W l2)) k := ⟨b2, l2, rfl, hd2, hl2, rfl⟩
  have r1 := rnorm_r i1 (by omega)
  have r2 := rnorm_r i2 (by omega)
  have o1 := rof_r (n := 1) (by omega) (by omega)
  have s1 : Sz 1 k := ⟨one_lt_W h1⟩
  have s0 : Sz 0 k := ⟨Nat.lt_trans Nat.zero_lt_one (one_lt_W h1)⟩
  have z1 := Sz.of i1
  have z2 := Sz.of i2
  have nn := rneg_r z1.isZ (by omega)
  have nd := rneg_r z2.isZ (by omega)
  by_cases hl : l2 = []
  · subst hl
    have sd := rsign_r s1.isZ (by omega)
    rw [show signZ 1 = 1 from rfl] at sd
    refine ⟨_, 1, by omega, z1, s1, rfl, ?_⟩
    refine ret_of (L := L) lay_ok Tryz.func65 rfl Tryz.ntmps65 rfl ?_
    refine go_V90588b ?_
    refine ⟨_, rfl, ?_⟩
    rfl
  have hlen : 0 < l2.length := by cases l2 with
    | nil => exact absurd rfl hl
    | cons x l => simp
  have hlb : ((((l2.length : Nat) : Int)) == 0) = false := by rw [beq_eq_false_iff_ne]; omega
  have sd := rsign_r z2.isZ (by omega)
  have e2 : denI b2 l2 = sg b2 (Tw.val W l2) := by unfold denI; rw [if_neg hl]
  rw [e2]
  generalize sg b1 (Tw.val W l1) = n at *
  generalize sg b2 (Tw.val W l2) = d at *
  rcases sign_cs d with ⟨e, hd⟩ | ⟨e, hd⟩ | ⟨e, hd⟩
  all_goals rw [e] at sd
  · refine ⟨-n, -d, by omega, z1.neg, z2.neg, (Rat.neg_divInt_neg n d).symm, ?_⟩
    refine ret_of (L := L) lay_ok Tryz.func65 rfl Tryz.ntmps65 rfl ?_
    refine go_V90588b ?_
    refine awp_cF rfl hlb ?_
    refine go_V90588b ?_
    refine awp_cT rfl (decide_eq_true hd) ?_
    refine go_V90588b ?_
    refine ⟨_, rfl, ?_⟩
    rfl
  · refine ⟨0, 1, by omega, s0, s1, by rw [hd, Rat.divInt_zero, Rat.zero_divInt], ?_⟩
    refine ret_ofL (L := L) lay_ok Tryz.func65 rfl Tryz.ntmps65 rfl ?_
    refine go_V90588b ?_
    refine awp_cF rfl hlb ?_
    refine go_V90588b ?_
    refine ⟨_, rfl, ?_⟩
    exact le_tup (.cons le_zero (.cons (Le.refl _) .nil))
  · refine ⟨n, d, hd, z1, z2, rfl, ?_⟩
    refine ret_of (L := L) lay_ok Tryz.func65 rfl Tryz.ntmps65 rfl ?_
    refine go_V90588b ?_
    refine awp_cF rfl hlb ?_
    refine go_V90588b ?_
    refine awp_cF rfl (decide_eq_false (by omega)) ?_
    refine go_V90588b ?_
    refine ⟨_, rfl, ?_⟩
    rfl
theorem rnorm_q {ma : M} {a : Rat} {j : Nat} (ha : IsQ ma a j) (hj : j ≤ 40) : Ret Tryz.prog 24 [ma] (mQ a) := by
  obtain ⟨n, d, hd, zn, zd, rfl, pa⟩ := rparts_q ha (by omega)
  have lw := rlowest_q zn.isZ zd.isZ hd (by omega) (by omega)
  obtain ⟨b1, l1, b2, l2, rfl, _⟩ := ha
  refine ret_of (L := L) lay_ok Tryz.func24 rfl Tryz.ntmps24 rfl ?_
  refine go_V90588b ?_
  refine ⟨_, rfl, ?_⟩
  rfl
theorem radd_q {ma mb : M} {a b : Rat} {j k : Nat} (ha : IsQ ma a j) (hb : IsQ mb b k) (hj : j ≤ 20) (hk : k ≤ 20) : Ret Tryz.prog 15 [ma, mb] (mQ (a + b)) := by
  obtain ⟨n, d, hd, zn, zd, rfl, pa⟩ := rparts_q ha (by omega)
  obtain ⟨m, e, he, zm, ze, rfl, pb⟩ := rparts_q hb (by omega)
  have m1 := rzmul_r zn.isZ ze.isZ (by omega) (by omega)
  have m2 := rzmul_r zm.isZ zd.isZ (by omega) (by omega)
  have m3 := rzmul_r zd.isZ ze.isZ (by omega) (by omega)
  have ad := rzadd_r (zn.mul ze).isZ (zm.mul zd).isZ (by omega) (by omega)
  have lw := rlowest_q ((zn.mul ze).add (zm.mul zd)).isZ (zd.mul ze).isZ (Int.mul_pos hd he) (by omega) (by omega)
  rw [Rat.divInt_add_divInt _ _ (by omega) (by omega)]
  obtain ⟨b1, l1, b2, l2, rfl, _⟩ := ha
  obtain ⟨b3, l3, b4, l4, rfl, _⟩ := hb
  refine ret_of (L := L) lay_ok Tryz.func15 rfl Tryz.ntmps15 rfl ?_
  refine go_V90588b ?_
  refine ⟨_, rfl, ?_⟩
  rfl
theorem rneg_q {ma : M} {a : Rat} {j : Nat} (ha : IsQ ma a j) (hj : j ≤ 40) : Ret Tryz.prog 29 [ma] (mQ (-a)) := by
  obtain ⟨n, d, hd, zn, zd, rfl, pa⟩ := rparts_q ha (by omega)
  have nn := rneg_r zn.isZ (by omega)
  have lw := rlowest_q zn.neg.isZ zd.isZ hd (by omega) (by omega)
  rw [Rat.neg_divInt]
  obtain ⟨b1, l1, b2, l2, rfl, _⟩ := ha
  refine ret_of (L := L) lay_ok Tryz.func29 rfl Tryz.ntmps29 rfl ?_
  refine go_V90588b ?_
  refine ⟨_, rfl, ?_⟩
  rfl
theorem rsub_q {ma mb : M} {a b : Rat} {j k : Nat} (ha : IsQ ma a j) (hb : IsQ mb b k) (hj : j ≤ 20) (hk : k ≤ 20) : Ret Tryz.prog 17 [ma, mb] (mQ (a - b)) := by
  have ng := rneg_q hb (by omega)
  have qa := radd_q ha hb.sq.neg.isQ hj hk
  rw [← Rat.sub_eq_add_neg] at qa
  obtain ⟨b1, l1, b2, l2, rfl, _⟩ := ha
  obtain ⟨b3, l3, b4, l4, rfl, _⟩ := hb
  refine ret_of (L := L) lay_ok Tryz.func17 rfl Tryz.ntmps17 rfl ?_
  refine go_V90588b ?_
  refine ⟨_, rfl, ?_⟩
  rfl
theorem rmul_q {ma mb : M} {a b : Rat} {j k : Nat} (ha : IsQ ma a j) (hb : IsQ mb b k) (hj : j ≤ 20) (hk : k ≤ 20) : Ret Tryz.prog 19 [ma, mb] (mQ (a * b)) := by
  obtain ⟨n, d, hd, zn, zd, rfl, pa⟩ := rparts_q ha (by omega)
  obtain ⟨m, e, he, zm, ze, rfl, pb⟩ := rparts_q hb (by omega)
  have m1 := rzmul_r zn.isZ zm.isZ (by omega) (by omega)
  have m2 := rzmul_r zd.isZ ze.isZ (by omega) (by omega)
  have lw := rlowest_q (zn.mul zm).isZ (zd.mul ze).isZ (Int.mul_pos hd he) (by omega) (by omega)
  rw [Rat.divInt_mul_divInt]
  obtain ⟨b1, l1, b2, l2, rfl, _⟩ := ha
  obtain ⟨b3, l3, b4, l4, rfl, _⟩ := hb
  refine ret_of (L := L) lay_ok Tryz.func19 rfl Tryz.ntmps19 rfl ?_
  refine go_V90588b ?_
  refine ⟨_, rfl, ?_⟩
  rfl
theorem rquo_q {ma mb : M} {a b : Rat} {j k : Nat} (ha : IsQ ma a j) (hb : IsQ mb b k) (hj : j ≤ 20) (hk : k ≤ 20) : Ret Tryz.prog 21 [ma, mb] (mQ (a / b)) := by
  obtain ⟨n, d, hd, zn, zd, rfl, pa⟩ := rparts_q ha (by omega)
  obtain ⟨m, e, he, zm, ze, rfl, pb⟩ := rparts_q hb (by omega)
  have m1 := rzmul_r zn.isZ ze.isZ (by omega) (by omega)
  have m2 := rzmul_r zd.isZ zm.isZ (by omega) (by omega)
  have mk := rmake_q (zn.mul ze).isZ (zd.mul zm).isZ (by omega) (by omega)
  rw [Rat.div_def, Rat.inv_divInt, Rat.divInt_mul_divInt]
  obtain ⟨b1, l1, b2, l2, rfl, _⟩ := ha
  obtain ⟨b3, l3, b4, l4, rfl, _⟩ := hb
  refine ret_of (L := L) lay_ok Tryz.func21 rfl Tryz.ntmps21 rfl ?_
  refine go_V90588b ?_
  refine ⟨_, rfl, ?_⟩
  rfl
theorem sign_pos {n d : Int} (hd : 0 < d) : signZ n = signQ (n /. d) := by
  rw [sign_divInt]
  have : signZ d = 1 := by unfold signZ; rw [if_neg (by omega), if_pos hd]
  rw [this, Int.mul_one]
theorem rsign_q {ma : M} {a : Rat} {j : Nat} (ha : IsQ ma a j) (hj : j ≤ 40) : Ret Tryz.prog 22 [ma] (.int .i64 (signQ a)) := by
  obtain ⟨n, d, hd, zn, zd, rfl, pa⟩ := rparts_q ha (by omega)
  have sd := rsign_r zn.isZ (by omega)
  rw [sign_pos hd] at sd
  obtain ⟨b1, l1, b2, l2, rfl, _⟩ := ha
  refine ret_of (L := L) lay_ok Tryz.func22 rfl Tryz.ntmps22 rfl ?_
  refine go_V90588b ?_
  refine ⟨_, rfl, ?_⟩
  rfl
theorem rcmp_q {ma mb : M} {a b : Rat} {j k : Nat} (ha : IsQ ma a j) (hb : IsQ mb b k) (hj : j ≤ 20) (hk : k ≤ 20) : Ret Tryz.prog 38 [ma, mb] (.int .i64 (cmpQ a b)) := by
  obtain ⟨n, d, hd, zn, zd, rfl, pa⟩ := rparts_q ha (by omega)
  obtain ⟨m, e, he, zm, ze, rfl, pb⟩ := rparts_q hb (by omega)
  have m1 := rzmul_r zn.isZ ze.isZ (by omega) (by omega)
  have m2 := rzmul_r zm.isZ zd.isZ (by omega) (by omega)
  have cm := rzcmp_r (zn.mul ze).isZ (zm.mul zd).isZ (by omega) (by omega)
  rw [sign_pos (Int.mul_pos hd he), ← Rat.divInt_sub_divInt _ _ (by omega) (by omega)] at cm
  unfold cmpQ
  obtain ⟨b1, l1, b2, l2, rfl, _⟩ := ha
  obtain ⟨b3, l3, b4, l4, rfl, _⟩ := hb
  refine ret_of (L := L) lay_ok Tryz.func38 rfl Tryz.ntmps38 rfl ?_
  refine go_V90588b ?_
  refine ⟨_, rfl, ?_⟩
  rfl
theorem rabs_q {ma : M} {a : Rat} {j : Nat} (ha : IsQ ma a j) (hj : j ≤ 40) : Ret Tryz.prog 31 [ma] (mQ (absQ a)) := by
  have qs := rsign_q ha hj
  have ng := rneg_q ha hj
  have qn := rnorm_q ha hj
  obtain ⟨b1, l1, b2, l2, rfl, _⟩ := ha
  have hs := @signQ_lt a
  refine ret_of (L := L) lay_ok Tryz.func31 rfl Tryz.ntmps31 rfl ?_
  refine go_V90588b ?_
  refine awp_cond rfl (fun hb => ?_) (fun hb => ?_)
  · rw [decide_eq_true_eq, hs] at hb
    refine go_V90588b ?_
    refine ⟨_, rfl, ?_⟩
    unfold absQ
    rw [if_pos hb]; rfl
  · rw [decide_eq_false_iff_not, hs] at hb
    refine go_V90588b ?_
    refine ⟨_, rfl, ?_⟩
    unfold absQ
    rw [if_neg hb]; rfl
theorem rmax_q {ma mb : M} {a b : Rat} {j k : Nat} (ha : IsQ ma a j) (hb : IsQ mb b k) (hj : j ≤ 20) (hk : k ≤ 20) : Ret Tryz.prog 33 [ma, mb] (mQ (maxQ a b)) := by
  have qc := rcmp_q ha hb hj hk
  have qn := rnorm_q ha (by omega)
  have qm := rnorm_q hb (by omega)
  obtain ⟨b1, l1, b2, l2, rfl, _⟩ := ha
  obtain ⟨b3, l3, b4, l4, rfl, _⟩ := hb
  have hs := @cmpQ_lt a b
  refine ret_of (L := L) lay_ok Tryz.func33 rfl Tryz.ntmps33 rfl ?_
  refine go_V90588b ?_
  refine awp_cond rfl (fun hb => ?_) (fun hb => ?_)
  · rw [decide_eq_true_eq] at hb
    refine go_V90588b ?_
    refine ⟨_, rfl, ?_⟩
    have hm : maxQ a b = a := by unfold maxQ; rw [if_neg (by rw [← hs]; omega)]
    rw [hm]; rfl
  · rw [decide_eq_false_iff_not] at hb
    refine go_V90588b ?_
    refine ⟨_, rfl, ?_⟩
    have hm : maxQ a b = b := by unfold maxQ; rw [if_pos (by rw [← hs]; omega)]
    rw [hm]; rfl
theorem rmin_q {ma mb : M} {a b : Rat} {j k : Nat} (ha : IsQ ma a j) (hb : IsQ mb b k) (hj : j ≤ 20) (hk : k ≤ 20) : Ret Tryz.prog 35 [ma, mb] (mQ (minQ a b)) := by
  have qc := rcmp_q ha hb hj hk
  have qn := rnorm_q ha (by omega)
  have qm := rnorm_q hb (by omega)
  obtain ⟨b1, l1, b2, l2, rfl, _⟩ := ha
  obtain ⟨b3, l3, b4, l4, rfl, _⟩ := hb
  have hs := @cmpQ_gt a b
  refine ret_of (L := L) lay_ok Tryz.func35 rfl Tryz.ntmps35 rfl ?_
  refine go_V90588b ?_
  refine awp_cond rfl (fun hb => ?_) (fun hb => ?_)
  · rw [decide_eq_true_eq] at hb
    refine go_V90588b ?_
    refine ⟨_, rfl, ?_⟩
    have hm : minQ a b = a := by unfold minQ; rw [if_neg (by rw [← hs]; omega)]
    rw [hm]; rfl
  · rw [decide_eq_false_iff_not] at hb
    refine go_V90588b ?_
    refine ⟨_, rfl, ?_⟩
    have hm : minQ a b = b := by unfold minQ; rw [if_pos (by rw [← hs]; omega)]
    rw [hm]; rfl
theorem floor_divInt {n d : Int} (hd : 0 < d) : (n /. d).floor = n / d := by
  obtain ⟨p1, p2⟩ := divInt_parts (n := n) (d := d) (by omega)
  have eg : gQ n d = ((Int.gcd n d : Nat) : Int) := by unfold gQ; rw [if_neg (by omega)]
  have hg : 0 < ((Int.gcd n d : Nat) : Int) := by have := Int.gcd_pos_of_ne_zero_right n (show d ≠ 0 by omega); omega
  have h1 : ((Int.gcd n d : Nat) : Int) ∣ n := Int.gcd_dvd_left ..
  have h2 : ((Int.gcd n d : Nat) : Int) ∣ d := Int.gcd_dvd_right ..
  rw [Rat.floor_def, p1, p2, eg]
  generalize ((Int.gcd n d : Nat) : Int) = g at *
  obtain ⟨x, rfl⟩ := h1
  obtain ⟨y, rfl⟩ := h2
  rw [Int.mul_ediv_cancel_left _ (by omega), Int.mul_ediv_cancel_left _ (by omega), Int.mul_ediv_mul_of_pos _ _ hg]
theorem ceil_divInt {n d : Int} (hd : 0 < d) : (n /. d).ceil = if 0 < signZ (n % d) then n / d + 1 else n / d := by
  rw [Rat.ceil_eq_neg_floor_neg, Rat.neg_divInt, floor_divInt hd]
  have h1 := Int.emod_nonneg n (show d ≠ 0 by omega)
  have h2 := Int.emod_lt_of_pos n hd
  have h3 := Int.mul_ediv_add_emod n d
  by_cases h0 : n % d = 0
  · rw [h0, if_neg (by decide)]
    have : -n = d * (-(n / d)) := by rw [Int.mul_neg]; omega
    rw [this, Int.mul_ediv_cancel_left _ (by omega), Int.neg_neg]
  · have hs : signZ (n % d) = 1 := by unfold signZ; rw [if_neg (by omega), if_pos (by omega)]
    rw [hs, if_pos (by decide)]
    have hu := (Int.ediv_emod_unique (a := -n) (b := d) (r := d - n % d) (q := -(n / d) - 1) hd).2 ⟨by rw [Int.mul_sub, Int.mul_neg, Int.mul_one]; omega, by omega, by omega⟩
    rw [hu.1]
    omega
theorem rfloor_q {ma : M} {a : Rat} {j : Nat} (ha : IsQ ma a j) (hj : j ≤ 40) : Ret Tryz.prog 43 [ma] (mI a.floor) := by
  obtain ⟨n, d, hd, zn, zd, rfl, pa⟩ := rparts_q ha (by omega)
  have dm := rzdivmod_r zn.isZ zd.isZ (by omega) (by omega)
  rw [floor_divInt hd]
  obtain ⟨b1, l1, b2, l2, rfl, _⟩ := ha
  refine ret_of (L := L) lay_ok Tryz.func43 rfl Tryz.ntmps43 rfl ?_
  refine go_V90588b ?_
  refine ⟨_, rfl, ?_⟩
  rfl
theorem rceil_q {ma : M} {a : Rat} {j : Nat} (ha : IsQ ma a j) (hj : j ≤ 40) : Ret Tryz.prog 45 [ma] (mI a.ceil) := by
  obtain ⟨n, d, hd, zn, zd, rfl, pa⟩ := rparts_q ha (by omega)
  have dm := rzdivmod_r zn.isZ zd.isZ (by omega) (by omega)
  have o1 := rof_r (n := 1) (by omega) (by omega)
  have sd := rsign_r (Sz.isZ (Sz.mod (a := n) zd)) (by omega)
  have ad := rzadd_r (Sz.isZ (Sz.div (b := d) zn)) (of_z (n := 1) (by omega) (by omega)) (by omega) (by omega)
  have em : modZ n d = n % d := by unfold modZ; rw [if_neg (by omega)]
  rw [em] at dm sd
  rw [ceil_divInt hd]
  obtain ⟨b1, l1, b2, l2, rfl, _⟩ := ha
  refine ret_of (L := L) lay_ok Tryz.func45 rfl Tryz.ntmps45 rfl ?_
  refine go_V90588b ?_
  refine awp_cond rfl (fun hb => ?_) (fun hb => ?_)
  · rw [decide_eq_true_eq] at hb
    refine go_V90588b ?_
    refine ⟨_, rfl, ?_⟩
    rw [if_pos hb]; rfl
  · rw [decide_eq_false_iff_not] at hb
    refine go_V90588b ?_
    refine ⟨_, rfl, ?_⟩
    rw [if_neg hb]; rfl
theorem rtextQ_r {ma : M} {a : Rat} {j : Nat} (ha : IsQ ma a j) (hj : j ≤ 40) : Ret Tryz.prog 47 [ma] (.str (textQ a)) := by
  have sa := ha.sq
  have qn := rnorm_q ha hj
  have t1 := rtext_r (numZ sa) (by omega)
  have t2 := rtext_r (denZ sa) (by omega)
  have h1 := textZ_len sa.n
  have h2 := textZ_len (z := (a.den : Int)) sa.d
  obtain ⟨b1, l1, b2, l2, rfl, _⟩ := ha
  have hdl := @den_len a
  by_cases h : a.den = 1
  · refine ret_of (L := L) lay_ok Tryz.func47 rfl Tryz.ntmps47 rfl ?_
    refine go_V90588b ?_
    refine cl (by exact rfl) plain86 rfl t1 ?_
    refine go ?_
    refine awp_cF rfl (by rw [decide_eq_true h] at hdl; rw [beq_iff_eq] at hdl; rw [decide_eq_false_iff_not]; omega) ?_
    refine go ?_
    refine ⟨_, rfl, ?_⟩
    unfold textQ
    rw [if_pos h]; rfl
  · have t2' : Ret Tryz.prog 86 [.agg [.bool false, mN (if a.den = 1 then 0 else a.den)]] (.str (textZ (a.den : Int))) := by
      rw [if_neg h]
      rw [mI_nat] at t2; exact t2
    refine ret_of (L := L) lay_ok Tryz.func47 rfl Tryz.ntmps47 rfl ?_
    refine go_V90588b ?_
    refine cl (by exact rfl) plain86 rfl t1 ?_
    refine go ?_
    refine awp_cT rfl (by rw [decide_eq_false h] at hdl; rw [beq_eq_false_iff_ne] at hdl; rw [decide_eq_true_eq]; omega) ?_
    refine go ?_
    refine ar_addStr (wantF_ok rfl) rfl rfl rfl (by simp; omega) ?_
    refine go ?_
    refine cl (by exact rfl) plain86 rfl t2' ?_
    refine go ?_
    refine ar_addStr (wantF_ok rfl) rfl rfl rfl (by simp; omega) ?_
    refine go ?_
    refine ⟨_, rfl, ?_⟩
    unfold textQ
    rw [if_neg h]
    show M.str _ = _
    simp
end Go.Proofs.YtpahppekalgegaaGreat
