/- Package ratio, by the logic over data: sums, products, order, texts. -/
import Derived.Test.YtpahppekalgegaaGreatFwP4
import Derived.Test.YtpahppekalgegaaGreatFwD4
set_option linter.unusedVariables false
set_option linter.unusedSimpArgs false
namespace Go.Proofs.YtpahppekalgegaaGreat
open Go Go.RowKit Fw Tw Rat
set_option linter.unusedVariables false
set_option linter.unusedSimpArgs false
theorem go_A3c8dd2 {p q : Prop} (h : q) (f : Bx q → p := by intro h; (repeat (first | refine go1 ?_ | refine cl (by exact rfl) plain72 rfl den_mQ ?_ | refine cl (by exact rfl) plain72 rfl den_r ?_ | refine cl (by exact rfl) plain78 rfl one_r ?_ | refine cl (by exact rfl) plain23 rfl k1 ?_ | refine cl (by exact rfl) plain23 rfl k2 ?_ | refine cl (by exact rfl) plain71 rfl m1 ?_ | refine cl (by exact rfl) plain71 rfl m2 ?_ | refine cl (by exact rfl) plain71 rfl m3 ?_ | refine cl (by exact rfl) plain25 rfl mk ?_ | refine cl (by exact rfl) plain70 rfl ng ?_ | refine cl (by exact rfl) plain74 rfl sd ?_ | refine cl (by exact rfl) plain74 rfl sn ?_ | refine cl (by exact rfl) plain36 rfl sg ?_ | refine cl (by exact rfl) plain28 rfl kn ?_ | refine cl (by exact rfl) plain16 rfl ks ?_ | refine cl (by exact rfl) plain37 rfl kc ?_ | refine cl (by exact rfl) plain82 rfl dm ?_ | refine cl (by exact rfl) plain42 rfl fl ?_ | refine cl (by exact rfl) plain63 rfl jn ?_ | refine cl (by exact rfl) plain97 rfl (of_r (by omega) (by omega)) ?_ | refine cl (by exact rfl) plF rfl pf ?_)); exact h.un) : p := f ⟨h⟩
theorem numZ {q : Rat} {k : Nat} (h : Sq q k) : IsZ (mI q.num) q.num k := isZ_mI h.n
theorem denZ {q : Rat} {k : Nat} (h : Sq q k) : IsZ (mI (q.den : Int)) (q.den : Int) k := isZ_mI h.d
theorem of_q {n d : Int} (hn1 : -9223372036854775808 ≤ n) (hn2 : n ≤ 9223372036854775807) (hd1 : -9223372036854775808 ≤ d) (hd2 : d ≤ 9223372036854775807) : Ret Tryz.prog 60 [.int .i64 n, .int .i64 d] (mQ (n /. d)) := by
  have mk := make_q (of_z hn1 hn2) (of_z hd1 hd2) (by omega) (by omega)
  refine ret_of (L := L) lay_ok Tryz.func60 rfl Tryz.ntmps60 rfl ?_
  refine go_A3c8dd2 ?_
  refine ⟨_, rfl, ?_⟩
  rfl
theorem norm_q {m : M} {q : Rat} {k : Nat} (h : IsQ m q k) (hk : k ≤ 9000) : Ret Tryz.prog 23 [m] (mQ q) := by
  obtain ⟨b1, l1, b2, l2, rfl, hd1, hd2, hl1, hl2, h1, rfl⟩ := h
  have mk := make_q (n := sg b1 (Tw.val W l1)) ⟨b1, l1, rfl, hd1, hl1, rfl⟩ (isZ_mD (b := b2) hd2 hl2 h1) hk hk
  refine ret_of (L := L) lay_ok Tryz.func23 rfl Tryz.ntmps23 rfl ?_
  refine go_A3c8dd2 ?_
  refine ⟨_, rfl, ?_⟩
  rfl
theorem whole_q {m : M} {z : Int} {k : Nat} (h : IsZ m z k) (hk : k ≤ 9000) : Ret Tryz.prog 27 [m] (mQ (z : Rat)) := by
  have mk := make_q h (of_z (n := 1) (by omega) (by omega)) hk (by omega)
  have e : z /. 1 = (z : Rat) := by have := Rat.num_divInt_den (z : Rat); simpa using this
  rw [e] at mk
  obtain ⟨b1, l1, rfl, _⟩ := h
  refine ret_of (L := L) lay_ok Tryz.func27 rfl Tryz.ntmps27 rfl ?_
  refine go_A3c8dd2 ?_
  refine ⟨_, rfl, ?_⟩
  rfl
theorem joined_q {ma mb : M} {a b : Rat} {j k f : Nat} {F : Int → Int → Int} {n : Nat} (ha : IsQ ma a j) (hb : IsQ mb b k) (hj : j ≤ 2000) (hk : k ≤ 2000) (plF : Plain Tryz.prog f) (pf : Ret Tryz.prog f [mI (a.num * b.den), mI (b.num * a.den)] (mI (F (a.num * b.den) (b.num * a.den)))) (hF : (F (a.num * b.den) (b.num * a.den)).natAbs < W ^ n) (hn : n ≤ 9000) :
    Ret Tryz.prog 63 [ma, mb, .fn f] (mQ (F (a.num * b.den) (b.num * a.den) /. ((a.den * b.den : Nat) : Int))) := by
  have sa := ha.sq
  have sb := hb.sq
  have k1 := norm_q ha (by omega)
  have k2 := norm_q hb (by omega)
  have m1 := zmul_r (numZ sa) (denZ sb) (by omega) (by omega)
  have m2 := zmul_r (numZ sb) (denZ sa) (by omega) (by omega)
  have m3 := zmul_r (denZ sa) (denZ sb) (by omega) (by omega)
  have sz1 : Sz (a.den : Int) j := ⟨sa.d⟩
  have sz2 : Sz (b.den : Int) k := ⟨sb.d⟩
  have mk := make_q (isZ_mI hF) (Sz.isZ (Sz.mul sz1 sz2)) hn (by omega)
  obtain ⟨b1, l1, b2, l2, rfl, _⟩ := ha
  obtain ⟨b3, l3, b4, l4, rfl, _⟩ := hb
  refine ret_of (L := L) lay_ok Tryz.func63 rfl Tryz.ntmps63 rfl ?_
  refine go_A3c8dd2 ?_
  refine ⟨_, rfl, ?_⟩
  rfl
theorem joinZ {a b : Rat} {j k : Nat} (ha : Sq a j) (hb : Sq b k) : Sz (a.num * b.den) (j + k) ∧ Sz (b.num * a.den) (k + j) := ⟨Sz.mul ⟨ha.n⟩ ⟨hb.d⟩, Sz.mul ⟨hb.n⟩ ⟨ha.d⟩⟩
theorem add_q {ma mb : M} {a b : Rat} {j k : Nat} (ha : IsQ ma a j) (hb : IsQ mb b k) (hj : j ≤ 1000) (hk : k ≤ 1000) : Ret Tryz.prog 14 [ma, mb] (mQ (a + b)) := by
  obtain ⟨z1, z2⟩ := joinZ ha.sq hb.sq
  have jn := joined_q (F := fun x y => x + y) (f := 64) ha hb (by omega) (by omega) plain64 (zadd_r z1.isZ z2.isZ (by omega) (by omega)) (Sz.add z1 z2).h (by omega)
  obtain ⟨b1, l1, b2, l2, rfl, _⟩ := ha
  obtain ⟨b3, l3, b4, l4, rfl, _⟩ := hb
  rw [Rat.add_def', ← Rat.divInt_ofNat]
  refine ret_of (L := L) lay_ok Tryz.func14 rfl Tryz.ntmps14 rfl ?_
  refine go_A3c8dd2 ?_
  refine ⟨_, rfl, ?_⟩
  rfl
theorem subf_q {x y : Int} {j k : Nat} (hx : Sz x j) (hy : Sz y k) (hj : j ≤ 20000) (hk : k ≤ 20000) : Ret Tryz.prog 69 [mI x, mI y] (mI (x - y)) := by
  have ng := neg_r hy.isZ (by omega)
  have ad := zadd_r hx.isZ hy.neg.isZ (by omega) (by omega)
  rw [← Int.sub_eq_add_neg] at ad
  refine ret_of (L := L) lay_ok Tryz.func69 rfl Tryz.ntmps69 rfl ?_
  refine go_A3c8dd2 ?_
  refine cl (by exact rfl) plain64 rfl ad ?_
  refine go ?_
  refine ⟨_, rfl, ?_⟩
  rfl
theorem sub_q {ma mb : M} {a b : Rat} {j k : Nat} (ha : IsQ ma a j) (hb : IsQ mb b k) (hj : j ≤ 1000) (hk : k ≤ 1000) : Ret Tryz.prog 16 [ma, mb] (mQ (a - b)) := by
  obtain ⟨z1, z2⟩ := joinZ ha.sq hb.sq
  have jn := joined_q (F := fun x y => x - y) (f := 69) ha hb (by omega) (by omega) plain69 (subf_q z1 z2 (by omega) (by omega)) (Sz.sub z1 z2).h (by omega)
  obtain ⟨b1, l1, b2, l2, rfl, _⟩ := ha
  obtain ⟨b3, l3, b4, l4, rfl, _⟩ := hb
  rw [Rat.sub_def', ← Rat.divInt_ofNat]
  refine ret_of (L := L) lay_ok Tryz.func16 rfl Tryz.ntmps16 rfl ?_
  refine go_A3c8dd2 ?_
  refine ⟨_, rfl, ?_⟩
  rfl
theorem mul_q {ma mb : M} {a b : Rat} {j k : Nat} (ha : IsQ ma a j) (hb : IsQ mb b k) (hj : j ≤ 2000) (hk : k ≤ 2000) : Ret Tryz.prog 18 [ma, mb] (mQ (a * b)) := by
  obtain ⟨b1, l1, b2, l2, rfl, hd1, hd2, hl1, hl2, h1, rfl⟩ := ha
  obtain ⟨b3, l3, b4, l4, rfl, hd3, hd4, hl3, hl4, h2, rfl⟩ := hb
  have i1 : IsZ (.agg [.bool b1, mW l1]) (sg b1 (Tw.val W l1)) j := ⟨b1, l1, rfl, hd1, hl1, rfl⟩
  have i2 : IsZ (.agg [.bool b3, mW l3]) (sg b3 (Tw.val W l3)) k := ⟨b3, l3, rfl, hd3, hl3, rfl⟩
  have i3 := isZ_mD (b := b2) hd2 hl2 h1
  have i4 := isZ_mD (b := b4) hd4 hl4 h2
  have m1 := zmul_r i1 i2 (by omega) (by omega)
  have m2 := zmul_r i3 i4 (by omega) (by omega)
  have mk := make_q (Sz.isZ (Sz.mul (Sz.of i1) (Sz.of i2))) (Sz.isZ (Sz.mul (Sz.of i3) (Sz.of i4))) (by omega) (by omega)
  rw [Rat.divInt_mul_divInt]
  refine ret_of (L := L) lay_ok Tryz.func18 rfl Tryz.ntmps18 rfl ?_
  refine go_A3c8dd2 ?_
  refine ⟨_, rfl, ?_⟩
  rfl
theorem quo_q {ma mb : M} {a b : Rat} {j k : Nat} (ha : IsQ ma a j) (hb : IsQ mb b k) (hj : j ≤ 2000) (hk : k ≤ 2000) : Ret Tryz.prog 20 [ma, mb] (mQ (a / b)) := by
  have sb := hb.sq
  have k2 := norm_q hb (by omega)
  obtain ⟨b1, l1, b2, l2, rfl, hd1, hd2, hl1, hl2, h1, rfl⟩ := ha
  obtain ⟨b3, l3, b4, l4, rfl, _⟩ := hb
  have i1 : IsZ (.agg [.bool b1, mW l1]) (sg b1 (Tw.val W l1)) j := ⟨b1, l1, rfl, hd1, hl1, rfl⟩
  have i3 := isZ_mD (b := b2) hd2 hl2 h1
  have m1 := zmul_r i1 (denZ sb) (by omega) (by omega)
  have m2 := zmul_r i3 (numZ sb) (by omega) (by omega)
  have sz1 : Sz (b.den : Int) k := ⟨sb.d⟩
  have sz2 : Sz b.num k := ⟨sb.n⟩
  have mk := make_q (Sz.isZ (Sz.mul (Sz.of i1) sz1)) (Sz.isZ (Sz.mul (Sz.of i3) sz2)) (by omega) (by omega)
  rw [Rat.div_def, Rat.inv_def, Rat.divInt_mul_divInt]
  refine ret_of (L := L) lay_ok Tryz.func20 rfl Tryz.ntmps20 rfl ?_
  refine go_A3c8dd2 ?_
  refine ⟨_, rfl, ?_⟩
  rfl
theorem neg_q {ma : M} {a : Rat} {j : Nat} (ha : IsQ ma a j) (hj : j ≤ 2000) : Ret Tryz.prog 28 [ma] (mQ (-a)) := by
  obtain ⟨b1, l1, b2, l2, rfl, hd1, hd2, hl1, hl2, h1, rfl⟩ := ha
  have i1 : IsZ (.agg [.bool b1, mW l1]) (sg b1 (Tw.val W l1)) j := ⟨b1, l1, rfl, hd1, hl1, rfl⟩
  have i3 := isZ_mD (b := b2) hd2 hl2 h1
  have ng := neg_r i1 (by omega)
  have mk := make_q (Sz.isZ (Sz.neg (Sz.of i1))) i3 (by omega) (by omega)
  rw [Rat.neg_divInt]
  refine ret_of (L := L) lay_ok Tryz.func28 rfl Tryz.ntmps28 rfl ?_
  refine go_A3c8dd2 ?_
  refine ⟨_, rfl, ?_⟩
  rfl
theorem wrap_sign (n d : Int) : IntKind.i64.wrap (signZ n * signZ d) = signQ (n /. d) := by
  rw [sign_divInt, IntKind.wrap_i64]
  unfold signZ
  split <;> (try split) <;> (try split) <;> (try split) <;> omega
theorem sign_q {ma : M} {a : Rat} {j : Nat} (ha : IsQ ma a j) (hj : j ≤ 9000) : Ret Tryz.prog 36 [ma] (.int .i64 (signQ a)) := by
  obtain ⟨b1, l1, b2, l2, rfl, hd1, hd2, hl1, hl2, h1, rfl⟩ := ha
  have i1 : IsZ (.agg [.bool b1, mW l1]) (sg b1 (Tw.val W l1)) j := ⟨b1, l1, rfl, hd1, hl1, rfl⟩
  have i3 := isZ_mD (b := b2) hd2 hl2 h1
  have sd := sign_r i3 (by omega)
  have sn := sign_r i1 (by omega)
  refine ret_of (L := L) lay_ok Tryz.func36 rfl Tryz.ntmps36 rfl ?_
  refine go_A3c8dd2 ?_
  refine ⟨_, rfl, ?_⟩
  show M.int .i64 _ = _
  rw [wrap_sign]
theorem abs_q {ma : M} {a : Rat} {j : Nat} (ha : IsQ ma a j) (hj : j ≤ 2000) : Ret Tryz.prog 30 [ma] (mQ (absQ a)) := by
  have sg := sign_q ha (by omega)
  have kn := neg_q ha hj
  have k1 := norm_q ha (by omega)
  obtain ⟨b1, l1, b2, l2, rfl, _⟩ := ha
  have hs := @signQ_lt a
  refine ret_of (L := L) lay_ok Tryz.func30 rfl Tryz.ntmps30 rfl ?_
  refine go_A3c8dd2 ?_
  refine awp_cond rfl (fun hb => ?_) (fun hb => ?_)
  · rw [decide_eq_true_eq, hs] at hb
    refine go_A3c8dd2 ?_
    refine ⟨_, rfl, ?_⟩
    unfold absQ
    rw [if_pos hb]; rfl
  · rw [decide_eq_false_iff_not, hs] at hb
    refine go_A3c8dd2 ?_
    refine ⟨_, rfl, ?_⟩
    unfold absQ
    rw [if_neg hb]; rfl
theorem cmp_q {ma mb : M} {a b : Rat} {j k : Nat} (ha : IsQ ma a j) (hb : IsQ mb b k) (hj : j ≤ 1000) (hk : k ≤ 1000) : Ret Tryz.prog 37 [ma, mb] (.int .i64 (cmpQ a b)) := by
  have ks := sub_q ha hb hj hk
  have sg := sign_q (Sq.isQ (Sq.sub ha.sq hb.sq)) (by omega)
  obtain ⟨b1, l1, b2, l2, rfl, _⟩ := ha
  obtain ⟨b3, l3, b4, l4, rfl, _⟩ := hb
  refine ret_of (L := L) lay_ok Tryz.func37 rfl Tryz.ntmps37 rfl ?_
  refine go_A3c8dd2 ?_
  refine ⟨_, rfl, ?_⟩
  rfl
theorem cmpQ_lt {a b : Rat} : cmpQ a b < 0 ↔ a < b := by
  unfold cmpQ
  rw [signQ_lt]
  constructor <;> intro h <;> grind
theorem cmpQ_gt {a b : Rat} : 0 < cmpQ a b ↔ b < a := by
  unfold cmpQ
  rw [signQ_pos]
  constructor <;> intro h <;> grind
theorem cmpQ_eq {a b : Rat} : cmpQ a b = 0 ↔ a = b := by
  unfold cmpQ
  rw [signQ_zero]
  constructor <;> intro h <;> grind
theorem sameb {a b : Rat} : (cmpQ a b == 0) = decide (a = b) := by
  have h := @cmpQ_eq a b
  by_cases e : a = b
  · rw [decide_eq_true e, beq_iff_eq]; exact h.2 e
  · rw [decide_eq_false e, beq_eq_false_iff_ne]; exact fun h' => e (h.1 h')
theorem sameQ_q {ma mb : M} {a b : Rat} {j k : Nat} (ha : IsQ ma a j) (hb : IsQ mb b k) (hj : j ≤ 1000) (hk : k ≤ 1000) : Ret Tryz.prog 39 [ma, mb] (.bool (decide (a = b))) := by
  have kc := cmp_q ha hb hj hk
  obtain ⟨b1, l1, b2, l2, rfl, _⟩ := ha
  obtain ⟨b3, l3, b4, l4, rfl, _⟩ := hb
  refine ret_of (L := L) lay_ok Tryz.func39 rfl Tryz.ntmps39 rfl ?_
  refine go_A3c8dd2 ?_
  refine ⟨_, rfl, ?_⟩
  show M.bool _ = _
  rw [sameb]
theorem max_q {ma mb : M} {a b : Rat} {j k : Nat} (ha : IsQ ma a j) (hb : IsQ mb b k) (hj : j ≤ 1000) (hk : k ≤ 1000) : Ret Tryz.prog 32 [ma, mb] (mQ (maxQ a b)) := by
  have kc := cmp_q ha hb hj hk
  have k1 := norm_q ha (by omega)
  have k2 := norm_q hb (by omega)
  obtain ⟨b1, l1, b2, l2, rfl, _⟩ := ha
  obtain ⟨b3, l3, b4, l4, rfl, _⟩ := hb
  have hs := @cmpQ_lt a b
  refine ret_of (L := L) lay_ok Tryz.func32 rfl Tryz.ntmps32 rfl ?_
  refine go_A3c8dd2 ?_
  refine awp_cond rfl (fun hb => ?_) (fun hb => ?_)
  · rw [decide_eq_true_eq, hs] at hb
    refine go_A3c8dd2 ?_
    refine ⟨_, rfl, ?_⟩
    unfold maxQ
    rw [if_pos hb]; rfl
  · rw [decide_eq_false_iff_not, hs] at hb
    refine go_A3c8dd2 ?_
    refine ⟨_, rfl, ?_⟩
    unfold maxQ
    rw [if_neg hb]; rfl
theorem min_q {ma mb : M} {a b : Rat} {j k : Nat} (ha : IsQ ma a j) (hb : IsQ mb b k) (hj : j ≤ 1000) (hk : k ≤ 1000) : Ret Tryz.prog 34 [ma, mb] (mQ (minQ a b)) := by
  have kc := cmp_q ha hb hj hk
  have k1 := norm_q ha (by omega)
  have k2 := norm_q hb (by omega)
  obtain ⟨b1, l1, b2, l2, rfl, _⟩ := ha
  obtain ⟨b3, l3, b4, l4, rfl, _⟩ := hb
  have hs := @cmpQ_gt a b
  refine ret_of (L := L) lay_ok Tryz.func34 rfl Tryz.ntmps34 rfl ?_
  refine go_A3c8dd2 ?_
  refine awp_cond rfl (fun hb => ?_) (fun hb => ?_)
  · rw [decide_eq_true_eq, gt_iff_lt, hs] at hb
    refine go_A3c8dd2 ?_
    refine ⟨_, rfl, ?_⟩
    unfold minQ
    rw [if_pos hb]; rfl
  · rw [decide_eq_false_iff_not, gt_iff_lt, hs] at hb
    refine go_A3c8dd2 ?_
    refine ⟨_, rfl, ?_⟩
    unfold minQ
    rw [if_neg hb]; rfl
theorem modZ_pos {a : Int} {d : Nat} (h : d ≠ 0) : modZ a (d : Int) = a % d := by
  unfold modZ
  rw [if_neg (by omega)]
theorem floor_q {ma : M} {a : Rat} {j : Nat} (ha : IsQ ma a j) (hj : j ≤ 2000) : Ret Tryz.prog 42 [ma] (mI a.floor) := by
  have sa := ha.sq
  have k1 := norm_q ha (by omega)
  have dm := zdivmod_r (numZ sa) (denZ sa) (by omega) (by omega)
  obtain ⟨b1, l1, b2, l2, rfl, _⟩ := ha
  rw [Rat.floor_def]
  refine ret_of (L := L) lay_ok Tryz.func42 rfl Tryz.ntmps42 rfl ?_
  refine go_A3c8dd2 ?_
  refine ⟨_, rfl, ?_⟩
  rfl
theorem ceil_q {ma : M} {a : Rat} {j : Nat} (ha : IsQ ma a j) (hj : j ≤ 2000) : Ret Tryz.prog 44 [ma] (mI a.ceil) := by
  have sa := ha.sq
  have kn := neg_q ha hj
  have fl := floor_q (Sq.isQ sa.neg) hj
  have ng := neg_r (isZ_mI sa.neg.floor) (by omega)
  obtain ⟨b1, l1, b2, l2, rfl, _⟩ := ha
  rw [Rat.ceil_eq_neg_floor_neg]
  refine ret_of (L := L) lay_ok Tryz.func44 rfl Tryz.ntmps44 rfl ?_
  refine go_A3c8dd2 ?_
  refine ⟨_, rfl, ?_⟩
  rfl
theorem den_len {q : Rat} : ((((digs W (if q.den = 1 then 0 else q.den)).length : Nat) : Int) == 0) = decide (q.den = 1) := by
  by_cases h : q.den = 1
  · rw [decide_eq_true h, if_pos h, digs_zero]; rfl
  · rw [decide_eq_false h, if_neg h, beq_eq_false_iff_ne]
    have := len_pos q.den_nz
    omega
theorem isWhole_q {ma : M} {a : Rat} {j : Nat} (ha : IsQ ma a j) (hj : j ≤ 2000) : Ret Tryz.prog 40 [ma] (.bool (decide (a.den = 1))) := by
  have k1 := norm_q ha (by omega)
  obtain ⟨b1, l1, b2, l2, rfl, _⟩ := ha
  refine ret_of (L := L) lay_ok Tryz.func40 rfl Tryz.ntmps40 rfl ?_
  refine go_A3c8dd2 ?_
  refine ⟨_, rfl, ?_⟩
  show M.bool _ = _
  exact congrArg M.bool den_len
theorem div_q {ma mb : M} {a b : Rat} {j k : Nat} (ha : IsQ ma a j) (hb : IsQ mb b k) (hj : j ≤ 2000) (hk : k ≤ 2000) : Ret Tryz.prog 13 [ma, mb] (.tup [mQ (a / b), .int .i64 (if b = 0 then 10 else 0)]) := by
  have sg := sign_q hb (by omega)
  have kq := quo_q ha hb hj hk
  obtain ⟨b1, l1, b2, l2, rfl, _⟩ := ha
  obtain ⟨b3, l3, b4, l4, rfl, _⟩ := hb
  by_cases h : b = 0
  · rw [signQ_zero.2 h] at sg
    rw [if_pos h, h, Rat.div_def, Rat.inv_zero, Rat.mul_zero]
    refine ret_ofL (L := L) lay_ok Tryz.func13 rfl Tryz.ntmps13 rfl ?_
    refine go_A3c8dd2 ?_
    refine ⟨_, rfl, ?_⟩
    exact le_tup (.cons le_zeroQ (.cons (Le.refl _) .nil))
  · rw [if_neg h]
    have hne : (signQ b == 0) = false := by rw [beq_eq_false_iff_ne]; exact fun e => h (signQ_zero.1 e)
    refine ret_ofL (L := L) lay_ok Tryz.func13 rfl Tryz.ntmps13 rfl ?_
    refine go_A3c8dd2 ?_
    refine awp_cond rfl (fun hb => ?_) (fun hb => ?_)
    · rw [hne] at hb; exact absurd hb (by decide)
    refine go_A3c8dd2 ?_
    refine cl (by exact rfl) plain20 rfl kq ?_
    refine go ?_
    refine ⟨_, rfl, ?_⟩
    exact Le.refl _
/-- a fraction's text -/
def textQ (q : Rat) : List UInt8 := if q.den = 1 then textZ q.num else textZ q.num ++ 47 :: textZ (q.den : Int)
theorem textZ_len {z : Int} {k : Nat} (h : z.natAbs < W ^ k) : (textZ z).length ≤ 20 * k + 1 := by
  have := decE_len h
  unfold textZ dec
  split
  · simp
  · split <;> simp <;> omega
theorem textQ_r {ma : M} {a : Rat} {j : Nat} (ha : IsQ ma a j) (hj : j ≤ 2000) : Ret Tryz.prog 46 [ma] (.str (textQ a)) := by
  have sa := ha.sq
  have k1 := norm_q ha (by omega)
  have t1 := text_r (numZ sa) (by omega)
  have t2 := text_r (denZ sa) (by omega)
  have h1 := textZ_len sa.n
  have h2 := textZ_len (z := (a.den : Int)) sa.d
  obtain ⟨b1, l1, b2, l2, rfl, _⟩ := ha
  by_cases h : a.den = 1
  · refine ret_of (L := L) lay_ok Tryz.func46 rfl Tryz.ntmps46 rfl ?_
    refine go_A3c8dd2 ?_
    refine awp_cond rfl (fun hb => ?_) (fun hb => ?_)
    · refine go ?_
      refine cl (by exact rfl) plain85 rfl t1 ?_
      refine go ?_
      refine ⟨_, rfl, ?_⟩
      unfold textQ
      rw [if_pos h]; rfl
    · rw [den_len, decide_eq_false_iff_not] at hb; exact absurd h hb
  · have t2' : Ret Tryz.prog 85 [.agg [.bool false, mN (if a.den = 1 then 0 else a.den)]] (.str (textZ (a.den : Int))) := by
      rw [if_neg h]
      rw [mI_nat] at t2; exact t2
    refine ret_of (L := L) lay_ok Tryz.func46 rfl Tryz.ntmps46 rfl ?_
    refine go_A3c8dd2 ?_
    refine awp_cond rfl (fun hb => ?_) (fun hb => ?_)
    · rw [den_len, decide_eq_true_eq] at hb; exact absurd hb h
    · refine go ?_
      refine cl (by exact rfl) plain85 rfl t1 ?_
      refine go ?_
      refine ar_addStr (wantF_ok rfl) rfl rfl rfl (by simp; omega) ?_
      refine go ?_
      refine cl (by exact rfl) plain85 rfl t2' ?_
      refine go ?_
      refine ar_addStr (wantF_ok rfl) rfl rfl rfl (by simp; omega) ?_
      refine go ?_
      refine ⟨_, rfl, ?_⟩
      unfold textQ
      rw [if_neg h]
      show M.str _ = _
      simp
end Go.Proofs.YtpahppekalgegaaGreat
