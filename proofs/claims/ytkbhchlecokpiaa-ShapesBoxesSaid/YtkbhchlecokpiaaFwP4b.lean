/- Package ratio, by the logic over data: sums, products, order, texts. -/
import Derived.Test.YtkbhchlecokpiaaFwP4
import Derived.Test.YtkbhchlecokpiaaFwD4
set_option linter.unusedVariables false
set_option linter.unusedSimpArgs false
namespace Go.Proofs.Ytkbhchlecokpiaa
open Go Go.RowKit Fw Tw Rat
set_option linter.unusedVariables false
set_option linter.unusedSimpArgs false
theorem go_Ad940a1 {p q : Prop} (h : q) (f : Bx q → p := by intro h; (repeat (first | refine go1 ?_ | refine cl (by exact rfl) plain69 rfl den_mQ ?_ | refine cl (by exact rfl) plain69 rfl den_r ?_ | refine cl (by exact rfl) plain103 rfl one_r ?_ | refine cl (by exact rfl) plain38 rfl k1 ?_ | refine cl (by exact rfl) plain38 rfl k2 ?_ | refine cl (by exact rfl) plain111 rfl m1 ?_ | refine cl (by exact rfl) plain111 rfl m2 ?_ | refine cl (by exact rfl) plain111 rfl m3 ?_ | refine cl (by exact rfl) plain68 rfl mk ?_ | refine cl (by exact rfl) plain83 rfl ng ?_ | refine cl (by exact rfl) plain79 rfl sd ?_ | refine cl (by exact rfl) plain79 rfl sn ?_ | refine cl (by exact rfl) plain52 rfl sg ?_ | refine cl (by exact rfl) plain53 rfl ks ?_ | refine cl (by exact rfl) plain19 rfl kc ?_ | refine cl (by exact rfl) plain135 rfl dm ?_ | refine cl (by exact rfl) plain80 rfl jn ?_ | refine cl (by exact rfl) plain78 rfl (of_r (by omega) (by omega)) ?_ | refine cl (by exact rfl) plF rfl pf ?_)); exact h.un) : p := f ⟨h⟩
theorem numZ {q : Rat} {k : Nat} (h : Sq q k) : IsZ (mI q.num) q.num k := isZ_mI h.n
theorem denZ {q : Rat} {k : Nat} (h : Sq q k) : IsZ (mI (q.den : Int)) (q.den : Int) k := isZ_mI h.d
theorem of_q {n d : Int} (hn1 : -9223372036854775808 ≤ n) (hn2 : n ≤ 9223372036854775807) (hd1 : -9223372036854775808 ≤ d) (hd2 : d ≤ 9223372036854775807) : Ret Try.prog 50 [.int .i64 n, .int .i64 d] (mQ (n /. d)) := by
  have mk := make_q (of_z hn1 hn2) (of_z hd1 hd2) (by omega) (by omega)
  refine ret_of (L := L) lay_ok Try.func50 rfl Try.ntmps50 rfl ?_
  refine go_Ad940a1 ?_
  refine ⟨_, rfl, ?_⟩
  rfl
theorem norm_q {m : M} {q : Rat} {k : Nat} (h : IsQ m q k) (hk : k ≤ 9000) : Ret Try.prog 38 [m] (mQ q) := by
  obtain ⟨b1, l1, b2, l2, rfl, hd1, hd2, hl1, hl2, h1, rfl⟩ := h
  have mk := make_q (n := sg b1 (Tw.val W l1)) ⟨b1, l1, rfl, hd1, hl1, rfl⟩ (isZ_mD (b := b2) hd2 hl2 h1) hk hk
  refine ret_of (L := L) lay_ok Try.func38 rfl Try.ntmps38 rfl ?_
  refine go_Ad940a1 ?_
  refine ⟨_, rfl, ?_⟩
  rfl
theorem joined_q {ma mb : M} {a b : Rat} {j k f : Nat} {F : Int → Int → Int} {n : Nat} (ha : IsQ ma a j) (hb : IsQ mb b k) (hj : j ≤ 2000) (hk : k ≤ 2000) (plF : Plain Try.prog f) (pf : Ret Try.prog f [mI (a.num * b.den), mI (b.num * a.den)] (mI (F (a.num * b.den) (b.num * a.den)))) (hF : (F (a.num * b.den) (b.num * a.den)).natAbs < W ^ n) (hn : n ≤ 9000) :
    Ret Try.prog 80 [ma, mb, .fn f] (mQ (F (a.num * b.den) (b.num * a.den) /. ((a.den * b.den : Nat) : Int))) := by
  have sa := ha.sq
  have sb := hb.sq
  have k1 := norm_q ha (by omega)
  have k2 := norm_q hb (by omega)
  have m1 := zmul_r (numZ sa) (denZ sb) (by omega) (by omega)
  have m2 := zmul_r (numZ sb) (denZ sa) (by omega) (by omega)
  have m3 := zmul_r (denZ sa) (denZ sb) (by omega) (by omega)
  have sz1 : Sz (a.den : Int) j := ⟨sa.d⟩
  have sz2 : Sz (b.den : Int) k := ⟨sb.d⟩
  have mk := make_q (isZ_mI hF) (Sz.isZ (Sz.mul sz1 sz2)) hn (by omega)
  obtain ⟨b1, l1, b2, l2, rfl, _⟩ := ha
  obtain ⟨b3, l3, b4, l4, rfl, _⟩ := hb
  refine ret_of (L := L) lay_ok Try.func80 rfl Try.ntmps80 rfl ?_
  refine go_Ad940a1 ?_
  refine ⟨_, rfl, ?_⟩
  rfl
theorem joinZ {a b : Rat} {j k : Nat} (ha : Sq a j) (hb : Sq b k) : Sz (a.num * b.den) (j + k) ∧ Sz (b.num * a.den) (k + j) := ⟨Sz.mul ⟨ha.n⟩ ⟨hb.d⟩, Sz.mul ⟨hb.n⟩ ⟨ha.d⟩⟩
theorem subf_q {x y : Int} {j k : Nat} (hx : Sz x j) (hy : Sz y k) (hj : j ≤ 20000) (hk : k ≤ 20000) : Ret Try.prog 81 [mI x, mI y] (mI (x - y)) := by
  have ng := neg_r hy.isZ (by omega)
  have ad := zadd_r hx.isZ hy.neg.isZ (by omega) (by omega)
  rw [← Int.sub_eq_add_neg] at ad
  refine ret_of (L := L) lay_ok Try.func81 rfl Try.ntmps81 rfl ?_
  refine go_Ad940a1 ?_
  refine cl (by exact rfl) plain82 rfl ad ?_
  refine go ?_
  refine ⟨_, rfl, ?_⟩
  rfl
theorem sub_q {ma mb : M} {a b : Rat} {j k : Nat} (ha : IsQ ma a j) (hb : IsQ mb b k) (hj : j ≤ 1000) (hk : k ≤ 1000) : Ret Try.prog 53 [ma, mb] (mQ (a - b)) := by
  obtain ⟨z1, z2⟩ := joinZ ha.sq hb.sq
  have jn := joined_q (F := fun x y => x - y) (f := 81) ha hb (by omega) (by omega) plain81 (subf_q z1 z2 (by omega) (by omega)) (Sz.sub z1 z2).h (by omega)
  obtain ⟨b1, l1, b2, l2, rfl, _⟩ := ha
  obtain ⟨b3, l3, b4, l4, rfl, _⟩ := hb
  rw [Rat.sub_def', ← Rat.divInt_ofNat]
  refine ret_of (L := L) lay_ok Try.func53 rfl Try.ntmps53 rfl ?_
  refine go_Ad940a1 ?_
  refine ⟨_, rfl, ?_⟩
  rfl
theorem wrap_sign (n d : Int) : IntKind.i64.wrap (signZ n * signZ d) = signQ (n /. d) := by
  rw [sign_divInt, IntKind.wrap_i64]
  unfold signZ
  split <;> (try split) <;> (try split) <;> (try split) <;> omega
theorem sign_q {ma : M} {a : Rat} {j : Nat} (ha : IsQ ma a j) (hj : j ≤ 9000) : Ret Try.prog 52 [ma] (.int .i64 (signQ a)) := by
  obtain ⟨b1, l1, b2, l2, rfl, hd1, hd2, hl1, hl2, h1, rfl⟩ := ha
  have i1 : IsZ (.agg [.bool b1, mW l1]) (sg b1 (Tw.val W l1)) j := ⟨b1, l1, rfl, hd1, hl1, rfl⟩
  have i3 := isZ_mD (b := b2) hd2 hl2 h1
  have sd := sign_r i3 (by omega)
  have sn := sign_r i1 (by omega)
  refine ret_of (L := L) lay_ok Try.func52 rfl Try.ntmps52 rfl ?_
  refine go_Ad940a1 ?_
  refine ⟨_, rfl, ?_⟩
  show M.int .i64 _ = _
  rw [wrap_sign]
theorem cmp_q {ma mb : M} {a b : Rat} {j k : Nat} (ha : IsQ ma a j) (hb : IsQ mb b k) (hj : j ≤ 1000) (hk : k ≤ 1000) : Ret Try.prog 19 [ma, mb] (.int .i64 (cmpQ a b)) := by
  have ks := sub_q ha hb hj hk
  have sg := sign_q (Sq.isQ (Sq.sub ha.sq hb.sq)) (by omega)
  obtain ⟨b1, l1, b2, l2, rfl, _⟩ := ha
  obtain ⟨b3, l3, b4, l4, rfl, _⟩ := hb
  refine ret_of (L := L) lay_ok Try.func19 rfl Try.ntmps19 rfl ?_
  refine go_Ad940a1 ?_
  refine ⟨_, rfl, ?_⟩
  rfl
theorem cmpQ_lt {a b : Rat} : cmpQ a b < 0 ↔ a < b := by
  unfold cmpQ
  rw [signQ_lt]
  constructor <;> intro h <;> grind
theorem cmpQ_gt {a b : Rat} : 0 < cmpQ a b ↔ b < a := by
  unfold cmpQ
  rw [signQ_pos]
  constructor <;> intro h <;> grind
theorem cmpQ_eq {a b : Rat} : cmpQ a b = 0 ↔ a = b := by
  unfold cmpQ
  rw [signQ_zero]
  constructor <;> intro h <;> grind
theorem sameb {a b : Rat} : (cmpQ a b == 0) = decide (a = b) := by
  have h := @cmpQ_eq a b
  by_cases e : a = b
  · rw [decide_eq_true e, beq_iff_eq]; exact h.2 e
  · rw [decide_eq_false e, beq_eq_false_iff_ne]; exact fun h' => e (h.1 h')
theorem sameQ_q {ma mb : M} {a b : Rat} {j k : Nat} (ha : IsQ ma a j) (hb : IsQ mb b k) (hj : j ≤ 1000) (hk : k ≤ 1000) : Ret Try.prog 49 [ma, mb] (.bool (decide (a = b))) := by
  have kc := cmp_q ha hb hj hk
  obtain ⟨b1, l1, b2, l2, rfl, _⟩ := ha
  obtain ⟨b3, l3, b4, l4, rfl, _⟩ := hb
  refine ret_of (L := L) lay_ok Try.func49 rfl Try.ntmps49 rfl ?_
  refine go_Ad940a1 ?_
  refine ⟨_, rfl, ?_⟩
  show M.bool _ = _
  rw [sameb]
theorem modZ_pos {a : Int} {d : Nat} (h : d ≠ 0) : modZ a (d : Int) = a % d := by
  unfold modZ
  rw [if_neg (by omega)]
theorem den_len {q : Rat} : ((((digs W (if q.den = 1 then 0 else q.den)).length : Nat) : Int) == 0) = decide (q.den = 1) := by
  by_cases h : q.den = 1
  · rw [decide_eq_true h, if_pos h, digs_zero]; rfl
  · rw [decide_eq_false h, if_neg h, beq_eq_false_iff_ne]
    have := len_pos q.den_nz
    omega
/-- a fraction's text -/
def textQ (q : Rat) : List UInt8 := if q.den = 1 then textZ q.num else textZ q.num ++ 47 :: textZ (q.den : Int)
theorem textZ_len {z : Int} {k : Nat} (h : z.natAbs < W ^ k) : (textZ z).length ≤ 20 * k + 1 := by
  have := decE_len h
  unfold textZ dec
  split
  · simp
  · split <;> simp <;> omega
theorem textQ_r {ma : M} {a : Rat} {j : Nat} (ha : IsQ ma a j) (hj : j ≤ 2000) : Ret Try.prog 66 [ma] (.str (textQ a)) := by
  have sa := ha.sq
  have k1 := norm_q ha (by omega)
  have t1 := text_r (numZ sa) (by omega)
  have t2 := text_r (denZ sa) (by omega)
  have h1 := textZ_len sa.n
  have h2 := textZ_len (z := (a.den : Int)) sa.d
  obtain ⟨b1, l1, b2, l2, rfl, _⟩ := ha
  by_cases h : a.den = 1
  · refine ret_of (L := L) lay_ok Try.func66 rfl Try.ntmps66 rfl ?_
    refine go_Ad940a1 ?_
    refine awp_cond rfl (fun hb => ?_) (fun hb => ?_)
    · refine go ?_
      refine cl (by exact rfl) plain99 rfl t1 ?_
      refine go ?_
      refine ⟨_, rfl, ?_⟩
      unfold textQ
      rw [if_pos h]; rfl
    · rw [den_len, decide_eq_false_iff_not] at hb; exact absurd h hb
  · have t2' : Ret Try.prog 99 [.agg [.bool false, mN (if a.den = 1 then 0 else a.den)]] (.str (textZ (a.den : Int))) := by
      rw [if_neg h]
      rw [mI_nat] at t2; exact t2
    refine ret_of (L := L) lay_ok Try.func66 rfl Try.ntmps66 rfl ?_
    refine go_Ad940a1 ?_
    refine awp_cond rfl (fun hb => ?_) (fun hb => ?_)
    · rw [den_len, decide_eq_true_eq] at hb; exact absurd hb h
    · refine go ?_
      refine cl (by exact rfl) plain99 rfl t1 ?_
      refine go ?_
      refine ar_addStr (wantF_ok rfl) rfl rfl rfl (by simp; omega) ?_
      refine go ?_
      refine cl (by exact rfl) plain99 rfl t2' ?_
      refine go ?_
      refine ar_addStr (wantF_ok rfl) rfl rfl rfl (by simp; omega) ?_
      refine go ?_
      refine ⟨_, rfl, ?_⟩
      unfold textQ
      rw [if_neg h]
      show M.str _ = _
      simp
end Go.Proofs.Ytkbhchlecokpiaa
