/- Statements of layer 4: what they ask of fractions. -/
import Derived.Test.YtkbhchlecokpiaaFwP4c
import Derived.Test.YtkbhchlecokpiaaFwL3
set_option linter.unusedVariables false
set_option linter.unusedSimpArgs false
namespace Go.Proofs.Ytkbhchlecokpiaa
open Go Go.RowKit Fw Tw Rat
set_option linter.unusedVariables false
set_option linter.unusedSimpArgs false
theorem sameRat_r {b1 b2 b3 b4 : Bool} {l1 l2 l3 l4 : List Nat} (h1 : l1.length ≤ 1000000000) (h2 : l2.length ≤ 1000000000) : Ret Try.prog 59 [.agg [.bool b1, mW l1, .bool b2, mW l2], .agg [.bool b3, mW l3, .bool b4, mW l4]] (.bool (b1 == b3 && decide (l1 = l3) && (b2 == b4 && decide (l2 = l4)))) := by
  have s1 := sameInt_r (b1 := b1) (b2 := b3) (l1 := l1) (l2 := l3) h1
  have s2 := sameInt_r (b1 := b2) (b2 := b4) (l1 := l2) (l2 := l4) h2
  generalize (b1 == b3 && decide (l1 = l3)) = x at *
  generalize (b2 == b4 && decide (l2 = l4)) = y at *
  cases x
  · refine ret_of (L := L) lay_ok Try.func59 rfl Try.ntmps59 rfl ?_
    refine go ?_
    refine cl (by exact rfl) plain89 rfl s1 ?_
    refine go ?_
    refine ⟨_, rfl, ?_⟩
    rfl
  · refine ret_of (L := L) lay_ok Try.func59 rfl Try.ntmps59 rfl ?_
    refine go ?_
    refine cl (by exact rfl) plain89 rfl s1 ?_
    refine go ?_
    refine cl (by exact rfl) plain89 rfl s2 ?_
    refine go ?_
    refine ⟨_, rfl, ?_⟩
    rfl
theorem mQ_inj {a b : Rat} : ((decide (a.num < 0) == decide (b.num < 0) && decide (digs W a.num.natAbs = digs W b.num.natAbs)) && (false == false && decide (digs W (if a.den = 1 then 0 else a.den) = digs W (if b.den = 1 then 0 else b.den)))) = decide (a = b) := by
  by_cases h : a = b
  · subst h; simp
  · rw [decide_eq_false h, Bool.eq_false_iff]
    intro hc
    simp only [Bool.and_eq_true, beq_iff_eq, decide_eq_true_eq] at hc
    obtain ⟨⟨h1, h2⟩, _, h3⟩ := hc
    have h4 := digs_inj W_two h2
    have h5 := digs_inj W_two h3
    apply h
    refine Rat.ext ?_ ?_
    · by_cases h6 : a.num < 0
      · have : b.num < 0 := by rw [decide_eq_true h6] at h1; exact of_decide_eq_true h1.symm
        omega
      · have : ¬ b.num < 0 := by rw [decide_eq_false h6] at h1; exact of_decide_eq_false h1.symm
        omega
    · have := a.den_nz
      have := b.den_nz
      split at h5 <;> split at h5 <;> omega
theorem sq_len {a : Rat} {k : Nat} (h : Sq a k) (hk : k ≤ 10000) : (digs W a.num.natAbs).length ≤ 1000000000 ∧ (digs W (if a.den = 1 then 0 else a.den)).length ≤ 1000000000 := by
  refine ⟨Nat.le_trans (length_digs_le W_two h.n) (by omega), ?_⟩
  split
  · rw [digs_zero]; simp
  · exact Nat.le_trans (length_digs_le W_two h.d) (by omega)
theorem sameQm_r {a b : Rat} {k : Nat} (h : Sq a k) (hk : k ≤ 10000) : Ret Try.prog 59 [mQ a, mQ b] (.bool (decide (a = b))) := by
  have := sameRat_r (b1 := decide (a.num < 0)) (b2 := false) (b3 := decide (b.num < 0)) (b4 := false) (l3 := digs W b.num.natAbs) (l4 := digs W (if b.den = 1 then 0 else b.den)) (sq_len h hk).1 (sq_len h hk).2
  rw [mQ_inj] at this
  exact this
theorem sameQm_t {a b : Rat} {k : Nat} (e : a = b) (h : Sq a k) (hk : k ≤ 10000) : Ret Try.prog 59 [mQ a, mQ b] (.bool true) := by
  have := sameQm_r (b := b) h hk
  rwa [decide_eq_true e] at this
theorem shortRat_r {b1 b2 : Bool} {l1 l2 : List Nat} {n : Int} : Ret Try.prog 67 [.agg [.bool b1, mW l1, .bool b2, mW l2], .int .i64 n] (.bool (decide ((l1.length : Int) ≤ n) && decide ((l2.length : Int) ≤ n))) := by
  by_cases h : (l1.length : Int) ≤ n
  · refine ret_of (L := L) lay_ok Try.func67 rfl Try.ntmps67 rfl ?_
    refine go ?_
    refine ar_eq 11 rfl (d' := .im (.bool true)) (eqt (decide_eq_true h)) ?_
    refine go ?_
    refine ⟨_, rfl, ?_⟩
    rw [decide_eq_true h]; rfl
  · refine ret_of (L := L) lay_ok Try.func67 rfl Try.ntmps67 rfl ?_
    refine go ?_
    refine ar_eq 11 rfl (d' := .im (.bool false)) (eqt (decide_eq_false h)) ?_
    refine go ?_
    refine ⟨_, rfl, ?_⟩
    rw [decide_eq_false h]; rfl
theorem textQ1 {q : Rat} {n : Int} {s : List UInt8} (hn : q.num = n) (hd : q.den = 1) (hs : parseZ s = (n, 0)) : textQ q = s := by
  unfold textQ
  rw [if_pos hd, hn]
  exact text_lit hs
theorem textQ2 {q : Rat} {n : Int} {d : Nat} {s1 s2 : List UInt8} (hn : q.num = n) (hd : q.den = d) (h1 : d ≠ 1) (hs1 : parseZ s1 = (n, 0)) (hs2 : parseZ s2 = ((d : Int), 0)) : textQ q = s1 ++ 47 :: s2 := by
  unfold textQ
  rw [hd, if_neg h1, hn, text_lit hs1, text_lit hs2]
theorem go_W4eebec {p q : Prop} (h : q) (f : Bx q → p := by intro h; (repeat (first | refine go1 ?_ | refine cl (by exact rfl) plain50 rfl (of_q (by omega) (by omega) (by omega) (by omega)) ?_ | refine cl (by exact rfl) plain38 rfl (norm_q (by first | assumption | exact Sq.isQ (by repeat (first | assumption | exact IsQ.sq (by assumption) | apply Sq.quo | apply Sq.sub | apply Sq.add | apply Sq.mul | apply Sq.neg | apply Sq.abs | apply Sq.max | apply Sq.min | exact Sq.of (by decide) (by decide) | exact Sq.whole (by assumption) | exact Sq.floor1 (by assumption) | exact Sq.ceil1 (by assumption)))) (by omega)) ?_ | refine cl (by exact rfl) plain53 rfl (sub_q (by first | assumption | exact Sq.isQ (by repeat (first | assumption | exact IsQ.sq (by assumption) | apply Sq.quo | apply Sq.sub | apply Sq.add | apply Sq.mul | apply Sq.neg | apply Sq.abs | apply Sq.max | apply Sq.min | exact Sq.of (by decide) (by decide) | exact Sq.whole (by assumption) | exact Sq.floor1 (by assumption) | exact Sq.ceil1 (by assumption)))) (by first | assumption | exact Sq.isQ (by repeat (first | assumption | exact IsQ.sq (by assumption) | apply Sq.quo | apply Sq.sub | apply Sq.add | apply Sq.mul | apply Sq.neg | apply Sq.abs | apply Sq.max | apply Sq.min | exact Sq.of (by decide) (by decide) | exact Sq.whole (by assumption) | exact Sq.floor1 (by assumption) | exact Sq.ceil1 (by assumption)))) (by omega) (by omega)) ?_ | refine cl (by exact rfl) plain19 rfl (cmp_q (by first | assumption | exact Sq.isQ (by repeat (first | assumption | exact IsQ.sq (by assumption) | apply Sq.quo | apply Sq.sub | apply Sq.add | apply Sq.mul | apply Sq.neg | apply Sq.abs | apply Sq.max | apply Sq.min | exact Sq.of (by decide) (by decide) | exact Sq.whole (by assumption) | exact Sq.floor1 (by assumption) | exact Sq.ceil1 (by assumption)))) (by first | assumption | exact Sq.isQ (by repeat (first | assumption | exact IsQ.sq (by assumption) | apply Sq.quo | apply Sq.sub | apply Sq.add | apply Sq.mul | apply Sq.neg | apply Sq.abs | apply Sq.max | apply Sq.min | exact Sq.of (by decide) (by decide) | exact Sq.whole (by assumption) | exact Sq.floor1 (by assumption) | exact Sq.ceil1 (by assumption)))) (by omega) (by omega)) ?_ | refine cl (by exact rfl) plain49 rfl (sameQ_q (by first | assumption | exact Sq.isQ (by repeat (first | assumption | exact IsQ.sq (by assumption) | apply Sq.quo | apply Sq.sub | apply Sq.add | apply Sq.mul | apply Sq.neg | apply Sq.abs | apply Sq.max | apply Sq.min | exact Sq.of (by decide) (by decide) | exact Sq.whole (by assumption) | exact Sq.floor1 (by assumption) | exact Sq.ceil1 (by assumption)))) (by first | assumption | exact Sq.isQ (by repeat (first | assumption | exact IsQ.sq (by assumption) | apply Sq.quo | apply Sq.sub | apply Sq.add | apply Sq.mul | apply Sq.neg | apply Sq.abs | apply Sq.max | apply Sq.min | exact Sq.of (by decide) (by decide) | exact Sq.whole (by assumption) | exact Sq.floor1 (by assumption) | exact Sq.ceil1 (by assumption)))) (by omega) (by omega)) ?_ | refine cl (by exact rfl) plain52 rfl (sign_q (by first | assumption | exact Sq.isQ (by repeat (first | assumption | exact IsQ.sq (by assumption) | apply Sq.quo | apply Sq.sub | apply Sq.add | apply Sq.mul | apply Sq.neg | apply Sq.abs | apply Sq.max | apply Sq.min | exact Sq.of (by decide) (by decide) | exact Sq.whole (by assumption) | exact Sq.floor1 (by assumption) | exact Sq.ceil1 (by assumption)))) (by omega)) ?_ | refine cl (by exact rfl) plain66 rfl (textQ_r (by first | assumption | exact Sq.isQ (by repeat (first | assumption | exact IsQ.sq (by assumption) | apply Sq.quo | apply Sq.sub | apply Sq.add | apply Sq.mul | apply Sq.neg | apply Sq.abs | apply Sq.max | apply Sq.min | exact Sq.of (by decide) (by decide) | exact Sq.whole (by assumption) | exact Sq.floor1 (by assumption) | exact Sq.ceil1 (by assumption)))) (by omega)) ?_ | refine cl (by exact rfl) plain95 rfl pr ?_)); exact h.un) : p := f ⟨h⟩
theorem parseQl_r {s : List UInt8} {q : Rat} {e : Int} (hs : s.length ≤ 1300) (h : parseQ s = (q, e)) : Ret Try.prog 95 [.str s] (.tup [mQ q, .int .i64 e]) := by
  have := parseQ_r (s := s) (by unfold maxLen; omega)
  rwa [h] at this
theorem isQ_of {b1 b2 : Bool} {l1 l2 : List Nat} (h1 : Dig W l1) (h2 : Dig W l2) {n : Nat} (hn : 1 ≤ n) (hs : (decide ((l1.length : Int) ≤ n) && decide ((l2.length : Int) ≤ n)) = true) : ∃ q, IsQ (.agg [.bool b1, mW l1, .bool b2, mW l2]) q n := by
  simp only [Bool.and_eq_true, decide_eq_true_eq] at hs
  exact ⟨_, b1, l1, b2, l2, rfl, h1, h2, by omega, by omega, hn, rfl⟩
theorem mul_one1 (a : Rat) : a * (1 /. 1) = a := by rw [Rat.divInt_self' (by decide), Rat.mul_one]
theorem zero_sub1 (a : Rat) : -a = 0 - a := by rw [Rat.sub_eq_add_neg, Rat.zero_add]
theorem go_F2c7345 {p q : Prop} (h : q) (f : Bx q → p := by intro h; (repeat (first | refine go1 ?_ | refine cl (by exact rfl) plain53 rfl sub0 ?_ | refine cl (by exact rfl) plain52 rfl sg1 ?_ | refine cl (by exact rfl) plain52 rfl sg2 ?_ | refine cl (by exact rfl) plain52 rfl sg3 ?_ | refine cl (by exact rfl) plain50 rfl (of_q (by omega) (by omega) (by omega) (by omega)) ?_ | refine cl (by exact rfl) plain38 rfl (norm_q (by first | assumption | exact Sq.isQ (by repeat (first | assumption | exact IsQ.sq (by assumption) | apply Sq.quo | apply Sq.sub | apply Sq.add | apply Sq.mul | apply Sq.neg | apply Sq.abs | apply Sq.max | apply Sq.min | exact Sq.of (by decide) (by decide) | exact Sq.whole (by assumption) | exact Sq.floor1 (by assumption) | exact Sq.ceil1 (by assumption)))) (by omega)) ?_ | refine cl (by exact rfl) plain53 rfl (sub_q (by first | assumption | exact Sq.isQ (by repeat (first | assumption | exact IsQ.sq (by assumption) | apply Sq.quo | apply Sq.sub | apply Sq.add | apply Sq.mul | apply Sq.neg | apply Sq.abs | apply Sq.max | apply Sq.min | exact Sq.of (by decide) (by decide) | exact Sq.whole (by assumption) | exact Sq.floor1 (by assumption) | exact Sq.ceil1 (by assumption)))) (by first | assumption | exact Sq.isQ (by repeat (first | assumption | exact IsQ.sq (by assumption) | apply Sq.quo | apply Sq.sub | apply Sq.add | apply Sq.mul | apply Sq.neg | apply Sq.abs | apply Sq.max | apply Sq.min | exact Sq.of (by decide) (by decide) | exact Sq.whole (by assumption) | exact Sq.floor1 (by assumption) | exact Sq.ceil1 (by assumption)))) (by omega) (by omega)) ?_ | refine cl (by exact rfl) plain19 rfl (cmp_q (by first | assumption | exact Sq.isQ (by repeat (first | assumption | exact IsQ.sq (by assumption) | apply Sq.quo | apply Sq.sub | apply Sq.add | apply Sq.mul | apply Sq.neg | apply Sq.abs | apply Sq.max | apply Sq.min | exact Sq.of (by decide) (by decide) | exact Sq.whole (by assumption) | exact Sq.floor1 (by assumption) | exact Sq.ceil1 (by assumption)))) (by first | assumption | exact Sq.isQ (by repeat (first | assumption | exact IsQ.sq (by assumption) | apply Sq.quo | apply Sq.sub | apply Sq.add | apply Sq.mul | apply Sq.neg | apply Sq.abs | apply Sq.max | apply Sq.min | exact Sq.of (by decide) (by decide) | exact Sq.whole (by assumption) | exact Sq.floor1 (by assumption) | exact Sq.ceil1 (by assumption)))) (by omega) (by omega)) ?_ | refine cl (by exact rfl) plain49 rfl (sameQ_q (by first | assumption | exact Sq.isQ (by repeat (first | assumption | exact IsQ.sq (by assumption) | apply Sq.quo | apply Sq.sub | apply Sq.add | apply Sq.mul | apply Sq.neg | apply Sq.abs | apply Sq.max | apply Sq.min | exact Sq.of (by decide) (by decide) | exact Sq.whole (by assumption) | exact Sq.floor1 (by assumption) | exact Sq.ceil1 (by assumption)))) (by first | assumption | exact Sq.isQ (by repeat (first | assumption | exact IsQ.sq (by assumption) | apply Sq.quo | apply Sq.sub | apply Sq.add | apply Sq.mul | apply Sq.neg | apply Sq.abs | apply Sq.max | apply Sq.min | exact Sq.of (by decide) (by decide) | exact Sq.whole (by assumption) | exact Sq.floor1 (by assumption) | exact Sq.ceil1 (by assumption)))) (by omega) (by omega)) ?_ | refine cl (by exact rfl) plain52 rfl (sign_q (by first | assumption | exact Sq.isQ (by repeat (first | assumption | exact IsQ.sq (by assumption) | apply Sq.quo | apply Sq.sub | apply Sq.add | apply Sq.mul | apply Sq.neg | apply Sq.abs | apply Sq.max | apply Sq.min | exact Sq.of (by decide) (by decide) | exact Sq.whole (by assumption) | exact Sq.floor1 (by assumption) | exact Sq.ceil1 (by assumption)))) (by omega)) ?_ | refine cl (by exact rfl) plain66 rfl (textQ_r (by first | assumption | exact Sq.isQ (by repeat (first | assumption | exact IsQ.sq (by assumption) | apply Sq.quo | apply Sq.sub | apply Sq.add | apply Sq.mul | apply Sq.neg | apply Sq.abs | apply Sq.max | apply Sq.min | exact Sq.of (by decide) (by decide) | exact Sq.whole (by assumption) | exact Sq.floor1 (by assumption) | exact Sq.ceil1 (by assumption)))) (by omega)) ?_ | refine cl (by exact rfl) plain59 rfl (sameQm_t (by first | rfl | exact Rat.add_comm _ _ | exact Rat.add_assoc _ _ _ | exact Rat.mul_comm _ _ | exact Rat.mul_assoc _ _ _ | exact Rat.mul_add _ _ _ | exact Rat.add_sub_cancel | exact mul_one1 _ | exact zero_sub1 _ | exact Rat.div_mul_cancel hb | exact Rat.mul_div_cancel hb) (by repeat (first | assumption | exact IsQ.sq (by assumption) | apply Sq.quo | apply Sq.sub | apply Sq.add | apply Sq.mul | apply Sq.neg | apply Sq.abs | apply Sq.max | apply Sq.min | exact Sq.of (by decide) (by decide) | exact Sq.whole (by assumption) | exact Sq.floor1 (by assumption) | exact Sq.ceil1 (by assumption))) (by omega)) ?_ | refine cl (by exact rfl) plain59 rfl (sameQm_r (by repeat (first | assumption | exact IsQ.sq (by assumption) | apply Sq.quo | apply Sq.sub | apply Sq.add | apply Sq.mul | apply Sq.neg | apply Sq.abs | apply Sq.max | apply Sq.min | exact Sq.of (by decide) (by decide) | exact Sq.whole (by assumption) | exact Sq.floor1 (by assumption) | exact Sq.ceil1 (by assumption))) (by omega)) ?_)); exact h.un) : p := f ⟨h⟩
end Go.Proofs.Ytkbhchlecokpiaa
