/- The order of fractions. -/
import Derived.Test.YtpahppekalgegaaFwL4
import Derived.Test.YtpahppekalgegaaFwT4
namespace Go.Proofs.Ytpahppekalgegaa
open Go Go.RowKit Fw Tw Rat
set_option linter.unusedVariables false
set_option linter.unusedSimpArgs false
theorem Sq.whole {z : Int} {k : Nat} (h : z.natAbs < W ^ k) (hk : 1 ≤ k) : Sq (z : Rat) k := Sq.int h hk
theorem go_Gb6cd1a {p q : Prop} (h : q) (f : Bx q → p := by intro h; (repeat (first | refine go1 ?_ | refine cl (by exact rfl) plain26 rfl sh ?_ | refine cl (by exact rfl) plain25 rfl awake4_r ?_ | refine cl (by exact rfl) plain47 rfl pt ?_ | refine cl (by exact rfl) plain43 rfl wf ?_ | refine cl (by exact rfl) plain43 rfl wc ?_ | refine cl (by exact rfl) plain23 rfl (of_q (by omega) (by omega) (by omega) (by omega)) ?_ | refine cl (by exact rfl) plain30 rfl (norm_q (by first | assumption | exact Sq.isQ (by repeat (first | assumption | exact IsQ.sq (by assumption) | apply Sq.quo | apply Sq.sub | apply Sq.add | apply Sq.mul | apply Sq.neg | apply Sq.abs | apply Sq.max | apply Sq.min | exact Sq.of (by decide) (by decide) | exact Sq.whole (by assumption) | exact Sq.floor1 (by assumption) | exact Sq.ceil1 (by assumption)))) (by omega)) ?_ | refine cl (by exact rfl) plain27 rfl (add_q (by first | assumption | exact Sq.isQ (by repeat (first | assumption | exact IsQ.sq (by assumption) | apply Sq.quo | apply Sq.sub | apply Sq.add | apply Sq.mul | apply Sq.neg | apply Sq.abs | apply Sq.max | apply Sq.min | exact Sq.of (by decide) (by decide) | exact Sq.whole (by assumption) | exact Sq.floor1 (by assumption) | exact Sq.ceil1 (by assumption)))) (by first | assumption | exact Sq.isQ (by repeat (first | assumption | exact IsQ.sq (by assumption) | apply Sq.quo | apply Sq.sub | apply Sq.add | apply Sq.mul | apply Sq.neg | apply Sq.abs | apply Sq.max | apply Sq.min | exact Sq.of (by decide) (by decide) | exact Sq.whole (by assumption) | exact Sq.floor1 (by assumption) | exact Sq.ceil1 (by assumption)))) (by omega) (by omega)) ?_ | refine cl (by exact rfl) plain29 rfl (sub_q (by first | assumption | exact Sq.isQ (by repeat (first | assumption | exact IsQ.sq (by assumption) | apply Sq.quo | apply Sq.sub | apply Sq.add | apply Sq.mul | apply Sq.neg | apply Sq.abs | apply Sq.max | apply Sq.min | exact Sq.of (by decide) (by decide) | exact Sq.whole (by assumption) | exact Sq.floor1 (by assumption) | exact Sq.ceil1 (by assumption)))) (by first | assumption | exact Sq.isQ (by repeat (first | assumption | exact IsQ.sq (by assumption) | apply Sq.quo | apply Sq.sub | apply Sq.add | apply Sq.mul | apply Sq.neg | apply Sq.abs | apply Sq.max | apply Sq.min | exact Sq.of (by decide) (by decide) | exact Sq.whole (by assumption) | exact Sq.floor1 (by assumption) | exact Sq.ceil1 (by assumption)))) (by omega) (by omega)) ?_ | refine cl (by exact rfl) plain32 rfl (mul_q (by first | assumption | exact Sq.isQ (by repeat (first | assumption | exact IsQ.sq (by assumption) | apply Sq.quo | apply Sq.sub | apply Sq.add | apply Sq.mul | apply Sq.neg | apply Sq.abs | apply Sq.max | apply Sq.min | exact Sq.of (by decide) (by decide) | exact Sq.whole (by assumption) | exact Sq.floor1 (by assumption) | exact Sq.ceil1 (by assumption)))) (by first | assumption | exact Sq.isQ (by repeat (first | assumption | exact IsQ.sq (by assumption) | apply Sq.quo | apply Sq.sub | apply Sq.add | apply Sq.mul | apply Sq.neg | apply Sq.abs | apply Sq.max | apply Sq.min | exact Sq.of (by decide) (by decide) | exact Sq.whole (by assumption) | exact Sq.floor1 (by assumption) | exact Sq.ceil1 (by assumption)))) (by omega) (by omega)) ?_ | refine cl (by exact rfl) plain33 rfl (quo_q (by first | assumption | exact Sq.isQ (by repeat (first | assumption | exact IsQ.sq (by assumption) | apply Sq.quo | apply Sq.sub | apply Sq.add | apply Sq.mul | apply Sq.neg | apply Sq.abs | apply Sq.max | apply Sq.min | exact Sq.of (by decide) (by decide) | exact Sq.whole (by assumption) | exact Sq.floor1 (by assumption) | exact Sq.ceil1 (by assumption)))) (by first | assumption | exact Sq.isQ (by repeat (first | assumption | exact IsQ.sq (by assumption) | apply Sq.quo | apply Sq.sub | apply Sq.add | apply Sq.mul | apply Sq.neg | apply Sq.abs | apply Sq.max | apply Sq.min | exact Sq.of (by decide) (by decide) | exact Sq.whole (by assumption) | exact Sq.floor1 (by assumption) | exact Sq.ceil1 (by assumption)))) (by omega) (by omega)) ?_ | refine cl (by exact rfl) plain31 rfl (neg_q (by first | assumption | exact Sq.isQ (by repeat (first | assumption | exact IsQ.sq (by assumption) | apply Sq.quo | apply Sq.sub | apply Sq.add | apply Sq.mul | apply Sq.neg | apply Sq.abs | apply Sq.max | apply Sq.min | exact Sq.of (by decide) (by decide) | exact Sq.whole (by assumption) | exact Sq.floor1 (by assumption) | exact Sq.ceil1 (by assumption)))) (by omega)) ?_ | refine cl (by exact rfl) plain42 rfl (abs_q (by first | assumption | exact Sq.isQ (by repeat (first | assumption | exact IsQ.sq (by assumption) | apply Sq.quo | apply Sq.sub | apply Sq.add | apply Sq.mul | apply Sq.neg | apply Sq.abs | apply Sq.max | apply Sq.min | exact Sq.of (by decide) (by decide) | exact Sq.whole (by assumption) | exact Sq.floor1 (by assumption) | exact Sq.ceil1 (by assumption)))) (by omega)) ?_ | refine cl (by exact rfl) plain40 rfl (max_q (by first | assumption | exact Sq.isQ (by repeat (first | assumption | exact IsQ.sq (by assumption) | apply Sq.quo | apply Sq.sub | apply Sq.add | apply Sq.mul | apply Sq.neg | apply Sq.abs | apply Sq.max | apply Sq.min | exact Sq.of (by decide) (by decide) | exact Sq.whole (by assumption) | exact Sq.floor1 (by assumption) | exact Sq.ceil1 (by assumption)))) (by first | assumption | exact Sq.isQ (by repeat (first | assumption | exact IsQ.sq (by assumption) | apply Sq.quo | apply Sq.sub | apply Sq.add | apply Sq.mul | apply Sq.neg | apply Sq.abs | apply Sq.max | apply Sq.min | exact Sq.of (by decide) (by decide) | exact Sq.whole (by assumption) | exact Sq.floor1 (by assumption) | exact Sq.ceil1 (by assumption)))) (by omega) (by omega)) ?_ | refine cl (by exact rfl) plain41 rfl (min_q (by first | assumption | exact Sq.isQ (by repeat (first | assumption | exact IsQ.sq (by assumption) | apply Sq.quo | apply Sq.sub | apply Sq.add | apply Sq.mul | apply Sq.neg | apply Sq.abs | apply Sq.max | apply Sq.min | exact Sq.of (by decide) (by decide) | exact Sq.whole (by assumption) | exact Sq.floor1 (by assumption) | exact Sq.ceil1 (by assumption)))) (by first | assumption | exact Sq.isQ (by repeat (first | assumption | exact IsQ.sq (by assumption) | apply Sq.quo | apply Sq.sub | apply Sq.add | apply Sq.mul | apply Sq.neg | apply Sq.abs | apply Sq.max | apply Sq.min | exact Sq.of (by decide) (by decide) | exact Sq.whole (by assumption) | exact Sq.floor1 (by assumption) | exact Sq.ceil1 (by assumption)))) (by omega) (by omega)) ?_ | refine cl (by exact rfl) plain39 rfl (cmp_q (by first | assumption | exact Sq.isQ (by repeat (first | assumption | exact IsQ.sq (by assumption) | apply Sq.quo | apply Sq.sub | apply Sq.add | apply Sq.mul | apply Sq.neg | apply Sq.abs | apply Sq.max | apply Sq.min | exact Sq.of (by decide) (by decide) | exact Sq.whole (by assumption) | exact Sq.floor1 (by assumption) | exact Sq.ceil1 (by assumption)))) (by first | assumption | exact Sq.isQ (by repeat (first | assumption | exact IsQ.sq (by assumption) | apply Sq.quo | apply Sq.sub | apply Sq.add | apply Sq.mul | apply Sq.neg | apply Sq.abs | apply Sq.max | apply Sq.min | exact Sq.of (by decide) (by decide) | exact Sq.whole (by assumption) | exact Sq.floor1 (by assumption) | exact Sq.ceil1 (by assumption)))) (by omega) (by omega)) ?_ | refine cl (by exact rfl) plain34 rfl (sameQ_q (by first | assumption | exact Sq.isQ (by repeat (first | assumption | exact IsQ.sq (by assumption) | apply Sq.quo | apply Sq.sub | apply Sq.add | apply Sq.mul | apply Sq.neg | apply Sq.abs | apply Sq.max | apply Sq.min | exact Sq.of (by decide) (by decide) | exact Sq.whole (by assumption) | exact Sq.floor1 (by assumption) | exact Sq.ceil1 (by assumption)))) (by first | assumption | exact Sq.isQ (by repeat (first | assumption | exact IsQ.sq (by assumption) | apply Sq.quo | apply Sq.sub | apply Sq.add | apply Sq.mul | apply Sq.neg | apply Sq.abs | apply Sq.max | apply Sq.min | exact Sq.of (by decide) (by decide) | exact Sq.whole (by assumption) | exact Sq.floor1 (by assumption) | exact Sq.ceil1 (by assumption)))) (by omega) (by omega)) ?_ | refine cl (by exact rfl) plain28 rfl (sign_q (by first | assumption | exact Sq.isQ (by repeat (first | assumption | exact IsQ.sq (by assumption) | apply Sq.quo | apply Sq.sub | apply Sq.add | apply Sq.mul | apply Sq.neg | apply Sq.abs | apply Sq.max | apply Sq.min | exact Sq.of (by decide) (by decide) | exact Sq.whole (by assumption) | exact Sq.floor1 (by assumption) | exact Sq.ceil1 (by assumption)))) (by omega)) ?_ | refine cl (by exact rfl) plain44 rfl (floor_q (by first | assumption | exact Sq.isQ (by repeat (first | assumption | exact IsQ.sq (by assumption) | apply Sq.quo | apply Sq.sub | apply Sq.add | apply Sq.mul | apply Sq.neg | apply Sq.abs | apply Sq.max | apply Sq.min | exact Sq.of (by decide) (by decide) | exact Sq.whole (by assumption) | exact Sq.floor1 (by assumption) | exact Sq.ceil1 (by assumption)))) (by omega)) ?_ | refine cl (by exact rfl) plain45 rfl (ceil_q (by first | assumption | exact Sq.isQ (by repeat (first | assumption | exact IsQ.sq (by assumption) | apply Sq.quo | apply Sq.sub | apply Sq.add | apply Sq.mul | apply Sq.neg | apply Sq.abs | apply Sq.max | apply Sq.min | exact Sq.of (by decide) (by decide) | exact Sq.whole (by assumption) | exact Sq.floor1 (by assumption) | exact Sq.ceil1 (by assumption)))) (by omega)) ?_ | refine cl (by exact rfl) plain46 rfl (isWhole_q (by first | assumption | exact Sq.isQ (by repeat (first | assumption | exact IsQ.sq (by assumption) | apply Sq.quo | apply Sq.sub | apply Sq.add | apply Sq.mul | apply Sq.neg | apply Sq.abs | apply Sq.max | apply Sq.min | exact Sq.of (by decide) (by decide) | exact Sq.whole (by assumption) | exact Sq.floor1 (by assumption) | exact Sq.ceil1 (by assumption)))) (by omega)) ?_ | refine cl (by exact rfl) plain48 rfl (textQ_r (by first | assumption | exact Sq.isQ (by repeat (first | assumption | exact IsQ.sq (by assumption) | apply Sq.quo | apply Sq.sub | apply Sq.add | apply Sq.mul | apply Sq.neg | apply Sq.abs | apply Sq.max | apply Sq.min | exact Sq.of (by decide) (by decide) | exact Sq.whole (by assumption) | exact Sq.floor1 (by assumption) | exact Sq.ceil1 (by assumption)))) (by omega)) ?_ | refine cl (by exact rfl) plain22 rfl (sameQm_t rfl (by repeat (first | assumption | exact IsQ.sq (by assumption) | apply Sq.quo | apply Sq.sub | apply Sq.add | apply Sq.mul | apply Sq.neg | apply Sq.abs | apply Sq.max | apply Sq.min | exact Sq.of (by decide) (by decide) | exact Sq.whole (by assumption) | exact Sq.floor1 (by assumption) | exact Sq.ceil1 (by assumption))) (by omega)) ?_)); exact h.un) : p := f ⟨h⟩
set_option maxHeartbeats 8000000 in
theorem qorder_r {b1 b2 b3 b4 b5 b6 : Bool} {l1 l2 l3 l4 l5 l6 : List Nat} (hd1 : Dig W l1) (hd2 : Dig W l2) (hd3 : Dig W l3) (hd4 : Dig W l4) (hd5 : Dig W l5) (hd6 : Dig W l6) : Ret Try.prog 8 [.agg [.bool b1, mW l1, .bool b2, mW l2], .agg [.bool b3, mW l3, .bool b4, mW l4], .agg [.bool b5, mW l5, .bool b6, mW l6]] (.bool true) := by
  have sh := short4_r (b1 := b1) (b2 := b2) (b3 := b3) (b4 := b4) (b5 := b5) (b6 := b6) (l1 := l1) (l2 := l2) (l3 := l3) (l4 := l4) (l5 := l5) (l6 := l6)
  by_cases hs : ((decide ((l1.length : Int) ≤ 12) && decide ((l2.length : Int) ≤ 12)) && (decide ((l3.length : Int) ≤ 12) && decide ((l4.length : Int) ≤ 12)) && (decide ((l5.length : Int) ≤ 12) && decide ((l6.length : Int) ≤ 12))) = true
  · rw [hs] at sh
    rw [Bool.and_eq_true, Bool.and_eq_true] at hs
    obtain ⟨⟨c1, c2⟩, c3⟩ := hs
    obtain ⟨a, ia⟩ := isQ_of (b1 := b1) (b2 := b2) hd1 hd2 (n := 12) (by omega) c1
    obtain ⟨b, ib⟩ := isQ_of (b1 := b3) (b2 := b4) hd3 hd4 (n := 12) (by omega) c2
    obtain ⟨c, ic⟩ := isQ_of (b1 := b5) (b2 := b6) hd5 hd6 (n := 12) (by omega) c3
    have wf := whole_q (isZ_mI ia.sq.floor) (by omega)
    have wc := whole_q (isZ_mI ia.sq.ceil) (by omega)
    have sf : Sq (a.floor : Rat) 12 := Sq.int ia.sq.floor (by omega)
    have sc : Sq (a.ceil : Rat) 12 := Sq.int ia.sq.ceil (by omega)
    have pt : Ret Try.prog 47 [.str (textQ a)] (.tup [mQ a, .int .i64 0]) := by
      have := parseQ_r (s := textQ a) (by
        have h1 := textZ_len ia.sq.n
        have h2 := textZ_len (z := (a.den : Int)) ia.sq.d
        unfold textQ maxLen
        split
        · omega
        · simp; omega)
      rwa [parse_textS ia.sq (by omega)] at this
    refine ret_of (L := L) lay_ok Try.func8 rfl Try.ntmps8 rfl ?_
    refine go_Gb6cd1a ?_
    refine ar_eq 30 rfl (d' := .im (.bool true)) (eqt (cmp_anti a b)) ?_
    refine go_Gb6cd1a ?_
    refine ar_eq 41 rfl (d' := .im (.bool true)) (eqt (cmp_add a b c)) ?_
    refine go_Gb6cd1a ?_
    refine ar_eq 55 rfl (d' := .im (.bool true)) (eqt (cmp_mul a b c)) ?_
    refine go_Gb6cd1a ?_
    have hcs : b < a ∨ (¬ b < a ∧ c < b) ∨ (¬ b < a ∧ ¬ c < b) := by
      by_cases h1 : b < a
      · exact .inl h1
      · by_cases h2 : c < b
        · exact .inr (.inl ⟨h1, h2⟩)
        · exact .inr (.inr ⟨h1, h2⟩)
    rcases hcs with h1 | ⟨h1, h2⟩ | ⟨h1, h2⟩
    case' inl =>
      refine ar_eq 58 rfl (d' := .im (.bool true)) (eqt (cq_gt.2 h1)) ?_
      refine go_Gb6cd1a ?_
    case' inr.inl =>
      refine ar_eq 58 rfl (d' := .im (.bool false)) (eqt (by rw [Bool.eq_false_iff]; exact fun h => h1 (cq_gt.1 h))) ?_
      refine go_Gb6cd1a ?_
      refine ar_eq 64 rfl (d' := .im (.bool true)) (eqt (cq_gt.2 h2)) ?_
      refine go_Gb6cd1a ?_
    case' inr.inr =>
      refine ar_eq 58 rfl (d' := .im (.bool false)) (eqt (by rw [Bool.eq_false_iff]; exact fun h => h1 (cq_gt.1 h))) ?_
      refine go_Gb6cd1a ?_
      refine ar_eq 64 rfl (d' := .im (.bool false)) (eqt (by rw [Bool.eq_false_iff]; exact fun h => h2 (cq_gt.1 h))) ?_
      refine go_Gb6cd1a ?_
    all_goals
      refine ar_eq 82 rfl (d' := .im (.bool true)) (eqt (decide_eq_true (max_min a b))) ?_
      refine go_Gb6cd1a ?_
      refine ar_eq 92 rfl (d' := .im (.bool true)) (eqt (cq_ge.2 (min_le_max a b))) ?_
      refine go_Gb6cd1a ?_
      refine ar_eq 98 rfl (d' := .im (.bool true)) (eqt (abs_sign a)) ?_
      refine go_Gb6cd1a ?_
      refine ar_eq 119 rfl (d' := .im (.bool true)) (eqt (cq_le.2 (Rat.floor_le a))) ?_
      refine go_Gb6cd1a ?_
      refine ar_eq 127 rfl (d' := .im (.bool true)) (eqt (cq_lt.2 (floor_step a))) ?_
      refine go_Gb6cd1a ?_
      refine ar_eq 133 rfl (d' := .im (.bool true)) (eqt (cq_ge.2 (ceil_ge a))) ?_
      refine go_Gb6cd1a ?_
      refine ar_eq 141 rfl (d' := .im (.bool true)) (eqt (cq_lt.2 (ceil_step a))) ?_
      refine go_Gb6cd1a ?_
    case' inr.inr =>
      refine ar_eq 156 rfl (d' := .im (.bool true)) (eqt (cq_le.2 (by grind))) ?_
      refine go_Gb6cd1a ?_
    all_goals
      refine ar_eq 159 rfl (d' := .im (.bool true)) (eqt (decide_eq_true (abs_mul a))) ?_
      refine go_Gb6cd1a ?_
      refine ar_eq 162 rfl (d' := .im (.bool true)) (eqt (whole_eq a)) ?_
      refine go_Gb6cd1a ?_
      refine ⟨_, rfl, ?_⟩
      rfl
  · rw [Bool.not_eq_true] at hs
    rw [hs] at sh
    refine ret_of (L := L) lay_ok Try.func8 rfl Try.ntmps8 rfl ?_
    refine go_Gb6cd1a ?_
    refine ⟨_, rfl, ?_⟩
    rfl
end Go.Proofs.Ytpahppekalgegaa
