/- Statements of layer 4: what they ask of fractions. -/
import Derived.Test.YtpahppekalgegaaFwP4c
import Derived.Test.YtpahppekalgegaaFwL3
set_option linter.unusedVariables false
set_option linter.unusedSimpArgs false
namespace Go.Proofs.Ytpahppekalgegaa
open Go Go.RowKit Fw Tw Rat
set_option linter.unusedVariables false
set_option linter.unusedSimpArgs false
theorem sameRat_r {b1 b2 b3 b4 : Bool} {l1 l2 l3 l4 : List Nat} (h1 : l1.length ≤ 1000000000) (h2 : l2.length ≤ 1000000000) : Ret Try.prog 22 [.agg [.bool b1, mW l1, .bool b2, mW l2], .agg [.bool b3, mW l3, .bool b4, mW l4]] (.bool (b1 == b3 && decide (l1 = l3) && (b2 == b4 && decide (l2 = l4)))) := by
  have s1 := sameInt_r (b1 := b1) (b2 := b3) (l1 := l1) (l2 := l3) h1
  have s2 := sameInt_r (b1 := b2) (b2 := b4) (l1 := l2) (l2 := l4) h2
  generalize (b1 == b3 && decide (l1 = l3)) = x at *
  generalize (b2 == b4 && decide (l2 = l4)) = y at *
  cases x
  · refine ret_of (L := L) lay_ok Try.func22 rfl Try.ntmps22 rfl ?_
    refine go ?_
    refine cl (by exact rfl) plain19 rfl s1 ?_
    refine go ?_
    refine ⟨_, rfl, ?_⟩
    rfl
  · refine ret_of (L := L) lay_ok Try.func22 rfl Try.ntmps22 rfl ?_
    refine go ?_
    refine cl (by exact rfl) plain19 rfl s1 ?_
    refine go ?_
    refine cl (by exact rfl) plain19 rfl s2 ?_
    refine go ?_
    refine ⟨_, rfl, ?_⟩
    rfl
theorem mQ_inj {a b : Rat} : ((decide (a.num < 0) == decide (b.num < 0) && decide (digs W a.num.natAbs = digs W b.num.natAbs)) && (false == false && decide (digs W (if a.den = 1 then 0 else a.den) = digs W (if b.den = 1 then 0 else b.den)))) = decide (a = b) := by
  by_cases h : a = b
  · subst h; simp
  · rw [decide_eq_false h, Bool.eq_false_iff]
    intro hc
    simp only [Bool.and_eq_true, beq_iff_eq, decide_eq_true_eq] at hc
    obtain ⟨⟨h1, h2⟩, _, h3⟩ := hc
    have h4 := digs_inj W_two h2
    have h5 := digs_inj W_two h3
    apply h
    refine Rat.ext ?_ ?_
    · by_cases h6 : a.num < 0
      · have : b.num < 0 := by rw [decide_eq_true h6] at h1; exact of_decide_eq_true h1.symm
        omega
      · have : ¬ b.num < 0 := by rw [decide_eq_false h6] at h1; exact of_decide_eq_false h1.symm
        omega
    · have := a.den_nz
      have := b.den_nz
      split at h5 <;> split at h5 <;> omega
theorem sq_len {a : Rat} {k : Nat} (h : Sq a k) (hk : k ≤ 10000) : (digs W a.num.natAbs).length ≤ 1000000000 ∧ (digs W (if a.den = 1 then 0 else a.den)).length ≤ 1000000000 := by
  refine ⟨Nat.le_trans (length_digs_le W_two h.n) (by omega), ?_⟩
  split
  · rw [digs_zero]; simp
  · exact Nat.le_trans (length_digs_le W_two h.d) (by omega)
theorem sameQm_r {a b : Rat} {k : Nat} (h : Sq a k) (hk : k ≤ 10000) : Ret Try.prog 22 [mQ a, mQ b] (.bool (decide (a = b))) := by
  have := sameRat_r (b1 := decide (a.num < 0)) (b2 := false) (b3 := decide (b.num < 0)) (b4 := false) (l3 := digs W b.num.natAbs) (l4 := digs W (if b.den = 1 then 0 else b.den)) (sq_len h hk).1 (sq_len h hk).2
  rw [mQ_inj] at this
  exact this
theorem sameQm_t {a b : Rat} {k : Nat} (e : a = b) (h : Sq a k) (hk : k ≤ 10000) : Ret Try.prog 22 [mQ a, mQ b] (.bool true) := by
  have := sameQm_r (b := b) h hk
  rwa [decide_eq_true e] at this
theorem shortRat_r {b1 b2 : Bool} {l1 l2 : List Nat} {n : Int} : Ret Try.prog 80 [.agg [.bool b1, mW l1, .bool b2, mW l2], .int .i64 n] (.bool (decide ((l1.length : Int) ≤ n) && decide ((l2.length : Int) ≤ n))) := by
  by_cases h : (l1.length : Int) ≤ n
  · refine ret_of (L := L) lay_ok Try.func80 rfl Try.ntmps80 rfl ?_
    refine go ?_
    refine ar_eq 11 rfl (d' := .im (.bool true)) (eqt (decide_eq_true h)) ?_
    refine go ?_
    refine ⟨_, rfl, ?_⟩
    rw [decide_eq_true h]; rfl
  · refine ret_of (L := L) lay_ok Try.func80 rfl Try.ntmps80 rfl ?_
    refine go ?_
    refine ar_eq 11 rfl (d' := .im (.bool false)) (eqt (decide_eq_false h)) ?_
    refine go ?_
    refine ⟨_, rfl, ?_⟩
    rw [decide_eq_false h]; rfl
theorem textQ1 {q : Rat} {n : Int} {s : List UInt8} (hn : q.num = n) (hd : q.den = 1) (hs : parseZ s = (n, 0)) : textQ q = s := by
  unfold textQ
  rw [if_pos hd, hn]
  exact text_lit hs
theorem textQ2 {q : Rat} {n : Int} {d : Nat} {s1 s2 : List UInt8} (hn : q.num = n) (hd : q.den = d) (h1 : d ≠ 1) (hs1 : parseZ s1 = (n, 0)) (hs2 : parseZ s2 = ((d : Int), 0)) : textQ q = s1 ++ 47 :: s2 := by
  unfold textQ
  rw [hd, if_neg h1, hn, text_lit hs1, text_lit hs2]
theorem is4_r {q : Rat} {s : List UInt8} {k : Nat} (hq : Sq q k) (hk : k ≤ 2000) (h : textQ q = s) : Ret Try.prog 58 [mQ q, .str s] (.bool true) := by
  have t1 := textQ_r hq.isQ hk
  have n1 := norm_q hq.isQ (by omega)
  have s1 := sameQm_t (a := q) (b := q) rfl hq (by omega)
  rw [h] at t1
  refine ret_of (L := L) lay_ok Try.func58 rfl Try.ntmps58 rfl ?_
  refine go ?_
  refine cl (by exact rfl) plain48 rfl t1 ?_
  refine go ?_
  refine ar_eq 9 rfl (d' := .im (.bool true)) (eqt (by simp)) ?_
  refine go ?_
  refine cl (by exact rfl) plain30 rfl n1 ?_
  refine go ?_
  refine cl (by exact rfl) plain22 rfl s1 ?_
  refine go ?_
  refine ⟨_, rfl, ?_⟩
  rfl
theorem go_We725d5 {p q : Prop} (h : q) (f : Bx q → p := by intro h; (repeat (first | refine go1 ?_ | refine cl (by exact rfl) plain23 rfl (of_q (by omega) (by omega) (by omega) (by omega)) ?_ | refine cl (by exact rfl) plain30 rfl (norm_q (by first | assumption | exact Sq.isQ (by repeat (first | assumption | exact IsQ.sq (by assumption) | apply Sq.quo | apply Sq.sub | apply Sq.add | apply Sq.mul | apply Sq.neg | apply Sq.abs | apply Sq.max | apply Sq.min | exact Sq.of (by decide) (by decide) | exact Sq.whole (by assumption) | exact Sq.floor1 (by assumption) | exact Sq.ceil1 (by assumption)))) (by omega)) ?_ | refine cl (by exact rfl) plain27 rfl (add_q (by first | assumption | exact Sq.isQ (by repeat (first | assumption | exact IsQ.sq (by assumption) | apply Sq.quo | apply Sq.sub | apply Sq.add | apply Sq.mul | apply Sq.neg | apply Sq.abs | apply Sq.max | apply Sq.min | exact Sq.of (by decide) (by decide) | exact Sq.whole (by assumption) | exact Sq.floor1 (by assumption) | exact Sq.ceil1 (by assumption)))) (by first | assumption | exact Sq.isQ (by repeat (first | assumption | exact IsQ.sq (by assumption) | apply Sq.quo | apply Sq.sub | apply Sq.add | apply Sq.mul | apply Sq.neg | apply Sq.abs | apply Sq.max | apply Sq.min | exact Sq.of (by decide) (by decide) | exact Sq.whole (by assumption) | exact Sq.floor1 (by assumption) | exact Sq.ceil1 (by assumption)))) (by omega) (by omega)) ?_ | refine cl (by exact rfl) plain29 rfl (sub_q (by first | assumption | exact Sq.isQ (by repeat (first | assumption | exact IsQ.sq (by assumption) | apply Sq.quo | apply Sq.sub | apply Sq.add | apply Sq.mul | apply Sq.neg | apply Sq.abs | apply Sq.max | apply Sq.min | exact Sq.of (by decide) (by decide) | exact Sq.whole (by assumption) | exact Sq.floor1 (by assumption) | exact Sq.ceil1 (by assumption)))) (by first | assumption | exact Sq.isQ (by repeat (first | assumption | exact IsQ.sq (by assumption) | apply Sq.quo | apply Sq.sub | apply Sq.add | apply Sq.mul | apply Sq.neg | apply Sq.abs | apply Sq.max | apply Sq.min | exact Sq.of (by decide) (by decide) | exact Sq.whole (by assumption) | exact Sq.floor1 (by assumption) | exact Sq.ceil1 (by assumption)))) (by omega) (by omega)) ?_ | refine cl (by exact rfl) plain32 rfl (mul_q (by first | assumption | exact Sq.isQ (by repeat (first | assumption | exact IsQ.sq (by assumption) | apply Sq.quo | apply Sq.sub | apply Sq.add | apply Sq.mul | apply Sq.neg | apply Sq.abs | apply Sq.max | apply Sq.min | exact Sq.of (by decide) (by decide) | exact Sq.whole (by assumption) | exact Sq.floor1 (by assumption) | exact Sq.ceil1 (by assumption)))) (by first | assumption | exact Sq.isQ (by repeat (first | assumption | exact IsQ.sq (by assumption) | apply Sq.quo | apply Sq.sub | apply Sq.add | apply Sq.mul | apply Sq.neg | apply Sq.abs | apply Sq.max | apply Sq.min | exact Sq.of (by decide) (by decide) | exact Sq.whole (by assumption) | exact Sq.floor1 (by assumption) | exact Sq.ceil1 (by assumption)))) (by omega) (by omega)) ?_ | refine cl (by exact rfl) plain33 rfl (quo_q (by first | assumption | exact Sq.isQ (by repeat (first | assumption | exact IsQ.sq (by assumption) | apply Sq.quo | apply Sq.sub | apply Sq.add | apply Sq.mul | apply Sq.neg | apply Sq.abs | apply Sq.max | apply Sq.min | exact Sq.of (by decide) (by decide) | exact Sq.whole (by assumption) | exact Sq.floor1 (by assumption) | exact Sq.ceil1 (by assumption)))) (by first | assumption | exact Sq.isQ (by repeat (first | assumption | exact IsQ.sq (by assumption) | apply Sq.quo | apply Sq.sub | apply Sq.add | apply Sq.mul | apply Sq.neg | apply Sq.abs | apply Sq.max | apply Sq.min | exact Sq.of (by decide) (by decide) | exact Sq.whole (by assumption) | exact Sq.floor1 (by assumption) | exact Sq.ceil1 (by assumption)))) (by omega) (by omega)) ?_ | refine cl (by exact rfl) plain31 rfl (neg_q (by first | assumption | exact Sq.isQ (by repeat (first | assumption | exact IsQ.sq (by assumption) | apply Sq.quo | apply Sq.sub | apply Sq.add | apply Sq.mul | apply Sq.neg | apply Sq.abs | apply Sq.max | apply Sq.min | exact Sq.of (by decide) (by decide) | exact Sq.whole (by assumption) | exact Sq.floor1 (by assumption) | exact Sq.ceil1 (by assumption)))) (by omega)) ?_ | refine cl (by exact rfl) plain42 rfl (abs_q (by first | assumption | exact Sq.isQ (by repeat (first | assumption | exact IsQ.sq (by assumption) | apply Sq.quo | apply Sq.sub | apply Sq.add | apply Sq.mul | apply Sq.neg | apply Sq.abs | apply Sq.max | apply Sq.min | exact Sq.of (by decide) (by decide) | exact Sq.whole (by assumption) | exact Sq.floor1 (by assumption) | exact Sq.ceil1 (by assumption)))) (by omega)) ?_ | refine cl (by exact rfl) plain40 rfl (max_q (by first | assumption | exact Sq.isQ (by repeat (first | assumption | exact IsQ.sq (by assumption) | apply Sq.quo | apply Sq.sub | apply Sq.add | apply Sq.mul | apply Sq.neg | apply Sq.abs | apply Sq.max | apply Sq.min | exact Sq.of (by decide) (by decide) | exact Sq.whole (by assumption) | exact Sq.floor1 (by assumption) | exact Sq.ceil1 (by assumption)))) (by first | assumption | exact Sq.isQ (by repeat (first | assumption | exact IsQ.sq (by assumption) | apply Sq.quo | apply Sq.sub | apply Sq.add | apply Sq.mul | apply Sq.neg | apply Sq.abs | apply Sq.max | apply Sq.min | exact Sq.of (by decide) (by decide) | exact Sq.whole (by assumption) | exact Sq.floor1 (by assumption) | exact Sq.ceil1 (by assumption)))) (by omega) (by omega)) ?_ | refine cl (by exact rfl) plain41 rfl (min_q (by first | assumption | exact Sq.isQ (by repeat (first | assumption | exact IsQ.sq (by assumption) | apply Sq.quo | apply Sq.sub | apply Sq.add | apply Sq.mul | apply Sq.neg | apply Sq.abs | apply Sq.max | apply Sq.min | exact Sq.of (by decide) (by decide) | exact Sq.whole (by assumption) | exact Sq.floor1 (by assumption) | exact Sq.ceil1 (by assumption)))) (by first | assumption | exact Sq.isQ (by repeat (first | assumption | exact IsQ.sq (by assumption) | apply Sq.quo | apply Sq.sub | apply Sq.add | apply Sq.mul | apply Sq.neg | apply Sq.abs | apply Sq.max | apply Sq.min | exact Sq.of (by decide) (by decide) | exact Sq.whole (by assumption) | exact Sq.floor1 (by assumption) | exact Sq.ceil1 (by assumption)))) (by omega) (by omega)) ?_ | refine cl (by exact rfl) plain39 rfl (cmp_q (by first | assumption | exact Sq.isQ (by repeat (first | assumption | exact IsQ.sq (by assumption) | apply Sq.quo | apply Sq.sub | apply Sq.add | apply Sq.mul | apply Sq.neg | apply Sq.abs | apply Sq.max | apply Sq.min | exact Sq.of (by decide) (by decide) | exact Sq.whole (by assumption) | exact Sq.floor1 (by assumption) | exact Sq.ceil1 (by assumption)))) (by first | assumption | exact Sq.isQ (by repeat (first | assumption | exact IsQ.sq (by assumption) | apply Sq.quo | apply Sq.sub | apply Sq.add | apply Sq.mul | apply Sq.neg | apply Sq.abs | apply Sq.max | apply Sq.min | exact Sq.of (by decide) (by decide) | exact Sq.whole (by assumption) | exact Sq.floor1 (by assumption) | exact Sq.ceil1 (by assumption)))) (by omega) (by omega)) ?_ | refine cl (by exact rfl) plain34 rfl (sameQ_q (by first | assumption | exact Sq.isQ (by repeat (first | assumption | exact IsQ.sq (by assumption) | apply Sq.quo | apply Sq.sub | apply Sq.add | apply Sq.mul | apply Sq.neg | apply Sq.abs | apply Sq.max | apply Sq.min | exact Sq.of (by decide) (by decide) | exact Sq.whole (by assumption) | exact Sq.floor1 (by assumption) | exact Sq.ceil1 (by assumption)))) (by first | assumption | exact Sq.isQ (by repeat (first | assumption | exact IsQ.sq (by assumption) | apply Sq.quo | apply Sq.sub | apply Sq.add | apply Sq.mul | apply Sq.neg | apply Sq.abs | apply Sq.max | apply Sq.min | exact Sq.of (by decide) (by decide) | exact Sq.whole (by assumption) | exact Sq.floor1 (by assumption) | exact Sq.ceil1 (by assumption)))) (by omega) (by omega)) ?_ | refine cl (by exact rfl) plain28 rfl (sign_q (by first | assumption | exact Sq.isQ (by repeat (first | assumption | exact IsQ.sq (by assumption) | apply Sq.quo | apply Sq.sub | apply Sq.add | apply Sq.mul | apply Sq.neg | apply Sq.abs | apply Sq.max | apply Sq.min | exact Sq.of (by decide) (by decide) | exact Sq.whole (by assumption) | exact Sq.floor1 (by assumption) | exact Sq.ceil1 (by assumption)))) (by omega)) ?_ | refine cl (by exact rfl) plain44 rfl (floor_q (by first | assumption | exact Sq.isQ (by repeat (first | assumption | exact IsQ.sq (by assumption) | apply Sq.quo | apply Sq.sub | apply Sq.add | apply Sq.mul | apply Sq.neg | apply Sq.abs | apply Sq.max | apply Sq.min | exact Sq.of (by decide) (by decide) | exact Sq.whole (by assumption) | exact Sq.floor1 (by assumption) | exact Sq.ceil1 (by assumption)))) (by omega)) ?_ | refine cl (by exact rfl) plain45 rfl (ceil_q (by first | assumption | exact Sq.isQ (by repeat (first | assumption | exact IsQ.sq (by assumption) | apply Sq.quo | apply Sq.sub | apply Sq.add | apply Sq.mul | apply Sq.neg | apply Sq.abs | apply Sq.max | apply Sq.min | exact Sq.of (by decide) (by decide) | exact Sq.whole (by assumption) | exact Sq.floor1 (by assumption) | exact Sq.ceil1 (by assumption)))) (by omega)) ?_ | refine cl (by exact rfl) plain46 rfl (isWhole_q (by first | assumption | exact Sq.isQ (by repeat (first | assumption | exact IsQ.sq (by assumption) | apply Sq.quo | apply Sq.sub | apply Sq.add | apply Sq.mul | apply Sq.neg | apply Sq.abs | apply Sq.max | apply Sq.min | exact Sq.of (by decide) (by decide) | exact Sq.whole (by assumption) | exact Sq.floor1 (by assumption) | exact Sq.ceil1 (by assumption)))) (by omega)) ?_ | refine cl (by exact rfl) plain48 rfl (textQ_r (by first | assumption | exact Sq.isQ (by repeat (first | assumption | exact IsQ.sq (by assumption) | apply Sq.quo | apply Sq.sub | apply Sq.add | apply Sq.mul | apply Sq.neg | apply Sq.abs | apply Sq.max | apply Sq.min | exact Sq.of (by decide) (by decide) | exact Sq.whole (by assumption) | exact Sq.floor1 (by assumption) | exact Sq.ceil1 (by assumption)))) (by omega)) ?_ | refine cl (by exact rfl) plain79 rfl dv ?_ | refine cl (by exact rfl) plain47 rfl pr ?_ | refine cl (by exact rfl) plain58 rfl i1 ?_ | refine cl (by exact rfl) plain58 rfl i2 ?_ | refine cl (by exact rfl) plain58 rfl i3 ?_ | refine cl (by exact rfl) plain58 rfl i4 ?_ | refine cl (by exact rfl) plain58 rfl i5 ?_ | refine cl (by exact rfl) plain58 rfl i6 ?_)); exact h.un) : p := f ⟨h⟩
theorem parseQl_r {s : List UInt8} {q : Rat} {e : Int} (hs : s.length ≤ 1300) (h : parseQ s = (q, e)) : Ret Try.prog 47 [.str s] (.tup [mQ q, .int .i64 e]) := by
  have := parseQ_r (s := s) (by unfold maxLen; omega)
  rwa [h] at this
set_option maxHeartbeats 2000000 in
theorem awake4_r : Ret Try.prog 25 [] (.bool true) := by
  have dv := div_q (Sq.isQ (Sq.of (n := 1) (d := 1) (by decide) (by decide))) (Sq.isQ (Sq.of (n := 0) (d := 1) (by decide) (by decide))) (by omega) (by omega)
  rw [if_pos (by decide +kernel)] at dv
  have pr := parseQl_r (s := [45, 54, 47, 52]) (q := (-6) /. 4) (e := 0) (by decide) (by decide +kernel)
  have i1 := is4_r (Sq.of (n := 6) (d := -4) (by decide) (by decide)) (by omega) (textQ2 (n := -3) (d := 2) (s1 := [45, 51]) (s2 := [50]) (by decide +kernel) (by decide +kernel) (by decide) (by decide) (by decide))
  have i2 := is4_r (Sq.of (n := 4) (d := 2) (by decide) (by decide)) (by omega) (textQ1 (n := 2) (s := [50]) (by decide +kernel) (by decide +kernel) (by decide))
  have i3 := is4_r (Sq.of (n := 1) (d := 0) (by decide) (by decide)) (by omega) (textQ1 (n := 0) (s := [48]) (by decide +kernel) (by decide +kernel) (by decide))
  have i4 := is4_r (Sq.add (Sq.of (n := 1) (d := 2) (by decide) (by decide)) (Sq.of (n := 1) (d := 3) (by decide) (by decide))) (by omega) (textQ2 (n := 5) (d := 6) (s1 := [53]) (s2 := [54]) (by decide +kernel) (by decide +kernel) (by decide) (by decide) (by decide))
  have i5 := is4_r (Sq.add (Sq.of (n := 1) (d := 2) (by decide) (by decide)) (Sq.of (n := 1) (d := 2) (by decide) (by decide))) (by omega) (textQ1 (n := 1) (s := [49]) (by decide +kernel) (by decide +kernel) (by decide))
  have i6 := is4_r (Sq.quo (Sq.of (n := 1) (d := 2) (by decide) (by decide)) (Sq.of (n := -1) (d := 4) (by decide) (by decide))) (by omega) (textQ1 (n := -2) (s := [45, 50]) (by decide +kernel) (by decide +kernel) (by decide))
  refine ret_of (L := L) lay_ok Try.func25 rfl Try.ntmps25 rfl ?_
  refine go_We725d5 ?_
  refine ar_eq 34 rfl (d' := .im (.bool true)) (eqt (den_len.trans (by decide +kernel))) ?_
  refine go_We725d5 ?_
  refine ⟨_, rfl, ?_⟩
  rfl
theorem short4_r {b1 b2 b3 b4 b5 b6 : Bool} {l1 l2 l3 l4 l5 l6 : List Nat} : Ret Try.prog 26 [.agg [.bool b1, mW l1, .bool b2, mW l2], .agg [.bool b3, mW l3, .bool b4, mW l4], .agg [.bool b5, mW l5, .bool b6, mW l6]] (.bool ((decide ((l1.length : Int) ≤ 12) && decide ((l2.length : Int) ≤ 12)) && (decide ((l3.length : Int) ≤ 12) && decide ((l4.length : Int) ≤ 12)) && (decide ((l5.length : Int) ≤ 12) && decide ((l6.length : Int) ≤ 12)))) := by
  have s1 := shortRat_r (b1 := b1) (b2 := b2) (l1 := l1) (l2 := l2) (n := 12)
  have s2 := shortRat_r (b1 := b3) (b2 := b4) (l1 := l3) (l2 := l4) (n := 12)
  have s3 := shortRat_r (b1 := b5) (b2 := b6) (l1 := l5) (l2 := l6) (n := 12)
  generalize (decide ((l1.length : Int) ≤ 12) && decide ((l2.length : Int) ≤ 12)) = x at *
  generalize (decide ((l3.length : Int) ≤ 12) && decide ((l4.length : Int) ≤ 12)) = y at *
  generalize (decide ((l5.length : Int) ≤ 12) && decide ((l6.length : Int) ≤ 12)) = z at *
  cases x <;> cases y
  all_goals
    refine ret_of (L := L) lay_ok Try.func26 rfl Try.ntmps26 rfl ?_
    refine go ?_
    refine cl (by exact rfl) plain80 rfl s1 ?_
    refine go ?_
    try refine cl (by exact rfl) plain80 rfl s2 ?_
    refine go ?_
    try refine cl (by exact rfl) plain80 rfl s3 ?_
    refine go ?_
    refine ⟨_, rfl, ?_⟩
    rfl
theorem isQ_of {b1 b2 : Bool} {l1 l2 : List Nat} (h1 : Dig W l1) (h2 : Dig W l2) {n : Nat} (hn : 1 ≤ n) (hs : (decide ((l1.length : Int) ≤ n) && decide ((l2.length : Int) ≤ n)) = true) : ∃ q, IsQ (.agg [.bool b1, mW l1, .bool b2, mW l2]) q n := by
  simp only [Bool.and_eq_true, decide_eq_true_eq] at hs
  exact ⟨_, b1, l1, b2, l2, rfl, h1, h2, by omega, by omega, hn, rfl⟩
theorem mul_one1 (a : Rat) : a * (1 /. 1) = a := by rw [Rat.divInt_self' (by decide), Rat.mul_one]
theorem zero_sub1 (a : Rat) : -a = 0 - a := by rw [Rat.sub_eq_add_neg, Rat.zero_add]
theorem go_F19033d {p q : Prop} (h : q) (f : Bx q → p := by intro h; (repeat (first | refine go1 ?_ | refine cl (by exact rfl) plain26 rfl sh ?_ | refine cl (by exact rfl) plain25 rfl awake4_r ?_ | refine cl (by exact rfl) plain29 rfl sub0 ?_ | refine cl (by exact rfl) plain28 rfl sg1 ?_ | refine cl (by exact rfl) plain28 rfl sg2 ?_ | refine cl (by exact rfl) plain28 rfl sg3 ?_ | refine cl (by exact rfl) plain23 rfl (of_q (by omega) (by omega) (by omega) (by omega)) ?_ | refine cl (by exact rfl) plain30 rfl (norm_q (by first | assumption | exact Sq.isQ (by repeat (first | assumption | exact IsQ.sq (by assumption) | apply Sq.quo | apply Sq.sub | apply Sq.add | apply Sq.mul | apply Sq.neg | apply Sq.abs | apply Sq.max | apply Sq.min | exact Sq.of (by decide) (by decide) | exact Sq.whole (by assumption) | exact Sq.floor1 (by assumption) | exact Sq.ceil1 (by assumption)))) (by omega)) ?_ | refine cl (by exact rfl) plain27 rfl (add_q (by first | assumption | exact Sq.isQ (by repeat (first | assumption | exact IsQ.sq (by assumption) | apply Sq.quo | apply Sq.sub | apply Sq.add | apply Sq.mul | apply Sq.neg | apply Sq.abs | apply Sq.max | apply Sq.min | exact Sq.of (by decide) (by decide) | exact Sq.whole (by assumption) | exact Sq.floor1 (by assumption) | exact Sq.ceil1 (by assumption)))) (by first | assumption | exact Sq.isQ (by repeat (first | assumption | exact IsQ.sq (by assumption) | apply Sq.quo | apply Sq.sub | apply Sq.add | apply Sq.mul | apply Sq.neg | apply Sq.abs | apply Sq.max | apply Sq.min | exact Sq.of (by decide) (by decide) | exact Sq.whole (by assumption) | exact Sq.floor1 (by assumption) | exact Sq.ceil1 (by assumption)))) (by omega) (by omega)) ?_ | refine cl (by exact rfl) plain29 rfl (sub_q (by first | assumption | exact Sq.isQ (by repeat (first | assumption | exact IsQ.sq (by assumption) | apply Sq.quo | apply Sq.sub | apply Sq.add | apply Sq.mul | apply Sq.neg | apply Sq.abs | apply Sq.max | apply Sq.min | exact Sq.of (by decide) (by decide) | exact Sq.whole (by assumption) | exact Sq.floor1 (by assumption) | exact Sq.ceil1 (by assumption)))) (by first | assumption | exact Sq.isQ (by repeat (first | assumption | exact IsQ.sq (by assumption) | apply Sq.quo | apply Sq.sub | apply Sq.add | apply Sq.mul | apply Sq.neg | apply Sq.abs | apply Sq.max | apply Sq.min | exact Sq.of (by decide) (by decide) | exact Sq.whole (by assumption) | exact Sq.floor1 (by assumption) | exact Sq.ceil1 (by assumption)))) (by omega) (by omega)) ?_ | refine cl (by exact rfl) plain32 rfl (mul_q (by first | assumption | exact Sq.isQ (by repeat (first | assumption | exact IsQ.sq (by assumption) | apply Sq.quo | apply Sq.sub | apply Sq.add | apply Sq.mul | apply Sq.neg | apply Sq.abs | apply Sq.max | apply Sq.min | exact Sq.of (by decide) (by decide) | exact Sq.whole (by assumption) | exact Sq.floor1 (by assumption) | exact Sq.ceil1 (by assumption)))) (by first | assumption | exact Sq.isQ (by repeat (first | assumption | exact IsQ.sq (by assumption) | apply Sq.quo | apply Sq.sub | apply Sq.add | apply Sq.mul | apply Sq.neg | apply Sq.abs | apply Sq.max | apply Sq.min | exact Sq.of (by decide) (by decide) | exact Sq.whole (by assumption) | exact Sq.floor1 (by assumption) | exact Sq.ceil1 (by assumption)))) (by omega) (by omega)) ?_ | refine cl (by exact rfl) plain33 rfl (quo_q (by first | assumption | exact Sq.isQ (by repeat (first | assumption | exact IsQ.sq (by assumption) | apply Sq.quo | apply Sq.sub | apply Sq.add | apply Sq.mul | apply Sq.neg | apply Sq.abs | apply Sq.max | apply Sq.min | exact Sq.of (by decide) (by decide) | exact Sq.whole (by assumption) | exact Sq.floor1 (by assumption) | exact Sq.ceil1 (by assumption)))) (by first | assumption | exact Sq.isQ (by repeat (first | assumption | exact IsQ.sq (by assumption) | apply Sq.quo | apply Sq.sub | apply Sq.add | apply Sq.mul | apply Sq.neg | apply Sq.abs | apply Sq.max | apply Sq.min | exact Sq.of (by decide) (by decide) | exact Sq.whole (by assumption) | exact Sq.floor1 (by assumption) | exact Sq.ceil1 (by assumption)))) (by omega) (by omega)) ?_ | refine cl (by exact rfl) plain31 rfl (neg_q (by first | assumption | exact Sq.isQ (by repeat (first | assumption | exact IsQ.sq (by assumption) | apply Sq.quo | apply Sq.sub | apply Sq.add | apply Sq.mul | apply Sq.neg | apply Sq.abs | apply Sq.max | apply Sq.min | exact Sq.of (by decide) (by decide) | exact Sq.whole (by assumption) | exact Sq.floor1 (by assumption) | exact Sq.ceil1 (by assumption)))) (by omega)) ?_ | refine cl (by exact rfl) plain42 rfl (abs_q (by first | assumption | exact Sq.isQ (by repeat (first | assumption | exact IsQ.sq (by assumption) | apply Sq.quo | apply Sq.sub | apply Sq.add | apply Sq.mul | apply Sq.neg | apply Sq.abs | apply Sq.max | apply Sq.min | exact Sq.of (by decide) (by decide) | exact Sq.whole (by assumption) | exact Sq.floor1 (by assumption) | exact Sq.ceil1 (by assumption)))) (by omega)) ?_ | refine cl (by exact rfl) plain40 rfl (max_q (by first | assumption | exact Sq.isQ (by repeat (first | assumption | exact IsQ.sq (by assumption) | apply Sq.quo | apply Sq.sub | apply Sq.add | apply Sq.mul | apply Sq.neg | apply Sq.abs | apply Sq.max | apply Sq.min | exact Sq.of (by decide) (by decide) | exact Sq.whole (by assumption) | exact Sq.floor1 (by assumption) | exact Sq.ceil1 (by assumption)))) (by first | assumption | exact Sq.isQ (by repeat (first | assumption | exact IsQ.sq (by assumption) | apply Sq.quo | apply Sq.sub | apply Sq.add | apply Sq.mul | apply Sq.neg | apply Sq.abs | apply Sq.max | apply Sq.min | exact Sq.of (by decide) (by decide) | exact Sq.whole (by assumption) | exact Sq.floor1 (by assumption) | exact Sq.ceil1 (by assumption)))) (by omega) (by omega)) ?_ | refine cl (by exact rfl) plain41 rfl (min_q (by first | assumption | exact Sq.isQ (by repeat (first | assumption | exact IsQ.sq (by assumption) | apply Sq.quo | apply Sq.sub | apply Sq.add | apply Sq.mul | apply Sq.neg | apply Sq.abs | apply Sq.max | apply Sq.min | exact Sq.of (by decide) (by decide) | exact Sq.whole (by assumption) | exact Sq.floor1 (by assumption) | exact Sq.ceil1 (by assumption)))) (by first | assumption | exact Sq.isQ (by repeat (first | assumption | exact IsQ.sq (by assumption) | apply Sq.quo | apply Sq.sub | apply Sq.add | apply Sq.mul | apply Sq.neg | apply Sq.abs | apply Sq.max | apply Sq.min | exact Sq.of (by decide) (by decide) | exact Sq.whole (by assumption) | exact Sq.floor1 (by assumption) | exact Sq.ceil1 (by assumption)))) (by omega) (by omega)) ?_ | refine cl (by exact rfl) plain39 rfl (cmp_q (by first | assumption | exact Sq.isQ (by repeat (first | assumption | exact IsQ.sq (by assumption) | apply Sq.quo | apply Sq.sub | apply Sq.add | apply Sq.mul | apply Sq.neg | apply Sq.abs | apply Sq.max | apply Sq.min | exact Sq.of (by decide) (by decide) | exact Sq.whole (by assumption) | exact Sq.floor1 (by assumption) | exact Sq.ceil1 (by assumption)))) (by first | assumption | exact Sq.isQ (by repeat (first | assumption | exact IsQ.sq (by assumption) | apply Sq.quo | apply Sq.sub | apply Sq.add | apply Sq.mul | apply Sq.neg | apply Sq.abs | apply Sq.max | apply Sq.min | exact Sq.of (by decide) (by decide) | exact Sq.whole (by assumption) | exact Sq.floor1 (by assumption) | exact Sq.ceil1 (by assumption)))) (by omega) (by omega)) ?_ | refine cl (by exact rfl) plain34 rfl (sameQ_q (by first | assumption | exact Sq.isQ (by repeat (first | assumption | exact IsQ.sq (by assumption) | apply Sq.quo | apply Sq.sub | apply Sq.add | apply Sq.mul | apply Sq.neg | apply Sq.abs | apply Sq.max | apply Sq.min | exact Sq.of (by decide) (by decide) | exact Sq.whole (by assumption) | exact Sq.floor1 (by assumption) | exact Sq.ceil1 (by assumption)))) (by first | assumption | exact Sq.isQ (by repeat (first | assumption | exact IsQ.sq (by assumption) | apply Sq.quo | apply Sq.sub | apply Sq.add | apply Sq.mul | apply Sq.neg | apply Sq.abs | apply Sq.max | apply Sq.min | exact Sq.of (by decide) (by decide) | exact Sq.whole (by assumption) | exact Sq.floor1 (by assumption) | exact Sq.ceil1 (by assumption)))) (by omega) (by omega)) ?_ | refine cl (by exact rfl) plain28 rfl (sign_q (by first | assumption | exact Sq.isQ (by repeat (first | assumption | exact IsQ.sq (by assumption) | apply Sq.quo | apply Sq.sub | apply Sq.add | apply Sq.mul | apply Sq.neg | apply Sq.abs | apply Sq.max | apply Sq.min | exact Sq.of (by decide) (by decide) | exact Sq.whole (by assumption) | exact Sq.floor1 (by assumption) | exact Sq.ceil1 (by assumption)))) (by omega)) ?_ | refine cl (by exact rfl) plain44 rfl (floor_q (by first | assumption | exact Sq.isQ (by repeat (first | assumption | exact IsQ.sq (by assumption) | apply Sq.quo | apply Sq.sub | apply Sq.add | apply Sq.mul | apply Sq.neg | apply Sq.abs | apply Sq.max | apply Sq.min | exact Sq.of (by decide) (by decide) | exact Sq.whole (by assumption) | exact Sq.floor1 (by assumption) | exact Sq.ceil1 (by assumption)))) (by omega)) ?_ | refine cl (by exact rfl) plain45 rfl (ceil_q (by first | assumption | exact Sq.isQ (by repeat (first | assumption | exact IsQ.sq (by assumption) | apply Sq.quo | apply Sq.sub | apply Sq.add | apply Sq.mul | apply Sq.neg | apply Sq.abs | apply Sq.max | apply Sq.min | exact Sq.of (by decide) (by decide) | exact Sq.whole (by assumption) | exact Sq.floor1 (by assumption) | exact Sq.ceil1 (by assumption)))) (by omega)) ?_ | refine cl (by exact rfl) plain46 rfl (isWhole_q (by first | assumption | exact Sq.isQ (by repeat (first | assumption | exact IsQ.sq (by assumption) | apply Sq.quo | apply Sq.sub | apply Sq.add | apply Sq.mul | apply Sq.neg | apply Sq.abs | apply Sq.max | apply Sq.min | exact Sq.of (by decide) (by decide) | exact Sq.whole (by assumption) | exact Sq.floor1 (by assumption) | exact Sq.ceil1 (by assumption)))) (by omega)) ?_ | refine cl (by exact rfl) plain48 rfl (textQ_r (by first | assumption | exact Sq.isQ (by repeat (first | assumption | exact IsQ.sq (by assumption) | apply Sq.quo | apply Sq.sub | apply Sq.add | apply Sq.mul | apply Sq.neg | apply Sq.abs | apply Sq.max | apply Sq.min | exact Sq.of (by decide) (by decide) | exact Sq.whole (by assumption) | exact Sq.floor1 (by assumption) | exact Sq.ceil1 (by assumption)))) (by omega)) ?_ | refine cl (by exact rfl) plain22 rfl (sameQm_t (by first | rfl | exact Rat.add_comm _ _ | exact Rat.add_assoc _ _ _ | exact Rat.mul_comm _ _ | exact Rat.mul_assoc _ _ _ | exact Rat.mul_add _ _ _ | exact Rat.add_sub_cancel | exact mul_one1 _ | exact zero_sub1 _ | exact Rat.div_mul_cancel hb | exact Rat.mul_div_cancel hb) (by repeat (first | assumption | exact IsQ.sq (by assumption) | apply Sq.quo | apply Sq.sub | apply Sq.add | apply Sq.mul | apply Sq.neg | apply Sq.abs | apply Sq.max | apply Sq.min | exact Sq.of (by decide) (by decide) | exact Sq.whole (by assumption) | exact Sq.floor1 (by assumption) | exact Sq.ceil1 (by assumption))) (by omega)) ?_ | refine cl (by exact rfl) plain22 rfl (sameQm_r (by repeat (first | assumption | exact IsQ.sq (by assumption) | apply Sq.quo | apply Sq.sub | apply Sq.add | apply Sq.mul | apply Sq.neg | apply Sq.abs | apply Sq.max | apply Sq.min | exact Sq.of (by decide) (by decide) | exact Sq.whole (by assumption) | exact Sq.floor1 (by assumption) | exact Sq.ceil1 (by assumption))) (by omega)) ?_)); exact h.un) : p := f ⟨h⟩
set_option maxHeartbeats 4000000 in
theorem field_r {b1 b2 b3 b4 b5 b6 : Bool} {l1 l2 l3 l4 l5 l6 : List Nat} (hd1 : Dig W l1) (hd2 : Dig W l2) (hd3 : Dig W l3) (hd4 : Dig W l4) (hd5 : Dig W l5) (hd6 : Dig W l6) : Ret Try.prog 6 [.agg [.bool b1, mW l1, .bool b2, mW l2], .agg [.bool b3, mW l3, .bool b4, mW l4], .agg [.bool b5, mW l5, .bool b6, mW l6]] (.bool true) := by
  have sh := short4_r (b1 := b1) (b2 := b2) (b3 := b3) (b4 := b4) (b5 := b5) (b6 := b6) (l1 := l1) (l2 := l2) (l3 := l3) (l4 := l4) (l5 := l5) (l6 := l6)
  by_cases hs : ((decide ((l1.length : Int) ≤ 12) && decide ((l2.length : Int) ≤ 12)) && (decide ((l3.length : Int) ≤ 12) && decide ((l4.length : Int) ≤ 12)) && (decide ((l5.length : Int) ≤ 12) && decide ((l6.length : Int) ≤ 12))) = true
  · rw [hs] at sh
    rw [Bool.and_eq_true, Bool.and_eq_true] at hs
    obtain ⟨⟨c1, c2⟩, c3⟩ := hs
    obtain ⟨a, ia⟩ := isQ_of (b1 := b1) (b2 := b2) hd1 hd2 (n := 12) (by omega) c1
    obtain ⟨b, ib⟩ := isQ_of (b1 := b3) (b2 := b4) hd3 hd4 (n := 12) (by omega) c2
    obtain ⟨c, ic⟩ := isQ_of (b1 := b5) (b2 := b6) hd5 hd6 (n := 12) (by omega) c3
    have sz0 : Sq 0 1 := ⟨by decide, by decide, by omega⟩
    have sub0 := Ret.weak (sub_q sz0.isQ ia (by omega) (by omega)) (.cons le_zeroQ (.cons (Le.refl _) .nil)) (Le.refl _)
    have sg1 := sign_q (Sq.isQ (Sq.sub ia.sq ia.sq)) (by omega)
    rw [signQ_zero.2 (Rat.sub_self)] at sg1
    have sg2 := sign_q ib (by omega)
    by_cases hb : b = 0
    · have sg3 := sign_q (Sq.isQ (Sq.quo ia.sq ib.sq)) (by omega)
      rw [signQ_zero.2 (by rw [hb, Rat.div_def, Rat.inv_zero, Rat.mul_zero])] at sg3
      rw [signQ_zero.2 hb] at sg2
      refine ret_of (L := L) lay_ok Try.func6 rfl Try.ntmps6 rfl ?_
      refine go_F19033d ?_
      refine ar_eq 169 rfl (d' := .im (.bool true)) (eqt (beq_self_eq_true _)) ?_
      refine go_F19033d ?_
      refine ⟨_, rfl, ?_⟩
      rfl
    · rcases signQ_cases b with ⟨e, _⟩ | ⟨_, e⟩ | ⟨e, _⟩
      case inr.inl => exact absurd e hb
      all_goals
        rw [e] at sg2
        refine ret_of (L := L) lay_ok Try.func6 rfl Try.ntmps6 rfl ?_
        refine go_F19033d ?_
        refine ar_eq 169 rfl (d' := .im (.bool true)) (eqt (beq_self_eq_true _)) ?_
        refine go_F19033d ?_
        refine ⟨_, rfl, ?_⟩
        rfl
  · rw [Bool.not_eq_true] at hs
    rw [hs] at sh
    refine ret_of (L := L) lay_ok Try.func6 rfl Try.ntmps6 rfl ?_
    refine go_F19033d ?_
    refine ⟨_, rfl, ?_⟩
    rfl
end Go.Proofs.Ytpahppekalgegaa
