/- Package ratio, by the logic over data: contracts over Lean's own fractions. -/
import Derived.Test.YtkbhchlecokpiaaFwS4
set_option linter.unusedVariables false
set_option linter.unusedSimpArgs false
namespace Go.Proofs.Ytkbhchlecokpiaa
open Go Go.RowKit Fw Tw Rat
set_option linter.unusedVariables false
set_option linter.unusedSimpArgs false
theorem go_M12d897 {p q : Prop} (h : q) (f : Bx q → p := by intro h; (repeat (first | refine go1 ?_ | refine cl (by exact rfl) plain79 rfl sd ?_ | refine cl (by exact rfl) plain79 rfl sn ?_ | refine cl (by exact rfl) plain100 rfl hg ?_ | refine cl (by exact rfl) plain83 rfl hng ?_ | refine cl (by exact rfl) plain101 rfl he1 ?_ | refine cl (by exact rfl) plain101 rfl he2 ?_ | refine cl (by exact rfl) plain103 rfl one_r ?_ | refine cl (by exact rfl) plain102 rfl hc ?_ | refine cl (by exact rfl) plain135 rfl hdm ?_ | refine cl (by exact rfl) plain78 rfl (of_r (by omega) (by omega)) ?_)); exact h.un) : p := f ⟨h⟩
theorem one_r : Ret Try.prog 103 [] (mI 1) := by
  refine ret_of (L := L) lay_ok Try.func103 rfl Try.ntmps103 rfl ?_
  refine go_M12d897 ?_
  refine ⟨_, rfl, ?_⟩
  rfl
/-- what a fraction is divided by, as it stands -/
def mD (b : Bool) (l : List Nat) : M := if l = [] then mI 1 else .agg [.bool b, mW l]
theorem isZ_mD {b : Bool} {l : List Nat} {k : Nat} (hd : Dig W l) (hl : l.length ≤ k) (hk : 1 ≤ k) : IsZ (mD b l) (denI b l) k := by
  unfold mD denI
  split
  · exact (of_z (n := 1) (by omega) (by omega)).mono hk
  · exact ⟨b, l, rfl, hd, hl, rfl⟩
theorem den_r {b1 b2 : Bool} {l1 l2 : List Nat} : Ret Try.prog 69 [.agg [.bool b1, mW l1, .bool b2, mW l2]] (mD b2 l2) := by
  by_cases h : l2 = []
  · subst h
    refine ret_of (L := L) lay_ok Try.func69 rfl Try.ntmps69 rfl ?_
    refine go_M12d897 ?_
    refine ⟨_, rfl, ?_⟩
    rfl
  · have hl : 0 < l2.length := by cases l2 with
      | nil => exact absurd rfl h
      | cons x l => simp
    refine ret_of (L := L) lay_ok Try.func69 rfl Try.ntmps69 rfl ?_
    refine go ?_
    refine awp_cond rfl (fun hb => ?_) (fun hb => ?_)
    · simp at hb; exact absurd hb h
    refine go ?_
    refine ⟨_, rfl, ?_⟩
    unfold mD
    rw [if_neg h]
    rfl
theorem den_mQ {q : Rat} : Ret Try.prog 69 [mQ q] (mI (q.den : Int)) := by
  have := den_r (b1 := decide (q.num < 0)) (b2 := false) (l1 := digs W q.num.natAbs) (l2 := digs W (if q.den = 1 then 0 else q.den))
  have e : mD false (digs W (if q.den = 1 then 0 else q.den)) = mI (q.den : Int) := by
    unfold mD
    by_cases h1 : q.den = 1
    · rw [if_pos h1, digs_zero, if_pos rfl, h1]; rfl
    · rw [if_neg h1, if_neg]
      · have : decide ((q.den : Int) < 0) = false := by rw [decide_eq_false_iff_not]; omega
        unfold mI
        rw [this]; rfl
      · intro h
        have := congrArg (Tw.val W) h
        rw [val_digs W_two] at this
        exact absurd this q.den_nz
  rw [e] at this
  exact this
theorem exact_r {ma mb : M} {a b : Int} {j k : Nat} (h1 : IsZ ma a j) (h2 : IsZ mb b k) (hj : j ≤ 20000) (hk : k ≤ 20000) : Ret Try.prog 101 [ma, mb] (.tup [mI (a / b), .bool (signZ (modZ a b) == 0)]) := by
  have hdm := zdivmod_r h1 h2 hj hk
  have sd := sign_r (Sz.isZ (Sz.mod (a := a) (Sz.of h2))) (by omega)
  obtain ⟨b1, l1, rfl, _⟩ := h1
  obtain ⟨b2, l2, rfl, _⟩ := h2
  refine ret_of (L := L) lay_ok Try.func101 rfl Try.ntmps101 rfl ?_
  refine go_M12d897 ?_
  refine ⟨_, rfl, ?_⟩
  rfl
theorem mQ_zero : mQ 0 = .agg [.bool false, mW [], .bool false, mW []] := by
  unfold mQ
  have e : mN 0 = mW [] := by show mW (digs W 0) = _; rw [digs_zero]
  rw [Rat.zero_num, Rat.zero_den, if_pos rfl]
  show M.agg [.bool (decide ((0 : Int) < 0)), mN 0, .bool false, mN 0] = _
  rw [e]; rfl
theorem le_zeroQ : Le (.agg [.bool false, .nil, .bool false, .nil]) (mQ 0) := by
  rw [mQ_zero]
  exact le_agg (.cons (Le.refl _) (.cons le_nil (.cons (Le.refl _) (.cons le_nil .nil))))
/-- by what both are divided -/
def gQ (n d : Int) : Int := if d < 0 then -((Int.gcd n d : Nat) : Int) else ((Int.gcd n d : Nat) : Int)
theorem divInt_parts {n d : Int} (hd : d ≠ 0) : (n /. d).num = n / gQ n d ∧ ((n /. d).den : Int) = d / gQ n d := by
  have hgn : ((Int.gcd n d : Nat) : Int) ∣ n := Int.gcd_dvd_left ..
  have hgd : ((Int.gcd n d : Nat) : Int) ∣ d := Int.gcd_dvd_right ..
  rw [Rat.num_divInt, Rat.den_divInt, if_neg hd, Int.gcd_comm d n]
  unfold gQ
  rcases Int.lt_or_gt_of_ne hd with h | h
  · rw [if_pos h, Int.sign_eq_neg_one_of_neg h, Int.ediv_neg, Int.ediv_neg, Int.neg_one_mul, Int.neg_ediv_of_dvd hgn]
    refine ⟨rfl, ?_⟩
    rw [Int.natCast_ediv, show ((d.natAbs : Nat) : Int) = -d by omega, Int.neg_ediv_of_dvd hgd]
  · rw [if_neg (by omega), Int.sign_eq_one_of_pos h, Int.one_mul]
    refine ⟨rfl, ?_⟩
    rw [Int.natCast_ediv, show ((d.natAbs : Nat) : Int) = d by omega]
theorem mI_nat (X : Nat) : mI (X : Int) = .agg [.bool false, mN X] := by
  have : decide ((X : Int) < 0) = false := by rw [decide_eq_false_iff_not]; omega
  unfold mI
  rw [this]; rfl
theorem le_mQ1 {q : Rat} {n d : Int} (hn : q.num = n) (hd : (q.den : Int) = d) (h1 : d = 1) : Le (.agg [.bool (decide (n < 0)), mN n.natAbs, .bool false, .nil]) (mQ q) := by
  have e : mN 0 = mW [] := by show mW (digs W 0) = _; rw [digs_zero]
  unfold mQ
  rw [hn, if_pos (by omega), e]
  exact le_agg (.cons (Le.refl _) (.cons (Le.refl _) (.cons (Le.refl _) (.cons le_nil .nil))))
theorem le_mQ2 {q : Rat} {n d : Int} (hn : q.num = n) (hd : (q.den : Int) = d) (h1 : d ≠ 1) : Le (.agg [.bool (decide (n < 0)), mN n.natAbs, .bool (decide (d < 0)), mN d.natAbs]) (mQ q) := by
  unfold mQ
  rw [hn, if_neg (by omega), ← hd, show decide ((q.den : Int) < 0) = false by rw [decide_eq_false_iff_not]; omega]
  exact Le.refl _
set_option maxHeartbeats 2000000 in
theorem make_q {mn md : M} {n d : Int} {j k : Nat} (h1 : IsZ mn n j) (h2 : IsZ md d k) (hj : j ≤ 9000) (hk : k ≤ 9000) : Ret Try.prog 68 [mn, md] (mQ (n /. d)) := by
  have sd := sign_r h2 (by omega)
  have sn := sign_r h1 (by omega)
  have hg := zgcd_r h1 h2 (by omega) (by omega)
  have sg1 := (Sz.gcd (Sz.of h1) (Sz.of h2))
  have hng := neg_r sg1.isZ (by omega)
  have n1 := h1
  have d1 := h2
  obtain ⟨b1, l1, rfl, hd1, hl1, hz1⟩ := h1
  obtain ⟨b2, l2, rfl, hd2, hl2, hz2⟩ := h2
  rcases sign_cs d with ⟨e, hd⟩ | ⟨e, hd⟩ | ⟨e, hd⟩
  case inr.inl =>
    rw [hd, Rat.divInt_zero]
    rw [e] at sd
    refine ret_ofL (L := L) lay_ok Try.func68 rfl Try.ntmps68 rfl ?_
    refine go_M12d897 ?_
    refine ⟨_, rfl, ?_⟩
    exact le_zeroQ
  all_goals
    rcases Decidable.em (n = 0) with hn | hn
  case inl.inl | inr.inr.inl =>
    rw [hn, Rat.zero_divInt]
    rw [hn, show signZ 0 = 0 from rfl] at sn
    rw [e] at sd
    refine ret_ofL (L := L) lay_ok Try.func68 rfl Try.ntmps68 rfl ?_
    refine go_M12d897 ?_
    refine ⟨_, rfl, ?_⟩
    exact le_zeroQ
  case inl.inr =>
    obtain ⟨p1, p2⟩ := divInt_parts (n := n) (d := d) (by omega)
    have eg : gQ n d = -((Int.gcd n d : Nat) : Int) := by unfold gQ; rw [if_pos hd]
    rw [eg] at p1 p2
    have he1 := exact_r n1 sg1.neg.isZ (by omega) (by omega)
    have he2 := exact_r d1 sg1.neg.isZ (by omega) (by omega)
    have hc := zcmp_r (Sz.isZ (Sz.div (b := -((Int.gcd n d : Nat) : Int)) (Sz.of d1))) (of_z (n := 1) (by omega) (by omega)) (by omega) (by omega)
    generalize -((Int.gcd n d : Nat) : Int) = g at *
    rw [e] at sd
    rcases sign_cs n with ⟨e', hn'⟩ | ⟨e', hn'⟩ | ⟨e', hn'⟩
    case inr.inl => exact absurd hn' hn
    all_goals
      rw [e'] at sn
      refine ret_ofL (L := L) lay_ok Try.func68 rfl Try.ntmps68 rfl ?_
      refine go_M12d897 ?_
      by_cases h1 : d / g = 1
      · refine awp_cond rfl (fun hb => ?_) (fun hb => ?_)
        · refine go ?_
          refine ⟨_, rfl, ?_⟩
          exact le_mQ1 p1 p2 h1
        · rw [h1] at hb; exact absurd hb (by decide)
      · refine awp_cond rfl (fun hb => ?_) (fun hb => ?_)
        · exfalso
          unfold cmpZ at hb
          split at hb
          · exact absurd hb (by decide)
          · split at hb
            · exact absurd hb (by decide)
            · omega
        · refine go ?_
          refine ⟨_, rfl, ?_⟩
          exact le_mQ2 p1 p2 h1
  case inr.inr.inr =>
    obtain ⟨p1, p2⟩ := divInt_parts (n := n) (d := d) (by omega)
    have eg : gQ n d = ((Int.gcd n d : Nat) : Int) := by unfold gQ; rw [if_neg (by omega)]
    rw [eg] at p1 p2
    have he1 := exact_r n1 sg1.isZ (by omega) (by omega)
    have he2 := exact_r d1 sg1.isZ (by omega) (by omega)
    have hc := zcmp_r (Sz.isZ (Sz.div (b := ((Int.gcd n d : Nat) : Int)) (Sz.of d1))) (of_z (n := 1) (by omega) (by omega)) (by omega) (by omega)
    generalize ((Int.gcd n d : Nat) : Int) = g at *
    rw [e] at sd
    rcases sign_cs n with ⟨e', hn'⟩ | ⟨e', hn'⟩ | ⟨e', hn'⟩
    case inr.inl => exact absurd hn' hn
    all_goals
      rw [e'] at sn
      refine ret_ofL (L := L) lay_ok Try.func68 rfl Try.ntmps68 rfl ?_
      refine go_M12d897 ?_
      by_cases h1 : d / g = 1
      · refine awp_cond rfl (fun hb => ?_) (fun hb => ?_)
        · refine go ?_
          refine ⟨_, rfl, ?_⟩
          exact le_mQ1 p1 p2 h1
        · rw [h1] at hb; exact absurd hb (by decide)
      · refine awp_cond rfl (fun hb => ?_) (fun hb => ?_)
        · exfalso
          unfold cmpZ at hb
          split at hb
          · exact absurd hb (by decide)
          · split at hb
            · exact absurd hb (by decide)
            · omega
        · refine go ?_
          refine ⟨_, rfl, ?_⟩
          exact le_mQ2 p1 p2 h1
end Go.Proofs.Ytkbhchlecokpiaa
