/- Fractions and their order, in plain Lean; a fraction's text says it. No program in sight. -/
import Derived.Test.YtpahppekalgegaaFwP4c
import Derived.Test.YtpahppekalgegaaFwT2
namespace Go.Proofs.Ytpahppekalgegaa
open Go Go.RowKit Fw Tw Rat
set_option linter.unusedVariables false
set_option linter.unusedSimpArgs false
theorem signQ_eq {p q : Rat} (h1 : p < 0 ↔ q < 0) (h2 : 0 < p ↔ 0 < q) : signQ p = signQ q := by
  rcases signQ_cases p with ⟨e, h⟩ | ⟨e, h⟩ | ⟨e, h⟩ <;> rcases signQ_cases q with ⟨e', h'⟩ | ⟨e', h'⟩ | ⟨e', h'⟩ <;> rw [e, e'] <;> exfalso <;> grind
theorem cmp_anti (a b : Rat) : (cmpQ a b == IntKind.i64.wrap (0 - cmpQ b a)) = true := by
  rw [beq_iff_eq, IntKind.wrap_i64]
  have h1 := @cmpQ_lt a b
  have h2 := @cmpQ_gt a b
  have h3 := @cmpQ_lt b a
  have h4 := @cmpQ_gt b a
  unfold cmpQ at *
  rcases signQ_cases (a - b) with ⟨e, h⟩ | ⟨e, h⟩ | ⟨e, h⟩ <;> rcases signQ_cases (b - a) with ⟨e', h'⟩ | ⟨e', h'⟩ | ⟨e', h'⟩ <;> rw [e, e'] <;> first | rfl | (exfalso; grind)
theorem cmp_add (a b c : Rat) : (cmpQ a b == cmpQ (a + c) (b + c)) = true := by
  rw [beq_iff_eq]
  unfold cmpQ
  congr 1
  grind
theorem wrap_small {n : Int} (h1 : -1 ≤ n) (h2 : n ≤ 1) : IntKind.i64.wrap n = n := by rw [IntKind.wrap_i64]; omega
theorem mul_sign_pos {p c : Rat} (hc : 0 < c) : signQ (p * c) = signQ p := signQ_eq (by rw [Rat.mul_neg_iff_of_pos_right hc]) (by rw [Rat.mul_pos_iff_of_pos_right hc])
theorem neg_sign (p : Rat) : signQ (-p) = -signQ p := by
  unfold signQ signZ
  rw [Rat.neg_num]
  split <;> (try split) <;> (try split) <;> (try split) <;> omega
theorem cmp_mul (a b c : Rat) : (IntKind.i64.wrap (cmpQ a b * signQ c) == cmpQ (a * c) (b * c)) = true := by
  rw [beq_iff_eq]
  have e : a * c - b * c = (a - b) * c := by grind
  unfold cmpQ
  rw [e]
  generalize a - b = p
  have hp : -1 ≤ signQ p ∧ signQ p ≤ 1 := by rcases signQ_cases p with ⟨e, _⟩ | ⟨e, _⟩ | ⟨e, _⟩ <;> rw [e] <;> decide
  rcases signQ_cases c with ⟨e, h⟩ | ⟨e, h⟩ | ⟨e, h⟩
  · have e2 : p * c = -(p * -c) := by grind
    rw [e2, neg_sign, mul_sign_pos (show (0 : Rat) < -c by grind), e, wrap_small (by omega) (by omega)]
    omega
  · rw [h, Rat.mul_zero, show signQ (0 : Rat) = 0 from rfl, Int.mul_zero]
    rfl
  · rw [mul_sign_pos h, e, Int.mul_one, wrap_small hp.1 hp.2]
theorem cq_le {a b : Rat} : decide (cmpQ a b ≤ 0) = true ↔ a ≤ b := by
  rw [decide_eq_true_eq]
  have := @cmpQ_gt a b
  rw [← Rat.not_lt, ← this]
  omega
theorem cq_ge {a b : Rat} : decide (cmpQ a b ≥ 0) = true ↔ b ≤ a := by
  rw [decide_eq_true_eq]
  have := @cmpQ_lt a b
  rw [← Rat.not_lt, ← this]
  omega
theorem cq_lt {a b : Rat} : decide (cmpQ a b < 0) = true ↔ a < b := by rw [decide_eq_true_eq]; exact cmpQ_lt
theorem cq_gt {a b : Rat} : decide (cmpQ a b > 0) = true ↔ b < a := by rw [decide_eq_true_eq]; exact cmpQ_gt
theorem max_min (a b : Rat) : maxQ a b + minQ a b = a + b := by unfold maxQ minQ; split <;> split <;> grind
theorem min_le_max (a b : Rat) : minQ a b ≤ maxQ a b := by unfold maxQ minQ; split <;> split <;> grind
theorem abs_sign (a : Rat) : decide (signQ (absQ a) ≥ 0) = true := by
  rw [decide_eq_true_eq]
  have h : ¬ absQ a < 0 := by unfold absQ; split <;> grind
  rw [← signQ_lt] at h
  omega
theorem abs_mul (a : Rat) : a * a = absQ a * absQ a := by unfold absQ; split <;> grind
theorem floor_step (a : Rat) : a < (a.floor : Rat) + 1 /. 1 := by
  have := Rat.lt_floor_add_one a
  rw [Rat.intCast_add] at this
  rw [Rat.divInt_self' (by decide)]
  exact this
theorem ceil_step (a : Rat) : (a.ceil : Rat) - 1 /. 1 < a := by
  have h := floor_step (-a)
  rw [Rat.ceil_eq_neg_floor_neg, Rat.intCast_neg]
  grind
theorem ceil_ge (a : Rat) : a ≤ (a.ceil : Rat) := by
  have := Rat.floor_le (-a)
  rw [Rat.ceil_eq_neg_floor_neg, Rat.intCast_neg]
  grind
theorem floor_whole {a : Rat} : ((a.floor : Rat) = (a.ceil : Rat)) ↔ a.den = 1 := by
  have h1 := Rat.floor_le a
  have h2 := ceil_ge a
  constructor
  · intro h
    have : a = (a.floor : Rat) := Rat.le_antisymm (by rw [h]; exact h2) h1
    rw [this, Rat.den_intCast]
  · intro h
    have e : a = (a.num : Rat) := by
      have := Rat.num_divInt_den a
      rw [h] at this
      have h3 := Rat.num_divInt_den (a.num : Rat)
      exact this.symm.trans (by simpa using h3)
    rw [e, Rat.floor_intCast, Rat.ceil_intCast]
theorem whole_eq (a : Rat) : (decide ((a.floor : Rat) = (a.ceil : Rat)) == decide (a.den = 1)) = true := by
  rw [beq_iff_eq, decide_eq_decide]
  exact floor_whole
theorem cut_none : ∀ {s : List UInt8}, 47 ∉ s → cutT s = (s, [], false)
  | [], _ => rfl
  | b :: l, h => by
    simp only [List.mem_cons, not_or] at h
    unfold cutT
    rw [if_neg (by rw [beq_iff_eq]; exact fun e => h.1 e.symm), cut_none h.2]
    rfl
theorem cut_app : ∀ {s t : List UInt8}, 47 ∉ s → cutT (s ++ 47 :: t) = (s, t, true)
  | [], t, _ => rfl
  | b :: l, t, h => by
    simp only [List.mem_cons, not_or] at h
    rw [List.cons_append]
    unfold cutT
    rw [if_neg (by rw [beq_iff_eq]; exact fun e => h.1 e.symm), cut_app h.2]
    rfl
theorem slash_dec (X : Nat) : 47 ∉ dec X := by
  intro h
  have := List.all_eq_true.1 (dec_all X) _ h
  revert this; decide
theorem slash_text (z : Int) : 47 ∉ textZ z := by
  unfold textZ
  split
  · decide
  · split
    · simp only [List.mem_append, not_or]; exact ⟨by decide, slash_dec _⟩
    · simpa using slash_dec _
theorem neg_pos {z : Int} (h : 0 < z) : negT (textZ z) = false := by
  rw [textZ_pos h]
  cases e : dec z.natAbs with
  | nil => rfl
  | cons c r =>
    rw [negT_cons, beq_eq_false_iff_ne]
    exact head_dig e
theorem parse_textQ {a : Rat} (hn : a.num.natAbs < 10 ^ 600) (hd : a.den < 10 ^ 600) : parseQ (textQ a) = (a, 0) := by
  have p1 := parse_text (z := a.num) hn
  have hq := Rat.num_divInt_den a
  by_cases h1 : a.den = 1
  · have e : textQ a = textZ a.num := by unfold textQ; rw [if_pos h1]
    have c := cut_none (slash_text a.num)
    have b : belowT (textZ a.num) = [49] := by unfold belowT; rw [c]; rfl
    unfold parseQ
    rw [e, b, c, p1]
    unfold parseP
    rw [if_neg (by show ¬ ((0 : Int) = 11 ∨ (parseZ [49]).2 = 11 ∨ negT [49] = true); decide), if_neg (by show ¬ ((0 : Int) ≠ 0 ∨ (parseZ [49]).2 ≠ 0); decide), if_neg (by decide)]
    rw [h1] at hq
    exact congrArg (·, (0 : Int)) hq
  · have e : textQ a = textZ a.num ++ 47 :: textZ (a.den : Int) := by unfold textQ; rw [if_neg h1]
    have p2 := parse_text (z := (a.den : Int)) hd
    have c := cut_app (t := textZ (a.den : Int)) (slash_text a.num)
    have b : belowT (textZ a.num ++ 47 :: textZ (a.den : Int)) = textZ (a.den : Int) := by unfold belowT; rw [c]; rfl
    have d0 := a.den_nz
    have ng := neg_pos (z := (a.den : Int)) (by omega)
    unfold parseQ
    rw [e, b, c, p1, p2, ng]
    unfold parseP
    rw [if_neg (by show ¬ ((0 : Int) = 11 ∨ (0 : Int) = 11 ∨ false = true); decide), if_neg (by show ¬ ((0 : Int) ≠ 0 ∨ (0 : Int) ≠ 0); decide), if_neg (by show ¬ ((a.den : Int) = 0); omega)]
    exact congrArg (·, (0 : Int)) hq
theorem wten {k n : Nat} (h : 20 * k ≤ n) : W ^ k ≤ 10 ^ n := by
  have h1 : W ^ k ≤ 10 ^ (20 * k) := by
    rw [Nat.pow_mul]
    exact Nat.pow_le_pow_left (by unfold W; omega) k
  exact Nat.le_trans h1 (Nat.pow_le_pow_right (by omega) h)
theorem parse_textS {a : Rat} {k : Nat} (h : Sq a k) (hk : k ≤ 30) : parseQ (textQ a) = (a, 0) := by
  obtain ⟨n, hn⟩ : ∃ n, n = 600 := ⟨_, rfl⟩
  have q1 : a.num.natAbs < 10 ^ n := Nat.lt_of_lt_of_le h.n (wten (by omega))
  have q2 : a.den < 10 ^ n := Nat.lt_of_lt_of_le h.d (wten (by omega))
  rw [hn] at q1 q2
  exact parse_textQ q1 q2
end Go.Proofs.Ytpahppekalgegaa
