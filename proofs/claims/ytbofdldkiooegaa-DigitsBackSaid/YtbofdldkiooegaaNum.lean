/- Plain law: numbers as lists of digits to a base: what a list counts, the one list without noughts on top, lengths. No program in sight. -/
namespace Tw
set_option linter.unusedVariables false
set_option linter.unusedSimpArgs false

/-- the base of the program's digits: 2^64 (a plain name, so that the numeral stays out of contexts) -/
def W : Nat := 18446744073709551616

theorem W_two : 2 ≤ W := by unfold W; omega

/-- element i, 0 past the end (opaque to simp) -/
def nth (l : List Nat) (i : Nat) : Nat := l.getD i 0

/-- what a list of digits counts, the least digit first -/
def val (b : Nat) : List Nat → Nat
  | [] => 0
  | x :: l => x + b * val b l

/-- all below b -/
def Dig (b : Nat) (l : List Nat) : Prop := ∀ x ∈ l, x < b

/-- the one form of n -/
def digs (b n : Nat) : List Nat :=
  if h : 2 ≤ b ∧ 0 < n then n % b :: digs b (n / b) else []
termination_by n
decreasing_by exact Nat.div_lt_self h.2 h.1

theorem W_pos : 0 < W := by unfold W; omega

theorem nth_lt {l : List Nat} {i : Nat} (h : i < l.length) : nth l i = l[i] := by
  simp [nth, h]

theorem nth_mem {l : List Nat} {i : Nat} (h : i < l.length) : nth l i ∈ l := by
  rw [nth_lt h]; exact List.getElem_mem h

theorem nth_dig {b : Nat} {l : List Nat} (hd : Dig b l) {i : Nat} (h : i < l.length) : nth l i < b := hd _ (nth_mem h)

theorem nth_set_eq {l : List Nat} {i x : Nat} (h : i < l.length) : nth (l.set i x) i = x := by
  simp [nth, h]

theorem nth_set_ne {l : List Nat} {i j x : Nat} (h : i ≠ j) : nth (l.set i x) j = nth l j := by
  simp [nth, List.getD, List.getElem?_set, h]

theorem nth_append_left {l m : List Nat} {i : Nat} (h : i < l.length) : nth (l ++ m) i = nth l i := by
  simp [nth, List.getD, List.getElem?_append, h]

theorem nth_append_right {l m : List Nat} {i : Nat} : nth (l ++ m) (l.length + i) = nth m i := by
  simp [nth, List.getD, List.getElem?_append_right]

theorem nth_take {l : List Nat} {i k : Nat} (h : i < k) : nth (l.take k) i = nth l i := by
  simp [nth, List.getD, List.getElem?_take, h]

theorem nth_drop {l : List Nat} {i k : Nat} : nth (l.drop k) i = nth l (k + i) := by
  simp [nth, List.getD, List.getElem?_drop]

theorem ext_nth {l m : List Nat} (h : l.length = m.length) (e : ∀ i, i < l.length → nth l i = nth m i) : l = m := by
  apply List.ext_getElem h
  intro i h1 h2
  have := e i h1
  rwa [nth_lt h1, nth_lt h2] at this

theorem val_nil (b : Nat) : val b [] = 0 := rfl
theorem val_cons (b x : Nat) (l : List Nat) : val b (x :: l) = x + b * val b l := rfl

theorem val_append (b : Nat) (l m : List Nat) : val b (l ++ m) = val b l + b ^ l.length * val b m := by
  induction l with
  | nil => simp [val]
  | cons x l ih =>
    simp only [List.cons_append, val_cons, ih, List.length_cons, Nat.pow_succ, Nat.mul_add]
    rw [Nat.add_assoc, Nat.mul_comm (b ^ l.length) b, Nat.mul_assoc]

theorem val_snoc (b : Nat) (l : List Nat) (x : Nat) : val b (l ++ [x]) = val b l + b ^ l.length * x := by
  rw [val_append]; simp [val]

theorem take_succ_nth {l : List Nat} {k : Nat} (h : k < l.length) : l.take (k + 1) = l.take k ++ [nth l k] := by
  rw [List.take_succ_eq_append_getElem h, nth_lt h]

theorem drop_nth {l : List Nat} {k : Nat} (h : k < l.length) : l.drop k = nth l k :: l.drop (k + 1) := by
  rw [List.drop_eq_getElem_cons h, nth_lt h]

theorem val_take_succ (b : Nat) {l : List Nat} {k : Nat} (h : k < l.length) :
    val b (l.take (k + 1)) = val b (l.take k) + b ^ k * nth l k := by
  rw [take_succ_nth h, val_snoc, List.length_take, Nat.min_eq_left (Nat.le_of_lt h)]

theorem nth_ge {l : List Nat} {i : Nat} (h : l.length ≤ i) : nth l i = 0 := by
  simp [nth, List.getD, List.getElem?_eq_none h]

theorem nth_digW {b : Nat} (hb : 0 < b) {l : List Nat} (hd : Dig b l) (i : Nat) : nth l i < b := by
  rcases Nat.lt_or_ge i l.length with h | h
  · exact nth_dig hd h
  · rw [nth_ge h]; exact hb

theorem val_take_step (b : Nat) (l : List Nat) (k : Nat) : val b (l.take (k + 1)) = val b (l.take k) + b ^ k * nth l k := by
  rcases Nat.lt_or_ge k l.length with h | h
  · exact val_take_succ b h
  · rw [List.take_of_length_le (by omega), List.take_of_length_le h, nth_ge h]; simp

theorem val_drop (b : Nat) {l : List Nat} {k : Nat} (h : k < l.length) :
    val b (l.drop k) = nth l k + b * val b (l.drop (k + 1)) := by
  rw [drop_nth h, val_cons]

theorem val_split (b : Nat) (l : List Nat) (k : Nat) (h : k ≤ l.length) :
    val b l = val b (l.take k) + b ^ k * val b (l.drop k) := by
  have := val_append b (l.take k) (l.drop k)
  rw [List.take_append_drop, List.length_take, Nat.min_eq_left h] at this
  exact this

theorem val_lt {b : Nat} {l : List Nat} (h : Dig b l) : val b l < b ^ l.length := by
  induction l with
  | nil => simp [val]
  | cons x l ih =>
    have hx := h x (by simp)
    have ih' := ih (fun y hy => h y (by simp [hy]))
    rw [val_cons, List.length_cons, Nat.pow_succ, Nat.mul_comm (b ^ l.length) b]
    have : b * val b l + b ≤ b * b ^ l.length := by
      rw [← Nat.mul_succ]; exact Nat.mul_le_mul_left _ ih'
    omega

theorem val_zeros (b : Nat) (n : Nat) : val b (List.replicate n 0) = 0 := by
  induction n with
  | zero => rfl
  | succ n ih => rw [List.replicate_succ, val_cons, ih]; simp

theorem Dig.take {b : Nat} {l : List Nat} (h : Dig b l) (k : Nat) : Dig b (l.take k) := fun x hx => h x (List.mem_of_mem_take hx)
theorem Dig.drop {b : Nat} {l : List Nat} (h : Dig b l) (k : Nat) : Dig b (l.drop k) := fun x hx => h x (List.mem_of_mem_drop hx)
theorem Dig.append {b : Nat} {l m : List Nat} (h : Dig b l) (h' : Dig b m) : Dig b (l ++ m) := by
  intro x hx
  rcases List.mem_append.1 hx with hx | hx
  · exact h x hx
  · exact h' x hx
theorem Dig.nil (b : Nat) : Dig b [] := by intro x hx; simp at hx
theorem Dig.one {b x : Nat} (h : x < b) : Dig b [x] := by intro y hy; simp at hy; omega
theorem Dig.cons {b x : Nat} {l : List Nat} (h : x < b) (h' : Dig b l) : Dig b (x :: l) := by
  intro y hy
  rcases List.mem_cons.1 hy with hy | hy
  · omega
  · exact h' y hy
theorem Dig.set {b : Nat} {l : List Nat} (h : Dig b l) {x : Nat} (hx : x < b) (k : Nat) : Dig b (l.set k x) := by
  intro y hy
  rcases List.mem_or_eq_of_mem_set hy with hy | hy
  · exact h y hy
  · omega
theorem Dig.zeros {b : Nat} (hb : 0 < b) (n : Nat) : Dig b (List.replicate n 0) := by
  intro x hx
  have := List.eq_of_mem_replicate hx
  omega

theorem digs_zero (b : Nat) : digs b 0 = [] := by rw [digs]; simp
theorem digs_pos {b n : Nat} (hb : 2 ≤ b) (hn : 0 < n) : digs b n = n % b :: digs b (n / b) := by
  rw [digs]; simp [hb, hn]

theorem val_digs {b : Nat} (hb : 2 ≤ b) (n : Nat) : val b (digs b n) = n := by
  induction n using Nat.strongRecOn with
  | _ n ih =>
    by_cases hn : 0 < n
    · rw [digs_pos hb hn, val_cons, ih (n / b) (Nat.div_lt_self hn hb)]
      exact Nat.mod_add_div n b
    · obtain rfl : n = 0 := by omega
      rw [digs_zero]; rfl

theorem dig_digs {b : Nat} (hb : 2 ≤ b) (n : Nat) : Dig b (digs b n) := by
  induction n using Nat.strongRecOn with
  | _ n ih =>
    by_cases hn : 0 < n
    · rw [digs_pos hb hn]
      exact Dig.cons (Nat.mod_lt _ (by omega)) (ih (n / b) (Nat.div_lt_self hn hb))
    · obtain rfl : n = 0 := by omega
      rw [digs_zero]; exact Dig.nil b

/-- a list without a nought on top -/
def Top (l : List Nat) : Prop := l = [] ∨ nth l (l.length - 1) ≠ 0

theorem Top.tail {x : Nat} {l : List Nat} (h : Top (x :: l)) : Top l := by
  rcases h with h | h
  · simp at h
  · cases l with
    | nil => exact .inl rfl
    | cons y l => exact .inr (by simpa [nth] using h)

theorem val_pos_of_top {b : Nat} (hb : 0 < b) {l : List Nat} (h : Top l) (hne : l ≠ []) : 0 < val b l := by
  induction l with
  | nil => exact absurd rfl hne
  | cons x l ih =>
    rw [val_cons]
    cases l with
    | nil =>
      rcases h with h | h
      · simp at h
      · simp [nth] at h
        simp [val]; omega
    | cons y l =>
      have := ih h.tail (by simp)
      have := Nat.mul_pos hb this
      omega

theorem digs_val {b : Nat} (hb : 2 ≤ b) {l : List Nat} (hd : Dig b l) (ht : Top l) : digs b (val b l) = l := by
  induction l with
  | nil => rw [val_nil, digs_zero]
  | cons x l ih =>
    have hp := val_pos_of_top (b := b) (by omega) ht (by simp)
    rw [digs_pos hb hp, val_cons]
    have hx := hd x (by simp)
    have ih' := ih (fun y hy => hd y (by simp [hy])) ht.tail
    rw [Nat.add_mul_mod_self_left, Nat.mod_eq_of_lt hx, Nat.add_mul_div_left _ _ (Nat.lt_of_lt_of_le Nat.zero_lt_two hb), Nat.div_eq_of_lt hx, Nat.zero_add, ih']

theorem top_digs {b : Nat} (hb : 2 ≤ b) (n : Nat) : Top (digs b n) := by
  induction n using Nat.strongRecOn with
  | _ n ih =>
    by_cases hn : 0 < n
    · rw [digs_pos hb hn]
      have h := ih (n / b) (Nat.div_lt_self hn hb)
      by_cases hq : 0 < n / b
      · rw [digs_pos hb hq] at h ⊢
        rcases h with h | h
        · simp at h
        · exact .inr (by simpa [nth] using h)
      · have e : n / b = 0 := Nat.eq_zero_of_not_pos hq
        rw [e, digs_zero]
        refine .inr ?_
        have := Nat.div_add_mod n b
        rw [e] at this
        simp only [Nat.mul_zero, Nat.zero_add] at this
        show nth [n % b] 0 ≠ 0
        show n % b ≠ 0
        omega
    · obtain rfl : n = 0 := by omega
      rw [digs_zero]; exact .inl rfl

/-- a beginning that counts the same, without a nought on top, is the one form -/
theorem digs_take {b : Nat} (hb : 2 ≤ b) {l : List Nat} (hd : Dig b l) {k : Nat} (hk : k ≤ l.length) (hz : ∀ i, k ≤ i → i < l.length → nth l i = 0)
    (ht : k = 0 ∨ nth l (k - 1) ≠ 0) : digs b (val b l) = l.take k := by
  have hz' : l.drop k = List.replicate (l.length - k) 0 := by
    apply ext_nth
    · simp
    · intro i hi
      rw [nth_drop, hz (k + i) (by omega) (by simp at hi; omega)]
      simp [nth, List.getD, List.getElem?_replicate]
      split <;> rfl
  have hv : val b l = val b (l.take k) := by
    rw [val_split b l k hk, hz', val_zeros]; simp
  rw [hv]
  refine digs_val hb (hd.take k) ?_
  rcases ht with rfl | ht
  · exact .inl (by simp)
  · by_cases hk0 : k = 0
    · subst hk0; exact .inl (by simp)
    · refine .inr ?_
      rw [List.length_take, Nat.min_eq_left hk, nth_take (by omega)]
      exact ht

theorem length_digs_le {b : Nat} (hb : 2 ≤ b) {n k : Nat} (h : n < b ^ k) : (digs b n).length ≤ k := by
  induction k generalizing n with
  | zero =>
    obtain rfl : n = 0 := by simp at h; omega
    rw [digs_zero]; simp
  | succ k ih =>
    by_cases hn : 0 < n
    · rw [digs_pos hb hn, List.length_cons]
      have : n / b < b ^ k := by
        rw [Nat.div_lt_iff_lt_mul (by omega)]
        rw [Nat.pow_succ] at h; exact h
      have := ih this
      omega
    · obtain rfl : n = 0 := Nat.eq_zero_of_not_pos hn
      rw [digs_zero]; simp

theorem lt_pow_length {b : Nat} (hb : 2 ≤ b) (n : Nat) : n < b ^ (digs b n).length := by
  have := val_lt (dig_digs hb n)
  rwa [val_digs hb] at this

theorem le_of_length_digs {b : Nat} (hb : 2 ≤ b) {n : Nat} (hn : 0 < n) : b ^ ((digs b n).length - 1) ≤ n := by
  have ht := top_digs hb n
  have hv := val_digs hb n
  rcases ht with h | h
  · rw [digs_pos hb hn] at h; simp at h
  · have hl : (digs b n).length - 1 < (digs b n).length := by
      rw [digs_pos hb hn]; simp
    have hs := val_split b (digs b n) _ (Nat.le_of_lt hl)
    rw [hv, val_drop b hl] at hs
    have : 1 ≤ nth (digs b n) ((digs b n).length - 1) + b * val b (List.drop ((digs b n).length - 1 + 1) (digs b n)) := by omega
    have := Nat.mul_le_mul_left (b ^ ((digs b n).length - 1)) this
    omega

theorem length_digs_zero {b : Nat} (hb : 2 ≤ b) {n : Nat} : (digs b n).length = 0 ↔ n = 0 := by
  constructor
  · intro h
    have := lt_pow_length hb n
    rw [h] at this; simpa using this
  · rintro rfl; rw [digs_zero]; rfl

theorem digs_inj {b : Nat} (hb : 2 ≤ b) {m n : Nat} (h : digs b m = digs b n) : m = n := by
  rw [← val_digs hb m, ← val_digs hb n, h]

theorem length_digs_val {b : Nat} (hb : 2 ≤ b) {l : List Nat} (hd : Dig b l) : (digs b (val b l)).length ≤ l.length :=
  length_digs_le hb (val_lt hd)

end Tw
