/- Plain law: numbers as lists of digits to a base: what a list counts, the one list without noughts on top, lengths. No program in sight. -/
import Derived.WalkKit
import Derived.WalkSpells
import Derived.WalkLawsBesides
import Derived.Deep.LoopGhost
import Derived.Deep.QuietTactic
import Derived.BigQuiet
import Derived.Lib.Hide
import Derived.Laws.AppendOwnNone
import Derived.Test.YtkbhchlecokpiaaProg
import Derived.Test.YtkbhchlecokpiaaShelf
import Derived.Laws.Externs
import Derived.Laws.Bits64b
/-! ## Num: Plain law: numbers as lists of digits to a base: what a list counts, the one list without noughts on top, lengths. No program in sight. -/
namespace Tw
set_option linter.unusedVariables false
set_option linter.unusedSimpArgs false

/-- the base of the program's digits: 2^64 (a plain name, so that the numeral stays out of contexts) -/
def W : Nat := 18446744073709551616

theorem W_two : 2 ≤ W := by unfold W; omega

/-- element i, 0 past the end (opaque to simp) -/
def nth (l : List Nat) (i : Nat) : Nat := l.getD i 0

/-- what a list of digits counts, the least digit first -/
def val (b : Nat) : List Nat → Nat
  | [] => 0
  | x :: l => x + b * val b l

/-- all below b -/
def Dig (b : Nat) (l : List Nat) : Prop := ∀ x ∈ l, x < b

/-- the one form of n -/
def digs (b n : Nat) : List Nat :=
  if h : 2 ≤ b ∧ 0 < n then n % b :: digs b (n / b) else []
termination_by n
decreasing_by exact Nat.div_lt_self h.2 h.1

theorem W_pos : 0 < W := by unfold W; omega

theorem nth_lt {l : List Nat} {i : Nat} (h : i < l.length) : nth l i = l[i] := by
  simp [nth, h]

theorem nth_mem {l : List Nat} {i : Nat} (h : i < l.length) : nth l i ∈ l := by
  rw [nth_lt h]; exact List.getElem_mem h

theorem nth_dig {b : Nat} {l : List Nat} (hd : Dig b l) {i : Nat} (h : i < l.length) : nth l i < b := hd _ (nth_mem h)

theorem nth_set_eq {l : List Nat} {i x : Nat} (h : i < l.length) : nth (l.set i x) i = x := by
  simp [nth, h]

theorem nth_set_ne {l : List Nat} {i j x : Nat} (h : i ≠ j) : nth (l.set i x) j = nth l j := by
  simp [nth, List.getD, List.getElem?_set, h]

theorem nth_append_left {l m : List Nat} {i : Nat} (h : i < l.length) : nth (l ++ m) i = nth l i := by
  simp [nth, List.getD, List.getElem?_append, h]

theorem nth_append_right {l m : List Nat} {i : Nat} : nth (l ++ m) (l.length + i) = nth m i := by
  simp [nth, List.getD, List.getElem?_append_right]

theorem nth_take {l : List Nat} {i k : Nat} (h : i < k) : nth (l.take k) i = nth l i := by
  simp [nth, List.getD, List.getElem?_take, h]

theorem nth_drop {l : List Nat} {i k : Nat} : nth (l.drop k) i = nth l (k + i) := by
  simp [nth, List.getD, List.getElem?_drop]

theorem ext_nth {l m : List Nat} (h : l.length = m.length) (e : ∀ i, i < l.length → nth l i = nth m i) : l = m := by
  apply List.ext_getElem h
  intro i h1 h2
  have := e i h1
  rwa [nth_lt h1, nth_lt h2] at this

theorem val_nil (b : Nat) : val b [] = 0 := rfl
theorem val_cons (b x : Nat) (l : List Nat) : val b (x :: l) = x + b * val b l := rfl

theorem val_append (b : Nat) (l m : List Nat) : val b (l ++ m) = val b l + b ^ l.length * val b m := by
  induction l with
  | nil => simp [val]
  | cons x l ih =>
    simp only [List.cons_append, val_cons, ih, List.length_cons, Nat.pow_succ, Nat.mul_add]
    rw [Nat.add_assoc, Nat.mul_comm (b ^ l.length) b, Nat.mul_assoc]

theorem val_snoc (b : Nat) (l : List Nat) (x : Nat) : val b (l ++ [x]) = val b l + b ^ l.length * x := by
  rw [val_append]; simp [val]

theorem take_succ_nth {l : List Nat} {k : Nat} (h : k < l.length) : l.take (k + 1) = l.take k ++ [nth l k] := by
  rw [List.take_succ_eq_append_getElem h, nth_lt h]

theorem drop_nth {l : List Nat} {k : Nat} (h : k < l.length) : l.drop k = nth l k :: l.drop (k + 1) := by
  rw [List.drop_eq_getElem_cons h, nth_lt h]

theorem val_take_succ (b : Nat) {l : List Nat} {k : Nat} (h : k < l.length) :
    val b (l.take (k + 1)) = val b (l.take k) + b ^ k * nth l k := by
  rw [take_succ_nth h, val_snoc, List.length_take, Nat.min_eq_left (Nat.le_of_lt h)]

theorem nth_ge {l : List Nat} {i : Nat} (h : l.length ≤ i) : nth l i = 0 := by
  simp [nth, List.getD, List.getElem?_eq_none h]

theorem nth_digW {b : Nat} (hb : 0 < b) {l : List Nat} (hd : Dig b l) (i : Nat) : nth l i < b := by
  rcases Nat.lt_or_ge i l.length with h | h
  · exact nth_dig hd h
  · rw [nth_ge h]; exact hb

theorem val_take_step (b : Nat) (l : List Nat) (k : Nat) : val b (l.take (k + 1)) = val b (l.take k) + b ^ k * nth l k := by
  rcases Nat.lt_or_ge k l.length with h | h
  · exact val_take_succ b h
  · rw [List.take_of_length_le (by omega), List.take_of_length_le h, nth_ge h]; simp

theorem val_drop (b : Nat) {l : List Nat} {k : Nat} (h : k < l.length) :
    val b (l.drop k) = nth l k + b * val b (l.drop (k + 1)) := by
  rw [drop_nth h, val_cons]

theorem val_split (b : Nat) (l : List Nat) (k : Nat) (h : k ≤ l.length) :
    val b l = val b (l.take k) + b ^ k * val b (l.drop k) := by
  have := val_append b (l.take k) (l.drop k)
  rw [List.take_append_drop, List.length_take, Nat.min_eq_left h] at this
  exact this

theorem val_lt {b : Nat} {l : List Nat} (h : Dig b l) : val b l < b ^ l.length := by
  induction l with
  | nil => simp [val]
  | cons x l ih =>
    have hx := h x (by simp)
    have ih' := ih (fun y hy => h y (by simp [hy]))
    rw [val_cons, List.length_cons, Nat.pow_succ, Nat.mul_comm (b ^ l.length) b]
    have : b * val b l + b ≤ b * b ^ l.length := by
      rw [← Nat.mul_succ]; exact Nat.mul_le_mul_left _ ih'
    omega

theorem val_zeros (b : Nat) (n : Nat) : val b (List.replicate n 0) = 0 := by
  induction n with
  | zero => rfl
  | succ n ih => rw [List.replicate_succ, val_cons, ih]; simp

theorem Dig.take {b : Nat} {l : List Nat} (h : Dig b l) (k : Nat) : Dig b (l.take k) := fun x hx => h x (List.mem_of_mem_take hx)
theorem Dig.drop {b : Nat} {l : List Nat} (h : Dig b l) (k : Nat) : Dig b (l.drop k) := fun x hx => h x (List.mem_of_mem_drop hx)
theorem Dig.append {b : Nat} {l m : List Nat} (h : Dig b l) (h' : Dig b m) : Dig b (l ++ m) := by
  intro x hx
  rcases List.mem_append.1 hx with hx | hx
  · exact h x hx
  · exact h' x hx
theorem Dig.nil (b : Nat) : Dig b [] := by intro x hx; simp at hx
theorem Dig.one {b x : Nat} (h : x < b) : Dig b [x] := by intro y hy; simp at hy; omega
theorem Dig.cons {b x : Nat} {l : List Nat} (h : x < b) (h' : Dig b l) : Dig b (x :: l) := by
  intro y hy
  rcases List.mem_cons.1 hy with hy | hy
  · omega
  · exact h' y hy
theorem Dig.set {b : Nat} {l : List Nat} (h : Dig b l) {x : Nat} (hx : x < b) (k : Nat) : Dig b (l.set k x) := by
  intro y hy
  rcases List.mem_or_eq_of_mem_set hy with hy | hy
  · exact h y hy
  · omega
theorem Dig.zeros {b : Nat} (hb : 0 < b) (n : Nat) : Dig b (List.replicate n 0) := by
  intro x hx
  have := List.eq_of_mem_replicate hx
  omega

theorem digs_zero (b : Nat) : digs b 0 = [] := by rw [digs]; simp
theorem digs_pos {b n : Nat} (hb : 2 ≤ b) (hn : 0 < n) : digs b n = n % b :: digs b (n / b) := by
  rw [digs]; simp [hb, hn]

theorem val_digs {b : Nat} (hb : 2 ≤ b) (n : Nat) : val b (digs b n) = n := by
  induction n using Nat.strongRecOn with
  | _ n ih =>
    by_cases hn : 0 < n
    · rw [digs_pos hb hn, val_cons, ih (n / b) (Nat.div_lt_self hn hb)]
      exact Nat.mod_add_div n b
    · obtain rfl : n = 0 := by omega
      rw [digs_zero]; rfl

theorem dig_digs {b : Nat} (hb : 2 ≤ b) (n : Nat) : Dig b (digs b n) := by
  induction n using Nat.strongRecOn with
  | _ n ih =>
    by_cases hn : 0 < n
    · rw [digs_pos hb hn]
      exact Dig.cons (Nat.mod_lt _ (by omega)) (ih (n / b) (Nat.div_lt_self hn hb))
    · obtain rfl : n = 0 := by omega
      rw [digs_zero]; exact Dig.nil b

/-- a list without a nought on top -/
def Top (l : List Nat) : Prop := l = [] ∨ nth l (l.length - 1) ≠ 0

theorem Top.tail {x : Nat} {l : List Nat} (h : Top (x :: l)) : Top l := by
  rcases h with h | h
  · simp at h
  · cases l with
    | nil => exact .inl rfl
    | cons y l => exact .inr (by simpa [nth] using h)

theorem val_pos_of_top {b : Nat} (hb : 0 < b) {l : List Nat} (h : Top l) (hne : l ≠ []) : 0 < val b l := by
  induction l with
  | nil => exact absurd rfl hne
  | cons x l ih =>
    rw [val_cons]
    cases l with
    | nil =>
      rcases h with h | h
      · simp at h
      · simp [nth] at h
        simp [val]; omega
    | cons y l =>
      have := ih h.tail (by simp)
      have := Nat.mul_pos hb this
      omega

theorem digs_val {b : Nat} (hb : 2 ≤ b) {l : List Nat} (hd : Dig b l) (ht : Top l) : digs b (val b l) = l := by
  induction l with
  | nil => rw [val_nil, digs_zero]
  | cons x l ih =>
    have hp := val_pos_of_top (b := b) (by omega) ht (by simp)
    rw [digs_pos hb hp, val_cons]
    have hx := hd x (by simp)
    have ih' := ih (fun y hy => hd y (by simp [hy])) ht.tail
    rw [Nat.add_mul_mod_self_left, Nat.mod_eq_of_lt hx, Nat.add_mul_div_left _ _ (Nat.lt_of_lt_of_le Nat.zero_lt_two hb), Nat.div_eq_of_lt hx, Nat.zero_add, ih']

theorem top_digs {b : Nat} (hb : 2 ≤ b) (n : Nat) : Top (digs b n) := by
  induction n using Nat.strongRecOn with
  | _ n ih =>
    by_cases hn : 0 < n
    · rw [digs_pos hb hn]
      have h := ih (n / b) (Nat.div_lt_self hn hb)
      by_cases hq : 0 < n / b
      · rw [digs_pos hb hq] at h ⊢
        rcases h with h | h
        · simp at h
        · exact .inr (by simpa [nth] using h)
      · have e : n / b = 0 := Nat.eq_zero_of_not_pos hq
        rw [e, digs_zero]
        refine .inr ?_
        have := Nat.div_add_mod n b
        rw [e] at this
        simp only [Nat.mul_zero, Nat.zero_add] at this
        show nth [n % b] 0 ≠ 0
        show n % b ≠ 0
        omega
    · obtain rfl : n = 0 := by omega
      rw [digs_zero]; exact .inl rfl

/-- a beginning that counts the same, without a nought on top, is the one form -/
theorem digs_take {b : Nat} (hb : 2 ≤ b) {l : List Nat} (hd : Dig b l) {k : Nat} (hk : k ≤ l.length) (hz : ∀ i, k ≤ i → i < l.length → nth l i = 0)
    (ht : k = 0 ∨ nth l (k - 1) ≠ 0) : digs b (val b l) = l.take k := by
  have hz' : l.drop k = List.replicate (l.length - k) 0 := by
    apply ext_nth
    · simp
    · intro i hi
      rw [nth_drop, hz (k + i) (by omega) (by simp at hi; omega)]
      simp [nth, List.getD, List.getElem?_replicate]
      split <;> rfl
  have hv : val b l = val b (l.take k) := by
    rw [val_split b l k hk, hz', val_zeros]; simp
  rw [hv]
  refine digs_val hb (hd.take k) ?_
  rcases ht with rfl | ht
  · exact .inl (by simp)
  · by_cases hk0 : k = 0
    · subst hk0; exact .inl (by simp)
    · refine .inr ?_
      rw [List.length_take, Nat.min_eq_left hk, nth_take (by omega)]
      exact ht

theorem length_digs_le {b : Nat} (hb : 2 ≤ b) {n k : Nat} (h : n < b ^ k) : (digs b n).length ≤ k := by
  induction k generalizing n with
  | zero =>
    obtain rfl : n = 0 := by simp at h; omega
    rw [digs_zero]; simp
  | succ k ih =>
    by_cases hn : 0 < n
    · rw [digs_pos hb hn, List.length_cons]
      have : n / b < b ^ k := by
        rw [Nat.div_lt_iff_lt_mul (by omega)]
        rw [Nat.pow_succ] at h; exact h
      have := ih this
      omega
    · obtain rfl : n = 0 := Nat.eq_zero_of_not_pos hn
      rw [digs_zero]; simp

theorem lt_pow_length {b : Nat} (hb : 2 ≤ b) (n : Nat) : n < b ^ (digs b n).length := by
  have := val_lt (dig_digs hb n)
  rwa [val_digs hb] at this

theorem le_of_length_digs {b : Nat} (hb : 2 ≤ b) {n : Nat} (hn : 0 < n) : b ^ ((digs b n).length - 1) ≤ n := by
  have ht := top_digs hb n
  have hv := val_digs hb n
  rcases ht with h | h
  · rw [digs_pos hb hn] at h; simp at h
  · have hl : (digs b n).length - 1 < (digs b n).length := by
      rw [digs_pos hb hn]; simp
    have hs := val_split b (digs b n) _ (Nat.le_of_lt hl)
    rw [hv, val_drop b hl] at hs
    have : 1 ≤ nth (digs b n) ((digs b n).length - 1) + b * val b (List.drop ((digs b n).length - 1 + 1) (digs b n)) := by omega
    have := Nat.mul_le_mul_left (b ^ ((digs b n).length - 1)) this
    omega

theorem length_digs_zero {b : Nat} (hb : 2 ≤ b) {n : Nat} : (digs b n).length = 0 ↔ n = 0 := by
  constructor
  · intro h
    have := lt_pow_length hb n
    rw [h] at this; simpa using this
  · rintro rfl; rw [digs_zero]; rfl

theorem digs_inj {b : Nat} (hb : 2 ≤ b) {m n : Nat} (h : digs b m = digs b n) : m = n := by
  rw [← val_digs hb m, ← val_digs hb n, h]

theorem length_digs_val {b : Nat} (hb : 2 ≤ b) {l : List Nat} (hd : Dig b l) : (digs b (val b l)).length ≤ l.length :=
  length_digs_le hb (val_lt hd)

end Tw

/-! ## Mem: What the walks say of memory: a slice value that reads as a list of numbers; a slice that a call has made itself and owns; what stays below a block number. No function of the program. -/
set_option linter.unusedVariables false
set_option linter.unusedSimpArgs false
namespace Tw
open Go Go.RowKit
set_option linter.unusedVariables false
set_option linter.unusedSimpArgs false

/-- the cells from ⟨b, off⟩ on hold the numbers l -/
def CellsG (k : IntKind) (w : World) (b off : Nat) (l : List Nat) : Prop :=
  ∀ i, i < l.length → w.cell? ⟨b, off + i, none⟩ = some (.int k ((nth l i : Nat) : Int))

/-- a slice's address, length and room: it reads as the numbers l, all below B -/
def LsS (k : IntKind) (B : Nat) (w : World) (a : Option Addr) (cap : Nat) (l : List Nat) : Prop :=
  l.length ≤ cap ∧ cap ≤ maxLen ∧ Dig B l ∧ (l ≠ [] → ∃ b off, a = some ⟨b, off, none⟩ ∧ CellsG k w b off l)

/-- a value that is a slice of numbers -/
def Ls (k : IntKind) (B : Nat) (w : World) (v : Value) (l : List Nat) : Prop := ∃ a cap, v = .slice a l.length cap ∧ LsS k B w a cap l

abbrev Cells := CellsG .u64
abbrev WdS := LsS .u64 W
abbrev Wd := Ls .u64 W

theorem CellsG.lt {k : IntKind} {w : World} {b off : Nat} {l : List Nat} (h : CellsG k w b off l) (hl : 0 < l.length) : b < w.heap.size := by
  have := h 0 hl
  exact World.block_lt_of_cell? w _ this

theorem CellsG.below {k : IntKind} {w w' : World} {b off : Nat} {l : List Nat} {B : Nat} (h : CellsG k w b off l) (hB : b < B) (hb : Below B w w') : CellsG k w' b off l := by
  intro i hi
  rw [hb.cell (p := ⟨b, off + i, none⟩) hB]
  exact h i hi

theorem CellsG.take {k : IntKind} {w : World} {b off : Nat} {l : List Nat} (h : CellsG k w b off l) (n : Nat) : CellsG k w b off (l.take n) := by
  intro i hi
  simp at hi
  rw [nth_take (by omega)]
  exact h i (by omega)

theorem CellsG.drop {k : IntKind} {w : World} {b off : Nat} {l : List Nat} (h : CellsG k w b off l) (n : Nat) : CellsG k w b (off + n) (l.drop n) := by
  intro i hi
  simp at hi
  rw [nth_drop, Nat.add_assoc]
  exact h (n + i) (by omega)

theorem LsS.below {k : IntKind} {B : Nat} {w w' : World} {a : Option Addr} {cap : Nat} {l : List Nat} (h : LsS k B w a cap l) (hb : Below w.heap.size w w') : LsS k B w' a cap l := by
  obtain ⟨h1, h2, h3, h4⟩ := h
  refine ⟨h1, h2, h3, fun hl => ?_⟩
  obtain ⟨b, off, rfl, hc⟩ := h4 hl
  exact ⟨b, off, rfl, hc.below (hc.lt (List.length_pos_iff.2 hl)) hb⟩

theorem Ls.below {k : IntKind} {B : Nat} {w w' : World} {v : Value} {l : List Nat} (h : Ls k B w v l) (hb : Below w.heap.size w w') : Ls k B w' v l := by
  obtain ⟨a, cap, rfl, h⟩ := h
  exact ⟨a, cap, rfl, h.below hb⟩

theorem LsS.take {k : IntKind} {B : Nat} {w : World} {a : Option Addr} {cap : Nat} {l : List Nat} (h : LsS k B w a cap l) (n : Nat) : LsS k B w a cap (l.take n) := by
  obtain ⟨h1, h2, h3, h4⟩ := h
  refine ⟨by simp; omega, h2, h3.take n, fun hl => ?_⟩
  obtain ⟨b, off, rfl, hc⟩ := h4 (by intro e; subst e; simp at hl)
  exact ⟨b, off, rfl, hc.take n⟩

theorem LsS.drop {k : IntKind} {B : Nat} {w : World} {b off : Nat} {cap : Nat} {l : List Nat} (h : LsS k B w (some ⟨b, off, none⟩) cap l) (hc : CellsG k w b off l) (n : Nat) :
    LsS k B w (some ⟨b, off + n, none⟩) (cap - n) (l.drop n) :=
  ⟨by have := h.1; simp; omega, by have := h.2.1; omega, h.2.2.1.drop n, fun _ => ⟨b, off + n, rfl, hc.drop n⟩⟩

theorem LsS.drawn {k : IntKind} {B : Nat} {w : World} {a : Option Addr} {cap : Nat} {l : List Nat} (h : LsS k B w a cap l) (n : Nat) : LsS k B (w.drewN n) a cap l := h
theorem Ls.drawn {k : IntKind} {B : Nat} {w : World} {v : Value} {l : List Nat} (h : Ls k B w v l) (n : Nat) : Ls k B (w.drewN n) v l := h

theorem Ls.dig {k : IntKind} {B : Nat} {w : World} {v : Value} {l : List Nat} (h : Ls k B w v l) : Dig B l := by
  obtain ⟨a, cap, _, h⟩ := h; exact h.2.2.1

/-- a nil slice is the empty list -/
theorem Ls.nil (k : IntKind) (B : Nat) (w : World) : Ls k B w (.slice none 0 0) [] :=
  ⟨none, 0, rfl, Nat.le_refl _, Nat.zero_le _, Dig.nil B, fun h => absurd rfl h⟩

theorem bel_drewN (w : World) (n : Nat) (B : Nat) : Below B w (w.drewN n) := ⟨rfl, rfl, rfl, Nat.le_refl _, fun _ _ => rfl⟩
theorem bel_drawn {B : Nat} {w w' : World} (h : Below B w w') (n : Nat) : Below B w (w'.drewN n) := h.trans (bel_drewN w' n B)

/-- the one form of what a list of digits counts is a beginning of it -/
theorem digs_prefix {B : Nat} (hB : 2 ≤ B) {l : List Nat} (hd : Dig B l) : ∃ k, k ≤ l.length ∧ digs B (val B l) = l.take k ∧ (digs B (val B l)).length = k := by
  have key : ∀ n, n ≤ l.length → (∀ i, n ≤ i → i < l.length → nth l i = 0) → ∃ k, k ≤ l.length ∧ digs B (val B l) = l.take k := by
    intro n
    induction n with
    | zero => intro _ hz; exact ⟨0, Nat.zero_le _, digs_take hB hd (Nat.zero_le _) hz (.inl rfl)⟩
    | succ n ih =>
      intro hn hz
      by_cases h0 : nth l n = 0
      · refine ih (by omega) fun i hi hl => ?_
        rcases Nat.eq_or_lt_of_le hi with e | e
        · subst e; exact h0
        · exact hz i e hl
      · exact ⟨n + 1, hn, digs_take hB hd hn hz (.inr (by simpa using h0))⟩
  obtain ⟨k, hk, e⟩ := key l.length (Nat.le_refl _) (fun i h1 h2 => absurd h2 (by omega))
  exact ⟨k, hk, e, by rw [e]; simp [hk]⟩

theorem LsS.trim {k : IntKind} {B : Nat} (hB : 2 ≤ B) {w : World} {a : Option Addr} {cap : Nat} {l : List Nat} (h : LsS k B w a cap l) : LsS k B w a cap (digs B (val B l)) := by
  obtain ⟨n, _, e, _⟩ := digs_prefix hB h.2.2.1
  rw [e]; exact h.take n

theorem ret_val {a b : Value} (h : a = b) : Ending.returned a = .returned b := by rw [h]
theorem ret_slice {a : Option Addr} {m n cap : Nat} (h : m = n) : Ending.returned (.slice a m cap) = .returned (.slice a n cap) := by rw [h]
theorem ret_int {k : IntKind} {a b : Int} (h : a = b) : Ending.returned (.int k a) = .returned (.int k b) := by rw [h]
theorem ret_bool {a b : Bool} (h : a = b) : Ending.returned (.bool a) = .returned (.bool b) := by rw [h]

/-! ### what a call has made itself -/

/-- the cells' contents -/
def enc (k : IntKind) (l : List Nat) : List Value := l.map fun x => .int k ((x : Nat) : Int)

theorem enc_length (k : IntKind) (l : List Nat) : (enc k l).length = l.length := by simp [enc]
theorem enc_get {k : IntKind} {l : List Nat} {i : Nat} (h : i < l.length) : (enc k l)[i]? = some (.int k ((nth l i : Nat) : Int)) := by
  simp [enc, h, nth_lt h]
theorem enc_append (k : IntKind) (l m : List Nat) : enc k (l ++ m) = enc k l ++ enc k m := by simp [enc]
theorem enc_set (k : IntKind) (l : List Nat) (i x : Nat) : enc k (l.set i x) = (enc k l).set i (.int k ((x : Nat) : Int)) := by
  simp [enc, List.map_set]
theorem enc_take (k : IntKind) (l : List Nat) (n : Nat) : enc k (l.take n) = (enc k l).take n := by simp [enc, List.map_take]

/-- v is nil, or the head of a row among the blocks from base on; it holds the numbers l, all below B -/
def Own (k : IntKind) (e : TypeId) (B : Nat) (base : Nat) (w : World) (v : Value) (l : List Nat) : Prop :=
  w.ownsRow base e 1 v l.length (enc k l) ∧ Dig B l

section
variable {k : IntKind} {e : TypeId} {B base : Nat} {w w' : World} {v : Value} {l : List Nat}

theorem Own.dig (h : Own k e B base w v l) : Dig B l := h.2

theorem Own.shape (h : Own k e B base w v l) : (v = .slice none 0 0 ∧ l = []) ∨ ∃ g cap, v = .slice (some ⟨g, 0, none⟩) l.length cap ∧ base ≤ g ∧ g < w.heap.size ∧ l.length ≤ cap ∧ cap ≤ maxLen := by
  rcases h.1.2 with ⟨h1, h2⟩ | ⟨g, cap, cur, h1, h2, h3, h4, h5, _⟩
  · exact .inl ⟨h1, List.eq_nil_of_length_eq_zero h2⟩
  · refine .inr ⟨g, cap, h1, h2, ?_, h4, h5⟩
    rcases Nat.lt_or_ge g w.heap.size with hlt | hge
    · exact hlt
    · rw [Array.getElem?_eq_none hge] at h3; simp at h3

theorem Own.cell {g cap : Nat} (h : Own k e B base w (.slice (some ⟨g, 0, none⟩) l.length cap) l) {i : Nat} (hi : i < l.length) :
    w.cell? ⟨g, i, none⟩ = some (.int k ((nth l i : Nat) : Int)) := by
  rw [h.1.cellAt i (by omega), enc_get hi]

theorem Own.free {g n cap : Nat} (h : Own k e B base w (.slice (some ⟨g, 0, none⟩) n cap) l) (hn : n = l.length) (i : Nat) : w.frozen? ⟨g, i, none⟩ = false := by
  subst hn; exact h.1.frozenAt i

theorem Own.ls (h : Own k e B base w v l) : Ls k B w v l := by
  rcases h.shape with ⟨rfl, rfl⟩ | ⟨g, cap, rfl, _, _, h4, h5⟩
  · exact Ls.nil k B w
  · exact ⟨_, cap, rfl, h4, h5, h.2, fun _ => ⟨g, 0, rfl, fun i hi => by rw [Nat.zero_add]; exact h.cell hi⟩⟩

theorem Own.lsS {a : Option Addr} {n cap : Nat} (h : Own k e B base w (.slice a n cap) l) : LsS k B w a cap l := by
  obtain ⟨a', cap', h1, h2⟩ := h.ls
  simp only [Value.slice.injEq] at h1
  obtain ⟨rfl, -, rfl⟩ := h1
  exact h2

theorem Own.mono {base' : Nat} (h : Own k e B base w v l) (hb : base' ≤ base) : Own k e B base' w v l := by
  refine ⟨⟨h.1.1, ?_⟩, h.2⟩
  rcases h.1.2 with h1 | ⟨g, cap, cur, h1, h2, r⟩
  · exact .inl h1
  · exact .inr ⟨g, cap, cur, h1, by omega, r⟩

theorem Own.nil (k : IntKind) (e : TypeId) (B base : Nat) (w : World) : Own k e B base w (.slice none 0 0) [] :=
  ⟨World.ownsRow_nil w base e 1, Dig.nil B⟩

theorem Own.drawn (h : Own k e B base w v l) (n : Nat) : Own k e B base (w.drewN n) v l := h
theorem Own.drew (h : Own k e B base w v l) : Own k e B base w.drew v l := h

/-- a whole new block -/
theorem Own.lit (k : IntKind) (e : TypeId) (B base : Nat) (w : World) (cs : Array Value) (l : List Nat) (hb : base ≤ w.heap.size) (hm : l.length ≤ maxLen) (hc : cs.toList = enc k l) (hd : Dig B l) :
    Own k e B base (w.alloc (.cells cs e)) (.slice (some ⟨w.heap.size, 0, none⟩) l.length l.length) l := by
  have hs : cs.size = l.length := by rw [← Array.length_toList, hc, enc_length]
  have := World.ownsRow_lit (e := e) (size := 1) w cs l.length hb hm (by omega)
  rw [hc] at this
  exact ⟨this, hd⟩

theorem Own.below (h : Own k e B base w v l) (hb : Below w.heap.size w w') : Own k e B base w' v l := by
  refine ⟨⟨h.1.1, ?_⟩, h.2⟩
  rcases h.1.2 with h1 | ⟨g, cap, cur, h1, h2, h3, r⟩
  · exact .inl h1
  · refine .inr ⟨g, cap, cur, h1, h2, ?_, r⟩
    have : g < w.heap.size := by
      rcases Nat.lt_or_ge g w.heap.size with hlt | hge
      · exact hlt
      · rw [Array.getElem?_eq_none hge] at h3; simp at h3
    rw [hb.block g this]; exact h3

theorem Own.alloc (h : Own k e B base w v l) (o : Obj) : Own k e B base (w.alloc o) v l := h.below ((Below.refl _ _).alloc (Nat.le_refl _) _)

theorem Own.set {g n cap : Nat} (h : Own k e B base w (.slice (some ⟨g, 0, none⟩) n cap) l) (hn : n = l.length) (i x : Nat) (hx : x < B) :
    Own k e B base (w.setCell ⟨g, i, none⟩ (.int k ((x : Nat) : Int))) (.slice (some ⟨g, 0, none⟩) n cap) (l.set i x) := by
  subst hn
  have := (h.1.stored i (.int k ((x : Nat) : Int))).1
  rw [← enc_set] at this
  refine ⟨?_, h.2.set hx i⟩
  simpa using this

theorem Own.take {g cap : Nat} (h : Own k e B base w (.slice (some ⟨g, 0, none⟩) l.length cap) l) (n : Nat) (hn : n ≤ l.length) :
    Own k e B base w (.slice (some ⟨g, 0, none⟩) n cap) (l.take n) := by
  have hlen : (l.take n).length = n := by simp [hn]
  refine ⟨⟨by rw [enc_length]; omega, ?_⟩, h.2.take n⟩
  rcases h.1.2 with ⟨h1, _⟩ | ⟨g', cap', cur, h1, h2, h3, h4, h5, h6, h7⟩
  · simp at h1
  · simp only [Value.slice.injEq, Option.some.injEq, Addr.mk.injEq, and_true, true_and] at h1
    obtain ⟨rfl, rfl⟩ := h1
    refine .inr ⟨g, cap, cur, by rw [hlen], h2, h3, by omega, h5, h6, ?_⟩
    rw [hlen, enc_take, ← h7, List.take_take, Nat.mul_one, Nat.mul_one, Nat.min_eq_left hn]

/-- what trimmed hands back of an owned slice is owned -/
theorem Own.trim {a : Option Addr} {n cap : Nat} (hB : 2 ≤ B) (h : Own k e B base w (.slice a n cap) l) (hn : n = l.length) :
    Own k e B base w (.slice a (digs B (val B l)).length cap) (digs B (val B l)) := by
  subst hn
  rcases h.shape with ⟨h1, rfl⟩ | ⟨g, cap', h1, _⟩
  · simp only [Value.slice.injEq] at h1
    obtain ⟨rfl, -, rfl⟩ := h1
    have : digs B (val B []) = [] := by rw [val_nil, digs_zero]
    rw [this]
    exact Own.nil k e B base w
  · simp only [Value.slice.injEq, true_and] at h1
    obtain ⟨rfl, rfl⟩ := h1
    obtain ⟨m, hm, e1, e2⟩ := digs_prefix hB h.2
    rw [e2, e1]
    exact h.take m hm

theorem cells_news {l : List Nat} {a : Addr} {b off : Nat} (ha : a = ⟨b, off, none⟩) (h : CellsG k w b off l) : ∀ j u, (enc k l)[j]? = some u → w.cell? (a.add j) = some u := by
  intro j u hu
  subst ha
  have hj : j < l.length := by
    rcases Nat.lt_or_ge j l.length with h | h
    · exact h
    · rw [List.getElem?_eq_none (by rw [enc_length]; exact h)] at hu; simp at hu
  rw [enc_get hj] at hu
  have := h j hj
  unfold Addr.add
  split
  · rename_i h0; subst h0; simpa [hu] using this
  · simpa [hu] using this

theorem oneCell_enc (k : IntKind) (l : List Nat) : ∀ u ∈ enc k l, u.oneCell' = true := by
  intro u hu
  simp only [enc, List.mem_map] at hu
  obtain ⟨x, _, rfl⟩ := hu
  rfl
end

/-- a make of n elements with room for c, both variables -/
theorem wpList_make_z {P : Program} (w : World) {ops : Array Oper} {rest : List Oper} {o : Oper} {a : Act} {Q : Exit → Act → World → Prop}
    (hg : o.guard = none) (l c : Operand) (t : TypeId) (hop : o.op = Op.makeSlice t l c)
    (base : Nat) (e : TypeId) (k : IntKind) (bytes B : Nat) (h1 : P.underlying t = some (.slice e)) (h2 : (P.info? e).map (fun i => (i.zero, i.size, i.bytes)) = some (some (.int k 0), 1, bytes))
    (kl kc : IntKind) (L C : Int) (n cap : Nat) (hl : a.eval l = .int kl L) (hc : a.eval c = .int kc C) (hL : L = (n : Int)) (hC : C = (cap : Int)) (hnc : n ≤ cap)
    (b2 : bytes * cap ≤ 281474976710656) (b3 : cap ≤ maxLen) (b4 : base ≤ w.heap.size) (hB : 0 < B)
    (hK : ∀ w', Own k e B base w' (.slice (some ⟨w.heap.size, 0, none⟩) n cap) (List.replicate n 0) → Below w.heap.size w w' → w'.heap.size = w.heap.size + 1 → wpList P ops Q rest (a.put o.dst (.slice (some ⟨w.heap.size, 0, none⟩) n cap)) w') :
    wpList P ops Q (o :: rest) a w := by
  refine wpList_plain hg fun K hK' => ?_
  obtain ⟨i, hi, hz, hsz, hby⟩ := info_parts h2
  subst hL hC
  have h63' : (cap : Int) ≤ 9223372036854775807 := by
    have h := b3
    simp [maxLen] at h
    omega
  have hb' : (i.bytes : Int) * (cap : Int) ≤ 281474976710656 := by
    have h : ((i.bytes * cap : Nat) : Int) ≤ 281474976710656 := by rw [hby]; omega
    rwa [Int.natCast_mul] at h
  have hrun := run_make (P := P) w t e i _ h1 hi hz kl kc n cap (by omega) (by omega) hb' h63'
  simp only [Int.toNat_natCast, hsz, Nat.mul_one, Value.cells] at hrun
  unfold Oper.wp
  simp only [execOp, hop, hl, hc]
  simp [hrun, Result.andThen]
  refine hK' _ _ (hK _ ?_ ?_ ?_)
  · refine ⟨⟨by simp [enc], .inr ⟨w.heap.size, cap, madeCells #[.int k 0] cap, by simp, b4, heap_alloc_new w _, by simpa using hnc, b3, by simp [size_madeCells], ?_⟩⟩, Dig.zeros hB n⟩
    apply List.ext_getElem
    · simp [size_madeCells, enc, hnc]
    · intro j h1 h2
      simp [madeCells, enc] at h1 h2 ⊢
      simp [Nat.mod_one]
  · exact (Below.refl _ _).alloc (Nat.le_refl _) _
  · simp

/-- an append onto a slice that is nil or the call's own; what is appended lies in memory -/
theorem wpList_app {P : Program} (w : World) {ops : Array Oper} {rest : List Oper} {o : Oper} {a : Act} {Q : Exit → Act → World → Prop}
    (hgd : o.guard = none) (s x : Operand) (t : TypeId) (ho : o.op = .call { callee := .builtin .append, args := #[s, x], argTypes := #[t, t] })
    (e : TypeId) (k : IntKind) (bytes : Nat) (ht : P.underlying t = some (.slice e)) (hinfo : (P.info? e).map (fun i => (i.zero, i.size, i.bytes)) = some (some (.int k 0), 1, bytes))
    (B base : Nat) (v : Value) (l news : List Nat) (hs : a.eval s = v) (hown : Own k e B base w v l)
    (b off c : Nat) (hx : a.eval x = .slice (some ⟨b, off, none⟩) news.length c) (hc : CellsG k w b off news) (hd : Dig B news)
    (hmax : l.length + news.length ≤ maxLen) (hby : (l.length + news.length) * bytes ≤ 140737488355328) (hbase : base ≤ w.heap.size)
    (hK : ∀ l' v' w', Hid (l' = l ++ news) → Own k e B base w' v' l' → Below base w w' → w.grownBy w' v.ownBlock → wpList P ops Q rest (a.put o.dst v') w') : wpList P ops Q (o :: rest) a w := by
  obtain ⟨i, hi, hz, hsz, hb⟩ := info_parts hinfo
  refine wpList_append_own w hgd s x t ho base e i _ 1 bytes ht hi hz hsz hb rfl (by omega) v l.length (enc k l) hs hown.1 ⟨b, off, none⟩ news.length c (enc k news) hx
    (by rw [enc_length]; omega) (cells_news rfl hc) (oneCell_enc k news) hmax hby hbase ?_
  intro v' w' h1 h2 _
  refine hK _ v' w' rfl ⟨?_, hown.2.append hd⟩ ?_ h2
  · rw [enc_append, List.length_append]; exact h1
  · refine (Below.refl _ _).grown h2 hbase ?_
    intro r hr
    rcases hown.shape with ⟨rfl, _⟩ | ⟨g, cap, rfl, hg, _⟩
    · simp [Value.ownBlock] at hr
    · simp [Value.ownBlock] at hr; omega

/-- an append of a slice that came in (not nil) -/
theorem wpList_appS {P : Program} (w : World) {ops : Array Oper} {rest : List Oper} {o : Oper} {a : Act} {Q : Exit → Act → World → Prop}
    (hgd : o.guard = none) (s x : Operand) (t : TypeId) (ho : o.op = .call { callee := .builtin .append, args := #[s, x], argTypes := #[t, t] })
    (e : TypeId) (k : IntKind) (bytes : Nat) (ht : P.underlying t = some (.slice e)) (hinfo : (P.info? e).map (fun i => (i.zero, i.size, i.bytes)) = some (some (.int k 0), 1, bytes))
    (B base : Nat) (v : Value) (l news : List Nat) (hs : a.eval s = v) (hown : Own k e B base w v l)
    (ad : Addr) (c : Nat) (m : Nat) (hx : a.eval x = .slice (some ad) m c) (hm : m = news.length) (hc : LsS k B w (some ad) c news)
    (hmax : l.length + news.length ≤ maxLen) (hby : (l.length + news.length) * bytes ≤ 140737488355328) (hbase : base ≤ w.heap.size)
    (hK : ∀ l' v' w', Hid (l' = l ++ news) → Own k e B base w' v' l' → Below base w w' → w.grownBy w' v.ownBlock → wpList P ops Q rest (a.put o.dst v') w') : wpList P ops Q (o :: rest) a w := by
  subst hm
  by_cases hn : news = []
  · subst hn
    obtain ⟨i, hi, hz, hsz, hb⟩ := info_parts hinfo
    refine wpList_append_own w hgd s x t ho base e i _ 1 bytes ht hi hz hsz hb rfl (by omega) v l.length (enc k l) hs hown.1 ad 0 c [] hx
      rfl (by simp) (by simp) (by simpa using hmax) (by simpa using hby) hbase ?_
    intro v' w' h1 h2 _
    refine hK l v' w' (by show l = l ++ []; simp) ⟨by simpa using h1, hown.2⟩ ?_ h2
    refine (Below.refl _ _).grown h2 hbase ?_
    intro r hr
    rcases hown.shape with ⟨rfl, _⟩ | ⟨g, cap, rfl, hg, _⟩
    · simp [Value.ownBlock] at hr
    · simp [Value.ownBlock] at hr; omega
  · obtain ⟨b, off, hx', hcc⟩ := hc.2.2.2 hn
    simp only [Option.some.injEq] at hx'
    subst hx'
    exact wpList_app w hgd s x t ho e k bytes ht hinfo B base v l news hs hown b off c hx hcc hc.2.2.1 hmax hby hbase hK

/-- a whole new block reads as what it was made of -/
theorem CellsG.lit {k : IntKind} (w : World) (cs : Array Value) (l : List Nat) (e : TypeId) (fr : Nat × Nat) (hc : cs.toList = enc k l) : CellsG k (w.alloc (.cells cs e fr)) w.heap.size 0 l := by
  intro i hi
  rw [Nat.zero_add, cell_of_row (w.alloc (.cells cs e fr)) w.heap.size i cs e fr (heap_alloc_new w _), ← Array.getElem?_toList, hc, enc_get hi]

theorem CellsG.one {k : IntKind} (w : World) (x : Nat) (e : TypeId) (fr : Nat × Nat) : CellsG k (w.alloc (.cells #[.int k ((x : Nat) : Int)] e fr)) w.heap.size 0 [x] :=
  CellsG.lit w _ [x] e fr rfl

end Tw

/-! ## Trim: limbs.trimmed by its contract. -/
set_option linter.unusedVariables false
set_option linter.unusedSimpArgs false
namespace Go.Proofs.Ytkbhchlecokpiaa
open Go Go.RowKit Tw
set_option linter.unusedVariables false
set_option linter.unusedSimpArgs false

theorem trimmed_c (a : Option Addr) (cap : Nat) (l : List Nat) (w : World) (h : WdS w a cap l) :
    Calls Try.prog 139 #[.slice a l.length cap] w fun e w' => e = .returned (.slice a (digs W (val W l)).length cap) ∧ w = w' := by
  obtain ⟨h1, h2, h3, h4⟩ := h
  unfold maxLen at h2
  by_cases hl : l = []
  · subst hl
    have hd : (digs W (val W [])).length = 0 := by rw [val_nil, digs_zero]; rfl
    go_enter Try.func139, Try.ntmps139
    go_wp2
    go_loopg [0] 0 (fun k s wr => s = .slice a 0 cap ∧ wr = w)
    case atStart => exact ⟨rfl, rfl⟩
    case round =>
      obtain ⟨rfl, rfl⟩ := hrel
      go_wp2
      go_ret
      exact ⟨ret_slice hd.symm, rfl⟩
  · obtain ⟨b, off, rfl, hc⟩ := h4 hl
    have HL := Lib.hid hl; clear hl h4
    go_enter Try.func139, Try.ntmps139
    go_wp2
    go_loopg [0] l.length (fun k s wr => k ≤ l.length ∧ s = .slice (some ⟨b, off, none⟩) k cap ∧ wr = w ∧ Hid (∀ i, k ≤ i → i < l.length → nth l i = 0))
    case atStart => exact ⟨Nat.le_refl _, rfl, rfl, fun i h1 h2 => absurd h2 (by omega)⟩
    case round =>
      obtain ⟨hk, rfl, rfl, hz⟩ := hrel
      by_cases hk0 : gk = 0
      · subst hk0
        have hd := digs_take W_two h3 hk hz.out (.inl rfl)
        have hd' : (digs W (val W l)).length = 0 := by rw [hd]; simp
        have HD := Lib.hid hd'; clear hd hd'
        clear hc
        go_wp2
        go_ret
        exact ⟨ret_slice HD.out.symm, rfl⟩
      · have hc' : wr.cell? ⟨b, off + (gk - 1), none⟩ = some (.int .u64 ((nth l (gk - 1) : Nat) : Int)) := hc (gk - 1) (by omega)
        have hg : 0 < gk := by omega
        clear hc hk0
        by_cases h0 : nth l (gk - 1) = 0
        · have H0 := Lib.hid h0
          have hb : (((nth l (gk - 1) : Nat) : Int) == 0) = true := by rw [h0]; rfl
          clear h0
          go_wp2
          go_roundg (gk - 1)
          case measure => omega
          case rel =>
            refine ⟨by omega, by go_num, rfl, fun i h1 h2 => ?_⟩
            by_cases e : i = gk - 1
            · subst e; exact H0.out
            · exact hz.out i (by omega) h2
        · have hd := digs_take W_two h3 hk hz.out (.inr h0)
          have hd' : (digs W (val W l)).length = gk := by rw [hd]; simp [hk]
          have HD := Lib.hid hd'; clear hd hd'
          have hb : (((nth l (gk - 1) : Nat) : Int) == 0) = false := by rw [beq_eq_false_iff_ne]; omega
          clear h0
          go_wp2
          go_ret
          exact ⟨ret_slice HD.out.symm, rfl⟩

theorem trimmed_n (a : Option Addr) (n cap : Nat) (l : List Nat) (w : World) (hn : n = l.length) (h : WdS w a cap l) :
    Calls Try.prog 139 #[.slice a n cap] w fun e w' => e = .returned (.slice a (digs W (val W l)).length cap) ∧ w = w' := by
  subst hn; exact trimmed_c a cap l w h

end Go.Proofs.Ytkbhchlecokpiaa

/-! ## Same: tripwirelow.SameWords at two slices that read as the same digits: true. -/
set_option linter.unusedVariables false
set_option linter.unusedSimpArgs false
namespace Go.Proofs.Ytkbhchlecokpiaa
open Go Go.RowKit Tw
set_option linter.unusedVariables false
set_option linter.unusedSimpArgs false

theorem same_c (v1 v2 : Value) (l : List Nat) (w : World) (h1 : Wd w v1 l) (h2 : Wd w v2 l) :
    Calls Try.prog 124 #[v1, v2] w fun e w' => e = .returned (.bool true) ∧ ∃ n, w' = w.drewN n := by
  obtain ⟨a1, c1, rfl, hc1, hm1, hd1, hp1⟩ := h1
  obtain ⟨a2, c2, rfl, hc2, hm2, hd2, hp2⟩ := h2
  unfold maxLen at hm1 hm2
  by_cases hl : l = []
  · subst hl
    go_enter Try.func124, Try.ntmps124
    go_wp2
    go_loopg [5] 0 (fun k s wr => s = .int .i64 0 ∧ wr = w)
    case atStart => exact ⟨rfl, rfl⟩
    case round =>
      obtain ⟨rfl, rfl⟩ := hrel
      go_wp2
      go_ret
      exact ⟨rfl, 0, rfl⟩
  · obtain ⟨b1, o1, rfl, hx1⟩ := hp1 hl
    obtain ⟨b2, o2, rfl, hx2⟩ := hp2 hl
    have HL := Lib.hid hl; clear hl hp1 hp2
    have hne : ((l.length : Int) != (l.length : Int)) = false := by simp
    go_enter Try.func124, Try.ntmps124
    go_wp2
    go_loopg [5] l.length (fun k s wr => ∃ i n : Nat, i ≤ l.length ∧ k = l.length - i ∧ s = .int .i64 i ∧ wr = w.drewN n)
    case atStart => exact ⟨0, 0, Nat.zero_le _, rfl, rfl, rfl⟩
    case round =>
      obtain ⟨i, n, hi, hk, rfl, rfl⟩ := hrel
      have HK := Lib.hid hk; clear hk
      by_cases hlt : i < l.length
      · have g1 := hx1 i hlt
        have g2 := hx2 i hlt
        have hne2 : (((nth l i : Nat) : Int) != ((nth l i : Nat) : Int)) = false := by simp
        clear hx1 hx2
        go_wp2
        go_quiet (fail)
        go_wp2
        go_roundg (gk - 1)
        case measure => have := HK.out; omega
        case rel => exact ⟨i + 1, n + nq, by omega, by have := HK.out; omega, by go_num, by simp⟩
      · clear hx1 hx2
        go_wp2
        go_ret
        exact ⟨rfl, n, rfl⟩

end Go.Proofs.Ytkbhchlecokpiaa

/-! ## Cmp: limbs.Cmp by its contract: which of two numbers is greater. -/
set_option linter.unusedVariables false
set_option linter.unusedSimpArgs false
namespace Tw
/-- which is greater -/
def cmpN (m n : Nat) : Int := if m < n then -1 else if n < m then 1 else 0
theorem cmpN_lt {m n : Nat} (h : m < n) : cmpN m n = -1 := by simp [cmpN, h]
theorem cmpN_gt {m n : Nat} (h : n < m) : cmpN m n = 1 := by unfold cmpN; rw [if_neg (by omega), if_pos h]
theorem cmpN_eq (m : Nat) : cmpN m m = 0 := by simp [cmpN]

theorem lt_of_length {m n : Nat} (h : (digs W m).length < (digs W n).length) : m < n := by
  have h1 := lt_pow_length W_two m
  have hn : 0 < n := by
    rcases Nat.eq_zero_or_pos n with e | e
    · subst e; rw [digs_zero] at h; simp at h
    · exact e
  have h2 := le_of_length_digs W_two hn
  have h3 : W ^ (digs W m).length ≤ W ^ ((digs W n).length - 1) := Nat.pow_le_pow_right (by have := W_two; omega) (by omega)
  omega

/-- two lists of one length that agree above place i -/
theorem val_lt_at {l m : List Nat} (hl : Dig W l) (hlen : l.length = m.length) {i : Nat} (hi : i < l.length)
    (hab : ∀ j, i < j → j < l.length → nth l j = nth m j) (hlt : nth l i < nth m i) : val W l < val W m := by
  have e : l.drop (i + 1) = m.drop (i + 1) := by
    apply ext_nth
    · simp [hlen]
    · intro j hj
      simp at hj
      rw [nth_drop, nth_drop]
      exact hab _ (by omega) (by omega)
  rw [val_split W l i (by omega), val_split W m i (by omega), val_drop W hi, val_drop W (by omega : i < m.length), e]
  have h1 := val_lt (hl.take i)
  rw [List.length_take, Nat.min_eq_left (by omega)] at h1
  have h2 : W ^ i * (nth l i + 1 + W * val W (m.drop (i + 1))) ≤ W ^ i * (nth m i + W * val W (m.drop (i + 1))) := Nat.mul_le_mul_left _ (by omega)
  have h3 : W ^ i * (nth l i + 1 + W * val W (m.drop (i + 1))) = W ^ i * (nth l i + W * val W (m.drop (i + 1))) + W ^ i := by
    rw [show nth l i + 1 + W * val W (m.drop (i + 1)) = (nth l i + W * val W (m.drop (i + 1))) + 1 by omega, Nat.mul_succ]
  omega
end Tw
namespace Go.Proofs.Ytkbhchlecokpiaa
open Go Go.RowKit Tw
set_option linter.unusedVariables false
set_option linter.unusedSimpArgs false



set_option maxHeartbeats 400000 in
theorem cmp_c (v1 v2 : Value) (l1 l2 : List Nat) (w : World) (h1 : Wd w v1 l1) (h2 : Wd w v2 l2) :
    Calls Try.prog 113 #[v1, v2] w fun e w' => e = .returned (.int .i64 (cmpN (val W l1) (val W l2))) ∧ ∃ n, w' = w.drewN n := by
  obtain ⟨a1, c1, rfl, hw1⟩ := h1
  obtain ⟨a2, c2, rfl, hw2⟩ := h2
  have T1 := Lib.hid (trimmed_c a1 c1 l1 w hw1)
  have T2 := Lib.hid (trimmed_c a2 c2 l2 w hw2)
  have t1 := hw1.trim W_two
  have t2 := hw2.trim W_two
  have hv1 := val_digs W_two (val W l1)
  have hv2 := val_digs W_two (val W l2)
  clear hw1 hw2
  generalize val W l1 = m1 at *
  generalize val W l2 = m2 at *
  have k1 := @lt_of_length m1 m2
  have k2 := @lt_of_length m2 m1
  have kk : digs W m1 = digs W m2 → m1 = m2 := digs_inj W_two
  obtain ⟨hc1, hm1, hd1, hp1⟩ := t1
  obtain ⟨hc2, hm2, hd2, hp2⟩ := t2
  generalize digs W m1 = d1 at *
  generalize digs W m2 = d2 at *
  unfold maxLen at hm1 hm2
  have K1 := Lib.hid k1; have K2 := Lib.hid k2; have KK := Lib.hid kk
  have V1 := Lib.hid hv1; have V2 := Lib.hid hv2
  clear k1 k2 kk hv1 hv2
  rcases Nat.lt_trichotomy d1.length d2.length with hlt | heq | hgt
  · have hne : ((d1.length : Int) != (d2.length : Int)) = true := by simp; omega
    have HR := Lib.hid (cmpN_lt (K1.out hlt))
    clear hp1 hp2
    go_enter Try.func113, Try.ntmps113
    go_wp2_with fail
    refine Calls.mono T1.out ?_; rintro e w' ⟨rfl, rfl⟩
    go_wp2_with fail
    refine Calls.mono T2.out ?_; rintro e w' ⟨rfl, rfl⟩
    go_wp2
    go_ret
    exact ⟨ret_int HR.out.symm, 0, rfl⟩
  · by_cases hl : d1 = []
    · have hl2 : d2 = [] := by subst hl; exact List.eq_nil_of_length_eq_zero heq.symm
      have HR := Lib.hid (show cmpN m1 m2 = 0 by rw [KK.out (by rw [hl, hl2]), cmpN_eq])
      subst hl hl2
      clear hp1 hp2 heq
      go_enter Try.func113, Try.ntmps113
      go_wp2_with fail
      refine Calls.mono T1.out ?_; rintro e w' ⟨rfl, rfl⟩
      go_wp2_with fail
      refine Calls.mono T2.out ?_; rintro e w' ⟨rfl, rfl⟩
      go_wp2
      go_loopg [5] 0 (fun k s wr => s = .int .i64 (-1) ∧ wr = w)
      case atStart => exact ⟨rfl, rfl⟩
      case round =>
        obtain ⟨rfl, rfl⟩ := hrel
        go_wp2
        go_ret
        exact ⟨ret_int HR.out.symm, 0, rfl⟩
    · obtain ⟨b1, o1, rfl, hx1⟩ := hp1 hl
      obtain ⟨b2, o2, rfl, hx2⟩ := hp2 (by intro e; rw [e] at heq; simp at heq; exact hl heq)
      have hpos : 0 < d1.length := List.length_pos_iff.2 hl
      have HE := Lib.hid heq
      have hle1 : d1.length ≤ d2.length := by omega
      have hle2 : d2.length ≤ d1.length := by omega
      have hne : ((d1.length : Int) != (d2.length : Int)) = false := by simp; omega
      clear hp1 hp2 hl heq
      go_enter Try.func113, Try.ntmps113
      go_wp2_with fail
      refine Calls.mono T1.out ?_; rintro e w' ⟨rfl, rfl⟩
      go_wp2_with fail
      refine Calls.mono T2.out ?_; rintro e w' ⟨rfl, rfl⟩
      go_wp2
      go_loopg [5] d1.length (fun k s wr => ∃ n : Nat, k ≤ d1.length ∧ s = .int .i64 ((k : Int) - 1) ∧ wr = w.drewN n ∧ Hid (∀ j, k ≤ j → j < d1.length → nth d1 j = nth d2 j))
      case atStart => exact ⟨0, Nat.le_refl _, rfl, rfl, fun j h1 h2 => absurd h2 (by omega)⟩
      case round =>
        obtain ⟨n, hk, rfl, rfl, hab⟩ := hrel
        by_cases hk0 : 0 < gk
        · have g1 := hx1 (gk - 1) (by omega)
          have g2 := hx2 (gk - 1) (by omega)
          have eidx : ((gk : Int) - 1).toNat = gk - 1 := by omega
          have r1 := nth_dig hd1 (show gk - 1 < d1.length by omega)
          have r2 := nth_dig hd2 (show gk - 1 < d2.length by omega)
          clear hx1 hx2
          rcases Nat.lt_trichotomy (nth d1 (gk - 1)) (nth d2 (gk - 1)) with h | h | h
          · have hv : m1 < m2 := by
              rw [← V1.out, ← V2.out]
              exact val_lt_at hd1 HE.out (show gk - 1 < d1.length by omega) (fun j h1 h2 => hab.out j (by omega) h2) h
            have HR := Lib.hid (cmpN_lt hv); clear hv
            go_wp2
            go_quiet (fail)
            go_wp2
            go_ret
            exact ⟨ret_int HR.out.symm, n + nq, by simp⟩
          · have H := Lib.hid h
            have q1 : ¬ ((nth d1 (gk - 1) : Nat) : Int) < ((nth d2 (gk - 1) : Nat) : Int) := by omega
            have q2 : ¬ ((nth d2 (gk - 1) : Nat) : Int) < ((nth d1 (gk - 1) : Nat) : Int) := by omega
            clear h
            go_wp2
            go_quiet (fail)
            go_wp2
            go_quiet (fail)
            go_wp2
            go_roundg (gk - 1)
            case measure => omega
            case rel =>
              refine ⟨_, by omega, by go_num, rfl, fun j h1 h2 => ?_⟩
              by_cases e : j = gk - 1
              · subst e; exact H.out
              · exact hab.out j (by omega) h2
          · have hv : m2 < m1 := by
              rw [← V1.out, ← V2.out]
              exact val_lt_at hd2 HE.out.symm (show gk - 1 < d2.length by omega) (fun j h1 h2 => (hab.out j (by omega) (by omega)).symm) h
            have HR := Lib.hid (cmpN_gt hv); clear hv
            have q1 : ¬ ((nth d1 (gk - 1) : Nat) : Int) < ((nth d2 (gk - 1) : Nat) : Int) := by omega
            go_wp2
            go_quiet (fail)
            go_wp2
            go_quiet (fail)
            go_wp2
            go_ret
            exact ⟨ret_int HR.out.symm, _, by rw [World.drewN_drewN, World.drewN_drewN]⟩
        · have hg : gk = 0 := by omega
          have HR := Lib.hid (show cmpN m1 m2 = 0 by
            rw [KK.out (ext_nth HE.out fun j hj => hab.out j (by omega) hj), cmpN_eq])
          clear hg hx1 hx2
          go_wp2
          go_ret
          exact ⟨ret_int HR.out.symm, n, rfl⟩
  · have hne : ((d1.length : Int) != (d2.length : Int)) = true := by simp; omega
    have HR := Lib.hid (cmpN_gt (K2.out hgt))
    have q1 : ¬ (d1.length : Int) < (d2.length : Int) := by omega
    clear hp1 hp2
    go_enter Try.func113, Try.ntmps113
    go_wp2_with fail
    refine Calls.mono T1.out ?_; rintro e w' ⟨rfl, rfl⟩
    go_wp2_with fail
    refine Calls.mono T2.out ?_; rintro e w' ⟨rfl, rfl⟩
    go_wp2
    go_ret
    exact ⟨ret_int HR.out.symm, 0, rfl⟩

end Go.Proofs.Ytkbhchlecokpiaa

/-! ## Bits: math/bits: Add64, Sub64 (laws of the call: the model stands in for both), Mul64, in natural numbers to the base W. -/
set_option linter.unusedVariables false
set_option linter.unusedSimpArgs false
namespace Go.Proofs.Ytkbhchlecokpiaa
open Go Go.RowKit Tw
set_option linter.unusedVariables false
set_option linter.unusedSimpArgs false

theorem run_add64N {P : Program} (x y c : Nat) (hc : c ≤ 1) (w : World) :
    (add64Entry #[.int .u64 x, .int .u64 y, .int .u64 c]).run P w =
      .ok (.tuple #[.int .u64 (((x + y + c) % W : Nat) : Int), .int .u64 (((x + y + c) / W : Nat) : Int)]) w := by
  have : c = 0 ∨ c = 1 := by omega
  rcases this with rfl | rfl <;> rfl

def sub64Entry : Array Value → Sem Value := fun args => do
  let (x, y, b) ← Extern.MathBitsCarry.three "Sub64" args
  pure (Extern.MathBitsCarry.pair ((x + Extern.MathBitsCarry.m64 - y - b) % Extern.MathBitsCarry.m64) (if x < y + b then 1 else 0))

theorem run_sub64N {P : Program} (x y b : Nat) (hb : b ≤ 1) (w : World) :
    (sub64Entry #[.int .u64 x, .int .u64 y, .int .u64 b]).run P w =
      .ok (.tuple #[.int .u64 (((x + W - y - b) % W : Nat) : Int), .int .u64 ((if x < y + b then 1 else 0 : Nat) : Int)]) w := by
  have : b = 0 ∨ b = 1 := by omega
  rcases this with rfl | rfl <;> rfl

/-- sum and carry -/
def addS (x y c : Nat) : Nat := (x + y + c) % W
def addC (x y c : Nat) : Nat := (x + y + c) / W
def subS (x y b : Nat) : Nat := (x + W - y - b) % W
def subB (x y b : Nat) : Nat := if x < y + b then 1 else 0
def mulH (x y : Nat) : Nat := x * y / W
def mulL (x y : Nat) : Nat := x * y % W

theorem add_eq (x y c : Nat) : addS x y c + W * addC x y c = x + y + c := Nat.mod_add_div _ _
theorem addS_lt (x y c : Nat) : addS x y c < W := Nat.mod_lt _ (by have := W_two; omega)
theorem addC_le {x y c : Nat} (hx : x < W) (hy : y < W) (hc : c ≤ 1) : addC x y c ≤ 1 := by
  unfold addC
  have : (x + y + c) / W < 2 := by rw [Nat.div_lt_iff_lt_mul (by have := W_two; omega)]; omega
  omega
theorem mul_eq (x y : Nat) : mulL x y + W * mulH x y = x * y := Nat.mod_add_div _ _
theorem mulL_lt (x y : Nat) : mulL x y < W := Nat.mod_lt _ (by have := W_two; omega)
theorem mulH_lt {x y : Nat} (hx : x < W) (hy : y < W) : mulH x y < W := by
  unfold mulH
  rw [Nat.div_lt_iff_lt_mul (by have := W_two; omega)]
  exact Nat.mul_lt_mul'' hx hy
theorem subB_le (x y b : Nat) : subB x y b ≤ 1 := by unfold subB; split <;> omega
theorem subS_lt (x y b : Nat) : subS x y b < W := Nat.mod_lt _ (by have := W_two; omega)
theorem sub_eq {x y b : Nat} (hx : x < W) (hy : y < W) (hb : b ≤ 1) : subS x y b + y + b = x + W * subB x y b := by
  unfold subS subB
  split
  · rename_i h
    rw [Nat.mod_eq_of_lt (by omega)]; omega
  · rename_i h
    have : x + W - y - b = (x - y - b) + W := by omega
    rw [this, Nat.add_mod_right, Nat.mod_eq_of_lt (by omega)]; omega

theorem add64_run (x y c : Nat) (hc : c ≤ 1) (w : World) :
    (callFunc 143 #[.int .u64 x, .int .u64 y, .int .u64 c]).run Try.prog w =
      .ok (.value (.tuple #[.int .u64 ((addS x y c : Nat) : Int), .int .u64 ((addC x y c : Nat) : Int)])) w := by
  rw [run_callFunc_extern Try.func143 (by kernel_rfl) (by kernel_rfl) (by kernel_rfl) (e := add64Entry) (by kernel_rfl), run_add64N x y c hc]
  rfl

theorem add64_run0 (x y : Nat) (w : World) :
    (callFunc 143 #[.int .u64 x, .int .u64 y, .int .u64 0]).run Try.prog w =
      .ok (.value (.tuple #[.int .u64 ((addS x y 0 : Nat) : Int), .int .u64 ((addC x y 0 : Nat) : Int)])) w := add64_run x y 0 (by omega) w

theorem sub64_run (x y b : Nat) (hb : b ≤ 1) (w : World) :
    (callFunc 144 #[.int .u64 x, .int .u64 y, .int .u64 b]).run Try.prog w =
      .ok (.value (.tuple #[.int .u64 ((subS x y b : Nat) : Int), .int .u64 ((subB x y b : Nat) : Int)])) w := by
  rw [run_callFunc_extern Try.func144 (by kernel_rfl) (by kernel_rfl) (by kernel_rfl) (e := sub64Entry) (by kernel_rfl), run_sub64N x y b hb]
  rfl

theorem sub64_run0 (x b : Nat) (hb : b ≤ 1) (w : World) :
    (callFunc 144 #[.int .u64 x, .int .u64 0, .int .u64 b]).run Try.prog w =
      .ok (.value (.tuple #[.int .u64 ((subS x 0 b : Nat) : Int), .int .u64 ((subB x 0 b : Nat) : Int)])) w := sub64_run x 0 b hb w

theorem mul64_c (x y : Nat) (hx : x < W) (hy : y < W) (w : World) :
    Calls Try.prog 105 #[.int .u64 x, .int .u64 y] w fun e w' =>
      e = .returned (.tuple #[.int .u64 ((mulH x y : Nat) : Int), .int .u64 ((mulL x y : Nat) : Int)]) ∧ w = w' :=
  (Try.bits_Mul64 x y hx hy w).mono fun _ _ ⟨a, b⟩ => ⟨a, b.symm⟩

end Go.Proofs.Ytkbhchlecokpiaa

/-! ## Clone: slices.Clone at []uint64, limbs.Trim by their contracts. -/
set_option linter.unusedVariables false
set_option linter.unusedSimpArgs false
namespace Go.Proofs.Ytkbhchlecokpiaa
open Go Go.RowKit Tw
set_option linter.unusedVariables false
set_option linter.unusedSimpArgs false

theorem info_u64 : (Try.prog.info? 49).map (fun i => (i.zero, i.size, i.bytes)) = some (some (.int .u64 0), 1, 8) := by kernel_rfl

abbrev OwnW (base : Nat) (w : World) (v : Value) (l : List Nat) : Prop := Own .u64 49 W base w v l

theorem clone_c (a : Option Addr) (cap : Nat) (l : List Nat) (w : World) (h : WdS w a cap l) (hs : l.length ≤ 60000) :
    Calls Try.prog 159 #[.slice a l.length cap] w fun e w' => ∃ v, e = .returned v ∧ OwnW w.heap.size w' v l ∧ Below w.heap.size w w' := by
  have H := Lib.hid h
  obtain ⟨n, hn⟩ : ∃ n, n = l.length := ⟨_, rfl⟩
  rw [← hn] at hs ⊢
  have heq := fun w => Lib.run_eql_slice_nil (P := Try.prog) w 22 49 a n cap 0 0 Try.underlying22
  obtain ⟨h1, h2, h3, h4⟩ := h
  have HN := Lib.hid hn; 
  cases a with
  | none =>
    have hl : l = [] := by
      cases l with
      | nil => rfl
      | cons x l => obtain ⟨b, off, h, _⟩ := h4 (by simp); simp at h
    subst hl
    clear h4 hn
    go_enter Try.func159, Try.ntmps159
    go_wp2
    go_ret
    exact ⟨_, rfl, Own.nil _ _ _ _ _, Below.refl _ _⟩
  | some x =>
    clear h4 hn
    go_enter Try.func159, Try.ntmps159
    go_wp2_with (at_builtin; refine wpList_appS _ rfl _ _ 22 rfl 49 .u64 8 Try.underlying22 info_u64 W w.heap.size (.slice (some ⟨w.heap.size, 0, none⟩) 0 0) [] l rfl ?_ x cap n rfl ?_ ?_ ?_ ?_ ?_ ?_)
    · exact Own.lit .u64 _ W _ w #[] [] (Nat.le_refl _) (Nat.zero_le _) rfl (Dig.nil _)
    · exact HN.out
    · exact H.out.below ((Below.refl _ _).alloc (Nat.le_refl _) _)
    · have := HN.out; simp; unfold maxLen; omega
    · have := HN.out; simp; omega
    · simp
    · intro l' v' w' HL' ho hb hg
      have HO := Lib.hid ho; have HB := Lib.hid hb; clear ho hb hg
      go_wp2_with fail
      go_ret
      refine ⟨_, rfl, ?_, ((Below.refl _ _).alloc (Nat.le_refl _) _).trans HB.out⟩
      obtain rfl : l' = l := by simpa using HL'.out
      exact HO.out

/-- Clone of what trimmed hands back, and the like: a value that reads as digits -/
theorem clone_v (v : Value) (l : List Nat) (w : World) (h : Wd w v l) (hs : l.length ≤ 60000) :
    Calls Try.prog 159 #[v] w fun e w' => ∃ v, e = .returned v ∧ OwnW w.heap.size w' v l ∧ Below w.heap.size w w' := by
  obtain ⟨a, cap, rfl, h⟩ := h
  exact clone_c a cap l w h hs

theorem clone_n (a : Option Addr) (n cap : Nat) (l : List Nat) (w : World) (hn : n = l.length) (h : WdS w a cap l) (hs : l.length ≤ 60000) :
    Calls Try.prog 159 #[.slice a n cap] w fun e w' => ∃ v, e = .returned v ∧ OwnW w.heap.size w' v l ∧ Below w.heap.size w w' := by
  subst hn; exact clone_c a cap l w h hs

theorem trimmed_v (v : Value) (l : List Nat) (w : World) (h : Wd w v l) :
    Calls Try.prog 139 #[v] w fun e w' => ∃ v', e = .returned v' ∧ Wd w v' (digs W (val W l)) ∧ w = w' := by
  obtain ⟨a, cap, rfl, h⟩ := h
  refine (trimmed_c a cap l w h).mono ?_
  rintro e w' ⟨rfl, rfl⟩
  exact ⟨_, rfl, ⟨a, cap, rfl, h.trim W_two⟩, rfl⟩

theorem trim_c (v : Value) (l : List Nat) (w : World) (h : Wd w v l) (hs : l.length ≤ 60000) :
    Calls Try.prog 131 #[v] w fun e w' => ∃ v, e = .returned v ∧ OwnW w.heap.size w' v (digs W (val W l)) ∧ Below w.heap.size w w' := by
  have H := Lib.hid h
  have hle := length_digs_val W_two h.dig
  clear h
  go_enter Try.func131, Try.ntmps131
  go_wp2_with fail
  refine Calls.mono (trimmed_v _ l _ H.out) ?_; rintro e w' ⟨v1, rfl, h1, rfl⟩
  have H1 := Lib.hid h1; clear h1
  go_wp2_with fail
  refine Calls.mono (clone_v _ _ _ H1.out (by omega)) ?_; rintro e w' ⟨v2, rfl, h2, hb⟩
  have H2 := Lib.hid h2; have HB := Lib.hid hb; clear h2 hb
  go_wp2_with fail
  go_ret
  exact ⟨_, rfl, H2.out, HB.out⟩

end Go.Proofs.Ytkbhchlecokpiaa

/-! ## Add: limbs.Add by its contract: the sum, in its one form, in memory of its own. -/
set_option linter.unusedVariables false
set_option linter.unusedSimpArgs false
namespace Go.Proofs.Ytkbhchlecokpiaa
open Go Go.RowKit Tw
set_option linter.unusedVariables false
set_option linter.unusedSimpArgs false

theorem digit_c (v : Value) (l : List Nat) (j : Nat) (w : World) (h : Wd w v l) :
    Calls Try.prog 142 #[v, .int .i64 j] w fun e w' => e = .returned (.int .u64 ((nth l j : Nat) : Int)) ∧ w = w' := by
  obtain ⟨a, cap, rfl, h1, h2, h3, h4⟩ := h
  unfold maxLen at h2
  by_cases hj : j < l.length
  · obtain ⟨b, off, rfl, hc⟩ := h4 (by intro e; subst e; simp at hj)
    have g := hc j hj
    clear h4 hc
    go_enter Try.func142, Try.ntmps142
    go_wp2
    go_ret
    exact ⟨rfl, rfl⟩
  · have hz := Lib.hid (nth_ge (Nat.le_of_not_lt hj))
    clear h4
    go_enter Try.func142, Try.ntmps142
    go_wp2
    go_ret
    exact ⟨ret_int (by rw [hz.out]; rfl), rfl⟩

/-- one step of the sum -/
theorem add_step {a b o : List Nat} {j c : Nat} (hj : j < o.length)
    (hv : val W (o.take j) + W ^ j * c = val W (a.take j) + val W (b.take j)) :
    val W ((o.set j (addS (nth a j) (nth b j) c)).take (j + 1)) + W ^ (j + 1) * addC (nth a j) (nth b j) c = val W (a.take (j + 1)) + val W (b.take (j + 1)) := by
  have e := add_eq (nth a j) (nth b j) c
  rw [val_take_step, val_take_step, val_take_step, nth_set_eq hj, List.take_set_of_le (Nat.le_refl j), Nat.pow_succ]
  generalize addS (nth a j) (nth b j) c = s at *
  generalize addC (nth a j) (nth b j) c = d at *
  generalize W ^ j = p at *
  have : p * s + p * W * d = p * nth a j + p * nth b j + p * c := by
    rw [Nat.mul_assoc, ← Nat.mul_add, e, Nat.mul_add, Nat.mul_add]
  omega

theorem add_end {a b o : List Nat} {n c : Nat} (ho : o.length = n) (ha : a.length ≤ n) (hb : b.length ≤ n)
    (hv : val W (o.take n) + W ^ n * c = val W (a.take n) + val W (b.take n)) : val W (o ++ [c]) = val W a + val W b := by
  rw [val_snoc, ho]
  rw [List.take_of_length_le (by omega), List.take_of_length_le ha, List.take_of_length_le hb] at hv
  exact hv

set_option maxHeartbeats 400000 in
theorem add_c (v1 v2 : Value) (l1 l2 : List Nat) (w : World) (h1 : Wd w v1 l1) (h2 : Wd w v2 l2) (hs1 : l1.length ≤ 60000) (hs2 : l2.length ≤ 60000) :
    Calls Try.prog 112 #[v1, v2] w fun e w' => ∃ v, e = .returned v ∧ OwnW w.heap.size w' v (digs W (val W l1 + val W l2)) ∧ Below w.heap.size w w' := by
  have H1 := Lib.hid h1; have H2 := Lib.hid h2
  have D1 := h1.dig; have D2 := h2.dig
  obtain ⟨a1, c1, rfl, hw1⟩ := h1
  obtain ⟨a2, c2, rfl, hw2⟩ := h2
  clear hw1 hw2
  obtain ⟨n, hn⟩ : ∃ n, n = max l1.length l2.length := ⟨_, rfl⟩
  have hn1 : l1.length ≤ n := by omega
  have hn2 : l2.length ≤ n := by omega
  have hn3 : n ≤ 60000 := by omega
  have hmx : (max (l1.length : Int) (l2.length : Int)) = (n : Int) := by omega
  have HN := Lib.hid hn; clear hn
  go_enter Try.func112, Try.ntmps112
  go_wp2_with (at_make; refine wpList_make_z _ rfl _ _ 22 rfl w.heap.size 49 .u64 8 W Try.underlying22 info_u64 .i64 .i64 _ _ n (n + 1) rfl rfl rfl rfl (by omega) (by omega) (by unfold maxLen; omega) (Nat.le_refl _) (by have := W_two; omega) ?_; intro wm hown hbel hsz; have Hsz := Lib.hid hsz; clear hsz)
  go_loopg [8, 20] n (fun k c i wr => ∃ (j cy : Nat) (o : List Nat), j ≤ n ∧ k = n - j ∧ i = .int .i64 j ∧ c = .int .u64 cy ∧ cy ≤ 1 ∧
    OwnW w.heap.size wr (.slice (some ⟨w.heap.size, 0, none⟩) n (n + 1)) o ∧ o.length = n ∧ val W (o.take j) + W ^ j * cy = val W (l1.take j) + val W (l2.take j) ∧ Below w.heap.size w wr)
  case atStart => exact ⟨0, 0, List.replicate n 0, Nat.zero_le _, rfl, rfl, rfl, Nat.zero_le _, hown, by simp, by simp [val], hbel⟩
  case round =>
    clear hown hbel
    obtain ⟨j, cy, o, hj, hk, rfl, rfl, hcy, hown, hol, hv, hbel⟩ := hrel
    have HK := Lib.hid hk; have HL := Lib.hid hol; have HV := Lib.hid hv; have HO := Lib.hid hown; have HB := Lib.hid hbel
    have q1 : Hid (Wd wr _ l1) := Lib.hid (H1.out.below hbel)
    have q2 : Hid (Wd wr _ l2) := Lib.hid (H2.out.below hbel)
    by_cases hlt : j < n
    · have hadd := add64_run (nth l1 j) (nth l2 j) cy hcy
      have hcell := (show OwnW w.heap.size wr (.slice (some ⟨w.heap.size, 0, none⟩) o.length (n + 1)) o by rw [hol]; exact hown).cell (i := j) (by omega)
      have hfree := hown.free hol.symm j
      clear hk hol hv hown hbel
      go_wp2_with fail
      refine Calls.mono (digit_c _ l1 j _ q1.out) ?_; rintro e w' ⟨rfl, rfl⟩
      go_wp2_with fail
      refine Calls.mono (digit_c _ l2 j _ q2.out) ?_; rintro e w' ⟨rfl, rfl⟩
      go_wp2_with fail
      go_roundg (n - (j + 1))
      case measure => have := HK.out; omega
      case rel =>
        refine ⟨j + 1, addC (nth l1 j) (nth l2 j) cy, o.set j (addS (nth l1 j) (nth l2 j) cy), by omega, rfl, by go_num, rfl, ?_, ?_, ?_, ?_, ?_⟩
        · exact addC_le (nth_digW W_pos D1 j) (nth_digW W_pos D2 j) hcy
        · exact HO.out.set HL.out.symm j _ (addS_lt _ _ _)
        · simpa using HL.out
        · exact add_step (by rw [HL.out]; exact hlt) HV.out
        · exact HB.out.setCell (Nat.le_refl _) _
    · obtain rfl : j = n := by omega
      clear hk hol hv hown hbel
      have HA : Hid (val W (o ++ [cy]) = val W l1 + val W l2) := Lib.hid (add_end HL.out hn1 hn2 HV.out)
      go_wp2_with (at_builtin; refine wpList_app _ rfl _ _ 22 rfl 49 .u64 8 Try.underlying22 info_u64 W w.heap.size (.slice (some ⟨w.heap.size, 0, none⟩) j (j + 1)) o [cy] rfl ?_ wr.heap.size 0 1 rfl (CellsG.one _ _ _ _) ?_ ?_ ?_ ?_ ?_)
      · exact HO.out.alloc _
      · exact Dig.one (by have := W_two; omega)
      · have := HL.out; simp; unfold maxLen; omega
      · have := HL.out; simp; omega
      · have := HB.out.size; simp; omega
      · intro l' v' w' HL' ho hb hg
        obtain ⟨a', cap', rfl, hls⟩ := ho.ls; have HG := Lib.hid hg; have HO' := Lib.hid ho; have HB' := Lib.hid hb; have HS' := Lib.hid hls; clear hg ho hb hls
        go_wp2_with fail
        refine Calls.mono (trimmed_c a' cap' l' w' HS'.out) ?_; rintro e w'' ⟨rfl, rfl⟩
        go_wp2_with fail
        go_ret
        refine ⟨_, rfl, ?_, ?_⟩
        · rw [← HA.out, ← HL'.out]; exact HO'.out.trim W_two rfl
        · exact (HB.out.alloc HB.out.size _).trans HB'.out

end Go.Proofs.Ytkbhchlecokpiaa

/-! ## Sub: limbs.Sub by its contract: the difference, 0 at least. -/
set_option linter.unusedVariables false
set_option linter.unusedSimpArgs false
namespace Go.Proofs.Ytkbhchlecokpiaa
open Go Go.RowKit Tw
set_option linter.unusedVariables false
set_option linter.unusedSimpArgs false

theorem sub_step {o' o b : List Nat} {j c : Nat} (hj : j < o'.length) (hx : nth o' j < W) (hy : nth b j < W) (hc : c ≤ 1) (hsame : nth o' j = nth o j)
    (hv : val W (o'.take j) + val W (b.take j) = val W (o.take j) + W ^ j * c) :
    val W ((o'.set j (subS (nth o' j) (nth b j) c)).take (j + 1)) + val W (b.take (j + 1)) = val W (o.take (j + 1)) + W ^ (j + 1) * subB (nth o' j) (nth b j) c := by
  have e := sub_eq hx hy hc
  rw [val_take_step, val_take_step, val_take_step, nth_set_eq hj, List.take_set_of_le (Nat.le_refl j), Nat.pow_succ, ← hsame]
  generalize subS (nth o' j) (nth b j) c = s at *
  generalize subB (nth o' j) (nth b j) c = d at *
  generalize W ^ j = p at *
  have : p * s + p * nth b j + p * c = p * nth o' j + p * W * d := by
    rw [← Nat.mul_add, ← Nat.mul_add, e, Nat.mul_add, Nat.mul_assoc]
  omega

theorem sub_end {o' o b : List Nat} {n c : Nat} (h' : Dig W o') (hb : Dig W b) (hl' : o'.length = n) (hl : o.length = n) (hle : val W b ≤ val W o) (ho : Dig W o)
    (hv : val W (o'.take n) + val W (b.take n) = val W (o.take n) + W ^ n * c) : val W o' = val W o - val W b := by
  rw [List.take_of_length_le (by omega), List.take_of_length_le (by omega : o.length ≤ n)] at hv
  have h1 := val_lt h'
  have h2 := val_lt ho
  rw [hl'] at h1; rw [hl] at h2
  have hbt : val W (b.take n) = val W b := by
    rcases Nat.le_total b.length n with h | h
    · rw [List.take_of_length_le h]
    · have hs := val_split W b n h
      have : val W (b.drop n) = 0 := by
        rcases Nat.eq_zero_or_pos (val W (b.drop n)) with h0 | h0
        · exact h0
        · have := Nat.mul_le_mul_left (W ^ n) h0
          omega
      rw [this] at hs; omega
  rw [hbt] at hv
  rcases Nat.eq_zero_or_pos c with h0 | h0
  · subst h0; simp at hv; omega
  · have := Nat.mul_le_mul_left (W ^ n) h0
    omega

set_option maxHeartbeats 400000 in
theorem sub_c (v1 v2 : Value) (l1 l2 : List Nat) (w : World) (h1 : Wd w v1 l1) (h2 : Wd w v2 l2) (hs1 : l1.length ≤ 60000) (hs2 : l2.length ≤ 60000) :
    Calls Try.prog 114 #[v1, v2] w fun e w' => ∃ v, e = .returned v ∧ OwnW w.heap.size w' v (digs W (val W l1 - val W l2)) ∧ Below w.heap.size w w' := by
  have C := Lib.hid (cmp_c v1 v2 l1 l2 w h1 h2)
  have H1 := Lib.hid h1; have H2 := Lib.hid h2
  have D1 := h1.dig; have D2 := h2.dig
  by_cases hlt : val W l1 < val W l2
  · rw [cmpN_lt hlt] at C
    have HZ := Lib.hid (show digs W (val W l1 - val W l2) = [] by rw [Nat.sub_eq_zero_of_le (Nat.le_of_lt hlt), digs_zero])
    clear h1 h2 hlt
    go_enter Try.func114, Try.ntmps114
    go_wp2_with fail
    refine Calls.mono C.out ?_; rintro e w' ⟨rfl, nd, rfl⟩
    go_wp2_with fail
    go_ret
    refine ⟨_, rfl, ?_, bel_drewN _ _ _⟩
    rw [HZ.out]; exact Own.nil _ _ _ _ _
  · have hc : ¬ cmpN (val W l1) (val W l2) < 0 := by unfold cmpN; rw [if_neg hlt]; split <;> omega
    have HLE := Lib.hid (Nat.le_of_not_lt hlt)
    obtain ⟨a2, c2, rfl, hw2⟩ := h2
    obtain ⟨hcap2, hmx2, _, hp2⟩ := hw2
    have HP2 := Lib.hid hp2
    have hle := length_digs_val W_two D1
    clear h1 hlt hp2 hmx2
    go_enter Try.func114, Try.ntmps114
    go_wp2_with fail
    refine Calls.mono C.out ?_; rintro e w' ⟨rfl, nd, rfl⟩
    go_wp2_with fail
    refine Calls.mono (trim_c _ l1 _ (H1.out.drawn nd) hs1) ?_; rintro e w1 ⟨v, rfl, ho, hb⟩
    have HVO := Lib.hid (val_digs W_two (val W l1))
    generalize digs W (val W l1) = o at *
    have hbel : Below w.heap.size w w1 := (bel_drewN w nd _).trans hb
    have HB := Lib.hid hbel
    have HO := Lib.hid ho
    obtain ⟨n, hn⟩ : ∃ n, n = o.length := ⟨_, rfl⟩
    have HN := Lib.hid hn
    rcases ho.shape with ⟨rfl, rfl⟩ | ⟨g, cap, rfl, hg1, hg2, hg3, hg4⟩
    · have HZ := Lib.hid (show val W l1 - val W l2 = 0 by have := HVO.out; simp [val] at this; omega)
      clear hn ho hb hbel
      go_wp2_with fail
      go_loopg [17] 0 (fun k i wr => i = .int .i64 0 ∧ wr = w1)
      case atStart => exact ⟨rfl, rfl⟩
      case round =>
        obtain ⟨rfl, rfl⟩ := hrel
        go_wp2_with fail
        refine Calls.mono (trimmed_n _ 0 0 [] _ rfl (Own.nil .u64 49 W 0 wr).lsS) ?_; rintro e w'' ⟨rfl, rfl⟩
        go_wp2_with fail
        go_ret
        refine ⟨_, rfl, ?_, HB.out⟩
        rw [HZ.out, digs_zero, val_nil, digs_zero]
        exact Own.nil _ _ _ _ _
    · have hgw : w.heap.size ≤ g := hg1
      have hn6 : n ≤ 60000 := by omega
      have hncap : n ≤ cap := by omega
      rw [← hn] 
      clear ho hb hbel hg1 hg2 hg3 hg4 hn
      go_wp2_with fail
      go_loopg [6, 17] n (fun k c i wr => ∃ (j br : Nat) (o' : List Nat), j ≤ n ∧ k = n - j ∧ i = .int .i64 j ∧ c = .int .u64 br ∧ br ≤ 1 ∧
        OwnW w.heap.size wr (.slice (some ⟨g, 0, none⟩) n cap) o' ∧ o'.length = n ∧ val W (o'.take j) + val W (l2.take j) = val W (o.take j) + W ^ j * br ∧ Below w.heap.size w wr ∧ (∀ i, j ≤ i → nth o' i = nth o i))
      case atStart => exact ⟨0, 0, o, Nat.zero_le _, rfl, rfl, rfl, Nat.zero_le _, by rw [HN.out]; exact HO.out, HN.out.symm, by simp [val], HB.out, fun _ _ => rfl⟩
      case round =>
        obtain ⟨j, br, o', hj, hk, rfl, rfl, hbr, hown, hol, hv, hbel, hsm⟩ := hrel
        have HK := Lib.hid hk; have HL := Lib.hid hol; have HV := Lib.hid hv; have HO' := Lib.hid hown; have HB' := Lib.hid hbel; have HSM := Lib.hid hsm
        by_cases hlt : j < n
        · have hcell := (show OwnW w.heap.size wr (.slice (some ⟨g, 0, none⟩) o'.length cap) o' by rw [hol]; exact hown).cell (i := j) (by omega)
          have hfree := hown.free hol.symm j
          have r1 := nth_digW W_pos hown.dig j
          have r2 := nth_digW W_pos D2 j
          have hsub := sub64_run (nth o' j) (nth l2 j) br hbr
          have hfin : Hid _ := Lib.hid (sub_step (by rw [hol]; exact hlt) r1 r2 hbr (hsm j (Nat.le_refl _)) hv)
          have S1 := Lib.hid (subB_le (nth o' j) (nth l2 j) br)
          have S2 := Lib.hid (subS_lt (nth o' j) (nth l2 j) br)
          by_cases hj2 : j < l2.length
          · obtain ⟨b, off, rfl, hcl⟩ := HP2.out (by intro e; rw [e] at hj2; simp at hj2)
            have g2 : wr.cell? ⟨b, off + j, none⟩ = some (.int .u64 ((nth l2 j : Nat) : Int)) := hcl.below (hcl.lt (by omega)) hbel j hj2
            clear hk hol hv hown hbel hcl hsm
            go_wp2_with fail
            go_roundg (n - (j + 1))
            case measure => have := HK.out; omega
            case rel =>
              refine ⟨j + 1, subB (nth o' j) (nth l2 j) br, o'.set j (subS (nth o' j) (nth l2 j) br), by omega, rfl, by go_num, rfl, S1.out, ?_, ?_, hfin.out, ?_, ?_⟩
              · exact HO'.out.set HL.out.symm j _ S2.out
              · simpa using HL.out
              · exact HB'.out.setCell hgw _
              · intro i hi; rw [nth_set_ne (by omega)]; exact HSM.out i (by omega)
          · have hz : nth l2 j = 0 := nth_ge (by omega)
            have hsub0 := sub64_run0 (nth o' j) br hbr
            have HZ := Lib.hid hz
            clear hk hol hv hown hbel hsm hz hsub
            go_wp2_with fail
            go_roundg (n - (j + 1))
            case measure => have := HK.out; omega
            case rel =>
              refine ⟨j + 1, subB (nth o' j) (nth l2 j) br, o'.set j (subS (nth o' j) (nth l2 j) br), by omega, rfl, by go_num, ?_, S1.out, ?_, ?_, hfin.out, ?_, ?_⟩
              · rw [HZ.out]
              · rw [HZ.out] at S2 ⊢; exact HO'.out.set HL.out.symm j _ S2.out
              · simpa using HL.out
              · exact HB'.out.setCell hgw _
              · intro i hi; rw [nth_set_ne (by omega)]; exact HSM.out i (by omega)
        · obtain rfl : j = n := by omega
          have hfin : Hid _ := Lib.hid (sub_end hown.dig D2 hol HN.out.symm (by rw [HVO.out]; exact HLE.out) HO.out.dig hv)
          clear hk hol hv hown hbel hsm
          go_wp2_with fail
          refine Calls.mono (trimmed_n _ j cap o' _ HL.out.symm HO'.out.lsS) ?_; rintro e w'' ⟨rfl, rfl⟩
          go_wp2_with fail
          go_ret
          refine ⟨_, rfl, ?_, HB'.out⟩
          have h3 := HO'.out.trim W_two HL.out.symm
          rw [hfin.out, HVO.out] at h3 ⊢
          exact h3.mono (Nat.le_refl _)

end Go.Proofs.Ytkbhchlecokpiaa

/-! ## Mul: limbs.Mul by its contract: the product. -/
set_option linter.unusedVariables false
set_option linter.unusedSimpArgs false
namespace Tw
theorem val_take_zero {b : Nat} {l : List Nat} {n : Nat} (hz : ∀ t, n ≤ t → nth l t = 0) : val b l = val b (l.take n) := by
  rcases Nat.le_total l.length n with h | h
  · rw [List.take_of_length_le h]
  · have hr : l.drop n = List.replicate (l.length - n) 0 := by
      apply ext_nth
      · simp
      · intro i hi
        rw [nth_drop, hz _ (by omega)]
        simp [nth, List.getD, List.getElem?_replicate]
        split <;> rfl
    rw [val_split b l n h, hr, val_zeros]; simp
end Tw
namespace Go.Proofs.Ytkbhchlecokpiaa
open Go Go.RowKit Tw
set_option linter.unusedVariables false
set_option linter.unusedSimpArgs false

/-- the digit and the carry of one step of a row -/
def rowH (x y c : Nat) : Nat := mulH x y + addC (mulL x y) c 0
def rowL (x y c : Nat) : Nat := addS (mulL x y) c 0
def rowS (x y c o : Nat) : Nat := addS o (rowL x y c) 0
def rowC (x y c o : Nat) : Nat := rowH x y c + addC o (rowL x y c) 0

theorem wrap_u64 {a b : Nat} (h : a + b < W) : IntKind.u64.wrap (((a : Nat) : Int) + ((b : Nat) : Int)) = (((a + b : Nat)) : Int) := by
  rw [IntWalk.u64_in _ (by unfold W at h; omega)]; omega

theorem row_eq1 (x y c : Nat) : rowL x y c + W * rowH x y c = x * y + c := by
  have e1 := mul_eq x y
  have e2 := add_eq (mulL x y) c 0
  unfold rowL rowH
  rw [Nat.mul_add]; omega
theorem row_eq (x y c o : Nat) : rowS x y c o + W * rowC x y c o = x * y + c + o := by
  have e1 := row_eq1 x y c
  have e2 := add_eq o (rowL x y c) 0
  unfold rowS rowC
  rw [Nat.mul_add]; omega
theorem prod_lt {x y : Nat} (hx : x < W) (hy : y < W) : x * y + 2 * W ≤ W * W + 1 := by
  have h : x * y ≤ (W - 1) * (W - 1) := Nat.mul_le_mul (by omega) (by omega)
  have h2 : (W - 1) * (W - 1) + 2 * W = W * W + 1 := by
    obtain ⟨v, hv⟩ : ∃ v, W = v + 1 := ⟨W - 1, by have := W_pos; omega⟩
    rw [hv]; simp only [Nat.add_sub_cancel, Nat.add_mul, Nat.mul_add, Nat.one_mul, Nat.mul_one]; omega
  omega
theorem rowC_lt {x y c o : Nat} (hx : x < W) (hy : y < W) (hc : c < W) (ho : o < W) : rowC x y c o < W := by
  have h := row_eq x y c o
  have hp := prod_lt hx hy
  rcases Nat.lt_or_ge (rowC x y c o) W with h1 | h1
  · exact h1
  · have := Nat.mul_le_mul_left W h1
    have : W ≤ W * W := Nat.le_mul_of_pos_left W W_pos
    omega
theorem rowH_lt {x y c : Nat} (hx : x < W) (hy : y < W) (hc : c < W) : rowH x y c < W := by
  have h := row_eq1 x y c
  have hp := prod_lt hx hy
  rcases Nat.lt_or_ge (rowH x y c) W with h1 | h1
  · exact h1
  · have := Nat.mul_le_mul_left W h1
    omega

theorem mul_step {o o' b : List Nat} {i k x c : Nat} (hl : i + k < o'.length) (hs : nth o' (i + k) = nth o (i + k))
    (hv : val W (o'.take (i + k)) + W ^ (i + k) * c = val W (o.take (i + k)) + W ^ i * (x * val W (b.take k))) :
    val W ((o'.set (i + k) (rowS x (nth b k) c (nth o' (i + k)))).take (i + k + 1)) + W ^ (i + k + 1) * rowC x (nth b k) c (nth o' (i + k)) = val W (o.take (i + k + 1)) + W ^ i * (x * val W (b.take (k + 1))) := by
  have e := row_eq x (nth b k) c (nth o' (i + k))
  rw [val_take_step W _ (i + k), val_take_step W o (i + k), val_take_step W b k, nth_set_eq hl, List.take_set_of_le (Nat.le_refl _), Nat.pow_succ, ← hs]
  generalize rowS x (nth b k) c (nth o' (i + k)) = s at *
  generalize rowC x (nth b k) c (nth o' (i + k)) = d at *
  have hp : W ^ (i + k) = W ^ i * W ^ k := Nat.pow_add _ _ _
  have e2 : W ^ i * (x * (val W (b.take k) + W ^ k * nth b k)) = W ^ i * (x * val W (b.take k)) + W ^ (i + k) * (x * nth b k) := by
    rw [hp, Nat.mul_add, Nat.mul_add]
    congr 1
    rw [Nat.mul_assoc, Nat.mul_left_comm x]
  rw [e2]
  generalize W ^ (i + k) = p at *
  have : p * s + p * W * d = p * (x * nth b k) + p * c + p * nth o' (i + k) := by
    rw [Nat.mul_assoc, ← Nat.mul_add, e, Nat.mul_add, Nat.mul_add]
  omega

theorem mul_row {a b o o' : List Nat} {i c : Nat} (hl : i + b.length < o'.length) (hz : ∀ t, i + b.length ≤ t → nth o t = 0)
    (hs : ∀ t, i + b.length ≤ t → nth o' t = nth o t) (h0 : val W o = val W (a.take i) * val W b)
    (hv : val W (o'.take (i + b.length)) + W ^ (i + b.length) * c = val W (o.take (i + b.length)) + W ^ i * (nth a i * val W (b.take b.length))) :
    val W (o'.set (i + b.length) c) = val W (a.take (i + 1)) * val W b ∧ ∀ t, i + 1 + b.length ≤ t → nth (o'.set (i + b.length) c) t = 0 := by
  have hz' : ∀ t, i + b.length + 1 ≤ t → nth (o'.set (i + b.length) c) t = 0 := by
    intro t ht
    rw [nth_set_ne (by omega), hs t (by omega), hz t (by omega)]
  refine ⟨?_, fun t ht => hz' t (by omega)⟩
  rw [val_take_zero hz', val_take_step, nth_set_eq hl, List.take_set_of_le (Nat.le_refl _), hv, ← val_take_zero hz, h0, val_take_step, List.take_of_length_le (Nat.le_refl _), Nat.add_mul, Nat.mul_assoc]

set_option maxRecDepth 100000 in
set_option maxHeartbeats 1000000 in
theorem mul_c (v1 v2 : Value) (l1 l2 : List Nat) (w : World) (h1 : Wd w v1 l1) (h2 : Wd w v2 l2) (hs1 : l1.length ≤ 30000) (hs2 : l2.length ≤ 30000) :
    Calls Try.prog 141 #[v1, v2] w fun e w' => ∃ v, e = .returned v ∧ OwnW w.heap.size w' v (digs W (val W l1 * val W l2)) ∧ Below w.heap.size w w' := by
  have H1 := Lib.hid h1; have H2 := Lib.hid h2
  have hle1 := length_digs_val W_two h1.dig
  have hle2 := length_digs_val W_two h2.dig
  clear h1 h2
  go_enter Try.func141, Try.ntmps141
  go_wp2_with fail
  refine Calls.mono (trimmed_v _ _ _ H1.out) ?_; rintro e w' ⟨t1, rfl, g1, rfl⟩
  have G1 := Lib.hid g1; clear g1
  go_wp2_with fail
  refine Calls.mono (trimmed_v _ _ _ H2.out) ?_; rintro e w' ⟨t2, rfl, g2, rfl⟩
  have G2 := Lib.hid g2; clear g2
  have E1 := Lib.hid (val_digs W_two (val W l1)); have E2 := Lib.hid (val_digs W_two (val W l2))
  clear H1 H2
  generalize digs W (val W l1) = d1 at *
  generalize digs W (val W l2) = d2 at *
  obtain ⟨a1, c1, rfl, hx1⟩ := G1
  obtain ⟨a2, c2, rfl, hx2⟩ := G2
  have HX1 := Lib.hid hx1; have HX2 := Lib.hid hx2
  clear hx1 hx2
  obtain ⟨n, hn⟩ : ∃ n, n = d1.length + d2.length := ⟨_, rfl⟩
  have HN := Lib.hid hn
  have hn6 : n ≤ 60000 := by omega
  have hnn : ((d1.length : Int) + (d2.length : Int)) = (n : Int) := by omega
  clear hn
  go_wp2_with (at_make; refine wpList_make_z _ rfl _ _ 22 rfl w.heap.size 49 .u64 8 W Try.underlying22 info_u64 .i64 .i64 _ _ n n rfl rfl rfl rfl (by omega) (by omega) (by unfold maxLen; omega) (Nat.le_refl _) (by have := W_two; omega) ?_; intro wm hown hbel hsz; have Hsz := Lib.hid hsz; clear hsz)
  go_loopg [26] d1.length (fun k i wr => ∃ (j : Nat) (o : List Nat), j ≤ d1.length ∧ k = d1.length - j ∧ i = .int .i64 j ∧
    OwnW w.heap.size wr (.slice (some ⟨w.heap.size, 0, none⟩) n n) o ∧ o.length = n ∧ val W o = val W (d1.take j) * val W d2 ∧ Below w.heap.size w wr ∧ (∀ t, j + d2.length ≤ t → nth o t = 0))
  case atStart =>
    exact ⟨0, List.replicate n 0, Nat.zero_le _, rfl, rfl, hown, by simp, by simp [val, val_zeros], hbel, fun t _ => by simp [nth, List.getD, List.getElem?_replicate]; split <;> rfl⟩
  case round =>
    clear hown hbel
    obtain ⟨i, o, hi, hk, rfl, hown, hol, hv, hbel, hz⟩ := hrel
    obtain ⟨wo, rfl⟩ : ∃ wo : World, wo = wr := ⟨_, rfl⟩
    have HK := Lib.hid hk; have HL := Lib.hid hol; have HV := Lib.hid hv; have HO := Lib.hid hown; have HB := Lib.hid hbel; have HZ := Lib.hid hz
    clear hk hol hv hown hz
    by_cases hlt : i < d1.length
    · obtain ⟨b1, o1, rfl, hcl⟩ := HX1.out.2.2.2 (by intro e; rw [e] at hlt; simp at hlt)
      have g1 : wo.cell? ⟨b1, o1 + i, none⟩ = some (.int .u64 ((nth d1 i : Nat) : Int)) := hcl.below (hcl.lt (by omega)) hbel i hlt
      have x1 := Lib.hid (nth_dig HX1.out.2.2.1 hlt)
      have hin : i + d2.length < n := by have := HN.out; omega
      clear hcl hbel
      generalize hxx : nth d1 i = x at *
      have HXX := Lib.hid hxx; clear hxx
      go_wp2_with fail
      go_loopg [8, 33] d2.length (fun k c i2 wr => ∃ (j cy : Nat) (o' : List Nat), j ≤ d2.length ∧ k = d2.length - j ∧ i2 = .int .i64 j ∧ c = .int .u64 cy ∧ cy < W ∧
        OwnW w.heap.size wr (.slice (some ⟨w.heap.size, 0, none⟩) n n) o' ∧ o'.length = n ∧
        val W (o'.take (i + j)) + W ^ (i + j) * cy = val W (o.take (i + j)) + W ^ i * (x * val W (d2.take j)) ∧ Below w.heap.size w wr ∧ (∀ t, i + j ≤ t → nth o' t = nth o t))
      case atStart => exact ⟨0, 0, o, Nat.zero_le _, rfl, rfl, rfl, W_pos, HO.out, HL.out, by simp [val], HB.out, fun _ _ => rfl⟩
      case round =>
        obtain ⟨j, cy, o', hj, hk, rfl, rfl, hcy, hown, hol, hv, hbel, hsm⟩ := hrel
        have HK2 := Lib.hid hk; have HL2 := Lib.hid hol; have HV2 := Lib.hid hv; have HO2 := Lib.hid hown; have HB2 := Lib.hid hbel; have HS2 := Lib.hid hsm
        clear hk g1
        by_cases hlt2 : j < d2.length
        · obtain ⟨b2, o2, rfl, hcl⟩ := HX2.out.2.2.2 (by intro e; rw [e] at hlt2; simp at hlt2)
          have g2 : wr.cell? ⟨b2, o2 + j, none⟩ = some (.int .u64 ((nth d2 j : Nat) : Int)) := hcl.below (hcl.lt (by omega)) hbel j hlt2
          have x2 := nth_dig HX2.out.2.2.1 hlt2
          have x3 := nth_digW W_pos hown.dig (i + j)
          have hij : i + j < n := by omega
          have hcell := (show OwnW w.heap.size wr (.slice (some ⟨w.heap.size, 0, none⟩) o'.length n) o' by rw [hol]; exact hown).cell (i := i + j) (by omega)
          have hfree := hown.free hol.symm (i + j)
          have hfin := Lib.hid (mul_step (by rw [hol]; exact hij) (hsm _ (Nat.le_refl _)) hv)
          have S1 := Lib.hid (rowC_lt x1.out x2 hcy x3)
          have hadd1 := add64_run0 (mulL x (nth d2 j)) cy
          have hadd2 := add64_run0 (nth o' (i + j)) (rowL x (nth d2 j) cy)
          have hw1 : IntKind.u64.wrap (((mulH x (nth d2 j) : Nat) : Int) + ((addC (mulL x (nth d2 j)) cy 0 : Nat) : Int)) = ((rowH x (nth d2 j) cy : Nat) : Int) := wrap_u64 (rowH_lt x1.out x2 hcy)
          have hw2 : IntKind.u64.wrap (((rowH x (nth d2 j) cy : Nat) : Int) + ((addC (nth o' (i + j)) (rowL x (nth d2 j) cy) 0 : Nat) : Int)) = ((rowC x (nth d2 j) cy (nth o' (i + j)) : Nat) : Int) := wrap_u64 S1.out
          have hf1 : addS (mulL x (nth d2 j)) cy 0 = rowL x (nth d2 j) cy := rfl
          have hf2 : addS (nth o' (i + j)) (rowL x (nth d2 j) cy) 0 = rowS x (nth d2 j) cy (nth o' (i + j)) := rfl
          have X2 := Lib.hid x2
          clear hol hv hown hbel hcl hsm hcy x2 x3
          go_wp2_with fail
          refine Calls.mono (mul64_c _ _ x1.out X2.out _) ?_; rintro e w' ⟨rfl, rfl⟩
          go_wp2_with fail
          go_roundg (d2.length - (j + 1))
          case measure => have := HK2.out; omega
          case rel =>
            refine ⟨j + 1, rowC x (nth d2 j) cy (nth o' (i + j)), o'.set (i + j) (rowS x (nth d2 j) cy (nth o' (i + j))), by omega, rfl, by go_num, rfl, S1.out, ?_, ?_, hfin.out, ?_, ?_⟩
            · exact HO2.out.set HL2.out.symm _ _ (addS_lt _ _ _)
            · simpa using HL2.out
            · exact HB2.out.setCell (Nat.le_refl _) _
            · intro t ht; rw [nth_set_ne (by omega)]; exact HS2.out t (by omega)
        · obtain rfl : j = d2.length := by omega
          have hcell := (show OwnW w.heap.size wr (.slice (some ⟨w.heap.size, 0, none⟩) o'.length n) o' by rw [hol]; exact hown).cell (i := i + d2.length) (by omega)
          have hfree := hown.free hol.symm (i + d2.length)
          have hfin := Lib.hid (mul_row (a := d1) (by rw [hol]; exact hin) HZ.out hsm HV.out (by rw [HXX.out]; exact hv))
          have HCY := Lib.hid hcy
          clear hol hv hown hbel hsm hcy
          go_wp2_with fail
          go_roundg (d1.length - (i + 1))
          case measure => have := HK.out; omega
          case rel =>
            refine ⟨i + 1, o'.set (i + d2.length) cy, by omega, rfl, by go_num, ?_, ?_, hfin.out.1, ?_, hfin.out.2⟩
            · exact HO2.out.set HL2.out.symm _ _ HCY.out
            · simpa using HL2.out
            · exact HB2.out.setCell (Nat.le_refl _) _
    · obtain rfl : i = d1.length := by omega
      have hfin := Lib.hid (show val W o = val W l1 * val W l2 by rw [HV.out, List.take_of_length_le (Nat.le_refl _), E1.out, E2.out])
      clear hbel
      go_wp2_with fail
      refine Calls.mono (trimmed_n _ n n o _ HL.out.symm HO.out.lsS) ?_; rintro e w'' ⟨rfl, rfl⟩
      go_wp2_with fail
      go_ret
      refine ⟨_, rfl, ?_, HB.out⟩
      rw [← hfin.out]
      exact HO.out.trim W_two HL.out.symm

end Go.Proofs.Ytkbhchlecokpiaa

/-! ## Shl: limbs.Shl by its contract: times a power of 2. -/
set_option linter.unusedVariables false
set_option linter.unusedSimpArgs false
namespace Go.Proofs.Ytkbhchlecokpiaa
open Go Go.RowKit Tw
set_option linter.unusedVariables false
set_option linter.unusedSimpArgs false

/-- a digit moved up by r, and what falls off -/
def upL (x r : Nat) : Nat := x * 2 ^ r % W
def upH (x r : Nat) : Nat := x * 2 ^ r / W
theorem up_eq (x r : Nat) : upL x r + W * upH x r = x * 2 ^ r := Nat.mod_add_div _ _
theorem upL_lt (x r : Nat) : upL x r < W := Nat.mod_lt _ W_pos
theorem W_pow : W = 2 ^ 64 := rfl
theorem upH_lt {x r : Nat} (hx : x < W) : upH x r < 2 ^ r := by
  unfold upH
  rw [Nat.div_lt_iff_lt_mul W_pos, Nat.mul_comm]
  exact Nat.mul_lt_mul_of_pos_left hx (Nat.two_pow_pos r)
theorem upL_mul {x r : Nat} (hr : r ≤ 64) : ∃ q, upL x r = 2 ^ r * q := by
  refine ⟨x % 2 ^ (64 - r), ?_⟩
  unfold upL
  rw [W_pow, show (2 : Nat) ^ 64 = 2 ^ r * 2 ^ (64 - r) by rw [← Nat.pow_add]; congr 1; omega, Nat.mul_comm x, Nat.mul_mod_mul_left]
theorem upH_eq {x r : Nat} (hr : r < 64) : x / 2 / 2 ^ (63 - r) = upH x r := by
  unfold upH
  rw [Nat.div_div_eq_div_mul, W_pow, show (2 : Nat) ^ 64 = 2 ^ (64 - r) * 2 ^ r by rw [← Nat.pow_add]; congr 1; omega, Nat.mul_div_mul_right _ _ (Nat.two_pow_pos r)]
  congr 1
  rw [show 64 - r = (63 - r) + 1 by omega, Nat.pow_succ, Nat.mul_comm]
theorem upH_int {x r : Nat} (hr : r < 64) : (((x : Nat) : Int) / 2 / 2 ^ (63 - r)) = ((upH x r : Nat) : Int) := by
  rw [← upH_eq hr]; simp
theorem up_or {x r c : Nat} (hr : r ≤ 64) (hc : c < 2 ^ r) : upL x r ||| c = upL x r + c := by
  obtain ⟨q, hq⟩ := @upL_mul x r hr
  rw [hq, Nat.two_pow_add_eq_or_of_lt hc]
theorem up_add_lt {x r c : Nat} (hr : r ≤ 64) (hc : c < 2 ^ r) : upL x r + c < W := by
  have h1 : upL x r < 2 ^ 64 := upL_lt x r
  have h2 : c < 2 ^ 64 := Nat.lt_of_lt_of_le hc (Nat.pow_le_pow_right (by omega) hr)
  rw [← up_or hr hc, W_pow]
  exact Nat.or_lt_two_pow h1 h2
theorem lt_W {c r : Nat} (hr : r ≤ 64) (hc : c < 2 ^ r) : c < W := by
  rw [W_pow]; exact Nat.lt_of_lt_of_le hc (Nat.pow_le_pow_right (by omega) hr)

theorem up_wrap (x r : Nat) : IntKind.u64.wrap (((x : Nat) : Int) * 2 ^ r) = ((upL x r : Nat) : Int) := by
  rw [IntKind.wrap_u64]
  unfold upL W
  simp
theorem up_bits {x r c : Nat} (hr : r ≤ 64) (hc : c < 2 ^ r) : bits .or .u64 ((upL x r : Nat) : Int) ((c : Nat) : Int) = ((upL x r + c : Nat) : Int) := by
  have h1 := upL_lt x r
  have h2 := lt_W hr hc
  unfold W at h1 h2
  rw [bits_or_u64_nat _ _ h1 h2, up_or hr hc]

theorem shl_step {d o : List Nat} {j q r x c : Nat} (ho : o.length = q + j) (hx : nth d j = x)
    (hv : val W o + W ^ (q + j) * c = val W (d.take j) * 2 ^ r * W ^ q) :
    val W (o ++ [upL x r + c]) + W ^ (q + (j + 1)) * upH x r = val W (d.take (j + 1)) * 2 ^ r * W ^ q := by
  have e := up_eq x r
  rw [val_snoc, ho, val_take_step, hx, ← Nat.add_assoc, Nat.pow_succ, Nat.add_mul, Nat.add_mul, ← hv]
  have e2 : W ^ j * x * 2 ^ r * W ^ q = W ^ (q + j) * (x * 2 ^ r) := by
    rw [Nat.pow_add, Nat.mul_comm (W ^ q), Nat.mul_assoc, Nat.mul_assoc, Nat.mul_assoc]
    congr 1
    rw [← Nat.mul_assoc, Nat.mul_comm]
  rw [e2, ← e, Nat.mul_add, Nat.mul_add, Nat.mul_assoc]
  omega

set_option maxRecDepth 100000 in
set_option maxHeartbeats 1000000 in
theorem shl_c (v1 : Value) (l1 : List Nat) (s : Nat) (w : World) (h1 : Wd w v1 l1) (hs1 : l1.length ≤ 20000) (hs : s ≤ 1048576) :
    Calls Try.prog 162 #[v1, .int .i64 s] w fun e w' => ∃ v, e = .returned v ∧ OwnW w.heap.size w' v (digs W (val W l1 * 2 ^ s)) ∧ Below w.heap.size w w' := by
  have H1 := Lib.hid h1
  have hle1 := length_digs_val W_two h1.dig
  clear h1
  by_cases hz : digs W (val W l1) = []
  · have HR := Lib.hid (show digs W (val W l1 * 2 ^ s) = [] by rw [(length_digs_zero (n := val W l1) W_two).1 (by rw [hz]; rfl), Nat.zero_mul, digs_zero])
    go_enter Try.func162, Try.ntmps162
    go_wp2_with fail
    refine Calls.mono (trimmed_v _ _ _ H1.out) ?_; rintro e w' ⟨t1, rfl, g1, rfl⟩
    rw [hz] at g1
    clear hz
    obtain ⟨a1, c1, rfl, hx1⟩ := g1
    clear hx1
    go_wp2_with fail
    go_ret
    refine ⟨_, rfl, ?_, Below.refl _ _⟩
    rw [HR.out]; exact Own.nil _ _ _ _ _
  · by_cases hs0 : s = 0
    · subst hs0
      have hne : (((digs W (val W l1)).length : Int) == 0) = false := by simp; exact hz
      clear hz
      go_enter Try.func162, Try.ntmps162
      go_wp2_with fail
      refine Calls.mono (trimmed_v _ _ _ H1.out) ?_; rintro e w' ⟨t1, rfl, g1, rfl⟩
      have G1 := Lib.hid g1
      obtain ⟨a1, c1, rfl, hx1⟩ := g1
      clear hx1
      go_wp2_with fail
      refine Calls.mono (clone_v _ _ _ G1.out (by omega)) ?_; rintro e w' ⟨v2, rfl, h2, hb⟩
      have H2 := Lib.hid h2; have HB := Lib.hid hb; clear h2 hb
      go_wp2_with fail
      go_ret
      refine ⟨_, rfl, ?_, HB.out⟩
      simpa using H2.out
    · have hs0' : 0 < s := by omega
      have hlen : 0 < (digs W (val W l1)).length := List.length_pos_iff.2 hz
      have hne : (((digs W (val W l1)).length : Int) == 0) = false := by simp; exact hz
      clear hs0 hz
      go_enter Try.func162, Try.ntmps162
      go_wp2_with fail
      refine Calls.mono (trimmed_v _ _ _ H1.out) ?_; rintro e w' ⟨t1, rfl, g1, rfl⟩
      have G1 := Lib.hid g1; clear g1
      have E1 := Lib.hid (val_digs W_two (val W l1))
      clear H1
      generalize digs W (val W l1) = d1 at *
      obtain ⟨a1, c1, rfl, hx1⟩ := G1
      have HX1 := Lib.hid hx1
      clear hx1
      obtain ⟨q, hq⟩ : ∃ q, q = s / 64 := ⟨_, rfl⟩
      have HQ := Lib.hid hq
      have hq1 : q ≤ 16384 := by omega
      have hqs : ((s : Int) / 64) = (q : Int) := by omega
      clear hq
      go_wp2_with (at_make; refine wpList_make_z _ rfl _ _ 22 rfl w.heap.size 49 .u64 8 W Try.underlying22 info_u64 .i64 .i64 _ _ q (q + d1.length + 1) rfl rfl rfl rfl (by omega) (by omega) (by unfold maxLen; omega) (Nat.le_refl _) (by have := W_two; omega) ?_; intro wm hown hbel hsz; have Hsz := Lib.hid hsz; clear hsz)
      go_loopg [5, 6, 35] d1.length (fun k v c i wr => ∃ (j cy : Nat) (o : List Nat), j ≤ d1.length ∧ k = d1.length - j ∧ i = .int .i64 j ∧ c = .int .u64 cy ∧ cy < 2 ^ (s % 64) ∧
        OwnW w.heap.size wr v o ∧ o.length = q + j ∧ val W o + W ^ (q + j) * cy = val W (d1.take j) * 2 ^ (s % 64) * W ^ q ∧ Below w.heap.size w wr)
      case atStart => exact ⟨0, 0, List.replicate q 0, Nat.zero_le _, rfl, rfl, rfl, Nat.two_pow_pos _, hown, by simp, by simp [val, val_zeros], hbel⟩
      case round =>
        clear hown hbel
        obtain ⟨j, cy, o, hj, hk, rfl, rfl, hcy, hown, hol, hv, hbel⟩ := hrel
        have HK := Lib.hid hk; have HL := Lib.hid hol; have HV := Lib.hid hv; have HO := Lib.hid hown; have HB := Lib.hid hbel; have HC := Lib.hid hcy
        clear hk hol hv hown hcy
        by_cases hlt : j < d1.length
        · obtain ⟨b1, o1, rfl, hcl⟩ := HX1.out.2.2.2 (by intro e; rw [e] at hlt; simp at hlt)
          have g1 : wr.cell? ⟨b1, o1 + j, none⟩ = some (.int .u64 ((nth d1 j : Nat) : Int)) := hcl.below (hcl.lt (by omega)) hbel j hlt
          have x1 := nth_dig HX1.out.2.2.1 hlt
          clear hcl hbel
          generalize hxx : nth d1 j = x at *
          have HXX := Lib.hid hxx; clear hxx
          have hr64 : s % 64 < 64 := by omega
          have hu1 := up_wrap x (s % 64)
          have hu2 := @up_bits x (s % 64) cy (by omega) HC.out
          have hfin : Hid _ := Lib.hid (shl_step HL.out HXX.out HV.out)
          generalize hyy : upL x (s % 64) + cy = y at *
          have HY := Lib.hid hyy
          have hy : Hid (y < W) := by rw [← hyy]; exact up_add_lt (by omega) HC.out
          clear hyy
          go_wp2_with (at_builtin; refine wpList_app _ rfl _ _ 22 rfl 49 .u64 8 Try.underlying22 info_u64 W w.heap.size _ o [y] rfl ?_ wr.heap.size 0 1 rfl (CellsG.one _ _ _ _) ?_ ?_ ?_ ?_ ?_)
          · exact HO.out.alloc _
          · exact Dig.one hy.out
          · have := HL.out; simp; unfold maxLen; omega
          · have := HL.out; simp; omega
          · have := HB.out.size; simp; omega
          · intro l' v' w' HL' ho hb hg
            have HO' := Lib.hid ho; have HB' := Lib.hid hb; clear hg ho hb
            clear hu1 hu2
            go_wp2_with fail
            go_roundg (d1.length - (j + 1))
            case measure => have := HK.out; omega
            case rel =>
              refine ⟨j + 1, upH x (s % 64), l', by omega, rfl, by go_num, by rw [upH_int hr64], ?_, HO'.out, ?_, ?_, ?_⟩
              · exact upH_lt (by rw [← HXX.out]; exact nth_dig HX1.out.2.2.1 hlt)
              · rw [HL'.out]; simp [HL.out]; omega
              · rw [HL'.out]; exact hfin.out
              · exact (HB.out.alloc HB.out.size _).trans HB'.out
        · obtain rfl : j = d1.length := by omega
          have hcw := Lib.hid (lt_W (by omega) HC.out)
          have hfin := Lib.hid (show val W (o ++ [cy]) = val W l1 * 2 ^ s by
            rw [val_snoc, HL.out, HV.out, List.take_of_length_le (Nat.le_refl _), E1.out, Nat.mul_assoc, W_pow, ← Nat.pow_mul, ← Nat.pow_add]
            congr 2; have := HQ.out; omega)
          clear hbel
          go_wp2_with (at_builtin; refine wpList_app _ rfl _ _ 22 rfl 49 .u64 8 Try.underlying22 info_u64 W w.heap.size _ o [cy] rfl ?_ wr.heap.size 0 1 rfl (CellsG.one _ _ _ _) ?_ ?_ ?_ ?_ ?_)
          · exact HO.out.alloc _
          · exact Dig.one hcw.out
          · have := HL.out; simp; unfold maxLen; omega
          · have := HL.out; simp; omega
          · have := HB.out.size; simp; omega
          · intro l' v' w' HL' ho hb hg
            obtain ⟨a', cap', rfl, hls⟩ := ho.ls
            have HO' := Lib.hid ho; have HB' := Lib.hid hb; have HS' := Lib.hid hls; clear hg ho hb hls
            go_wp2_with fail
            refine Calls.mono (trimmed_c a' cap' l' w' HS'.out) ?_; rintro e w'' ⟨rfl, rfl⟩
            go_wp2_with fail
            go_ret
            refine ⟨_, rfl, ?_, ?_⟩
            · rw [← hfin.out, ← HL'.out]; exact HO'.out.trim W_two rfl
            · exact (HB.out.alloc HB.out.size _).trans HB'.out

end Go.Proofs.Ytkbhchlecokpiaa
