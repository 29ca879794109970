/- Texts of numbers, in plain Lean. -/
import Derived.Test.YtkbhchlecokpiaaFwZ2
set_option linter.unusedVariables false
set_option linter.unusedSimpArgs false
namespace Tw
open Go Go.RowKit Fw
set_option linter.unusedVariables false
set_option linter.unusedSimpArgs false
theorem get_str {s : List UInt8} {i : Nat} (h : i < s.length) : (⟨s.toArray⟩ : ByteArray).get! i = s[i] := by
  show s.toArray[i]! = s[i]
  rw [getElem!_pos s.toArray i (by simpa using h)]
  simp
theorem dec_low {s : List UInt8} {p : Nat} (hp : p < s.length) (hb : s[p].toNat < 128) : Utf8.decode ⟨s.toArray⟩ p = (s[p].toNat, 1) := by
  have e := get_str hp
  have hb' : ((⟨s.toArray⟩ : ByteArray).get! (p + 0)).toNat < 128 := by rw [Nat.add_zero, e]; exact hb
  simp only [Utf8.decode]
  rw [if_pos hb', Nat.add_zero, e]
theorem dec_high' {s : List UInt8} {p : Nat} (hp : p < s.length) (hb : 128 ≤ s[p].toNat) : 128 ≤ (Utf8.decode ⟨s.toArray⟩ p).1 := by
  have e := get_str hp
  have hb' : ¬ ((⟨s.toArray⟩ : ByteArray).get! (p + 0)).toNat < 128 := by rw [Nat.add_zero, e]; omega
  simp only [Utf8.decode]
  rw [if_neg hb']
  split
  · split
    · assumption
    · exact (by decide : 128 ≤ 65533)
  · split
    · split
      · rename_i h; simp only [Bool.and_eq_true, decide_eq_true_eq] at h; omega
      · exact (by decide : 128 ≤ 65533)
    · split
      · split
        · rename_i h; simp only [Bool.and_eq_true, decide_eq_true_eq] at h; omega
        · exact (by decide : 128 ≤ 65533)
      · exact (by decide : 128 ≤ 65533)
theorem dec_high {s : List UInt8} {p : Nat} (hp : p < s.length) (hb : 128 ≤ s[p].toNat) : ∃ c q, Utf8.decode ⟨s.toArray⟩ p = (c, q) ∧ 128 ≤ c :=
  ⟨(Utf8.decode ⟨s.toArray⟩ p).1, (Utf8.decode ⟨s.toArray⟩ p).2, rfl, dec_high' hp hb⟩

/-- a digit's character -/
def dch (d : Nat) : UInt8 := UInt8.ofNat (48 + d)
/-- a number's digits, the lowest ahead -/
def decE (X : Nat) : List UInt8 := (digs 10 X).map dch
def dec (X : Nat) : List UInt8 := (decE X).reverse
/-- a whole number's text -/
def textZ (z : Int) : List UInt8 := if z = 0 then [48] else (if z < 0 then [45] else []) ++ dec z.natAbs
theorem ten_two : 2 ≤ 10 := by omega
def isDig (c : UInt8) : Bool := 48 ≤ c.toNat && c.toNat ≤ 57
/-- what digits count -/
def valT (s : List UInt8) : Nat := s.foldl (fun a c => 10 * a + (c.toNat - 48)) 0
def negT (s : List UInt8) : Bool := match s with
  | c :: _ => c == 45
  | [] => false
def bodyT (s : List UInt8) : List UInt8 := if negT s then s.drop 1 else s
/-- no numeral, by its beginning -/
def badT (neg : Bool) (t : List UInt8) : Bool := match t with
  | [] => true
  | c :: r => c == 48 && (neg || decide (0 < r.length))
/-- what a text says, and the fault -/
def parseT (neg : Bool) (t : List UInt8) : Int × Int :=
  if badT neg t then (0, 11) else if t.all isDig = false then (0, 11) else if 600 < t.length then (0, 3) else (sg neg (valT t), 0)
def parseZ (s : List UInt8) : Int × Int := parseT (negT s) (bodyT s)

theorem valT_from : ∀ (s : List UInt8) (a : Nat), s.foldl (fun a c => 10 * a + (c.toNat - 48)) a = a * 10 ^ s.length + valT s
  | [], a => by simp [valT]
  | c :: s, a => by
    simp only [List.foldl_cons, valT]
    rw [valT_from s (10 * a + (c.toNat - 48)), valT_from s (10 * 0 + (c.toNat - 48))]
    simp only [List.length_cons, Nat.pow_succ, Nat.mul_zero, Nat.zero_add, Nat.add_mul]
    rw [Nat.mul_comm 10 a, Nat.mul_assoc, Nat.mul_comm 10 (10 ^ s.length), Nat.add_assoc]
theorem valT_append (s t : List UInt8) : valT (s ++ t) = valT s * 10 ^ t.length + valT t := by
  conv => lhs; unfold valT
  rw [List.foldl_append, valT_from]
  rfl
theorem isDig_le {c : UInt8} (h : isDig c = true) : 48 ≤ c.toNat ∧ c.toNat ≤ 57 := by
  unfold isDig at h
  simpa using h
theorem valT_lt : ∀ {s : List UInt8}, s.all isDig = true → valT s < 10 ^ s.length
  | [], _ => by simp [valT]
  | c :: s, h => by
    simp only [List.all_cons, Bool.and_eq_true] at h
    have h1 := isDig_le h.1
    have h2 := valT_lt h.2
    have e : valT (c :: s) = (c.toNat - 48) * 10 ^ s.length + valT s := by
      have := valT_append [c] s
      simpa [valT] using this
    rw [e, List.length_cons, Nat.pow_succ]
    have h3 : (c.toNat - 48) * 10 ^ s.length ≤ 9 * 10 ^ s.length := Nat.mul_le_mul_right _ (by omega)
    omega

theorem decE_zero : decE 0 = [] := by unfold decE; rw [digs_zero]; rfl
theorem decE_pos {Z : Nat} (h : 0 < Z) : decE Z = dch (Z % 10) :: decE (Z / 10) := by
  unfold decE
  rw [digs_pos ten_two h]
  rfl
theorem dec_zero : dec 0 = [] := by unfold dec; rw [decE_zero]; rfl
theorem dec_pos {Z : Nat} (h : 0 < Z) : dec Z = dec (Z / 10) ++ [dch (Z % 10)] := by
  unfold dec
  rw [decE_pos h]
  simp
/-- a digit of the low end, where more stands behind -/
theorem chunk_step {n R k : Nat} (hk : k < 18) (h : 0 < n ∨ 0 < R) : decE (n + R * 10 ^ (18 - k)) = dch (n % 10) :: decE (n / 10 + R * 10 ^ (18 - (k + 1))) := by
  have e : R * 10 ^ (18 - k) = 10 * (R * 10 ^ (18 - (k + 1))) := by
    rw [show 18 - k = (18 - (k + 1)) + 1 by omega, Nat.pow_succ, ← Nat.mul_assoc, Nat.mul_comm]
  have hp : 0 < 10 ^ (18 - (k + 1)) := Nat.pow_pos (by omega)
  have hpos : 0 < n + R * 10 ^ (18 - k) := by
    rcases h with h | h
    · omega
    · have := Nat.mul_pos h (Nat.pow_pos (n := 18 - k) (show 0 < 10 by omega))
      omega
  rw [decE_pos hpos, e]
  generalize R * 10 ^ (18 - (k + 1)) = m
  rw [show (n + 10 * m) % 10 = n % 10 by omega, show (n + 10 * m) / 10 = n / 10 + m by omega]
theorem dch_toNat {d : Nat} (h : d < 10) : (dch d).toNat = 48 + d := by
  unfold dch
  rw [UInt8.toNat_ofNat']
  omega
theorem dch_dig {d : Nat} (h : d < 10) : isDig (dch d) = true := by
  unfold isDig
  rw [dch_toNat h]
  simp
  omega
theorem dec_all : ∀ X : Nat, (dec X).all isDig = true := by
  intro X
  induction X using Nat.strongRecOn with
  | _ X ih =>
    rcases Nat.eq_zero_or_pos X with h | h
    · subst h; rw [dec_zero]; rfl
    · rw [dec_pos h, List.all_append, ih (X / 10) (by omega)]
      simp [dch_dig (show X % 10 < 10 by omega)]
theorem dec_val : ∀ X : Nat, valT (dec X) = X := by
  intro X
  induction X using Nat.strongRecOn with
  | _ X ih =>
    rcases Nat.eq_zero_or_pos X with h | h
    · subst h; rw [dec_zero]; rfl
    · rw [dec_pos h, valT_append, ih (X / 10) (by omega)]
      have : valT [dch (X % 10)] = X % 10 := by
        simp only [valT, List.foldl_cons, List.foldl_nil]
        rw [dch_toNat (by omega)]
        omega
      rw [this, List.length_singleton]
      omega
theorem dch_ne {d : Nat} (h : d < 10) (h0 : d ≠ 0) : dch d ≠ 48 := by
  intro e
  have := congrArg UInt8.toNat e
  rw [dch_toNat h] at this
  have e2 : (48 : UInt8).toNat = 48 := rfl
  omega
theorem dec_head : ∀ X : Nat, 0 < X → ∃ c r, dec X = c :: r ∧ c ≠ 48 := by
  intro X
  induction X using Nat.strongRecOn with
  | _ X ih =>
    intro h
    rw [dec_pos h]
    rcases Nat.eq_zero_or_pos (X / 10) with h0 | h0
    · rw [h0, dec_zero]
      exact ⟨_, [], rfl, dch_ne (by omega) (by omega)⟩
    · obtain ⟨c, r, h1, h2⟩ := ih (X / 10) (by omega) h0
      rw [h1]
      exact ⟨c, r ++ [dch (X % 10)], rfl, h2⟩
theorem isDig_dch {c : UInt8} (h : isDig c = true) : c = dch (c.toNat - 48) ∧ c.toNat - 48 < 10 := by
  have := isDig_le h
  refine ⟨?_, by omega⟩
  unfold dch
  rw [show 48 + (c.toNat - 48) = c.toNat by omega, UInt8.ofNat_toNat]
theorem dec_of : ∀ (n : Nat) (c : UInt8) (r : List UInt8), r.length = n → (c :: r).all isDig = true → c ≠ 48 → dec (valT (c :: r)) = c :: r ∧ 0 < valT (c :: r)
  | 0, c, r, hn, hd, hc => by
    have : r = [] := List.length_eq_zero_iff.1 hn
    subst this
    simp only [List.all_cons, List.all_nil, Bool.and_true] at hd
    obtain ⟨h1, h2⟩ := isDig_dch hd
    have hv : valT [c] = c.toNat - 48 := by simp [valT]
    have hpos : 0 < c.toNat - 48 := by
      rcases Nat.eq_zero_or_pos (c.toNat - 48) with h | h
      · rw [h] at h1; exact absurd h1 hc
      · exact h
    rw [hv]
    refine ⟨?_, hpos⟩
    rw [dec_pos hpos, Nat.div_eq_of_lt h2, dec_zero, Nat.mod_eq_of_lt h2, ← h1]
    rfl
  | n + 1, c, r, hn, hd, hc => by
    obtain ⟨r', x, rfl⟩ : ∃ r' x, r = r' ++ [x] := by
      rcases List.eq_nil_or_concat r with h | ⟨r', x, h⟩
      · subst h; simp at hn
      · exact ⟨r', x, by simpa using h⟩
    have hl : r'.length = n := by simpa using hn
    have hd' : (c :: r').all isDig = true ∧ isDig x = true := by
      simp only [List.all_cons, List.all_append, List.all_nil, Bool.and_true, Bool.and_eq_true] at hd ⊢
      exact ⟨⟨hd.1, hd.2.1⟩, hd.2.2⟩
    obtain ⟨h1, h2⟩ := dec_of n c r' hl hd'.1 hc
    obtain ⟨g1, g2⟩ := isDig_dch hd'.2
    have hv : valT (c :: (r' ++ [x])) = valT (c :: r') * 10 + (x.toNat - 48) := by
      have := valT_append (c :: r') [x]
      simpa [valT] using this
    rw [hv]
    refine ⟨?_, by omega⟩
    rw [dec_pos (by omega), show (valT (c :: r') * 10 + (x.toNat - 48)) / 10 = valT (c :: r') by omega, show (valT (c :: r') * 10 + (x.toNat - 48)) % 10 = x.toNat - 48 by omega, h1, ← g1]
    rfl
end Tw
