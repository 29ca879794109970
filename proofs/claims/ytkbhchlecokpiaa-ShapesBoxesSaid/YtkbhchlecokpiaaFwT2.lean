/- Texts of numbers and what they say, in plain Lean. -/
import Derived.Test.YtkbhchlecokpiaaFwT
set_option linter.unusedVariables false
set_option linter.unusedSimpArgs false
namespace Tw
open Go Go.RowKit Fw
set_option linter.unusedVariables false
set_option linter.unusedSimpArgs false
theorem textZ_zero : textZ 0 = [48] := rfl
theorem textZ_neg {z : Int} (h : z < 0) : textZ z = 45 :: dec z.natAbs := by
  unfold textZ
  rw [if_neg (by omega), if_pos h]
  rfl
theorem textZ_pos {z : Int} (h : 0 < z) : textZ z = dec z.natAbs := by
  unfold textZ
  rw [if_neg (by omega), if_neg (by omega)]
  rfl
theorem dec_len {X n : Nat} (h : X < 10 ^ n) : (dec X).length ≤ n := by
  unfold dec decE
  rw [List.length_reverse, List.length_map]
  exact length_digs_le ten_two h
theorem badT_head {neg : Bool} {c : UInt8} {r : List UInt8} (h : c ≠ 48) : badT neg (c :: r) = false := by
  simp only [badT]
  rw [beq_eq_false_iff_ne.2 h]
  rfl
theorem parseT_dec {neg : Bool} {X : Nat} (h0 : 0 < X) (h : X < 10 ^ 600) : parseT neg (dec X) = (sg neg X, 0) := by
  obtain ⟨c, r, e, hc⟩ := dec_head X h0
  have hb : badT neg (dec X) = false := by rw [e]; exact badT_head hc
  have hl := dec_len h
  unfold parseT
  rw [hb, if_neg (by decide), dec_all, if_neg (by decide), if_neg (by omega), dec_val]
theorem head_dig {X : Nat} {c : UInt8} {r : List UInt8} (e : dec X = c :: r) : c ≠ 45 := by
  have := dec_all X
  rw [e, List.all_cons, Bool.and_eq_true] at this
  have h := isDig_le this.1
  rintro rfl
  have e2 : (45 : UInt8).toNat = 45 := rfl
  omega
theorem parse_text {z : Int} (h : z.natAbs < 10 ^ 600) : parseZ (textZ z) = (z, 0) := by
  rcases Int.lt_trichotomy z 0 with h1 | h1 | h1
  · rw [textZ_neg h1]
    show parseT (negT (45 :: dec z.natAbs)) (bodyT (45 :: dec z.natAbs)) = _
    have e1 : negT (45 :: dec z.natAbs) = true := rfl
    have e2 : bodyT (45 :: dec z.natAbs) = dec z.natAbs := rfl
    rw [e1, e2, parseT_dec (by omega) h]
    simp [sg]; omega
  · subst h1
    rw [textZ_zero]
    rfl
  · rw [textZ_pos h1]
    obtain ⟨c, r, e, hc⟩ := dec_head z.natAbs (by omega)
    have e1 : negT (dec z.natAbs) = false := by rw [e]; exact beq_eq_false_iff_ne.2 (head_dig e)
    have e2 : bodyT (dec z.natAbs) = dec z.natAbs := by unfold bodyT; rw [e1]; rfl
    show parseT (negT _) (bodyT _) = _
    rw [e1, e2, parseT_dec (by omega) h]
    simp [sg]; omega
theorem text_parse {s : List UInt8} (h : (parseZ s).2 = 0) : textZ (parseZ s).1 = s := by
  have hs : s = (if negT s then [45] else []) ++ bodyT s := by
    unfold bodyT
    cases hn : negT s with
    | false => rfl
    | true =>
      cases s with
      | nil => cases hn
      | cons c r =>
        have : c = 45 := by simpa [negT] using hn
        subst this
        rfl
  unfold parseZ at h ⊢
  generalize bodyT s = t at *
  generalize negT s = neg at *
  unfold parseT at h ⊢
  split at h
  · cases h
  · rename_i hb
    rw [if_neg hb]
    split at h
    · cases h
    · rename_i ha
      rw [if_neg ha]
      split at h
      · cases h
      · rename_i hl
        rw [if_neg hl]
        have hall : t.all isDig = true := by simpa using ha
        match t, hb, hall, hs with
        | [], hb, _, _ => exact absurd rfl hb
        | c :: r, hb, hall, hs =>
          show textZ (sg neg (valT (c :: r))) = s
          by_cases hc : c = 48
          · subst hc
            have h9 : neg = false ∧ r = [] := by
              simp only [badT, beq_self_eq_true, Bool.true_and, Bool.or_eq_true, decide_eq_true_eq, not_or] at hb
              refine ⟨by simpa using hb.1, ?_⟩
              cases r with
              | nil => rfl
              | cons x y => simp at hb
            obtain ⟨rfl, rfl⟩ := h9
            rw [hs]
            rfl
          · obtain ⟨h1, h2⟩ := dec_of r.length c r rfl hall hc
            cases neg
            · rw [textZ_pos (by simp [sg]; omega), sg_abs, h1, hs]
              rfl
            · rw [textZ_neg (by simp [sg]; omega), sg_abs, h1, hs]
              rfl
theorem text_more {X d : Nat} (hX : 0 < X) (hd : d < 10) : textZ (((X * 10 + d : Nat) : Int)) = textZ ((X : Nat) : Int) ++ [dch d] := by
  rw [textZ_pos (by omega), textZ_pos (by omega)]
  show dec (X * 10 + d) = dec X ++ [dch d]
  rw [dec_pos (by omega), show (X * 10 + d) / 10 = X by omega, show (X * 10 + d) % 10 = d by omega]
end Tw
