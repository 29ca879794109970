/- Both calls of layer 3, as the document defines them; the fixed examples. -/
import Derived.Test.YtpahppekalgegaaFwL3
import Derived.Test.YtpahppekalgegaaFwD5
namespace Go.Proofs.Ytpahppekalgegaa
open Go Go.RowKit Fw Tw
set_option linter.unusedVariables false
set_option linter.unusedSimpArgs false
theorem parse_any (s : List UInt8) : (parseZ s).1.natAbs < W ^ 40 := by
  unfold parseZ
  generalize bodyT s = t
  generalize negT s = neg
  unfold parseT
  have h0 : (0 : Int).natAbs < W ^ 40 := Nat.pow_pos W_pos
  split
  · exact h0
  · split
    · exact h0
    · rename_i ha
      split
      · exact h0
      · rename_i hl
        show (sg neg (valT t)).natAbs < _
        rw [sg_abs]
        exact Nat.lt_of_lt_of_le (valT_lt (by simpa using ha)) (ten40 (by omega))
theorem go_D96703c {p q : Prop} (h : q) (f : Bx q → p := by intro h; (repeat (first | refine go1 ?_ | refine cl (by exact rfl) plain12 rfl (shortInt_t (by assumption)) ?_ | refine cl (by exact rfl) plain12 rfl (shortInt_f (by assumption)) ?_ | refine cl (by exact rfl) plain13 rfl awake3_r ?_ | refine cl (by exact rfl) plain14 rfl cw ?_ | refine cl (by exact rfl) plain15 rfl p1 ?_ | refine cl (by exact rfl) plain16 rfl p2 ?_ | refine cl (by exact rfl) plain17 rfl t1 ?_ | refine cl (by exact rfl) plain18 rfl t2 ?_ | refine cl (by exact rfl) plain19 rfl si ?_ | refine cl (by exact rfl) plain20 rfl sw ?_)); exact h.un) : p := f ⟨h⟩
set_option maxHeartbeats 2000000 in
theorem dtells_r {b : Bool} {l : List Nat} {s : List UInt8} (hd : Dig W l) (hs : s.length ≤ maxLen) : Ret Try.prog 3 [.agg [.bool b, mW l], .str s] (.bool true) := by
  by_cases c1 : (l.length : Int) ≤ 20
  · by_cases c2 : s.length ≤ 700
    · obtain ⟨za, ha⟩ : ∃ z, z = sg b (Tw.val W l) := ⟨_, rfl⟩
      have ia : IsZ (.agg [.bool b, mW l]) za 20 := ⟨b, l, rfl, hd, by omega, ha⟩
      clear ha
      have cw := copyWords_r hd (by omega)
      have p1 := parse_r hs
      have p2 := rparse_r hs
      have t1 := text_r ia (by omega)
      have t2 := rtext_r ia (by omega)
      have sz : Sz (parseZ s).1 40 := ⟨parse_any s⟩
      have si := sameZ_r (rfl : (parseZ s).1 = (parseZ s).1) sz (by omega)
      have sw := same_r (l1 := l) (l2 := l) (by omega)
      rw [decide_eq_true rfl] at sw
      refine ret_of (L := L) lay_ok Try.func3 rfl Try.ntmps3 rfl ?_
      refine go_D96703c ?_
      refine awp_cF rfl (by rw [decide_eq_false_iff_not]; omega) ?_
      refine go_D96703c ?_
      refine ar_eq 37 rfl (d' := .im (.bool true)) (eqt (beq_self_eq_true _)) ?_
      refine go_D96703c ?_
      refine ar_eq 42 rfl (d' := .im (.bool true)) (eqt (beq_self_eq_true _)) ?_
      refine go_D96703c ?_
      refine ⟨_, rfl, ?_⟩
      rfl
    · refine ret_of (L := L) lay_ok Try.func3 rfl Try.ntmps3 rfl ?_
      refine go_D96703c ?_
      refine awp_cT rfl (by rw [decide_eq_true_eq]; omega) ?_
      refine go_D96703c ?_
      refine ⟨_, rfl, ?_⟩
      rfl
  · refine ret_of (L := L) lay_ok Try.func3 rfl Try.ntmps3 rfl ?_
    refine go_D96703c ?_
    refine ⟨_, rfl, ?_⟩
    rfl
end Go.Proofs.Ytpahppekalgegaa
