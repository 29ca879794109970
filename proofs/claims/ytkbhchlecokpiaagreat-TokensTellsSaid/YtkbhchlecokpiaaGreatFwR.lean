/- The document's answer for layer 1, as the logic over data has it. -/
import Derived.Test.YtkbhchlecokpiaaGreatFwCf
import Derived.Test.YtkbhchlecokpiaaGreatFwW
import Derived.Test.YtkbhchlecokpiaaGreatRB
set_option linter.unusedVariables false
set_option linter.unusedSimpArgs false
namespace Tw
open Go Go.RowKit Fw
set_option linter.unusedVariables false
set_option linter.unusedSimpArgs false
/-- a digit of 8 bits, as a cell -/
def mi (x : Nat) : List M := [.int .i64 ((x : Nat) : Int)]
theorem rmc_digits {ok : Nat → Prop} {w : World} {b : Nat} : ∀ {l : List Nat} {off : Nat}, RMc ok w b off (l.flatMap mi) → CellsG .i64 w b off l
  | [], off, h => by intro i hi; simp at hi
  | x :: l, off, h => by
    simp only [List.flatMap_cons, mi, List.cons_append, List.nil_append, RMc, RM] at h
    intro i hi
    cases i with
    | zero =>
      obtain ⟨⟨u, h1, _, rfl⟩, _⟩ := h
      simpa [nth] using h1
    | succ i =>
      have := rmc_digits (l := l) (off := off + 1) h.2 i (by simpa using hi)
      rw [show off + (i + 1) = off + 1 + i by omega]
      simpa [nth] using this
theorem digits_rmc {ok : Nat → Prop} {w : World} {b : Nat} : ∀ {l : List Nat} {off : Nat}, CellsG .i64 w b off l → RMc ok w b off (l.flatMap mi)
  | [], off, h => by simp [RMc]
  | x :: l, off, h => by
    simp only [List.flatMap_cons, mi, List.cons_append, List.nil_append, RMc, RM]
    refine ⟨⟨_, ?_, rfl, rfl⟩, digits_rmc fun i hi => ?_⟩
    · have := h 0 (by simp)
      simpa [nth] using this
    · have := h (i + 1) (by simpa using hi)
      rw [show off + 1 + i = off + (i + 1) by omega]
      simpa [nth] using this
theorem flat_nil_mi {l : List Nat} : l.flatMap mi = [] ↔ l = [] := by cases l <;> simp [mi]
theorem rm_sd {ok : Nat → Prop} {w : World} {v : Value} {l : List Nat} (h : RM ok w (mS mi l) v) (hd : Dig 256 l) : Sd w v l := by
  simp only [mS, RM] at h
  obtain ⟨a, cap, rfl, h1, h2, h3, h4, h5⟩ := h
  refine ⟨a, cap, rfl, h1, h2, hd, fun hne => ?_⟩
  obtain ⟨b, off, rfl, _⟩ := h4 (fun h => hne (flat_nil_mi.1 h))
  exact ⟨b, off, rfl, rmc_digits (h5 b off rfl)⟩
theorem own_rmi {ok : Nat → Prop} {e base : Nat} {w : World} {v : Value} {l : List Nat} (h : Own .i64 e 256 base w v l) : RM (fun b => ok b ∨ base ≤ b) w (mS mi l) v := by
  simp only [mS, RM]
  rcases h.shape with ⟨rfl, rfl⟩ | ⟨g, cap, rfl, h1, h2, h3, h4⟩
  · exact ⟨none, 0, rfl, Nat.le_refl _, by unfold maxLen; omega, by simp, by simp, by simp⟩
  · refine ⟨_, cap, rfl, h3, h4, fun h0 => ?_, fun _ => ⟨g, 0, rfl, .inr h1⟩, fun b off hb => ?_⟩
    · rw [List.eq_nil_of_length_eq_zero h0]; rfl
    · simp only [Option.some.injEq, Addr.mk.injEq, and_true] at hb
      obtain ⟨rfl, rfl⟩ := hb
      exact digits_rmc fun i hi => by rw [Nat.zero_add]; exact h.cell hi
theorem rmt_int {ok : Nat → Prop} {w : World} {m : M} {k : IntKind} {n : Int} {vs : List Value} (h : RMt ok w [m, .int k n] vs) : ∃ v, vs = [v, .int k n] ∧ RM ok w m v := by
  obtain ⟨v, v', rfl, h1, h2⟩ := rmt2 h
  simp only [RM] at h2
  subst h2
  exact ⟨v, rfl, h1⟩
end Tw
namespace Go.Proofs.YtkbhchlecokpiaaGreat
open Go Go.RowKit Fw Tw
set_option linter.unusedVariables false
set_option linter.unusedSimpArgs false

theorem rsmall_r {l : List Nat} (hd : Dig W l) (hl : l.length ≤ 20000) : Ret Tryz.prog 171 [mW l] (mS mi (digs 256 (val W l))) := by
  intro ok w vs h
  obtain ⟨v, rfl, hv⟩ := rmt1 h
  refine (small_c v l w (rm_wd hv hd) hl).mono ?_
  rintro e w' ⟨v', rfl, h4, h5⟩
  exact ⟨v', rfl, own_rmi h4, h5⟩
theorem rlarge_r {l : List Nat} (hd : Dig 256 l) (hl : l.length ≤ 200000) : Ret Tryz.prog 170 [mS mi l] (mN (val 256 l)) := by
  intro ok w vs h
  obtain ⟨v, rfl, hv⟩ := rmt1 h
  refine (large_c v l w (rm_sd hv hd) hl).mono ?_
  rintro e w' ⟨v', rfl, h4, h5⟩
  exact ⟨v', rfl, own_rm' h4, h5⟩
theorem radd_r {l1 l2 : List Nat} (hd1 : Dig W l1) (hd2 : Dig W l2) (hl1 : l1.length ≤ 2000) (hl2 : l2.length ≤ 2000) : Ret Tryz.prog 144 [mW l1, mW l2] (mN (val W l1 + val W l2)) := by
  intro ok w vs h
  obtain ⟨v, v', rfl, hv, hv'⟩ := rmt2 h
  refine (radd_c v v' l1 l2 w (rm_wd hv hd1) (rm_wd hv' hd2) hl1 hl2).mono ?_
  rintro e w' ⟨v', rfl, h4, h5⟩
  exact ⟨v', rfl, own_rm' h4, h5⟩
theorem rsub_r {l1 l2 : List Nat} (hd1 : Dig W l1) (hd2 : Dig W l2) (hl1 : l1.length ≤ 2000) (hl2 : l2.length ≤ 2000) : Ret Tryz.prog 178 [mW l1, mW l2] (mN (val W l1 - val W l2)) := by
  intro ok w vs h
  obtain ⟨v, v', rfl, hv, hv'⟩ := rmt2 h
  refine (rsubw_c v v' l1 l2 w (rm_wd hv hd1) (rm_wd hv' hd2) hl1 hl2).mono ?_
  rintro e w' ⟨v', rfl, h4, h5⟩
  exact ⟨v', rfl, own_rm' h4, h5⟩
theorem rmul_r {l1 l2 : List Nat} (hd1 : Dig W l1) (hd2 : Dig W l2) (hl1 : l1.length ≤ 1000) (hl2 : l2.length ≤ 1000) : Ret Tryz.prog 139 [mW l1, mW l2] (mN (val W l1 * val W l2)) := by
  intro ok w vs h
  obtain ⟨v, v', rfl, hv, hv'⟩ := rmt2 h
  refine (rmul_c v v' l1 l2 w (rm_wd hv hd1) (rm_wd hv' hd2) hl1 hl2).mono ?_
  rintro e w' ⟨v', rfl, h4, h5⟩
  exact ⟨v', rfl, own_rm' h4, h5⟩
theorem rcmp_r {l1 l2 : List Nat} (hd1 : Dig W l1) (hd2 : Dig W l2) (hl1 : l1.length ≤ 2000) (hl2 : l2.length ≤ 2000) : Ret Tryz.prog 177 [mW l1, mW l2] (.int .i64 (cmpN (val W l1) (val W l2))) := by
  intro ok w vs h
  obtain ⟨v, v', rfl, hv, hv'⟩ := rmt2 h
  refine (rcmpw_c v v' l1 l2 w (rm_wd hv hd1) (rm_wd hv' hd2) hl1 hl2).mono ?_
  rintro e w' ⟨rfl, h5⟩
  exact ⟨_, rfl, by simp only [RM], h5⟩
theorem rbits_r {l : List Nat} (hd : Dig W l) (hl : l.length ≤ 2000) : Ret Tryz.prog 145 [mW l] (.int .i64 ((bitsN (val W l) : Nat) : Int)) := by
  intro ok w vs h
  obtain ⟨v, rfl, hv⟩ := rmt1 h
  refine (rbits_c v l w (rm_wd hv hd) hl).mono ?_
  rintro e w' ⟨rfl, h5⟩
  exact ⟨_, rfl, by simp only [RM], h5⟩
theorem rdivmod_r {l1 l2 : List Nat} (hd1 : Dig W l1) (hd2 : Dig W l2) (hl1 : l1.length ≤ 1000) (hl2 : l2.length ≤ 1000) : Ret Tryz.prog 148 [mW l1, mW l2] (.tup [mN (val W l1 / val W l2), mN (remN (val W l1) (val W l2))]) := by
  intro ok w vs h
  obtain ⟨v, v', rfl, hv, hv'⟩ := rmt2 h
  refine (rdivmod_c v v' l1 l2 w (rm_wd hv hd1) (rm_wd hv' hd2) hl1 hl2).mono ?_
  rintro e w' ⟨v3, v4, rfl, ⟨h4, h5⟩, h6⟩
  refine ⟨_, rfl, ?_, h6⟩
  simp only [RM, RMt]
  exact ⟨_, rfl, v3, _, rfl, own_rm' h4, v4, _, rfl, own_rm' h5, rfl⟩
theorem rshr_r {l : List Nat} {s : Int} (hd : Dig W l) (hl : l.length ≤ 2000) (hs : s ≤ 9223372036854775807) (hs2 : -9223372036854775808 ≤ s) : Ret Tryz.prog 176 [mW l, .int .i64 s] (mN (shrI (val W l) s)) := by
  intro ok w vs h
  obtain ⟨v, rfl, hv⟩ := rmt_int h
  refine (rshr_c v l s w (rm_wd hv hd) hl hs hs2).mono ?_
  rintro e w' ⟨v', rfl, h4, h5⟩
  exact ⟨v', rfl, own_rm' h4, h5⟩
theorem rshl_r {l : List Nat} {s : Int} (hd : Dig W l) (hl : l.length ≤ 2000) (hs : s ≤ 7000) (hs2 : -9223372036854775808 ≤ s) : Ret Tryz.prog 179 [mW l, .int .i64 s] (mN (shlI (val W l) s)) := by
  intro ok w vs h
  obtain ⟨v, rfl, hv⟩ := rmt_int h
  refine (rshl_c v l s w (rm_wd hv hd) hl hs hs2).mono ?_
  rintro e w' ⟨v', rfl, h4, h5⟩
  exact ⟨v', rfl, own_rm' h4, h5⟩
theorem copyWords_r {l : List Nat} (hd : Dig W l) (hl : l.length ≤ 60000) : Ret Tryz.prog 124 [mW l] (mW l) := by
  intro ok w vs h
  obtain ⟨v, rfl, hv⟩ := rmt1 h
  refine (copyWords_c v l w (rm_wd hv hd) hl).mono ?_
  rintro e w' ⟨v', rfl, h4, h5⟩
  exact ⟨v', rfl, own_rm' h4, h5⟩
end Go.Proofs.YtkbhchlecokpiaaGreat
