/- The helpers of the tokens' laws. -/
import Derived.Test.YtkbhchlecokpiaaGreatFwK4d
namespace Go.Proofs.YtkbhchlecokpiaaGreat
open Go Go.RowKit Fw Tw Rat
set_option linter.unusedVariables false
set_option linter.unusedSimpArgs false
theorem end_r {l : Nat} : Ret Tryz.prog 65 [.int .i64 (l : Nat)] (tkM ⟨1, [], none, l⟩) := by
  refine ret_of (L := L) lay_ok Tryz.func65 rfl Tryz.ntmps65 rfl ?_
  refine goq ?_
  refine go ?_
  exact ⟨_, rfl, rfl⟩
theorem word_r {s : List UInt8} {l : Nat} : Ret Tryz.prog 62 [.str s, .int .i64 (l : Nat)] (tkM ⟨2, s, none, l⟩) := by
  refine ret_of (L := L) lay_ok Tryz.func62 rfl Tryz.ntmps62 rfl ?_
  refine goq ?_
  refine go ?_
  exact ⟨_, rfl, rfl⟩
theorem sign4_r {s : List UInt8} {l : Nat} : Ret Tryz.prog 64 [.str s, .int .i64 (l : Nat)] (tkM ⟨4, s, none, l⟩) := by
  refine ret_of (L := L) lay_ok Tryz.func64 rfl Tryz.ntmps64 rfl ?_
  refine goq ?_
  refine go ?_
  exact ⟨_, rfl, rfl⟩
theorem numT_r {n d : Int} {l : Nat} (hn1 : -9223372036854775808 ≤ n) (hn2 : n ≤ 9223372036854775807) (hd1 : -9223372036854775808 ≤ d) (hd2 : d ≤ 9223372036854775807) : Ret Tryz.prog 63 [.int .i64 n, .int .i64 d, .int .i64 (l : Nat)] (tkM ⟨3, [], some (n /. d), l⟩) := by
  have hq := of_q hn1 hn2 hd1 hd2
  generalize n /. d = q at *
  refine ret_of (L := L) lay_ok Tryz.func63 rfl Tryz.ntmps63 rfl ?_
  refine goq ?_
  refine go ?_
  refine cl (by exact rfl) plain44 rfl hq ?_
  refine go ?_
  exact ⟨_, rfl, rfl⟩
/-- a text's tokens end in this error, at this line -/
def wrongT (x : List UInt8) (e n : Int) : Bool := match tokensT x with
  | .inl l => l.length == 0 && (0 : Int) == e && (0 : Int) == n
  | .inr (f, m) => f == e && (m : Int) == n
theorem eqi {a b : Int} (h : a ≠ b) : (a == b) = false := beq_eq_false_iff_ne.2 h
set_option maxHeartbeats 4000000 in
theorem wrong_r {x : List UInt8} {e n : Int} (hx : x.length ≤ maxLen) : Ret Tryz.prog 66 [.str x, .int .i64 e, .int .i64 n] (.bool (wrongT x e n)) := by
  have ht := tokens_r hx
  unfold wrongT
  generalize tokensT x = y at *
  refine ret_of (L := L) lay_ok Tryz.func66 rfl Tryz.ntmps66 rfl ?_
  refine goq ?_
  refine go ?_
  refine cl (by exact rfl) plain33 rfl ht ?_
  rcases y with l | ⟨f, m⟩
  · refine go ?_
    by_cases h0 : l.length = 0
    · refine ar_eq 17 rfl (d' := .im (.bool true)) (eqt (by rw [h0]; rfl)) ?_
      refine go ?_
      by_cases h1 : (0 : Int) = e
      · refine ar_eq 23 rfl (d' := .im (.bool true)) (eqt (by rw [← h1]; rfl)) ?_
        refine go ?_
        refine ⟨_, rfl, ?_⟩
        show M.bool _ = M.bool _
        simp [← h1, h0]
      · refine ar_eq 23 rfl (d' := .im (.bool false)) (eqt (eqi h1)) ?_
        refine go ?_
        refine ⟨_, rfl, ?_⟩
        show M.bool _ = M.bool _
        simp [eqi h1]
    · refine ar_eq 17 rfl (d' := .im (.bool false)) (eqt (eqi (by omega))) ?_
      refine go ?_
      refine ⟨_, rfl, ?_⟩
      show M.bool _ = M.bool _
      simp [h0]
  · refine go ?_
    by_cases h1 : f = e
    · refine ar_eq 23 rfl (d' := .im (.bool true)) (eqt (by rw [h1, beq_self_eq_true])) ?_
      refine go ?_
      refine ⟨_, rfl, ?_⟩
      show M.bool _ = M.bool _
      simp [h1]
    · refine ar_eq 23 rfl (d' := .im (.bool false)) (eqt (eqi h1)) ?_
      refine go ?_
      refine ⟨_, rfl, ?_⟩
      show M.bool _ = M.bool _
      simp [eqi h1]
end Go.Proofs.YtkbhchlecokpiaaGreat
