/- Fractions and tokens that are the same. -/
import Derived.Test.YtkbhchlecokpiaaGreatFwK4e
namespace Go.Proofs.YtkbhchlecokpiaaGreat
open Go Go.RowKit Fw Tw Rat
set_option linter.unusedVariables false
set_option linter.unusedSimpArgs false
theorem sameW_r {b : Bool} {X k : Nat} (h : X < W ^ k) (hk : k ≤ 1000000) : Ret Tryz.prog 109 [.agg [.bool b, mN X], .agg [.bool b, mN X]] (.bool true) := by
  have := sameInt_r (b1 := b) (b2 := b) (l1 := digs W X) (l2 := digs W X) (Nat.le_trans (length_digs_le W_two h) (by omega))
  simpa using this
theorem sameQ1_r {q : Rat} {k : Nat} (h : Sq q k) (hk : k ≤ 1000000) : Ret Tryz.prog 72 [mQ q, mQ q] (.bool true) := by
  have h1 := sameW_r (b := decide (q.num < 0)) h.n hk
  have hd : (if q.den = 1 then 0 else q.den) < W ^ k := by
    split
    · exact Nat.pow_pos W_pos
    · exact h.d
  have h2 := sameW_r (b := false) hd hk
  refine ret_of (L := L) lay_ok Tryz.func72 rfl Tryz.ntmps72 rfl ?_
  refine goq ?_
  refine go ?_
  refine cl (by exact rfl) plain109 rfl h1 ?_
  refine go ?_
  refine cl (by exact rfl) plain109 rfl h2 ?_
  refine go ?_
  exact ⟨_, rfl, rfl⟩
/-- a token's cells, where no number is the number 0 -/
def tkE (t : Tk) : List M := [.int .u8 (t.k : Nat), .str t.s, .bool (decide ((t.q.getD 0).num < 0)), mN (t.q.getD 0).num.natAbs, .bool false, mN (if (t.q.getD 0).den = 1 then 0 else (t.q.getD 0).den), .int .i64 (t.l : Nat)]
set_option maxHeartbeats 4000000 in
theorem sameTokens_r {l : List Tk} (hl : l.length ≤ 1000000000) (hq : ∀ t ∈ l, Sq (t.q.getD 0) 1000) : Ret Tryz.prog 35 [mS tkE l, mS tkE l] (.bool true) := by
  refine ret_of (L := L) lay_ok Tryz.func35 rfl Tryz.ntmps35 rfl ?_
  refine goq ?_
  refine go ?_
  refine awp_cF rfl (by simp) ?_
  refine go ?_
  refine awp_loopC (A := Nat) (B := Unit) (fun i => i ≤ l.length) (fun i => [(5, some (.im (.int .i64 (i : Nat)))), (0, some (.im (mS tkE l))), (1, some (.im (mS tkE l)))]) (fun _ => []) (fun i => l.length - i)
    (fun _ => True) (fun _ => []) (fun _ => []) 0 (Nat.zero_le _) ?_ ?_ ?_
  · exact gou0
  · rintro i hi
    by_cases hlt : i < l.length
    · have hs := sameQ1_r (hq l[i] (List.getElem_mem hlt)) (by omega)
      refine go ?_
      refine awp_cT rfl (by rw [decide_eq_true_eq]; omega) ?_
      refine go ?_
      refine ar_at (enc := tkE) i rfl rfl rfl rfl rfl (fun _ => rfl) rfl rfl hlt ?_
      refine go ?_
      refine ar_at (enc := tkE) i rfl rfl rfl rfl rfl (fun _ => rfl) rfl rfl hlt ?_
      refine go ?_
      refine ar_eq 28 rfl (d' := .im (.bool false)) (eqt (by simp)) ?_
      refine go ?_
      refine ar_at (enc := tkE) i rfl rfl rfl rfl rfl (fun _ => rfl) rfl rfl hlt ?_
      refine go ?_
      refine ar_at (enc := tkE) i rfl rfl rfl rfl rfl (fun _ => rfl) rfl rfl hlt ?_
      refine go ?_
      refine ar_eq 41 rfl (d' := .im (.bool false)) (eqt (by simp)) ?_
      refine go ?_
      refine ar_at (enc := tkE) i rfl rfl rfl rfl rfl (fun _ => rfl) rfl rfl hlt ?_
      refine go ?_
      refine ar_at (enc := tkE) i rfl rfl rfl rfl rfl (fun _ => rfl) rfl rfl hlt ?_
      refine go ?_
      refine ar_eq 54 rfl (d' := .im (.bool false)) (eqt (by simp)) ?_
      refine go ?_
      refine ar_at (enc := tkE) i rfl rfl rfl rfl rfl (fun _ => rfl) rfl rfl hlt ?_
      refine go ?_
      refine ar_at (enc := tkE) i rfl rfl rfl rfl rfl (fun _ => rfl) rfl rfl hlt ?_
      refine go ?_
      refine cl (by exact rfl) plain72 rfl hs ?_
      refine go ?_
      refine ⟨i + 1, by omega, ?_, by omega⟩
      exact gou0
    · refine go ?_
      refine awp_cF rfl (by rw [decide_eq_false_iff_not]; omega) ?_
      refine go ?_
      refine .inl ⟨rfl, (), trivial, ?_⟩
      exact gou0
  rintro _ -
  refine awp_seq ?_
  refine go ?_
  exact ⟨_, rfl, rfl⟩
end Go.Proofs.YtkbhchlecokpiaaGreat
