/- The tokens of a text: the plain function, and the program's own. -/
import Derived.Test.YtkbhchlecokpiaaGreatFwK4c
namespace Go.Proofs.YtkbhchlecokpiaaGreat
open Go Go.RowKit Fw Tw Rat
set_option linter.unusedVariables false
set_option linter.unusedSimpArgs false
theorem next_suf (x r : List UInt8) : (nextT x r).2.2 <:+ r := by
  rcases r with _ | ⟨c, b⟩
  · exact List.suffix_refl _
  · unfold nextT
    dsimp only
    split
    · exact List.dropWhile_suffix _
    · split
      · exact List.dropWhile_suffix _
      · split
        · exact List.suffix_cons c b
        · exact List.suffix_refl _
theorem next_lt (x r : List UInt8) (h : (nextT x r).1.k ≠ 1) (h0 : (nextT x r).2.1 = 0) : (nextT x r).2.2.length < r.length := by
  rcases r with _ | ⟨c, b⟩
  · exact absurd rfl h
  · unfold nextT at h0 ⊢
    dsimp only at h0 ⊢
    by_cases h1 : isLet c = true
    · rw [if_pos h1] at h0 ⊢
      have := drop_len (so := isLet) b
      simp only [List.dropWhile_cons, h1, if_true, List.length_cons]
      omega
    · rw [if_neg h1] at h0 ⊢
      by_cases h2 : (isDig c || c == 45) = true
      · rw [if_pos h2] at h0 ⊢
        have := drop_len (so := isNum) b
        have h3 : isNum c = true := by unfold isNum; rw [h2]; rfl
        simp only [List.dropWhile_cons, h3, if_true, List.length_cons]
        omega
      · rw [if_neg h2] at h0 ⊢
        by_cases h3 : 0 ≤ Lib.indexByte signs c
        · rw [if_pos h3] at h0 ⊢
          simp
        · rw [if_neg h3] at h0 ⊢
          cases h0
theorem skip_len (r : List UInt8) : (skip r).length ≤ r.length := (skip_suf _ r rfl).length_le
/-- the tokens of what is left of a text, behind those that were read; or the error and its line -/
def toks (x r : List UInt8) (acc : List Tk) : List Tk ⊕ (Int × Nat) :=
  if h0 : (nextT x (skip r)).2.1 = 0 then
    if h : (nextT x (skip r)).1.k = 1 then .inl (acc ++ [(nextT x (skip r)).1])
    else toks x (nextT x (skip r)).2.2 (acc ++ [(nextT x (skip r)).1])
  else .inr ((nextT x (skip r)).2.1, (nextT x (skip r)).1.l)
termination_by r.length
decreasing_by
  have h1 := next_lt x (skip r) h h0
  have h2 := skip_len r
  omega
theorem toks_err {x r : List UInt8} {acc : List Tk} (h : (nextT x (skip r)).2.1 ≠ 0) : toks x r acc = .inr ((nextT x (skip r)).2.1, (nextT x (skip r)).1.l) := by
  unfold toks
  rw [dif_neg h]
theorem toks_end {x r : List UInt8} {acc : List Tk} (h0 : (nextT x (skip r)).2.1 = 0) (h : (nextT x (skip r)).1.k = 1) : toks x r acc = .inl (acc ++ [(nextT x (skip r)).1]) := by
  unfold toks
  rw [dif_pos h0, dif_pos h]
theorem toks_next {x r : List UInt8} {acc : List Tk} (h0 : (nextT x (skip r)).2.1 = 0) (h : (nextT x (skip r)).1.k ≠ 1) : toks x r acc = toks x (nextT x (skip r)).2.2 (acc ++ [(nextT x (skip r)).1]) := by
  conv => lhs; unfold toks
  rw [dif_pos h0, dif_neg h]
def tokensT (x : List UInt8) : List Tk ⊕ (Int × Nat) := if 262144 < x.length then .inr (3, 0) else toks x x []
/-- a slice of tokens, and a fault, as data -/
def toksM : List Tk ⊕ (Int × Nat) → M
  | .inl l => .tup [mS tkC l, .agg [.int .i64 0, .int .i64 0]]
  | .inr (e, n) => .tup [.nil, .agg [.int .i64 e, .int .i64 (n : Nat)]]
theorem tkC_len (t : Tk) : (tkC t).length = 7 := by
  unfold tkC
  split <;> rfl
theorem rdB {t : TypeId} {x : List UInt8} {p q l m : Int} (h1 : p = q) (h2 : l = m) : O.box t [.im (.str x), .im (.int .i64 p), .im (.int .i64 l)] = .box t [.im (.str x), .im (.int .i64 q), .im (.int .i64 m)] := by rw [h1, h2]
set_option maxHeartbeats 4000000 in
theorem tokens_r {x : List UInt8} (hx : x.length ≤ maxLen) : Ret Tryz.prog 33 [.str x] (toksM (tokensT x)) := by
  have hml : maxLen = 9223372036854775807 := rfl
  refine ret_of (L := L) lay_ok Tryz.func33 rfl Tryz.ntmps33 rfl ?_
  refine goq ?_
  refine go ?_
  by_cases hlong : 262144 < x.length
  · have e : tokensT x = .inr (3, 0) := by unfold tokensT; rw [if_pos hlong]
    rw [e]
    refine awp_cT rfl (by rw [decide_eq_true_eq]; omega) ?_
    refine go ?_
    refine ⟨_, rfl, ?_⟩
    rfl
  have e : tokensT x = toks x x [] := by unfold tokensT; rw [if_neg hlong]
  have hx' : x.length ≤ 262144 := by omega
  rw [e]
  refine awp_cF rfl (by rw [decide_eq_false_iff_not]; omega) ?_
  refine go ?_
  refine awp_nilRow (id := 31) (k := 5) (sz := 7) (e := 120) rfl rfl ?_
  refine awp_loop1 (A := List UInt8 × List Tk) (fun q => q.1 <:+ x ∧ toks x q.1 q.2 = toks x x [] ∧ q.2.length + q.1.length ≤ x.length)
    (fun q => [(2, some (.im .nil)), (3, some (.ptr 3 0)), (4, some (.ptr 14 0)), (5, some (.row 31 q.2.length 7))])
    (fun q => [(31, some (.rw 120 7 (q.2.flatMap tkC))), (14, some (.box 127 (rdD x (x.length - q.1.length) (lineT x q.1)))), (3, some (.box 77 [.im (.int .i64 0), .im (.int .i64 0)]))]) (fun q => q.1.length) (x, []) ⟨List.suffix_refl x, rfl, by simp⟩ ?_ ?_
  · refine gou ?_
    refine sub_he rfl ?_ (rdB (by simp) (by simp))
    exact gou0
  · rintro ⟨r, acc⟩ ⟨h1, h2, h3⟩
    change Awp _ _ _ _ [(2, some (.im .nil)), (3, some (.ptr 3 0)), (4, some (.ptr 14 0)), (5, some (.row 31 acc.length 7))] [(31, some (.rw 120 7 (acc.flatMap tkC))), (14, some (.box 127 (rdD x (x.length - r.length) (lineT x r)))), (3, some (.box 77 [.im (.int .i64 0), .im (.int .i64 0)]))]
    simp only [] at h1 h2 h3
    refine awp_renRow (id := 31) (id' := 1031) (k := 5) rfl rfl rfl rfl ?_
    refine awp_sub (t' := [(2, some (.im .nil)), (3, some (.ptr 3 0)), (4, some (.ptr 14 0)), (5, some (.row 1031 acc.length 7))]) (h' := [(1031, some (.rw 120 7 (acc.flatMap tkC))), (14, some (.box 127 (rdD x (x.length - r.length) (lineT x r)))), (3, some (.box 77 [.im (.int .i64 0), .im (.int .i64 0)]))]) ?_ ?_
    · exact gou0
    have hz : skip r <:+ x := (skip_suf _ r rfl).trans h1
    have hsl := skip_len r
    have hb := blanks_s h1 hx'
    have hn := next_s hz hx'
    have hns := (next_suf x (skip r)).trans hz
    have hlt := next_lt x (skip r)
    have hTe := toks_err (x := x) (r := r) (acc := acc)
    have hT1 := toks_end (x := x) (r := r) (acc := acc)
    have hT2 := toks_next (x := x) (r := r) (acc := acc)
    rw [h2] at hTe hT1 hT2
    generalize skip r = z at *
    generalize nextT x z = t3 at *
    obtain ⟨⟨k, s, q, ln⟩, e1, r'⟩ := t3
    dsimp only at hTe hT1 hT2 hn hns hlt
    rcases q with _ | q
    all_goals
      refine go ?_
      refine clp plain67 hb ?_
      refine go ?_
      refine clp plain68 hn ?_
      refine go ?_
      by_cases he1 : e1 = 0
      · refine awp_cF rfl (by rw [he1]; rfl) ?_
        subst he1
        refine go ?_
        first
          | refine ar_app1 (enc := tkC) (l := acc) (a := ⟨k, s, none, ln⟩) rfl rfl rfl rfl rfl rfl rfl tkC_len rfl rfl rfl rfl rfl rfl rfl (by show (acc ++ [_]).length * 96 ≤ _; rw [List.length_append]; simp only [List.length_cons, List.length_nil]; omega) (by rw [List.length_append]; simp only [List.length_cons, List.length_nil]; omega) rfl ?_
          | refine ar_app1 (enc := tkC) (l := acc) (a := ⟨k, s, some q, ln⟩) rfl rfl rfl rfl rfl rfl rfl tkC_len rfl rfl rfl rfl rfl rfl rfl (by show (acc ++ [_]).length * 96 ≤ _; rw [List.length_append]; simp only [List.length_cons, List.length_nil]; omega) (by rw [List.length_append]; simp only [List.length_cons, List.length_nil]; omega) rfl ?_
        refine go ?_
        by_cases hk : k = 1
        · refine awp_cT rfl (by rw [hk]; rfl) ?_
          subst hk
          refine awp_frzRow (id := 31) (k := 5) rfl rfl (by rw [flatMap_len tkC_len]; exact Nat.le_refl _) (List.take_of_length_le (by rw [flatMap_len tkC_len]; exact Nat.le_refl _)) ?_
          refine go ?_
          rw [hT1 rfl rfl]
          exact ⟨_, rfl, rfl⟩
        · refine awp_cF rfl (by rw [beq_eq_false_iff_ne]; intro h; exact hk (by dsimp only at h; omega)) ?_
          refine go ?_
          have hl := hlt hk rfl
          refine ⟨(r', acc ++ [_]), ⟨hns, (hT2 rfl hk).symm, by simp only [List.length_append, List.length_cons, List.length_nil]; omega⟩, ?_, by show r'.length < r.length; omega⟩
          exact gou0
      · refine awp_cT rfl (by rw [bne_iff_ne]; exact he1) ?_
        refine go ?_
        rw [hTe he1]
        exact ⟨_, rfl, rfl⟩
end Go.Proofs.YtkbhchlecokpiaaGreat
