/- The document's tokens. -/
import Derived.Test.YtkbhchlecokpiaaGreatFwK7
import Derived.Test.YtkbhchlecokpiaaGreatFwK8
import Derived.Test.YtkbhchlecokpiaaGreatFwR4c
namespace Go.Proofs.YtkbhchlecokpiaaGreat
open Go Go.RowKit Fw Tw Rat
set_option linter.unusedVariables false
set_option linter.unusedSimpArgs false
theorem rletter_r (c : UInt8) : Ret Tryz.prog 69 [.int .u8 c.toNat] (.bool (isLet c)) := by
  unfold isLet
  by_cases h : 97 ≤ c.toNat
  · refine ret_of (L := L) lay_ok Tryz.func69 rfl Tryz.ntmps69 rfl ?_
    refine goq ?_
    refine go ?_
    refine ar_eq 5 rfl (d' := .im (.bool true)) (eqt (by rw [decide_eq_true_eq]; omega)) ?_
    refine go ?_
    refine ⟨_, rfl, ?_⟩
    show M.bool _ = M.bool _
    congr 1
    rw [decide_eq_true h, Bool.true_and, decide_eq_decide]
    omega
  · refine ret_of (L := L) lay_ok Tryz.func69 rfl Tryz.ntmps69 rfl ?_
    refine goq ?_
    refine go ?_
    refine ar_eq 5 rfl (d' := .im (.bool false)) (eqt (by rw [decide_eq_false_iff_not]; omega)) ?_
    refine go ?_
    refine ⟨_, rfl, ?_⟩
    show M.bool _ = M.bool _
    rw [decide_eq_false h]
    rfl
theorem rpart_r (c : UInt8) : Ret Tryz.prog 70 [.int .u8 c.toNat] (.bool (isNum c)) := by
  by_cases h : isDig c = true
  · have h' := h
    unfold isDig at h'
    rw [Bool.and_eq_true, decide_eq_true_eq, decide_eq_true_eq] at h'
    refine ret_of (L := L) lay_ok Tryz.func70 rfl Tryz.ntmps70 rfl ?_
    refine goq ?_
    refine go ?_
    refine ar_eq 5 rfl (d' := .im (.bool true)) (eqt (by rw [decide_eq_true_eq]; omega)) ?_
    refine go ?_
    refine ar_eq 9 rfl (d' := .im (.bool true)) (eqt (by rw [decide_eq_true_eq]; omega)) ?_
    refine go ?_
    refine ⟨_, rfl, ?_⟩
    show M.bool _ = M.bool _
    unfold isNum
    rw [h]; rfl
  · have hd : isDig c = false := (Bool.not_eq_true _).mp h
    have tail : isNum c = (c == 45 || c == 47) := by unfold isNum; rw [hd]; rfl
    rw [tail]
    have h' := hd
    unfold isDig at h'
    by_cases g1 : 48 ≤ c.toNat
    all_goals
      refine ret_of (L := L) lay_ok Tryz.func70 rfl Tryz.ntmps70 rfl ?_
      refine goq ?_
      refine go ?_
    · refine ar_eq 5 rfl (d' := .im (.bool true)) (eqt (by rw [decide_eq_true_eq]; omega)) ?_
      refine go ?_
      refine ar_eq 9 rfl (d' := .im (.bool false)) (eqt (by rw [decide_eq_true g1, Bool.true_and, decide_eq_false_iff_not] at h'; rw [decide_eq_false_iff_not]; omega)) ?_
      refine go ?_
      by_cases g2 : c = 45
      · refine ar_eq 13 rfl (d' := .im (.bool true)) (eqt (by rw [g2]; rfl)) ?_
        refine go ?_
        refine ⟨_, rfl, ?_⟩
        rw [g2]; rfl
      · refine ar_eq 13 rfl (d' := .im (.bool false)) (eqt ((u8eq c 45).trans (beq_eq_false_iff_ne.2 g2))) ?_
        refine go ?_
        refine ⟨_, rfl, ?_⟩
        show M.bool _ = M.bool _
        rw [beq_eq_false_iff_ne.2 g2, Bool.false_or]
        congr 1
        exact u8eq c 47
    · refine ar_eq 5 rfl (d' := .im (.bool false)) (eqt (by rw [decide_eq_false_iff_not]; omega)) ?_
      refine go ?_
      by_cases g2 : c = 45
      · refine ar_eq 13 rfl (d' := .im (.bool true)) (eqt (by rw [g2]; rfl)) ?_
        refine go ?_
        refine ⟨_, rfl, ?_⟩
        rw [g2]; rfl
      · refine ar_eq 13 rfl (d' := .im (.bool false)) (eqt ((u8eq c 45).trans (beq_eq_false_iff_ne.2 g2))) ?_
        refine go ?_
        refine ⟨_, rfl, ?_⟩
        show M.bool _ = M.bool _
        rw [beq_eq_false_iff_ne.2 g2, Bool.false_or]
        congr 1
        exact u8eq c 47
theorem toks_skip {x r r' : List UInt8} {acc : List Tk} (h : skip r = skip r') : toks x r acc = toks x r' acc := by
  conv => lhs; unfold toks
  conv => rhs; unfold toks
  rw [h]
theorem skip_gap {b : UInt8} {r : List UInt8} (h : isGap b = true) : skip (b :: r) = skip r := by
  have e : (b :: r).dropWhile isGap = r.dropWhile isGap := by rw [List.dropWhile_cons, if_pos h]
  cases h' : r.dropWhile isGap with
  | nil => rw [skip_nil h', skip_nil (by rw [e, h'])]
  | cons c d =>
    by_cases hc : c = 35
    · subst hc
      rw [skip_hash h', skip_hash (by rw [e, h'])]
    · rw [skip_stop h' hc, skip_stop (by rw [e, h']) hc]
theorem skip_sharp (r : List UInt8) : skip (35 :: r) = skip (r.dropWhile notNl) := skip_hash rfl
/-- where the tokens go on -/
def goOn (rm : Bool) (r : List UInt8) : List UInt8 := if rm then r.dropWhile notNl else r
theorem suf_cut {x b dw : List UInt8} {c : UInt8} {p : UInt8 → Bool} (h : (c :: b) <:+ x) (hd : dw = (c :: b).dropWhile p) :
    (x.drop ((x.length - (c :: b).length : Nat) : Int).toNat).take (((x.length - dw.length : Nat) : Int).toNat - ((x.length - (c :: b).length : Nat) : Int).toNat) = (c :: b).takeWhile p := by
  obtain ⟨q, rfl⟩ := h
  have h1 : (c :: b).takeWhile p ++ dw = c :: b := by rw [hd]; exact List.takeWhile_append_dropWhile
  have h2 := congrArg List.length h1
  rw [List.length_append] at h2
  rw [Int.toNat_natCast, Int.toNat_natCast, List.length_append, Nat.add_sub_cancel, List.drop_left]
  have e : q.length + (c :: b).length - dw.length - q.length = ((c :: b).takeWhile p).length := by omega
  rw [e]
  have h3 := List.take_left (l₁ := (c :: b).takeWhile p) (l₂ := dw)
  rwa [h1] at h3
theorem line_drop {x r s : List UInt8} {p : UInt8 → Bool} (hr : r <:+ x) (hp : p 10 = false) (hs : s = r.dropWhile p) : lineT x s = lineT x r := by
  have h1 : r.takeWhile p ++ s = r := by rw [hs]; exact List.takeWhile_append_dropWhile
  have h2 := congrArg (List.count 10) h1
  rw [List.count_append] at h2
  have h3 : (r.takeWhile p).count 10 = 0 := by
    rw [List.count_eq_zero]
    intro hm
    have := List.all_eq_true.1 (List.all_takeWhile (p := p) (l := r)) _ hm
    rw [hp] at this
    cases this
  unfold lineT
  have := (suf_cnt hr).2
  omega
theorem line_nl {x b : List UInt8} (hr : (10 :: b) <:+ x) : lineT x b = lineT x (10 :: b) + 1 := by
  unfold lineT
  have := (suf_cnt hr).2
  rw [List.count_cons_self] at this ⊢
  omega
theorem line_ne {x b : List UInt8} {c : UInt8} (hc : c ≠ 10) : lineT x b = lineT x (c :: b) := by
  unfold lineT
  rw [List.count_cons_of_ne hc]
theorem deqi {k : IntKind} {a b : Int} (h : a = b) : D.im (.int k a) = .im (.int k b) := by rw [h]
end Go.Proofs.YtkbhchlecokpiaaGreat
