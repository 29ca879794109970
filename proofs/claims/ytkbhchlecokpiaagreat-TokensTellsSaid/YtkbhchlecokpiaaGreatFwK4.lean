/- The reader of tokens: its methods, by the logic over data. -/
import Derived.Test.YtkbhchlecokpiaaGreatFwP4c
import Derived.Test.YtkbhchlecokpiaaGreatFwCg
namespace Go.Proofs.YtkbhchlecokpiaaGreat
open Go Go.RowKit Fw Tw Rat
set_option linter.unusedVariables false
set_option linter.unusedSimpArgs false
/-- a reader's cells: the text, how far it is, the line -/
abbrev rdr (x : List UInt8) (p l : Nat) : List M := [.str x, .int .i64 (p : Nat), .int .i64 (l : Nat)]
abbrev rdD (x : List UInt8) (p l : Nat) : List D := [.im (.str x), .im (.int .i64 (p : Nat)), .im (.int .i64 (l : Nat))]
/-- a test of bytes, as a function of the program -/
def Tests (g : FuncId) (so : UInt8 → Bool) : Prop := ∀ c : UInt8, Ret Tryz.prog g [.int .u8 c.toNat] (.bool (so c))
theorem at_get {pre a : List UInt8} {c : UInt8} {b : List UInt8} : (pre ++ (a ++ c :: b))[((((pre.length + a.length : Nat)) : Int)).toNat]? = some c := by
  rw [Int.toNat_natCast, List.getElem?_append_right (by omega), Nat.add_sub_cancel_left, List.getElem?_append_right (by omega), Nat.sub_self]
  rfl
theorem tw_cons {so : UInt8 → Bool} {c : UInt8} {b : List UInt8} (h : so c = true) : (c :: b).takeWhile so = c :: b.takeWhile so := by simp [h]
theorem tw_stop {so : UInt8 → Bool} {c : UInt8} {b : List UInt8} (h : so c = false) : (c :: b).takeWhile so = [] := by simp [h]
theorem rdE {k : Nat} {t : TypeId} {x : List UInt8} {p q l m : Int} (h1 : p = q) (h2 : l = m) : O.bx k t [.im (.str x), .im (.int .i64 p), .im (.int .i64 l)] = .bx k t [.im (.str x), .im (.int .i64 q), .im (.int .i64 m)] := by rw [h1, h2]
theorem u8ne {c d : UInt8} (h : c ≠ d) : decide ((c.toNat : Int) = (d.toNat : Int)) = false := by
  rw [decide_eq_false_iff_not]
  intro e
  exact h (UInt8.toNat_inj.1 (by exact_mod_cast e))
set_option maxHeartbeats 4000000 in
theorem while_r {so : UInt8 → Bool} {g : FuncId} (hp : Plain Tryz.prog g) (hg : Tests g so) {pre r : List UInt8} {l : Nat} (hx : (pre ++ r).length ≤ maxLen) (hl : l + r.length < 9223372036854775807) :
    RetP Tryz.prog 98 127 (rdr (pre ++ r) pre.length l) [.fn g] (.str (r.takeWhile so)) (rdr (pre ++ r) (pre.length + (r.takeWhile so).length) (l + (r.takeWhile so).count 10)) := by
  have hml : maxLen = 9223372036854775807 := rfl
  rw [List.length_append] at hx
  refine retB_of (L := L) lay_ok Tryz.func98 rfl Tryz.ntmps98 rfl rfl (fun bl => ?_)
  refine goq ?_
  refine go ?_
  have hx0 : (0 : Nat) = 0 := rfl
  refine awp_loopC (A := List UInt8 × List UInt8) (B := Unit) (fun q => q.1 ++ q.2 = r ∧ r.takeWhile so = q.1 ++ q.2.takeWhile so)
    (fun q => [(0, some (.ptr 0 0)), (1, some (.im (.fn g))), (5, some (.im (.int .i64 (pre.length : Nat))))]) (fun q => [(0, some (.bx (bl 0) 127 (rdD (pre ++ r) (pre.length + q.1.length) (l + q.1.count 10))))]) (fun q => q.2.length)
    (fun _ => True) (fun _ => [(0, some (.ptr 0 0)), (1, some (.im (.fn g))), (5, some (.im (.int .i64 (pre.length : Nat))))]) (fun _ => [(0, some (.bx (bl 0) 127 (rdD (pre ++ r) (pre.length + (r.takeWhile so).length) (l + (r.takeWhile so).count 10))))]) ([], r) ⟨rfl, rfl⟩ ?_ ?_ ?_
  · exact gou0
  · rintro ⟨a, b⟩ ⟨h1, h2⟩
    change Awp _ _ _ _ [(0, some (.ptr 0 0)), (1, some (.im (.fn g))), (5, some (.im (.int .i64 (pre.length : Nat))))] [(0, some (.bx (bl 0) 127 (rdD (pre ++ r) (pre.length + a.length) (l + a.count 10))))]
    simp only [] at h1 h2
    have hlen : a.length + b.length = r.length := by rw [← h1, List.length_append]
    have hcnt : a.count 10 ≤ a.length := List.count_le_length
    rcases b with _ | ⟨c, b⟩
    · have hs : r.takeWhile so = a := by rw [h2]; simp
      rw [hs]
      have hb0 : a.length = r.length := by simpa using hlen
      refine go ?_
      refine ar_eq 20 rfl (d' := .im (.bool false)) (eqt (by rw [decide_eq_false_iff_not, List.length_append]; omega)) ?_
      refine go ?_
      refine .inl ⟨rfl, (), trivial, ?_⟩
      exact gou0
    · simp only [List.length_cons] at hlen
      have hget : (pre ++ r)[((((pre.length + a.length : Nat)) : Int)).toNat]? = some c := by rw [← h1]; exact at_get
      refine go ?_
      refine ar_eq 20 rfl (d' := .im (.bool true)) (eqt (by rw [decide_eq_true_eq, List.length_append]; omega)) ?_
      refine go ?_
      refine ar_indexStr (c := c) (wantF_ok rfl) rfl rfl rfl rfl rfl (by omega) hget ?_
      refine go ?_
      refine cl (by exact rfl) hp rfl (hg c) ?_
      refine go ?_
      by_cases hc : so c = true
      · refine awp_cT rfl hc ?_
        refine go ?_
        refine ar_indexStr (c := c) (wantF_ok rfl) rfl rfl rfl rfl rfl (by omega) hget ?_
        refine go ?_
        refine awp_cutS (A := Unit) (fun _ => True) (fun _ => [(0, some (.ptr 0 0)), (1, some (.im (.fn g))), (5, some (.im (.int .i64 (pre.length : Nat))))]) (fun _ => [(0, some (.bx (bl 0) 127 (rdD (pre ++ r) (pre.length + a.length) (l + (a ++ [c]).count 10))))]) ?_ ?_
        · by_cases h10 : c = 10
          · refine awp_cT rfl (by subst h10; rfl) ?_
            refine go ?_
            refine .inl ⟨rfl, (), trivial, ?_⟩
            refine sub_he rfl ?_ (rdE rfl (by rw [List.count_append, h10]; rfl))
            exact gou0
          · refine awp_cF rfl (by have := u8ne h10; exact this) ?_
            refine go ?_
            refine .inl ⟨rfl, (), trivial, ?_⟩
            refine sub_he rfl ?_ (rdE rfl (by rw [List.count_append, List.count_eq_zero_of_not_mem (a := (10 : UInt8)) (l := [c]) (by simpa using fun h => h10 h.symm)]; rfl))
            exact gou0
        rintro _ -
        refine go ?_
        refine ⟨(a ++ [c], b), ⟨by rw [← h1]; simp, by rw [h2, tw_cons hc]; simp⟩, ?_, by simp⟩
        refine sub_he rfl ?_ (rdE (by rw [List.length_append]; rfl) rfl)
        exact gou0
      · have hc' : so c = false := by simpa using hc
        have hs : r.takeWhile so = a := by rw [h2, tw_stop hc', List.append_nil]
        rw [hs]
        refine awp_cF rfl hc' ?_
        refine go ?_
        refine .inl ⟨rfl, (), trivial, ?_⟩
        exact gou0
  rintro _ -
  refine awp_seq ?_
  have hpre := List.takeWhile_prefix so (l := r)
  have hle := hpre.length_le
  refine go ?_
  refine ar_sliceStr (s' := r.takeWhile so) (wantF_ok rfl) rfl rfl rfl rfl rfl rfl ⟨by omega, by omega, by rw [List.length_append]; omega⟩ (by rw [Int.toNat_natCast, Int.toNat_natCast, List.drop_left, Nat.add_sub_cancel_left]; exact (List.prefix_iff_eq_take.1 hpre).symm) ?_
  refine go ?_
  exact ⟨⟨_, rfl, rfl⟩, ⟨_, rfl, rfl⟩, trivial⟩
/-! ### tests of bytes -/
def isLet (c : UInt8) : Bool := decide (97 ≤ c.toNat) && decide (c.toNat ≤ 122)
def isNum (c : UInt8) : Bool := isDig c || c == 45 || c == 47
def isGap (c : UInt8) : Bool := c == 32 || c == 9 || c == 13 || c == 10
def notNl (c : UInt8) : Bool := !(c == 10)
theorem letter_r : Tests 101 isLet := by
  intro c
  refine ret_of (L := L) lay_ok Tryz.func101 rfl Tryz.ntmps101 rfl ?_
  refine goq ?_
  by_cases h : 97 ≤ c.toNat
  · refine go ?_
    refine ar_eq 5 rfl (d' := .im (.bool true)) (eqt (by rw [decide_eq_true_eq]; omega)) ?_
    refine go ?_
    refine ⟨_, rfl, ?_⟩
    show M.bool _ = M.bool _
    congr 1
    unfold isLet
    rw [decide_eq_true h, Bool.true_and]
    exact decide_eq_decide.2 (by omega)
  · refine go ?_
    refine ar_eq 5 rfl (d' := .im (.bool false)) (eqt (by rw [decide_eq_false_iff_not]; omega)) ?_
    refine go ?_
    refine ⟨_, rfl, ?_⟩
    show M.bool _ = M.bool _
    congr 1
    unfold isLet
    rw [decide_eq_false h, Bool.false_and]
theorem digit_r : Tests 102 isDig := by
  intro c
  refine ret_of (L := L) lay_ok Tryz.func102 rfl Tryz.ntmps102 rfl ?_
  refine goq ?_
  by_cases h : 48 ≤ c.toNat
  · refine go ?_
    refine ar_eq 5 rfl (d' := .im (.bool true)) (eqt (by rw [decide_eq_true_eq]; omega)) ?_
    refine go ?_
    refine ⟨_, rfl, ?_⟩
    show M.bool _ = M.bool _
    congr 1
    unfold isDig
    rw [decide_eq_true h, Bool.true_and]
    exact decide_eq_decide.2 (by omega)
  · refine go ?_
    refine ar_eq 5 rfl (d' := .im (.bool false)) (eqt (by rw [decide_eq_false_iff_not]; omega)) ?_
    refine go ?_
    refine ⟨_, rfl, ?_⟩
    show M.bool _ = M.bool _
    congr 1
    unfold isDig
    rw [decide_eq_false h, Bool.false_and]
theorem num_r : Tests 104 isNum := by
  intro c
  refine ret_of (L := L) lay_ok Tryz.func104 rfl Tryz.ntmps104 rfl ?_
  refine goq ?_
  refine go ?_
  refine cl (by exact rfl) plain102 rfl (digit_r c) ?_
  by_cases h : isDig c = true
  · refine go ?_
    refine ar_eq 5 rfl (d' := .im (.bool true)) (eqt h) ?_
    refine go ?_
    refine ⟨_, rfl, ?_⟩
    show M.bool _ = M.bool _
    congr 1
    unfold isNum
    rw [h]; rfl
  · have h' : isDig c = false := by simpa using h
    refine go ?_
    refine ar_eq 5 rfl (d' := .im (.bool false)) (eqt h') ?_
    by_cases h1 : c = 45
    · refine go ?_
      refine ar_eq 9 rfl (d' := .im (.bool true)) (eqt (by subst h1; rfl)) ?_
      refine go ?_
      refine ⟨_, rfl, ?_⟩
      show M.bool _ = M.bool _
      congr 1
      unfold isNum
      rw [h', h1]; rfl
    · refine go ?_
      refine ar_eq 9 rfl (d' := .im (.bool false)) (eqt (u8ne h1)) ?_
      refine go ?_
      refine ⟨_, rfl, ?_⟩
      show M.bool _ = M.bool _
      congr 1
      unfold isNum
      rw [h', Bool.false_or, beq_eq_false_iff_ne.2 h1, Bool.false_or]
      exact u8eq c 47
theorem nl_r : Tests 100 notNl := by
  intro c
  refine ret_of (L := L) lay_ok Tryz.func100 rfl Tryz.ntmps100 rfl ?_
  refine goq ?_
  refine go ?_
  refine ⟨_, rfl, ?_⟩
  show M.bool _ = M.bool _
  congr 1
  unfold notNl
  by_cases h1 : c = 10
  · subst h1; rfl
  · rw [beq_eq_false_iff_ne.2 h1]
    have := u8ne h1
    simpa using this
theorem gap_r : Tests 99 isGap := by
  intro c
  refine ret_of (L := L) lay_ok Tryz.func99 rfl Tryz.ntmps99 rfl ?_
  refine goq ?_
  by_cases h1 : c = 32
  · refine go ?_
    refine ar_eq 5 rfl (d' := .im (.bool true)) (eqt (by subst h1; rfl)) ?_
    refine go ?_
    refine ⟨_, rfl, ?_⟩
    subst h1; rfl
  · refine go ?_
    refine ar_eq 5 rfl (d' := .im (.bool false)) (eqt (u8ne h1)) ?_
    by_cases h2 : c = 9
    · refine go ?_
      refine ar_eq 9 rfl (d' := .im (.bool true)) (eqt (by subst h2; rfl)) ?_
      refine go ?_
      refine ⟨_, rfl, ?_⟩
      subst h2; rfl
    · refine go ?_
      refine ar_eq 9 rfl (d' := .im (.bool false)) (eqt (u8ne h2)) ?_
      by_cases h3 : c = 13
      · refine go ?_
        refine ar_eq 13 rfl (d' := .im (.bool true)) (eqt (by subst h3; rfl)) ?_
        refine go ?_
        refine ⟨_, rfl, ?_⟩
        subst h3; rfl
      · refine go ?_
        refine ar_eq 13 rfl (d' := .im (.bool false)) (eqt (u8ne h3)) ?_
        refine go ?_
        refine ⟨_, rfl, ?_⟩
        show M.bool _ = M.bool _
        congr 1
        unfold isGap
        rw [beq_eq_false_iff_ne.2 h1, beq_eq_false_iff_ne.2 h2, beq_eq_false_iff_ne.2 h3]
        exact u8eq c 10
end Go.Proofs.YtkbhchlecokpiaaGreat
