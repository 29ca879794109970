/- The tokens of two texts, one behind the other: the walk. -/
import Derived.Test.YtkbhchlecokpiaaFwK7
import Derived.Test.YtkbhchlecokpiaaFwK8
import Derived.Test.YtkbhchlecokpiaaShelfS
namespace Go.Proofs.Ytkbhchlecokpiaa
open Go Go.RowKit Fw Tw Rat
set_option linter.unusedVariables false
set_option linter.unusedSimpArgs false
theorem count_r {s : List UInt8} {c : UInt8} : Ret Try.prog 35 [.str s, .str [c]] (.int .i64 (s.count c : Nat)) := by
  intro ok w vs h
  obtain ⟨v, v', rfl, h1, h2⟩ := rmt2 h
  simp only [RM] at h1 h2
  rw [h1, h2]
  refine (Try.strings_Count_one ⟨s.toArray⟩ c w).mono ?_
  rintro e w' ⟨rfl, rfl⟩
  exact ⟨_, rfl, by simp only [RM]; rfl, Below.refl _ _⟩
theorem nofault {e : Int} {n : Nat} (h : e ≠ 0) : (!([e, ((n : Nat) : Int)] == [0, 0])) = true := by
  simp [h]
theorem samefault (e n : Int) : ([e, n] == [e, n]) = true := beq_self_eq_true _
set_option maxRecDepth 100000 in
set_option maxHeartbeats 16000000 in
theorem tboth_r {x y : List UInt8} (hx : x.length ≤ maxLen) (hy : y.length ≤ maxLen) : Ret Try.prog 8 [.str x, .str y] (.bool true) := by
  have hml : maxLen = 9223372036854775807 := rfl
  by_cases c1 : 2000 < x.length
  case pos =>
    refine ret_of (L := L) lay_ok Try.func8 rfl Try.ntmps8 rfl ?_
    refine goq ?_
    refine go ?_
    refine ar_eq 18 rfl (d' := .im (.bool true)) (eqt (by rw [decide_eq_true_eq]; omega)) ?_
    refine go ?_
    refine cl (by exact rfl) plain33 rfl awake9_r ?_
    refine go ?_
    refine ⟨_, rfl, ?_⟩
    rfl
  by_cases c2 : 2000 < y.length
  case pos =>
    refine ret_of (L := L) lay_ok Try.func8 rfl Try.ntmps8 rfl ?_
    refine goq ?_
    refine go ?_
    refine ar_eq 18 rfl (d' := .im (.bool false)) (eqt (by rw [decide_eq_false_iff_not]; omega)) ?_
    refine go ?_
    refine awp_cT rfl (by rw [decide_eq_true_eq]; omega) ?_
    refine go ?_
    refine cl (by exact rfl) plain33 rfl awake9_r ?_
    refine go ?_
    refine ⟨_, rfl, ?_⟩
    rfl
  have tx := tokens_r hx
  have ty := tokens_r hy
  have hz : (x ++ 10 :: y).length ≤ maxLen := by rw [List.length_append, List.length_cons]; omega
  have tz := tokens_r hz
  have hb := tokens_both (x := x) (y := y) (by omega) (by omega)
  have hc := count_r (s := x) (c := 10)
  have hcl : x.count 10 ≤ x.length := List.count_le_length
  have hcy : y.count 10 ≤ y.length := List.count_le_length
  rw [hb] at tz
  have ez : (x ++ [10]) ++ y = x ++ 10 :: y := by simp
  have fx := @tokens_fault x
  have fy := @tokens_fault y
  have sx := @tokens_sq x
  have sy := @tokens_sq y
  have sz := @tokens_sq (x ++ 10 :: y)
  rw [hb] at sz
  generalize tokensT x = px at *
  generalize tokensT y = py at *
  refine ret_of (L := L) lay_ok Try.func8 rfl Try.ntmps8 rfl ?_
  refine goq ?_
  refine go ?_
  refine ar_eq 18 rfl (d' := .im (.bool false)) (eqt (by rw [decide_eq_false_iff_not]; omega)) ?_
  refine go ?_
  refine awp_cF rfl (by rw [decide_eq_false_iff_not]; omega) ?_
  refine go ?_
  refine cl (by exact rfl) plain34 rfl tx ?_
  refine go ?_
  rcases px with l | ⟨e1, n1⟩
  case inr =>
    have he := (fx rfl).1
    refine go ?_
    refine cl (by exact rfl) plain34 rfl ty ?_
    rcases py with m | ⟨e2, n2⟩
    all_goals
      refine go ?_
      refine ar_addStr (wantF_ok rfl) rfl rfl rfl (by simp only [List.length_cons, List.length_nil]; omega) ?_
      refine go ?_
      refine ar_addStr (wantF_ok rfl) rfl rfl rfl (by simp only [List.length_append, List.length_cons, List.length_nil]; omega) ?_
      rw [ez]
      refine cl (by exact rfl) plain34 rfl tz ?_
      refine go ?_
      refine ar_neI fault_s [e1, (n1 : Nat)] [0, 0] rfl rfl rfl rfl rfl rfl ?_
      refine go ?_
      refine awp_cT rfl (nofault he) ?_
      refine go ?_
      refine ar_eqI fault_s [e1, (n1 : Nat)] [e1, (n1 : Nat)] rfl rfl rfl rfl rfl rfl ?_
      refine go ?_
      refine ar_eq 48 rfl (d' := .im (.bool true)) (eqt (samefault _ _)) ?_
      refine go ?_
      refine cl (by exact rfl) plain33 rfl awake9_r ?_
      refine go ?_
      refine ⟨_, rfl, ?_⟩
      rfl
  have hl := (sx rfl).2
  refine go ?_
  refine cl (by exact rfl) plain34 rfl ty ?_
  rcases py with m | ⟨e2, n2⟩
  case inr =>
    have he := fy rfl
    refine go ?_
    refine ar_addStr (wantF_ok rfl) rfl rfl rfl (by simp only [List.length_cons, List.length_nil]; omega) ?_
    refine go ?_
    refine ar_addStr (wantF_ok rfl) rfl rfl rfl (by simp only [List.length_append, List.length_cons, List.length_nil]; omega) ?_
    rw [ez]
    refine cl (by exact rfl) plain34 rfl tz ?_
    refine go ?_
    refine ar_neI fault_s [0, 0] [0, 0] rfl rfl rfl rfl rfl rfl ?_
    refine go ?_
    refine awp_cF rfl (by rw [beq_eq_false_iff_ne]; omega) ?_
    refine go ?_
    refine cl (by exact rfl) plain35 rfl hc ?_
    refine go ?_
    refine ar_neI fault_s [e2, (n2 : Nat)] [0, 0] rfl rfl rfl rfl rfl rfl ?_
    refine go ?_
    refine awp_cT rfl (nofault he.1) ?_
    have hn2 := he.2
    refine go ?_
    refine ar_eqI fault_s [e2, ((n2 + (x.count 10 + 1) : Nat) : Int)] [e2, (n2 : Int) + ((x.count 10 : Int) + 1)] rfl rfl rfl rfl rfl rfl ?_
    refine go ?_
    refine ar_eq 74 rfl (d' := .im (.bool true)) (eqt (by rw [beq_iff_eq]; simp only [Int.natCast_add, Int.natCast_one])) ?_
    refine go ?_
    refine cl (by exact rfl) plain33 rfl awake9_r ?_
    refine go ?_
    refine ⟨_, rfl, ?_⟩
    rfl
  have hm := (sy rfl)
  have hzz := sz rfl
  have hsame := sameTk_r (l := l.dropLast ++ m.map (Tk.down (x.count 10 + 1))) (by omega) fun t ht => (hzz.1 t ht).1
  have hdl : l.dropLast.length = l.length - 1 := List.length_dropLast
  refine go ?_
  refine ar_addStr (wantF_ok rfl) rfl rfl rfl (by simp only [List.length_cons, List.length_nil]; omega) ?_
  refine go ?_
  refine ar_addStr (wantF_ok rfl) rfl rfl rfl (by simp only [List.length_append, List.length_cons, List.length_nil]; omega) ?_
  rw [ez]
  refine cl (by exact rfl) plain34 rfl tz ?_
  refine go ?_
  refine ar_neI fault_s [0, 0] [0, 0] rfl rfl rfl rfl rfl rfl ?_
  refine go ?_
  refine awp_cF rfl (by rw [beq_eq_false_iff_ne]; omega) ?_
  refine go ?_
  refine cl (by exact rfl) plain35 rfl hc ?_
  refine go ?_
  refine ar_neI fault_s [0, 0] [0, 0] rfl rfl rfl rfl rfl rfl ?_
  refine go ?_
  refine ar_takeS (enc := tkC) (l := l) (l' := l.dropLast) (l.length - 1) rfl rfl rfl rfl rfl rfl rfl tkC_len (by omega) (by omega) (by rw [List.dropLast_eq_take]) ?_
  refine ar_appS (enc := tkC) (l := []) (l' := l.dropLast) (m := l.dropLast) rfl rfl rfl rfl rfl tkC_len rfl rfl rfl rfl rfl rfl rfl (by show l.dropLast.length * 96 ≤ _; omega) (by omega) rfl ?_
  refine go ?_
  refine awp_renRow (id := 88) (id' := 107) (k := 12) rfl rfl rfl rfl ?_
  refine awp_loopC (A := Nat × List Tk) (B := Unit) (fun q => q.1 ≤ m.length ∧ q.2 = l.dropLast ++ (m.take q.1).map (Tk.down (x.count 10 + 1)))
    (fun q => [(13, some (.im (.int .i64 (q.1 : Nat)))), (7, some (.im (mS tkC m))), (9, some (.im (mS tkC (l.dropLast ++ m.map (Tk.down (x.count 10 + 1)))))), (10, some (.ptr 10 0)), (11, some (.im (.int .i64 ((x.count 10 : Int) + 1)))), (12, some (.row 107 q.2.length 7))])
    (fun q => [(107, some (.rw 85 7 (q.2.flatMap tkC))), (10, some (.box 79 [.im (.int .i64 0), .im (.int .i64 0)]))]) (fun q => m.length - q.1)
    (fun _ => True) (fun _ => [(9, some (.im (mS tkC (l.dropLast ++ m.map (Tk.down (x.count 10 + 1)))))), (10, some (.ptr 10 0)), (12, some (.im (mS tkC (l.dropLast ++ m.map (Tk.down (x.count 10 + 1))))))]) (fun _ => [(10, some (.box 79 [.im (.int .i64 0), .im (.int .i64 0)]))]) (0, l.dropLast) ⟨by omega, by simp⟩ ?_ ?_ ?_
  · exact gou0
  · rintro ⟨i, acc⟩ ⟨hi, ha⟩
    simp only [] at hi ha
    change Awp _ _ _ _ [(13, some (.im (.int .i64 (i : Nat)))), (7, some (.im (mS tkC m))), (9, some (.im (mS tkC (l.dropLast ++ m.map (Tk.down (x.count 10 + 1)))))), (10, some (.ptr 10 0)), (11, some (.im (.int .i64 ((x.count 10 : Int) + 1)))), (12, some (.row 107 acc.length 7))] [(107, some (.rw 85 7 (acc.flatMap tkC))), (10, some (.box 79 [.im (.int .i64 0), .im (.int .i64 0)]))]
    by_cases hlt : i < m.length
    · obtain ⟨tk, htk⟩ : ∃ tk, m[i]? = some tk := ⟨m[i], List.getElem?_eq_getElem hlt⟩
      have htl := (hm.1 tk (List.mem_of_getElem? htk)).2
      have hal : acc.length ≤ 600000 := by rw [ha, List.length_append, List.length_map, List.length_take]; omega
      have hnext : acc ++ [Tk.down (x.count 10 + 1) tk] = l.dropLast ++ (m.take (i + 1)).map (Tk.down (x.count 10 + 1)) := by
        rw [ha, List.take_add_one, htk, List.map_append, ← List.append_assoc]
        rfl
      refine awp_renRow (id := 107) (id' := 1107) (k := 12) rfl rfl rfl rfl ?_
      refine awp_sub (t' := [(13, some (.im (.int .i64 (i : Nat)))), (7, some (.im (mS tkC m))), (9, some (.im (mS tkC (l.dropLast ++ m.map (Tk.down (x.count 10 + 1)))))), (10, some (.ptr 10 0)), (11, some (.im (.int .i64 ((x.count 10 : Int) + 1)))), (12, some (.row 1107 acc.length 7))]) (h' := [(1107, some (.rw 85 7 (acc.flatMap tkC))), (10, some (.box 79 [.im (.int .i64 0), .im (.int .i64 0)]))]) ?_ ?_
      · exact gou0
      obtain ⟨k, s, q, ln⟩ := tk
      dsimp only at htl
      unfold Tk.down at hnext
      dsimp only at hnext
      have hwr : IntKind.i64.wrap ((ln : Int) + ((x.count 10 : Int) + 1)) = (ln : Int) + ((x.count 10 : Int) + 1) := by rw [IntKind.wrap_i64]; omega
      rcases q with _ | q
      all_goals
        refine go ?_
        refine awp_cT rfl (by rw [decide_eq_true_eq]; omega) ?_
        refine go ?_
        first
          | refine ar_atE (enc := tkC) i ⟨k, s, none, ln⟩ htk rfl rfl rfl rfl rfl tkC_len rfl rfl ?_
          | refine ar_atE (enc := tkC) i ⟨k, s, some q, ln⟩ htk rfl rfl rfl rfl rfl tkC_len rfl rfl ?_
        refine go ?_
        first
          | refine ar_app1 (enc := tkC) (l := acc) (a := ⟨k, s, none, ln + (x.count 10 + 1)⟩) rfl rfl rfl rfl rfl rfl (by simp only [tkC, hwr, Int.natCast_add, Int.natCast_one]) tkC_len rfl rfl rfl rfl rfl rfl hnext (by rw [← hnext, List.length_append]; show (acc.length + 1) * 96 ≤ _; omega) (by rw [← hnext, List.length_append]; show acc.length + 1 ≤ _; omega) rfl ?_
          | refine ar_app1 (enc := tkC) (l := acc) (a := ⟨k, s, some q, ln + (x.count 10 + 1)⟩) rfl rfl rfl rfl rfl rfl (by simp only [tkC, hwr, Int.natCast_add, Int.natCast_one]) tkC_len rfl rfl rfl rfl rfl rfl hnext (by rw [← hnext, List.length_append]; show (acc.length + 1) * 96 ≤ _; omega) (by rw [← hnext, List.length_append]; show acc.length + 1 ≤ _; omega) rfl ?_
        refine go ?_
        refine ⟨(i + 1, l.dropLast ++ (m.take (i + 1)).map (Tk.down (x.count 10 + 1))), ⟨by show i + 1 ≤ _; omega, rfl⟩, ?_, by show m.length - (i + 1) < m.length - i; omega⟩
        exact gou0
    · have hie : i = m.length := by omega
      subst hie
      rw [List.take_length] at ha
      subst ha
      refine go ?_
      refine awp_cF rfl (by rw [decide_eq_false_iff_not]; omega) ?_
      refine awp_frzRow (id := 107) (k := 12) rfl rfl (by rw [flatMap_len tkC_len]; exact Nat.le_refl _) (List.take_of_length_le (by rw [flatMap_len tkC_len]; exact Nat.le_refl _)) ?_
      refine go ?_
      refine .inl ⟨rfl, (), trivial, ?_⟩
      exact gou0
  rintro _ -
  refine go ?_
  refine ar_eqI fault_s [0, 0] [0, 0] rfl rfl rfl rfl rfl rfl ?_
  refine go ?_
  refine cl (by exact rfl) plain36 rfl hsame ?_
  refine go ?_
  refine cl (by exact rfl) plain33 rfl awake9_r ?_
  refine go ?_
  refine ⟨_, rfl, ?_⟩
  rfl
end Go.Proofs.Ytkbhchlecokpiaa
