/- What is looked at: networks and queries of short lists; lists that are the same. Printed by gen/gen_h7.py. -/
import Derived.Test.YtkbhchlecokpiaaFwH6
import Derived.Test.YtkbhchlecokpiaaFwL4
namespace Go.Proofs.Ytkbhchlecokpiaa
open Go Go.RowKit Fw Tw Rat
set_option linter.unusedVariables false
set_option linter.unusedSimpArgs false
def shortQ (d : Int) (r : RQ) : Bool := decide ((r.l1.length : Int) ≤ d) && decide ((r.l2.length : Int) ≤ d)
theorem shortQ_r {r : RQ} {d : Int} : Ret Try.prog 67 [.agg (rqC r), .int .i64 d] (.bool (shortQ d r)) := shortRat_r
def shortRs (c d : Int) (l : List RQ) : Bool := decide ((l.length : Int) ≤ c) && l.all (shortQ d)
def shortV (c d : Int) (v : List Tm) : Bool := decide ((v.length : Int) ≤ c) && v.all (fun t => shortQ d t.x)
def shortVs (c c2 d : Int) (l : List (List Tm)) : Bool := decide ((l.length : Int) ≤ c) && l.all (shortV c2 d)
theorem take_all7 {α : Type} {p : α → Bool} {l : List α} {i : Nat} {a : α} (h : (l.take i).all p = true) (ha : l[i]? = some a) (hp : p a = true) : (l.take (i + 1)).all p = true := by
  rw [List.take_add_one, ha, List.all_append, h]
  simp [hp]
theorem not_all {α : Type} {p : α → Bool} {l : List α} {i : Nat} {a : α} (ha : l[i]? = some a) (hp : p a = false) : l.all p = false := by
  rw [List.all_eq_false]
  exact ⟨a, List.mem_of_getElem? ha, by rw [hp]; decide⟩
set_option maxHeartbeats 4000000 in
theorem shortRs_r {l : List (RQ)} {c d : Int} (hc : c ≤ 1000000) : Ret Try.prog 58 [mS rqC l, .int .i64 c, .int .i64 d] (.bool (decide ((l.length : Int) ≤ c) && l.all (shortQ d))) := by
  by_cases c1 : (l.length : Int) > c
  · rw [decide_eq_false (show ¬ (l.length : Int) ≤ c by omega), Bool.false_and]
    refine ret_of (L := L) lay_ok Try.func58 rfl Try.ntmps58 rfl ?_
    refine goq ?_
    refine go ?_
    refine awp_cT rfl (decide_eq_true c1) ?_
    refine go ?_
    refine ⟨_, rfl, ?_⟩
    rfl
  rw [decide_eq_true (show (l.length : Int) ≤ c by omega), Bool.true_and]
  generalize hr : l.all (shortQ d) = r
  refine ret_of (L := L) lay_ok Try.func58 rfl Try.ntmps58 rfl ?_
  refine goq ?_
  refine go ?_
  refine awp_cF rfl (decide_eq_false c1) ?_
  refine go ?_
  refine awp_loopC (A := Nat) (B := Unit) (fun i => i ≤ l.length ∧ (l.take i).all (shortQ d) = true)
    (fun i => [(7, some (.im (.int .i64 (i : Nat)))), (0, some (.im (mS rqC l))), (2, some (.im (.int .i64 d)))]) (fun i => []) (fun i => l.length - i)
    (fun _ => r = true) (fun _ => []) (fun _ => []) 0 ⟨Nat.zero_le _, rfl⟩ ?_ ?_ ?_
  · exact gou0
  · rintro i ⟨h1, h2⟩
    by_cases hlt : i < l.length
    · obtain ⟨a, ha⟩ : ∃ a, l[i]? = some a := ⟨l[i], List.getElem?_eq_getElem hlt⟩
      have hcall := shortQ_r (r := a) (d := d)
      refine go ?_
      refine awp_cT rfl (by rw [decide_eq_true_eq]; omega) ?_
      refine go ?_
      refine ar_atE (enc := rqC) i a ha rfl rfl rfl rfl rfl (fun _ => rfl) rfl rfl ?_
      refine go ?_
      refine cl (by exact rfl) plain67 rfl hcall ?_
      refine go ?_
      by_cases hp : shortQ d a = true
      · refine awp_cF rfl (by show (!(shortQ d a)) = false; rw [hp]; rfl) ?_
        refine go ?_
        refine ⟨i + 1, ⟨by omega, take_all7 h2 ha hp⟩, ?_, by omega⟩
        exact gou0
      · have hp' := (Bool.not_eq_true _).mp hp
        refine awp_cT rfl (by show (!(shortQ d a)) = true; rw [hp']; rfl) ?_
        refine go ?_
        refine .inr ⟨_, rfl, ?_⟩
        rw [← hr, not_all (p := shortQ d) ha hp']; rfl
    · have e : i = l.length := by omega
      subst e
      refine go ?_
      refine awp_cF rfl (by rw [decide_eq_false_iff_not]; omega) ?_
      refine go ?_
      refine .inl ⟨rfl, (), ?_, ?_⟩
      · rw [← hr, ← h2, List.take_length]
      · exact gou0
  rintro _ h
  rw [h]
  refine go ?_
  exact ⟨_, rfl, rfl⟩
set_option maxHeartbeats 4000000 in
theorem shortV_r {l : List (Tm)} {c d : Int} (hc : c ≤ 1000000) : Ret Try.prog 88 [mS tmC l, .int .i64 c, .int .i64 d] (.bool (decide ((l.length : Int) ≤ c) && l.all (fun t => shortQ d t.x))) := by
  by_cases c1 : (l.length : Int) > c
  · rw [decide_eq_false (show ¬ (l.length : Int) ≤ c by omega), Bool.false_and]
    refine ret_of (L := L) lay_ok Try.func88 rfl Try.ntmps88 rfl ?_
    refine goq ?_
    refine go ?_
    refine awp_cT rfl (decide_eq_true c1) ?_
    refine go ?_
    refine ⟨_, rfl, ?_⟩
    rfl
  rw [decide_eq_true (show (l.length : Int) ≤ c by omega), Bool.true_and]
  generalize hr : l.all (fun t => shortQ d t.x) = r
  refine ret_of (L := L) lay_ok Try.func88 rfl Try.ntmps88 rfl ?_
  refine goq ?_
  refine go ?_
  refine awp_cF rfl (decide_eq_false c1) ?_
  refine go ?_
  refine awp_loopC (A := Nat) (B := Unit) (fun i => i ≤ l.length ∧ (l.take i).all (fun t => shortQ d t.x) = true)
    (fun i => [(7, some (.im (.int .i64 (i : Nat)))), (0, some (.im (mS tmC l))), (2, some (.im (.int .i64 d)))]) (fun i => []) (fun i => l.length - i)
    (fun _ => r = true) (fun _ => []) (fun _ => []) 0 ⟨Nat.zero_le _, rfl⟩ ?_ ?_ ?_
  · exact gou0
  · rintro i ⟨h1, h2⟩
    by_cases hlt : i < l.length
    · obtain ⟨a, ha⟩ : ∃ a, l[i]? = some a := ⟨l[i], List.getElem?_eq_getElem hlt⟩
      have hcall := shortQ_r (r := a.x) (d := d)
      refine go ?_
      refine awp_cT rfl (by rw [decide_eq_true_eq]; omega) ?_
      refine go ?_
      refine ar_atE (enc := tmC) i a ha rfl rfl rfl rfl rfl (fun _ => rfl) rfl rfl ?_
      refine go ?_
      refine cl (by exact rfl) plain67 rfl hcall ?_
      refine go ?_
      by_cases hp : shortQ d a.x = true
      · refine awp_cF rfl (by show (!(shortQ d a.x)) = false; rw [hp]; rfl) ?_
        refine go ?_
        refine ⟨i + 1, ⟨by omega, take_all7 h2 ha hp⟩, ?_, by omega⟩
        exact gou0
      · have hp' := (Bool.not_eq_true _).mp hp
        refine awp_cT rfl (by show (!(shortQ d a.x)) = true; rw [hp']; rfl) ?_
        refine go ?_
        refine .inr ⟨_, rfl, ?_⟩
        rw [← hr, not_all (p := fun t => shortQ d t.x) ha hp']; rfl
    · have e : i = l.length := by omega
      subst e
      refine go ?_
      refine awp_cF rfl (by rw [decide_eq_false_iff_not]; omega) ?_
      refine go ?_
      refine .inl ⟨rfl, (), ?_, ?_⟩
      · rw [← hr, ← h2, List.take_length]
      · exact gou0
  rintro _ h
  rw [h]
  refine go ?_
  exact ⟨_, rfl, rfl⟩
set_option maxHeartbeats 4000000 in
theorem shortVs_r {l : List (List Tm)} {c c2 d : Int} (hc : c ≤ 1000000) (hc2 : c2 ≤ 1000000) : Ret Try.prog 57 [mS vcC l, .int .i64 c, .int .i64 c2, .int .i64 d] (.bool (decide ((l.length : Int) ≤ c) && l.all (shortV c2 d))) := by
  by_cases c1 : (l.length : Int) > c
  · rw [decide_eq_false (show ¬ (l.length : Int) ≤ c by omega), Bool.false_and]
    refine ret_of (L := L) lay_ok Try.func57 rfl Try.ntmps57 rfl ?_
    refine goq ?_
    refine go ?_
    refine awp_cT rfl (decide_eq_true c1) ?_
    refine go ?_
    refine ⟨_, rfl, ?_⟩
    rfl
  rw [decide_eq_true (show (l.length : Int) ≤ c by omega), Bool.true_and]
  generalize hr : l.all (shortV c2 d) = r
  refine ret_of (L := L) lay_ok Try.func57 rfl Try.ntmps57 rfl ?_
  refine goq ?_
  refine go ?_
  refine awp_cF rfl (decide_eq_false c1) ?_
  refine go ?_
  refine awp_loopC (A := Nat) (B := Unit) (fun i => i ≤ l.length ∧ (l.take i).all (shortV c2 d) = true)
    (fun i => [(9, some (.im (.int .i64 (i : Nat)))), (0, some (.im (mS vcC l))), (2, some (.im (.int .i64 c2))), (3, some (.im (.int .i64 d)))]) (fun i => []) (fun i => l.length - i)
    (fun _ => r = true) (fun _ => []) (fun _ => []) 0 ⟨Nat.zero_le _, rfl⟩ ?_ ?_ ?_
  · exact gou0
  · rintro i ⟨h1, h2⟩
    by_cases hlt : i < l.length
    · obtain ⟨a, ha⟩ : ∃ a, l[i]? = some a := ⟨l[i], List.getElem?_eq_getElem hlt⟩
      have hcall := shortV_r (l := a) (c := c2) (d := d) hc2
      refine go ?_
      refine awp_cT rfl (by rw [decide_eq_true_eq]; omega) ?_
      refine go ?_
      refine ar_atE (enc := vcC) i a ha rfl rfl rfl rfl rfl (fun _ => rfl) rfl rfl ?_
      refine go ?_
      refine cl (by exact rfl) plain88 rfl hcall ?_
      refine go ?_
      by_cases hp : shortV c2 d a = true
      · refine awp_cF rfl (by show (!(shortV c2 d a)) = false; rw [hp]; rfl) ?_
        refine go ?_
        refine ⟨i + 1, ⟨by omega, take_all7 h2 ha hp⟩, ?_, by omega⟩
        exact gou0
      · have hp' := (Bool.not_eq_true _).mp hp
        refine awp_cT rfl (by show (!(shortV c2 d a)) = true; rw [hp']; rfl) ?_
        refine go ?_
        refine .inr ⟨_, rfl, ?_⟩
        rw [← hr, not_all (p := shortV c2 d) ha hp']; rfl
    · have e : i = l.length := by omega
      subst e
      refine go ?_
      refine awp_cF rfl (by rw [decide_eq_false_iff_not]; omega) ?_
      refine go ?_
      refine .inl ⟨rfl, (), ?_, ?_⟩
      · rw [← hr, ← h2, List.take_length]
      · exact gou0
  rintro _ h
  rw [h]
  refine go ?_
  exact ⟨_, rfl, rfl⟩
def smallL (u d : Int) (l : Ly) : Bool := shortVs u u d l.rows && shortRs u d l.bias && shortRs (4 * u) d l.ker && decide ((l.grp.length : Int) ≤ u) && decide (l.out ≤ u) && decide (l.ch ≤ u) && decide (l.high ≤ u) && decide (l.wide ≤ u) && l.grp.all (fun g => decide ((g.length : Int) ≤ u))
def smallN (n : Nt) (la u d : Int) : Bool := decide ((n.lay.length : Int) ≤ la) && n.lay.all (smallL u d)
set_option maxHeartbeats 16000000 in
set_option maxRecDepth 100000 in
theorem smallN_r {n : Nt} {la u d : Int} (h1 : la ≤ 1000000) (hu : u ≤ 200000) (hu0 : 0 ≤ u) : Ret Try.prog 29 [.agg (ntC n), .int .i64 la, .int .i64 u, .int .i64 d] (.bool (smallN n la u d)) := by
  obtain ⟨inp, ls⟩ := n
  unfold smallN
  dsimp only
  by_cases c1 : (ls.length : Int) > la
  · rw [decide_eq_false (show ¬ (ls.length : Int) ≤ la by omega), Bool.false_and]
    refine ret_of (L := L) lay_ok Try.func29 rfl Try.ntmps29 rfl ?_
    refine goq ?_
    refine go ?_
    refine awp_cT rfl (decide_eq_true c1) ?_
    refine go ?_
    refine ⟨_, rfl, ?_⟩
    rfl
  rw [decide_eq_true (show (ls.length : Int) ≤ la by omega), Bool.true_and]
  have hw4 : IntKind.i64.wrap (4 * u) = 4 * u := wrapI (by omega) (by omega)
  generalize hr : ls.all (smallL u d) = r
  refine ret_of (L := L) lay_ok Try.func29 rfl Try.ntmps29 rfl ?_
  refine goq ?_
  refine go ?_
  refine awp_cF rfl (decide_eq_false c1) ?_
  refine go ?_
  refine awp_loopC (A := Nat) (B := Unit) (fun i => i ≤ ls.length ∧ (ls.take i).all (smallL u d) = true)
    (fun i => [(9, some (.im (.int .i64 (i : Nat)))), (4, some (.ptr 4 0)), (2, some (.im (.int .i64 u))), (3, some (.im (.int .i64 d)))]) (fun i => [(4, some (.box 52 [.im (.int .i64 inp), .im (mS lyC ls)]))]) (fun i => ls.length - i)
    (fun _ => r = true) (fun _ => []) (fun _ => []) 0 ⟨Nat.zero_le _, rfl⟩ ?_ ?_ ?_
  · exact gou0
  · rintro i ⟨h1, h2⟩
    by_cases hlt : i < ls.length
    · obtain ⟨l, ha⟩ : ∃ a, ls[i]? = some a := ⟨ls[i], List.getElem?_eq_getElem hlt⟩
      have sv := shortVs_r (l := l.rows) (c := u) (c2 := u) (d := d) (by omega) (by omega)
      have sb := shortRs_r (l := l.bias) (c := u) (d := d) (by omega)
      have sk : Ret Try.prog 58 [mS rqC l.ker, .int .i64 (IntKind.i64.wrap (4 * u)), .int .i64 d] (.bool (shortRs (4 * u) d l.ker)) := by
        rw [hw4]
        exact shortRs_r (l := l.ker) (c := 4 * u) (d := d) (by omega)
      obtain ⟨kind, rows, bias, ch, high, wide, ou, kh, kw, st, pad, ker, grp⟩ := l
      dsimp only at sv sb sk
      refine go ?_
      refine awp_cT rfl (by rw [decide_eq_true_eq]; omega) ?_
      refine go ?_
      refine ar_atE (enc := lyC) i _ ha rfl rfl rfl rfl rfl (fun _ => rfl) rfl rfl ?_
      refine go ?_
      refine cl (by exact rfl) plain57 rfl sv ?_
      refine go ?_
      by_cases g0 : shortVs u u d rows = true
      case neg =>
        have g0' := (Bool.not_eq_true _).mp g0
        refine ar_eq 36 rfl (d' := .im (.bool true)) (eqt (by show (!(shortVs u u d rows)) = true; rw [g0']; rfl)) ?_
        refine go ?_
        refine .inr ⟨_, rfl, ?_⟩
        rw [← hr, not_all (p := smallL u d) ha (show smallL u d ⟨kind, rows, bias, ch, high, wide, ou, kh, kw, st, pad, ker, grp⟩ = false from ?_)]
        · rfl
        · unfold smallL; dsimp only; rw [g0']; simp
      refine ar_eq 36 rfl (d' := .im (.bool false)) (eqt (by show (!(shortVs u u d rows)) = false; rw [g0]; rfl)) ?_
      refine go ?_
      refine cl (by exact rfl) plain58 rfl sb ?_
      refine go ?_
      by_cases g1 : shortRs u d bias = true
      case neg =>
        have g1' := (Bool.not_eq_true _).mp g1
        refine ar_eq 44 rfl (d' := .im (.bool true)) (eqt (by show (!(shortRs u d bias)) = true; rw [g1']; rfl)) ?_
        refine go ?_
        refine .inr ⟨_, rfl, ?_⟩
        rw [← hr, not_all (p := smallL u d) ha (show smallL u d ⟨kind, rows, bias, ch, high, wide, ou, kh, kw, st, pad, ker, grp⟩ = false from ?_)]
        · rfl
        · unfold smallL; dsimp only; rw [g1']; simp
      refine ar_eq 44 rfl (d' := .im (.bool false)) (eqt (by show (!(shortRs u d bias)) = false; rw [g1]; rfl)) ?_
      refine go ?_
      refine cl (by exact rfl) plain58 rfl sk ?_
      refine go ?_
      by_cases g2 : shortRs (4 * u) d ker = true
      case neg =>
        have g2' := (Bool.not_eq_true _).mp g2
        refine ar_eq 53 rfl (d' := .im (.bool true)) (eqt (by show (!(shortRs (4 * u) d ker)) = true; rw [g2']; rfl)) ?_
        refine go ?_
        refine .inr ⟨_, rfl, ?_⟩
        rw [← hr, not_all (p := smallL u d) ha (show smallL u d ⟨kind, rows, bias, ch, high, wide, ou, kh, kw, st, pad, ker, grp⟩ = false from ?_)]
        · rfl
        · unfold smallL; dsimp only; rw [g2']; simp
      refine ar_eq 53 rfl (d' := .im (.bool false)) (eqt (by show (!(shortRs (4 * u) d ker)) = false; rw [g2]; rfl)) ?_
      refine go ?_
      by_cases g3 : (grp.length : Int) > u
      · have g3' : decide ((grp.length : Int) ≤ u) = false := decide_eq_false (by omega)
        refine ar_eq 60 rfl (d' := .im (.bool true)) (eqt (decide_eq_true g3)) ?_
        refine go ?_
        refine .inr ⟨_, rfl, ?_⟩
        rw [← hr, not_all (p := smallL u d) ha (show smallL u d ⟨kind, rows, bias, ch, high, wide, ou, kh, kw, st, pad, ker, grp⟩ = false from ?_)]
        · rfl
        · unfold smallL; dsimp only; rw [g3']; simp
      refine ar_eq 60 rfl (d' := .im (.bool false)) (eqt (decide_eq_false g3)) ?_
      refine go ?_
      by_cases g4 : ou > u
      · have g4' : decide (ou ≤ u) = false := decide_eq_false (by omega)
        refine ar_eq 66 rfl (d' := .im (.bool true)) (eqt (decide_eq_true g4)) ?_
        refine go ?_
        refine .inr ⟨_, rfl, ?_⟩
        rw [← hr, not_all (p := smallL u d) ha (show smallL u d ⟨kind, rows, bias, ch, high, wide, ou, kh, kw, st, pad, ker, grp⟩ = false from ?_)]
        · rfl
        · unfold smallL; dsimp only; rw [g4']; simp
      refine ar_eq 66 rfl (d' := .im (.bool false)) (eqt (decide_eq_false g4)) ?_
      refine go ?_
      by_cases g5 : ch > u
      · have g5' : decide (ch ≤ u) = false := decide_eq_false (by omega)
        refine ar_eq 72 rfl (d' := .im (.bool true)) (eqt (decide_eq_true g5)) ?_
        refine go ?_
        refine .inr ⟨_, rfl, ?_⟩
        rw [← hr, not_all (p := smallL u d) ha (show smallL u d ⟨kind, rows, bias, ch, high, wide, ou, kh, kw, st, pad, ker, grp⟩ = false from ?_)]
        · rfl
        · unfold smallL; dsimp only; rw [g5']; simp
      refine ar_eq 72 rfl (d' := .im (.bool false)) (eqt (decide_eq_false g5)) ?_
      refine go ?_
      by_cases g6 : high > u
      · have g6' : decide (high ≤ u) = false := decide_eq_false (by omega)
        refine ar_eq 78 rfl (d' := .im (.bool true)) (eqt (decide_eq_true g6)) ?_
        refine go ?_
        refine .inr ⟨_, rfl, ?_⟩
        rw [← hr, not_all (p := smallL u d) ha (show smallL u d ⟨kind, rows, bias, ch, high, wide, ou, kh, kw, st, pad, ker, grp⟩ = false from ?_)]
        · rfl
        · unfold smallL; dsimp only; rw [g6']; simp
      refine ar_eq 78 rfl (d' := .im (.bool false)) (eqt (decide_eq_false g6)) ?_
      refine go ?_
      by_cases g7 : wide > u
      · have g7' : decide (wide ≤ u) = false := decide_eq_false (by omega)
        refine awp_cT rfl (decide_eq_true g7) ?_
        refine go ?_
        refine .inr ⟨_, rfl, ?_⟩
        rw [← hr, not_all (p := smallL u d) ha (show smallL u d ⟨kind, rows, bias, ch, high, wide, ou, kh, kw, st, pad, ker, grp⟩ = false from ?_)]
        · rfl
        · unfold smallL; dsimp only; rw [g7']; simp
      refine awp_cF rfl (decide_eq_false g7) ?_
      refine go ?_
      refine awp_loopD (A := Nat) (B := Unit) (fun j => j ≤ grp.length ∧ (grp.take j).all (fun g => decide ((g.length : Int) ≤ u)) = true)
        (fun j => [(11, some (.im (.int .i64 (j : Nat)))), (10, some (.ptr 10 0)), (9, some (.im (.int .i64 (i : Nat)))), (4, some (.ptr 4 0)), (2, some (.im (.int .i64 u))), (3, some (.im (.int .i64 d)))]) (fun j => [(10, some (.box 60 ((lyC ⟨kind, rows, bias, ch, high, wide, ou, kh, kw, st, pad, ker, grp⟩).map .im))), (4, some (.box 52 [.im (.int .i64 inp), .im (mS lyC ls)]))]) (fun j => grp.length - j)
        (fun _ => grp.all (fun g => decide ((g.length : Int) ≤ u)) = true) (fun _ => [(9, some (.im (.int .i64 (i : Nat)))), (4, some (.ptr 4 0)), (2, some (.im (.int .i64 u))), (3, some (.im (.int .i64 d)))]) (fun _ => [(4, some (.box 52 [.im (.int .i64 inp), .im (mS lyC ls)]))]) 0 ⟨Nat.zero_le _, rfl⟩ ?_ ?_ ?_
      · exact gou0
      · rintro j ⟨j1, j2⟩
        by_cases jlt : j < grp.length
        · obtain ⟨gr, hgr⟩ : ∃ a, grp[j]? = some a := ⟨grp[j], List.getElem?_eq_getElem jlt⟩
          refine go ?_
          refine awp_cT rfl (decide_eq_true (show (j : Int) < (grp.length : Int) by omega)) ?_
          refine go ?_
          refine ar_atE (enc := grC) (l := grp) j gr hgr rfl rfl rfl rfl rfl (fun _ => rfl) rfl rfl ?_
          refine go ?_
          by_cases g9 : (gr.length : Int) > u
          · refine awp_cT rfl (decide_eq_true g9) ?_
            have g9' : grp.all (fun g => decide ((g.length : Int) ≤ u)) = false := not_all hgr (decide_eq_false (by omega))
            refine go ?_
            refine .inr (.inr ⟨_, rfl, ?_⟩)
            rw [← hr, not_all (p := smallL u d) ha (show smallL u d ⟨kind, rows, bias, ch, high, wide, ou, kh, kw, st, pad, ker, grp⟩ = false from ?_)]
            · rfl
            · unfold smallL; dsimp only; rw [g9']; simp
          · refine awp_cF rfl (decide_eq_false g9) ?_
            refine go ?_
            refine ⟨j + 1, ⟨by omega, take_all7 j2 hgr (decide_eq_true (by omega))⟩, ?_, by omega⟩
            exact gou0
        · have e : j = grp.length := by omega
          subst e
          refine go ?_
          refine awp_cF rfl (decide_eq_false (show ¬ ((grp.length : Int) < (grp.length : Int)) by omega)) ?_
          refine go ?_
          refine .inl ⟨rfl, (), ?_, ?_⟩
          · rw [← j2, List.take_length]
          · exact gou0
      rintro _ t1 h1' hg9 hs
      refine awp_sub hs ?_
      refine go ?_
      refine ⟨i + 1, ⟨by omega, take_all7 h2 ha ?_⟩, ?_, by omega⟩
      · unfold smallL
        dsimp only
        rw [g0, g1, g2, hg9, decide_eq_true (show (grp.length : Int) ≤ u by omega), decide_eq_true (show ou ≤ u by omega), decide_eq_true (show ch ≤ u by omega), decide_eq_true (show high ≤ u by omega), decide_eq_true (show wide ≤ u by omega)]
        rfl
      · exact gou0
    · have e : i = ls.length := by omega
      subst e
      refine go ?_
      refine awp_cF rfl (by rw [decide_eq_false_iff_not]; omega) ?_
      refine go ?_
      refine .inl ⟨rfl, (), ?_, ?_⟩
      · rw [← hr, ← h2, List.take_length]
      · exact gou0
  rintro _ h
  rw [h]
  refine go ?_
  exact ⟨_, rfl, rfl⟩
def smallY (q : Qy) (u d : Int) : Bool := shortRs u d q.x0 && shortRs u d q.lo && shortRs u d q.hi
theorem smallY_r {q : Qy} {u d : Int} (hu : u ≤ 1000000) : Ret Try.prog 31 [.agg (qyC q), .int .i64 u, .int .i64 d] (.bool (smallY q u d)) := by
  have h1 := shortRs_r (l := q.x0) (c := u) (d := d) hu
  have h2 := shortRs_r (l := q.lo) (c := u) (d := d) hu
  have h3 := shortRs_r (l := q.hi) (c := u) (d := d) hu
  unfold smallY shortRs
  obtain ⟨x0, label, lo, hi, norm⟩ := q
  dsimp only at *
  generalize (decide ((x0.length : Int) ≤ u) && x0.all (shortQ d)) = a at *
  generalize (decide ((lo.length : Int) ≤ u) && lo.all (shortQ d)) = b at *
  generalize (decide ((hi.length : Int) ≤ u) && hi.all (shortQ d)) = c at *
  cases a <;> cases b
  all_goals
    refine ret_of (L := L) lay_ok Try.func31 rfl Try.ntmps31 rfl ?_
    refine goq ?_
    refine go ?_
    refine cl (by exact rfl) plain58 rfl h1 ?_
    refine go ?_
    try (refine cl (by exact rfl) plain58 rfl h2 ?_)
    refine go ?_
    try (refine cl (by exact rfl) plain58 rfl h3 ?_)
    refine go ?_
    refine ⟨_, rfl, ?_⟩
    rfl
set_option maxHeartbeats 4000000 in
theorem sameInts_r {a b : List Int} (hl : a.length ≤ 1000000000) : Ret Try.prog 23 [mS niC a, mS niC b] (.bool (decide (a = b))) := by
  generalize hr : decide (a = b) = r
  by_cases c1 : a.length = b.length
  case neg =>
    have : r = false := by rw [← hr]; exact decide_eq_false fun h => c1 (by rw [h])
    subst this
    refine ret_of (L := L) lay_ok Try.func23 rfl Try.ntmps23 rfl ?_
    refine goq ?_
    refine go ?_
    refine awp_cT rfl (int_ne (by omega)) ?_
    refine go ?_
    refine ⟨_, rfl, ?_⟩
    rfl
  refine ret_of (L := L) lay_ok Try.func23 rfl Try.ntmps23 rfl ?_
  refine goq ?_
  refine go ?_
  refine awp_cF rfl (int_eq (by omega)) ?_
  refine go ?_
  refine awp_loopC (A := Nat) (B := Unit) (fun i => i ≤ a.length ∧ a.take i = b.take i)
    (fun i => [(5, some (.im (.int .i64 (i : Nat)))), (0, some (.im (mS niC a))), (1, some (.im (mS niC b)))]) (fun i => []) (fun i => a.length - i)
    (fun _ => r = true) (fun _ => []) (fun _ => []) 0 ⟨Nat.zero_le _, rfl⟩ ?_ ?_ ?_
  · exact gou0
  · rintro i ⟨h1, h2⟩
    by_cases hlt : i < a.length
    · obtain ⟨x, hx⟩ : ∃ x, a[i]? = some x := ⟨a[i], List.getElem?_eq_getElem hlt⟩
      obtain ⟨y, hy⟩ : ∃ y, b[i]? = some y := ⟨b[i]'(by omega), List.getElem?_eq_getElem (by omega)⟩
      refine go ?_
      refine awp_cT rfl (by rw [decide_eq_true_eq]; omega) ?_
      refine go ?_
      refine ar_atE (enc := niC) i x hx rfl rfl rfl rfl rfl (fun _ => rfl) rfl rfl ?_
      refine go ?_
      refine ar_atE (enc := niC) i y hy rfl rfl rfl rfl rfl (fun _ => rfl) rfl rfl ?_
      refine go ?_
      by_cases hp : x = y
      · refine awp_cF rfl (int_eq hp) ?_
        refine go ?_
        refine ⟨i + 1, ⟨by omega, by rw [List.take_add_one, List.take_add_one, hx, hy, h2, hp]⟩, ?_, by omega⟩
        exact gou0
      · refine awp_cT rfl (int_ne hp) ?_
        refine go ?_
        refine .inr ⟨_, rfl, ?_⟩
        rw [← hr, decide_eq_false (show ¬ a = b from fun h => hp (by rw [h, hy] at hx; exact (Option.some.inj hx).symm))]; rfl
    · have e : i = a.length := by omega
      subst e
      refine go ?_
      refine awp_cF rfl (by rw [decide_eq_false_iff_not]; omega) ?_
      refine go ?_
      refine .inl ⟨rfl, (), ?_, ?_⟩
      · rw [← hr]
        exact decide_eq_true (by rw [List.take_length, c1, List.take_length] at h2; exact h2)
      · exact gou0
  rintro _ h
  rw [h]
  refine go ?_
  exact ⟨_, rfl, rfl⟩
/-- a number from 0 to n - 1 out of any number -/
theorem pick_r {x n : Int} (h1 : -9223372036854775808 ≤ x) (h2 : x ≤ 9223372036854775807) (hn : 1 ≤ n) (hn2 : n ≤ 1000000) : Ret Try.prog 30 [.int .i64 x, .int .i64 n] (.int .i64 (x % n)) := by
  have t1 := Int.emod_nonneg x (show n ≠ 0 by omega)
  have t2 := Int.emod_lt_of_pos x (show 0 < n by omega)
  by_cases hs : x.tmod n < 0
  · have e : x % n = x.tmod n + n := by
      rw [Int.tmod_eq_emod] at hs ⊢
      split at hs
      · omega
      · rename_i hh
        rw [if_neg hh]
        omega
    have b1 : -1000000 ≤ x.tmod n := by omega
    refine ret_of (L := L) lay_ok Try.func30 rfl Try.ntmps30 rfl ?_
    refine goq ?_
    refine go ?_
    refine awp_cF rfl (decide_eq_false (by omega)) ?_
    refine go ?_
    refine ar_div (wantF_ok rfl) rfl rfl rfl rfl (by omega) ?_
    refine go ?_
    refine awp_cT rfl (decide_eq_true hs) ?_
    refine go ?_
    refine ⟨_, rfl, ?_⟩
    show M.int .i64 _ = M.int .i64 _
    rw [e]
  · have e : x % n = x.tmod n := by
      rw [Int.tmod_eq_emod] at hs ⊢
      split at hs
      · rename_i hh
        rw [if_pos hh]
        omega
      · omega
    refine ret_of (L := L) lay_ok Try.func30 rfl Try.ntmps30 rfl ?_
    refine goq ?_
    refine go ?_
    refine awp_cF rfl (decide_eq_false (by omega)) ?_
    refine go ?_
    refine ar_div (wantF_ok rfl) rfl rfl rfl rfl (by omega) ?_
    refine go ?_
    refine awp_cF rfl (decide_eq_false hs) ?_
    refine go ?_
    refine ⟨_, rfl, ?_⟩
    show M.int .i64 _ = M.int .i64 _
    rw [e]
end Go.Proofs.Ytkbhchlecokpiaa
