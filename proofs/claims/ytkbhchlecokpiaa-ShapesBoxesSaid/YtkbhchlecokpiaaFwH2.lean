/- Numbers in their one form, rows in theirs; how many things are in lists. -/
import Derived.Test.YtkbhchlecokpiaaFwH1
import Derived.Test.YtkbhchlecokpiaaFwCi
namespace Go.Proofs.Ytkbhchlecokpiaa
open Go Go.RowKit Fw Tw Rat
set_option linter.unusedVariables false
set_option linter.unusedSimpArgs false
theorem equal_r {l1 l2 : List Nat} (hl : l1.length ≤ 1000000000) : Ret Try.prog 87 [mW l1, mW l2] (.bool (decide (l1 = l2))) := by
  refine ret_of (L := L) lay_ok Try.func87 rfl Try.ntmps87 rfl ?_
  refine go ?_
  refine awp_cond rfl (fun hb => ?_) (fun hb => ?_)
  · refine go ?_
    have hne : l1 ≠ l2 := by rintro rfl; simp at hb
    refine ⟨_, rfl, ?_⟩
    simp [tupM, hne]
  · have hlen : l1.length = l2.length := by simp at hb; omega
    clear hb
    refine go ?_
    refine awp_loopC (A := Nat) (B := Unit) (fun i : Nat => i ≤ l1.length ∧ l1.take i = l2.take i) (fun i => [(13, some (.im (.int .i64 (i : Nat)))), (12, some (.im (.int .i64 (l1.length : Nat)))), (0, some (.im (mW l1))), (1, some (.im (mW l2)))]) (fun _ => []) (fun i => l1.length - i)
      (fun _ => l1 = l2) (fun _ => []) (fun _ => []) 0 ⟨by omega, rfl⟩ ?_ ?_ ?_
    · exact gou0
    · rintro i ⟨hi, hit⟩
      by_cases hlt : i < l1.length
      · refine go ?_
        refine awp_cT rfl (by rw [decide_eq_true_eq]; omega) ?_
        refine go ?_
        refine ar_at (enc := mw) i rfl rfl rfl rfl rfl (fun _ => rfl) rfl rfl hlt ?_
        refine go ?_
        refine ar_at (enc := mw) i rfl rfl rfl rfl rfl (fun _ => rfl) rfl rfl (by omega) ?_
        refine go ?_
        refine awp_cond rfl (fun hb => ?_) (fun hb => ?_)
        · refine go ?_
          refine .inr ?_
          refine ⟨_, rfl, ?_⟩
          have hne : l1 ≠ l2 := by rintro rfl; simp at hb
          simp [tupM, hne]
        · refine go ?_
          refine ⟨i + 1, ⟨by omega, ?_⟩, ?_, ?_⟩
          · rw [List.take_succ_eq_append_getElem hlt, List.take_succ_eq_append_getElem (by omega), hit]
            congr 2
            simp at hb; omega
          · exact gou0
          · omega
      · have hge : i = l1.length := by omega
        subst hge
        have he : l1 = l2 := by rw [List.take_length] at hit; rw [hit, hlen, List.take_length]
        refine go ?_
        refine awp_cF rfl (by rw [decide_eq_false_iff_not]; omega) ?_
        refine go ?_
        refine .inl ⟨rfl, (), he, ?_⟩
        exact gou0
    rintro _ he
    refine go ?_
    refine ⟨_, rfl, ?_⟩
    simp [tupM, he]
/-- what a fraction as it stands counts as -/
def vq (r : RQ) : Rat := (sg r.b1 (Tw.val W r.l1) : Int) /. denI r.b2 r.l2
structure WfQ (r : RQ) (k : Nat) : Prop where
  d1 : Dig W r.l1
  d2 : Dig W r.l2
  n1 : r.l1.length ≤ k
  n2 : r.l2.length ≤ k
theorem WfQ.isQ {r : RQ} {k : Nat} (h : WfQ r k) (hk : 1 ≤ k) : IsQ (.agg (rqC r)) (vq r) k := ⟨r.b1, r.l1, r.b2, r.l2, rfl, h.d1, h.d2, h.n1, h.n2, hk, rfl⟩
/-- a fraction's one form -/
def nmQ (q : Rat) : RQ := ⟨decide (q.num < 0), digs W q.num.natAbs, false, digs W (if q.den = 1 then 0 else q.den)⟩
def formedR (r : RQ) : Bool := (decide ((vq r).num < 0) == r.b1) && (false == r.b2) && decide (digs W (vq r).num.natAbs = r.l1) && decide (digs W (if (vq r).den = 1 then 0 else (vq r).den) = r.l2)
theorem formedR_iff {r : RQ} : formedR r = true ↔ nmQ (vq r) = r := by
  obtain ⟨b1, l1, b2, l2⟩ := r
  unfold formedR nmQ
  simp only [Bool.and_eq_true, beq_iff_eq, decide_eq_true_eq, RQ.mk.injEq]
  constructor
  · rintro ⟨⟨⟨h1, h2⟩, h3⟩, h4⟩; exact ⟨h1, h3, h2, h4⟩
  · rintro ⟨h1, h3, h2, h4⟩; exact ⟨⟨⟨h1, h2⟩, h3⟩, h4⟩
set_option maxHeartbeats 4000000 in
theorem formed_r {r : RQ} {k : Nat} (h : WfQ r k) (hk : 1 ≤ k) (hk9 : k ≤ 9000) : Ret Try.prog 56 [.agg (rqC r)] (.bool (formedR r)) := by
  have hn := norm_q (h.isQ hk) hk9
  have sq := (h.isQ hk).sq
  have e1 := equal_r (l1 := digs W (vq r).num.natAbs) (l2 := r.l1) (Nat.le_trans (length_digs_le W_two sq.n) (by omega))
  have e2 := equal_r (l1 := digs W (if (vq r).den = 1 then 0 else (vq r).den)) (l2 := r.l2) (by
    split
    · rw [digs_zero]; simp
    · exact Nat.le_trans (length_digs_le W_two sq.d) (by omega))
  unfold formedR
  obtain ⟨b1, l1, b2, l2⟩ := r
  generalize vq ⟨b1, l1, b2, l2⟩ = q at *
  refine ret_of (L := L) lay_ok Try.func56 rfl Try.ntmps56 rfl ?_
  refine goq ?_
  refine go ?_
  refine cl (by exact rfl) plain38 rfl hn ?_
  refine go ?_
  by_cases c1 : (decide (q.num < 0) == b1) = true
  case neg =>
    refine ar_eq 13 rfl (d' := .im (.bool false)) (eqt ((Bool.not_eq_true _).mp c1)) ?_
    refine go ?_
    refine ⟨_, rfl, ?_⟩
    show M.bool _ = M.bool _
    rw [(Bool.not_eq_true _).mp c1]; rfl
  refine ar_eq 13 rfl (d' := .im (.bool true)) (eqt c1) ?_
  rw [c1]
  refine go ?_
  by_cases c2 : (false == b2) = true
  case neg =>
    refine ar_eq 22 rfl (d' := .im (.bool false)) (eqt ((Bool.not_eq_true _).mp c2)) ?_
    refine go ?_
    refine ⟨_, rfl, ?_⟩
    show M.bool _ = M.bool _
    rw [(Bool.not_eq_true _).mp c2]; rfl
  refine ar_eq 22 rfl (d' := .im (.bool true)) (eqt c2) ?_
  rw [c2]
  refine go ?_
  refine cl (by exact rfl) plain87 rfl e1 ?_
  refine go ?_
  by_cases c3 : digs W q.num.natAbs = l1
  case neg =>
    refine ar_eq 31 rfl (d' := .im (.bool false)) (eqt (decide_eq_false c3)) ?_
    refine go ?_
    refine ⟨_, rfl, ?_⟩
    show M.bool _ = M.bool _
    rw [decide_eq_false c3]; rfl
  refine ar_eq 31 rfl (d' := .im (.bool true)) (eqt (decide_eq_true c3)) ?_
  rw [decide_eq_true c3]
  refine go ?_
  refine cl (by exact rfl) plain87 rfl e2 ?_
  refine go ?_
  refine ⟨_, rfl, ?_⟩
  rfl
def sformed (r : RQ) : Bool := !(signQ (vq r) == 0) && formedR r
theorem sform1_r {b1 b2 : Bool} {l1 l2 : List Nat} (h : l1.length ≤ 1000000000) : Ret Try.prog 170 [.agg [.bool b1, mW l1], .agg [.bool b2, mW l2]] (.bool ((b1 == b2) && decide (l1 = l2))) := by
  have e1 := equal_r (l1 := l1) (l2 := l2) h
  refine ret_of (L := L) lay_ok Try.func170 rfl Try.ntmps170 rfl ?_
  refine goq ?_
  refine go ?_
  by_cases c1 : (b1 == b2) = true
  case neg =>
    refine ar_eq 10 rfl (d' := .im (.bool false)) (eqt ((Bool.not_eq_true _).mp c1)) ?_
    refine go ?_
    refine ⟨_, rfl, ?_⟩
    show M.bool _ = M.bool _
    rw [(Bool.not_eq_true _).mp c1]; rfl
  refine ar_eq 10 rfl (d' := .im (.bool true)) (eqt c1) ?_
  rw [c1]
  refine go ?_
  refine cl (by exact rfl) plain87 rfl e1 ?_
  refine go ?_
  refine ⟨_, rfl, ?_⟩
  rfl
set_option maxHeartbeats 4000000 in
theorem sformed_r {r : RQ} {k : Nat} (h : WfQ r k) (hk : 1 ≤ k) (hk9 : k ≤ 9000) : Ret Try.prog 150 [.agg (rqC r)] (.bool (sformed r)) := by
  have hn := norm_q (h.isQ hk) hk9
  have hs := sign_q (h.isQ hk) hk9
  have sq := (h.isQ hk).sq
  have e1 := sform1_r (b1 := decide ((vq r).num < 0)) (b2 := r.b1) (l1 := digs W (vq r).num.natAbs) (l2 := r.l1) (Nat.le_trans (length_digs_le W_two sq.n) (by omega))
  have e2 := sform1_r (b1 := false) (b2 := r.b2) (l1 := digs W (if (vq r).den = 1 then 0 else (vq r).den)) (l2 := r.l2) (by
    split
    · rw [digs_zero]; simp
    · exact Nat.le_trans (length_digs_le W_two sq.d) (by omega))
  unfold sformed formedR
  obtain ⟨b1, l1, b2, l2⟩ := r
  generalize vq ⟨b1, l1, b2, l2⟩ = q at *
  dsimp only at e1 e2
  refine ret_of (L := L) lay_ok Try.func150 rfl Try.ntmps150 rfl ?_
  refine goq ?_
  refine go ?_
  refine cl (by exact rfl) plain38 rfl hn ?_
  refine go ?_
  refine cl (by exact rfl) plain52 rfl hs ?_
  refine go ?_
  by_cases c0 : signQ q = 0
  · refine ar_eq 10 rfl (d' := .im (.bool false)) (eqt (by rw [c0]; rfl)) ?_
    refine go ?_
    refine ⟨_, rfl, ?_⟩
    show M.bool _ = M.bool _
    rw [c0]; rfl
  have c0' : (signQ q == 0) = false := beq_eq_false_iff_ne.2 c0
  refine ar_eq 10 rfl (d' := .im (.bool true)) (eqt (by rw [bne_iff_ne]; exact c0)) ?_
  rw [c0']
  refine go ?_
  refine cl (by exact rfl) plain170 rfl e1 ?_
  refine go ?_
  by_cases c1 : ((decide (q.num < 0) == b1) && decide (digs W q.num.natAbs = l1)) = true
  case neg =>
    refine ar_eq 18 rfl (d' := .im (.bool false)) (eqt ((Bool.not_eq_true _).mp c1)) ?_
    refine go ?_
    refine ⟨_, rfl, ?_⟩
    show M.bool _ = M.bool _
    have c1' := (Bool.not_eq_true _).mp c1
    congr 1
    revert c1'
    generalize (decide (q.num < 0) == b1) = x
    generalize decide (digs W q.num.natAbs = l1) = y
    cases x <;> cases y <;> simp
  refine ar_eq 18 rfl (d' := .im (.bool true)) (eqt c1) ?_
  rw [Bool.and_eq_true] at c1
  rw [c1.1, c1.2]
  refine go ?_
  refine cl (by exact rfl) plain170 rfl e2 ?_
  refine go ?_
  refine ⟨_, rfl, ?_⟩
  show M.bool _ = M.bool _
  congr 1
  generalize (false == b2) = x
  cases x <;> rfl
/-- terms in their one form, at places that rise, below a number -/
def rightT (n : Int) : Int → List Tm → Bool
  | _, [] => true
  | last, t :: v => !(decide (t.pl ≤ last) || decide (t.pl ≥ n) || !sformed t.x) && rightT n t.pl v
set_option maxHeartbeats 4000000 in
theorem right_r {v : List Tm} {n : Int} (hl : v.length ≤ 1000000000) (hw : ∀ t ∈ v, WfQ t.x 1000) : Ret Try.prog 118 [mS tmC v, .int .i64 n] (.bool (rightT n (-1) v)) := by
  generalize hr : rightT n (-1) v = r
  refine ret_of (L := L) lay_ok Try.func118 rfl Try.ntmps118 rfl ?_
  refine goq ?_
  refine go ?_
  refine awp_loopC (A := Nat × Int) (B := Unit) (fun q => q.1 ≤ v.length ∧ rightT n q.2 (v.drop q.1) = r)
    (fun q => [(10, some (.im (.int .i64 (q.1 : Nat)))), (9, some (.im (.int .i64 (v.length : Nat)))), (8, some (.im (mS tmC v))), (1, some (.im (.int .i64 n))), (5, some (.im (.int .i64 q.2)))]) (fun q => []) (fun q => v.length - q.1)
    (fun _ => r = true) (fun _ => []) (fun _ => []) (0, -1) ⟨Nat.zero_le _, hr⟩ ?_ ?_ ?_
  · exact gou0
  · rintro ⟨i, last⟩ ⟨h1, h2⟩
    simp only [] at h1 h2
    by_cases hlt : i < v.length
    · obtain ⟨t, ht⟩ : ∃ t, v[i]? = some t := ⟨v[i], List.getElem?_eq_getElem hlt⟩
      have hd : v.drop i = t :: v.drop (i + 1) := by
        obtain ⟨h, e⟩ := List.getElem?_eq_some_iff.1 ht
        rw [← e]; exact List.drop_eq_getElem_cons h
      rw [hd] at h2
      unfold rightT at h2
      have hf := sformed_r (hw t (List.mem_of_getElem? ht)) (by omega) (by omega)
      obtain ⟨pl, x⟩ := t
      dsimp only at h2 hf
      refine go ?_
      refine awp_cT rfl (by rw [decide_eq_true_eq]; omega) ?_
      refine go ?_
      refine ar_atE (enc := tmC) i ⟨pl, x⟩ ht rfl rfl rfl rfl rfl (fun _ => rfl) rfl rfl ?_
      refine go ?_
      by_cases c1 : pl ≤ last
      · refine ar_eq 18 rfl (d' := .im (.bool true)) (eqt (decide_eq_true c1)) ?_
        refine go ?_
        refine .inr ⟨_, rfl, ?_⟩
        rw [← h2, decide_eq_true c1]; rfl
      refine ar_eq 18 rfl (d' := .im (.bool false)) (eqt (decide_eq_false c1)) ?_
      rw [decide_eq_false c1] at h2
      refine go ?_
      by_cases c2 : pl ≥ n
      · refine ar_eq 24 rfl (d' := .im (.bool true)) (eqt (decide_eq_true c2)) ?_
        refine go ?_
        refine .inr ⟨_, rfl, ?_⟩
        rw [← h2, decide_eq_true c2]; rfl
      refine ar_eq 24 rfl (d' := .im (.bool false)) (eqt (decide_eq_false c2)) ?_
      rw [decide_eq_false c2] at h2
      refine go ?_
      refine cl (by exact rfl) plain150 rfl hf ?_
      refine go ?_
      by_cases c3 : sformed x = true
      · refine awp_cF rfl (by rw [c3]; rfl) ?_
        rw [c3] at h2
        refine go ?_
        refine ⟨(i + 1, pl), ⟨by show i + 1 ≤ _; omega, by rw [← h2]; rfl⟩, ?_, by show v.length - (i + 1) < v.length - i; omega⟩
        exact gou0
      · refine awp_cT rfl (by rw [(Bool.not_eq_true _).mp c3]; rfl) ?_
        refine go ?_
        refine .inr ⟨_, rfl, ?_⟩
        rw [← h2, (Bool.not_eq_true _).mp c3]; rfl
    · have e : v.drop i = [] := List.drop_eq_nil_of_le (by omega)
      rw [e] at h2
      refine go ?_
      refine awp_cF rfl (by rw [decide_eq_false_iff_not]; omega) ?_
      refine go ?_
      refine .inl ⟨rfl, (), h2.symm, ?_⟩
      exact gou0
  rintro _ h
  refine go ?_
  exact ⟨_, rfl, by rw [h]; rfl⟩
theorem deqn {k : IntKind} {a b : Int} (h : a = b) : D.im (.int k a) = .im (.int k b) := by rw [h]
def countT {α : Type} (l : List (List α)) : Nat := (l.map List.length).sum
theorem countT_le {α : Type} {l : List (List α)} {b : Nat} (h : ∀ v ∈ l, v.length ≤ b) : countT l ≤ l.length * b := by
  unfold countT
  induction l with
  | nil => simp
  | cons a l ih =>
    have h1 := h a (by simp)
    have h2 := ih fun v hv => h v (by simp [hv])
    simp only [List.map_cons, List.sum_cons, List.length_cons, Nat.succ_mul]
    omega
theorem countT_take {α : Type} {l : List (List α)} {i : Nat} {a : List α} (h : l[i]? = some a) : countT (l.take (i + 1)) = countT (l.take i) + a.length := by
  unfold countT
  rw [List.take_add_one, h, List.map_append, List.sum_append]
  simp
theorem countT_mono {α : Type} (l : List (List α)) (i : Nat) : countT (l.take i) ≤ countT l := by
  have : countT l = countT (l.take i) + countT (l.drop i) := by
    unfold countT
    rw [← List.sum_append, ← List.map_append, List.take_append_drop]
  omega
/- count -/
theorem countV_r {l : List (List Tm)} (hl : l.length ≤ 1000000000) (hb : countT l ≤ 1000000000000) : Ret Try.prog 119 [mS vcC l] (.int .i64 (countT l : Nat)) := by
  refine ret_of (L := L) lay_ok Try.func119 rfl Try.ntmps119 rfl ?_
  refine goq ?_
  refine go ?_
  refine awp_loopC (A := Nat) (B := Unit) (fun i => i ≤ l.length)
    (fun i => [(8, some (.im (.int .i64 (i : Nat)))), (7, some (.im (.int .i64 (l.length : Nat)))), (6, some (.im (mS vcC l))), (3, some (.im (.int .i64 (countT (l.take i) : Nat))))]) (fun _ => []) (fun i => l.length - i)
    (fun _ => True) (fun _ => [(3, some (.im (.int .i64 (countT l : Nat))))]) (fun _ => []) 0 (Nat.zero_le _) ?_ ?_ ?_
  · exact gou0
  · rintro i h1
    by_cases hlt : i < l.length
    · obtain ⟨a, ha⟩ : ∃ a, l[i]? = some a := ⟨l[i], List.getElem?_eq_getElem hlt⟩
      have e := countT_take ha
      have m := countT_mono l (i + 1)
      refine go ?_
      refine awp_cT rfl (by rw [decide_eq_true_eq]; omega) ?_
      refine go ?_
      refine ar_atE (enc := vcC) i a ha rfl rfl rfl rfl rfl (fun _ => rfl) rfl rfl ?_
      refine go ?_
      refine ⟨i + 1, by omega, ?_, by omega⟩
      refine gou ?_
      refine sub_te rfl ?_ (deqn (by rw [e]; rfl))
      exact gou0
    · have e : i = l.length := by omega
      subst e
      refine go ?_
      refine awp_cF rfl (by rw [decide_eq_false_iff_not]; omega) ?_
      refine go ?_
      refine .inl ⟨rfl, (), trivial, ?_⟩
      refine gou ?_
      refine sub_te rfl ?_ (deqn (by rw [List.take_length]))
      exact gou0
  rintro _ -
  refine go ?_
  refine ⟨_, rfl, ?_⟩
  rfl
theorem countG_r {l : List (List Int)} (hl : l.length ≤ 1000000000) (hb : countT l ≤ 1000000000000) : Ret Try.prog 122 [mS grC l] (.int .i64 (countT l : Nat)) := by
  refine ret_of (L := L) lay_ok Try.func122 rfl Try.ntmps122 rfl ?_
  refine goq ?_
  refine go ?_
  refine awp_loopC (A := Nat) (B := Unit) (fun i => i ≤ l.length)
    (fun i => [(8, some (.im (.int .i64 (i : Nat)))), (7, some (.im (.int .i64 (l.length : Nat)))), (6, some (.im (mS grC l))), (3, some (.im (.int .i64 (countT (l.take i) : Nat))))]) (fun _ => []) (fun i => l.length - i)
    (fun _ => True) (fun _ => [(3, some (.im (.int .i64 (countT l : Nat))))]) (fun _ => []) 0 (Nat.zero_le _) ?_ ?_ ?_
  · exact gou0
  · rintro i h1
    by_cases hlt : i < l.length
    · obtain ⟨a, ha⟩ : ∃ a, l[i]? = some a := ⟨l[i], List.getElem?_eq_getElem hlt⟩
      have e := countT_take ha
      have m := countT_mono l (i + 1)
      refine go ?_
      refine awp_cT rfl (by rw [decide_eq_true_eq]; omega) ?_
      refine go ?_
      refine ar_atE (enc := grC) i a ha rfl rfl rfl rfl rfl (fun _ => rfl) rfl rfl ?_
      refine go ?_
      refine ⟨i + 1, by omega, ?_, by omega⟩
      refine gou ?_
      refine sub_te rfl ?_ (deqn (by rw [e]; rfl))
      exact gou0
    · have e : i = l.length := by omega
      subst e
      refine go ?_
      refine awp_cF rfl (by rw [decide_eq_false_iff_not]; omega) ?_
      refine go ?_
      refine .inl ⟨rfl, (), trivial, ?_⟩
      refine gou ?_
      refine sub_te rfl ?_ (deqn (by rw [List.take_length]))
      exact gou0
  rintro _ -
  refine go ?_
  refine ⟨_, rfl, ?_⟩
  rfl
end Go.Proofs.Ytkbhchlecokpiaa
