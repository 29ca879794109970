/- A query that may be has its box, its label and its numbers as they should. -/
import Derived.Test.YtkbhchlecokpiaaFwQ10
namespace Go.Proofs.Ytkbhchlecokpiaa
open Go Go.RowKit Fw Tw Rat
set_option linter.unusedVariables false
set_option linter.unusedSimpArgs false
instance instDecRQ (a b : RQ) : Decidable (a = b) := decidable_of_iff (a.b1 = b.b1 ∧ a.l1 = b.l1 ∧ a.b2 = b.b2 ∧ a.l2 = b.l2) (by
  obtain ⟨b1, l1, b2, l2⟩ := a
  obtain ⟨b3, l3, b4, l4⟩ := b
  rw [RQ.mk.injEq])
theorem sameRQ_r {a b : RQ} (h1 : a.l1.length ≤ 1000000000) (h2 : a.l2.length ≤ 1000000000) : Ret Try.prog 59 [.agg (rqC a), .agg (rqC b)] (.bool (decide (a = b))) := by
  have := sameRat_r (b1 := a.b1) (b2 := a.b2) (b3 := b.b1) (b4 := b.b2) (l1 := a.l1) (l2 := a.l2) (l3 := b.l1) (l4 := b.l2) h1 h2
  have e : ((a.b1 == b.b1 && decide (a.l1 = b.l1)) && (a.b2 == b.b2 && decide (a.l2 = b.l2))) = decide (a = b) := by
    obtain ⟨b1, l1, b2, l2⟩ := a
    obtain ⟨b3, l3, b4, l4⟩ := b
    rw [Bool.eq_iff_iff]
    simp only [Bool.and_eq_true, beq_iff_eq, decide_eq_true_eq, RQ.mk.injEq]
    constructor
    · rintro ⟨⟨h1, h2⟩, h3, h4⟩; exact ⟨h1, h2, h3, h4⟩
    · rintro ⟨h1, h2, h3, h4⟩; exact ⟨⟨h1, h2⟩, h3, h4⟩
  rw [← e]
  exact this
set_option maxHeartbeats 4000000 in
theorem sameRats_r {a b : List RQ} (hl : a.length ≤ 1000000000) (hw : ∀ r ∈ a, WfQ r 1000) : Ret Try.prog 32 [mS rqC a, mS rqC b] (.bool (decide (a = b))) := by
  generalize hr : decide (a = b) = r
  by_cases c1 : a.length = b.length
  case neg =>
    have : r = false := by rw [← hr]; exact decide_eq_false fun h => c1 (by rw [h])
    subst this
    refine ret_of (L := L) lay_ok Try.func32 rfl Try.ntmps32 rfl ?_
    refine goq ?_
    refine go ?_
    refine awp_cT rfl (int_ne (by omega)) ?_
    refine go ?_
    refine ⟨_, rfl, ?_⟩
    rfl
  refine ret_of (L := L) lay_ok Try.func32 rfl Try.ntmps32 rfl ?_
  refine goq ?_
  refine go ?_
  refine awp_cF rfl (int_eq (by omega)) ?_
  refine go ?_
  refine awp_loopC (A := Nat) (B := Unit) (fun i => i ≤ a.length ∧ a.take i = b.take i)
    (fun i => [(5, some (.im (.int .i64 (i : Nat)))), (0, some (.im (mS rqC a))), (1, some (.im (mS rqC b)))]) (fun i => []) (fun i => a.length - i)
    (fun _ => r = true) (fun _ => []) (fun _ => []) 0 ⟨Nat.zero_le _, rfl⟩ ?_ ?_ ?_
  · exact gou0
  · rintro i ⟨h1, h2⟩
    by_cases hlt : i < a.length
    · obtain ⟨x, hx⟩ : ∃ x, a[i]? = some x := ⟨a[i], List.getElem?_eq_getElem hlt⟩
      obtain ⟨y, hy⟩ : ∃ y, b[i]? = some y := ⟨b[i]'(by omega), List.getElem?_eq_getElem (by omega)⟩
      have wx := hw x (List.mem_of_getElem? hx)
      have hc := sameRQ_r (a := x) (b := y) (by have := wx.n1; omega) (by have := wx.n2; omega)
      refine go ?_
      refine awp_cT rfl (by rw [decide_eq_true_eq]; omega) ?_
      refine go ?_
      refine ar_atE (enc := rqC) i x hx rfl rfl rfl rfl rfl (fun _ => rfl) rfl rfl ?_
      refine go ?_
      refine ar_atE (enc := rqC) i y hy rfl rfl rfl rfl rfl (fun _ => rfl) rfl rfl ?_
      refine go ?_
      refine cl (by exact rfl) plain59 rfl hc ?_
      refine go ?_
      by_cases hp : x = y
      · refine awp_cF rfl (by rw [decide_eq_true hp]; rfl) ?_
        refine go ?_
        refine ⟨i + 1, ⟨by omega, by rw [List.take_add_one, List.take_add_one, hx, hy, h2, hp]⟩, ?_, by omega⟩
        exact gou0
      · refine awp_cT rfl (by rw [decide_eq_false hp]; rfl) ?_
        refine go ?_
        refine .inr ⟨_, rfl, ?_⟩
        rw [← hr, decide_eq_false (show ¬ a = b from fun h => hp (by rw [h, hy] at hx; exact (Option.some.inj hx).symm))]; rfl
    · have e : i = a.length := by omega
      subst e
      refine go ?_
      refine awp_cF rfl (by rw [decide_eq_false_iff_not]; omega) ?_
      refine go ?_
      refine .inl ⟨rfl, (), ?_, ?_⟩
      · rw [← hr]
        exact decide_eq_true (by rw [List.take_length, c1, List.take_length] at h2; exact h2)
      · exact gou0
  rintro _ h
  rw [h]
  refine go ?_
  exact ⟨_, rfl, rfl⟩
theorem cmp_self (a : Rat) : ¬ cmpQ a a > 0 := by
  rw [gt_iff_lt, cmpQ_gt]
  exact Rat.lt_irrefl
theorem cmps_self : ∀ l : List RQ, cmpsT (l.zip l) = false
  | [] => rfl
  | a :: l => by
    have ih := cmps_self l
    unfold cmpsT at ih ⊢
    rw [List.zip_cons_cons, List.any_cons, ih, Bool.or_false]
    exact decide_eq_false (cmp_self _)
theorem cmps_turn : ∀ {l m : List RQ}, l.length = m.length → l.all formedR = true → m.all formedR = true → cmpsT (l.zip m) = false → l ≠ m → cmpsT (m.zip l) = true
  | [], [], _, _, _, _, h => absurd rfl h
  | [], b :: m, h, _, _, _, _ => by simp at h
  | a :: l, [], h, _, _, _, _ => by simp at h
  | a :: l, b :: m, h, f1, f2, hc, hne => by
    rw [List.all_cons, Bool.and_eq_true] at f1 f2
    unfold cmpsT at hc ⊢
    rw [List.zip_cons_cons, List.any_cons, Bool.or_eq_false_iff] at hc
    rw [List.zip_cons_cons, List.any_cons]
    have h1 := hc.1
    rw [decide_eq_false_iff_not, gt_iff_lt, cmpQ_gt] at h1
    by_cases hab : a = b
    · subst hab
      have := cmps_turn (l := l) (m := m) (by simpa using h) f1.2 f2.2 hc.2 (fun he => hne (by rw [he]))
      unfold cmpsT at this
      rw [this, Bool.or_true]
    · have hv : vq a ≠ vq b := by
        intro he
        have q1 := formedR_iff.1 f1.1
        have q2 := formedR_iff.1 f2.1
        exact hab (by rw [← q1, ← q2, he])
      rw [decide_eq_true (show cmpQ (vq b) (vq a) > 0 by
        rw [gt_iff_lt, cmpQ_gt]
        exact Rat.lt_of_le_of_ne (Rat.not_lt.1 h1) hv), Bool.true_or]
/-- what a query that may be is -/
theorem query_ok {n : Nt} {q : Qy} (h : queryT n q = 0) : ∃ o, lookF n = (o, 0) ∧ [q.x0, q.lo, q.hi].any (bad1 n.inp) = false ∧ ((q.norm != 1) && (q.norm != 2)) = false ∧ cmpsT (q.lo.zip q.hi) = false ∧ 0 ≤ q.label ∧ q.label < o.getLastD 0 := by
  unfold queryT at h
  split at h
  · rename_i c; exact absurd h c
  rename_i c0
  split at h
  · simp at h
  rename_i c1
  split at h
  · simp at h
  rename_i c2
  split at h
  · simp at h
  rename_i c3
  split at h
  · simp at h
  rename_i c4
  have e0 : (lookF n).2 = 0 := Decidable.not_not.1 c0
  refine ⟨(lookF n).1, by rw [← e0], (Bool.not_eq_true _).mp c1, (Bool.not_eq_true _).mp c2, (Bool.not_eq_true _).mp c3, ?_, ?_⟩
  · omega
  · omega
theorem query_of {n : Nt} {q : Qy} {o : List Int} (h1 : lookF n = (o, 0)) (h2 : [q.x0, q.lo, q.hi].any (bad1 n.inp) = false) (h3 : ((q.norm != 1) && (q.norm != 2)) = false) : queryT n q = if cmpsT (q.lo.zip q.hi) = true then 23 else if q.label < 0 ∨ q.label ≥ o.getLastD 0 then 24 else 0 := by
  unfold queryT
  rw [h1, if_neg (show ¬ ((0 : Int) ≠ 0) by decide), if_neg (by rw [h2]; decide), if_neg (by rw [h3]; decide)]
set_option maxHeartbeats 16000000 in
set_option maxRecDepth 100000 in
theorem sboxes_r {n : Nt} {q : Qy} (hd : ∀ l ∈ n.lay, DgL l) (hq : DgY q) : Ret Try.prog 7 [.agg (ntC n), .agg (qyC q)] (.bool true) := by
  have hs := smallN_r (n := n) (la := 20) (u := 100) (d := 10) (by omega) (by omega) (by omega)
  have hy := smallY_r (q := q) (u := 100) (d := 10) (by omega)
  have aw := awake10_r
  by_cases c0 : smallN n 20 100 10 = true
  case neg =>
    rw [(Bool.not_eq_true _).mp c0] at hs
    obtain ⟨inp, ls⟩ := n
    obtain ⟨x0, label, lo, hi, norm⟩ := q
    refine ret_of (L := L) lay_ok Try.func7 rfl Try.ntmps7 rfl ?_
    refine goq ?_
    refine go ?_
    refine cl (by exact rfl) plain29 rfl hs ?_
    refine go ?_
    refine cl (by exact rfl) plain28 rfl aw ?_
    refine go ?_
    refine ⟨_, rfl, ?_⟩
    rfl
  by_cases c1 : smallY q 100 10 = true
  case neg =>
    rw [c0] at hs
    rw [(Bool.not_eq_true _).mp c1] at hy
    obtain ⟨inp, ls⟩ := n
    obtain ⟨x0, label, lo, hi, norm⟩ := q
    refine ret_of (L := L) lay_ok Try.func7 rfl Try.ntmps7 rfl ?_
    refine goq ?_
    refine go ?_
    refine cl (by exact rfl) plain29 rfl hs ?_
    refine go ?_
    refine cl (by exact rfl) plain31 rfl hy ?_
    refine go ?_
    refine cl (by exact rfl) plain28 rfl aw ?_
    refine go ?_
    refine ⟨_, rfl, ?_⟩
    rfl
  have ok := nt_short hd c0 (by omega) (by omega) (by omega)
  have oy : QyOk q := by
    have h := c1
    unfold smallY at h
    simp only [Bool.and_eq_true] at h
    obtain ⟨⟨k1, k2⟩, k3⟩ := h
    obtain ⟨a1, a2⟩ := rs_short hq.x0 k1 (by omega)
    obtain ⟨b1, b2⟩ := rs_short hq.lo k2 (by omega)
    obtain ⟨e1, e2⟩ := rs_short hq.hi k3 (by omega)
    exact ⟨a1, b1, e1, by omega, by omega, by omega⟩
  rw [c0] at hs
  rw [c1] at hy
  have hqr := query_r ok oy
  by_cases c2 : queryT n q = 0
  case neg =>
    obtain ⟨inp, ls⟩ := n
    obtain ⟨x0, label, lo, hi, norm⟩ := q
    refine ret_of (L := L) lay_ok Try.func7 rfl Try.ntmps7 rfl ?_
    refine goq ?_
    refine go ?_
    refine cl (by exact rfl) plain29 rfl hs ?_
    refine go ?_
    refine cl (by exact rfl) plain31 rfl hy ?_
    refine go ?_
    refine cl (by exact rfl) plain26 rfl hqr ?_
    refine go ?_
    refine awp_cT rfl (int_ne c2) ?_
    refine go ?_
    refine cl (by exact rfl) plain28 rfl aw ?_
    refine go ?_
    refine ⟨_, rfl, ?_⟩
    rfl
  rw [c2] at hqr
  obtain ⟨o, l0, l1, l2, l3, l4, l5⟩ := query_ok c2
  have hz := sizes_r ok
  rw [l0, if_pos rfl] at hz
  have hol := look_len l0
  have okn := ok.len
  have hlast := last_get (out := o) (by omega)
  -- turned round
  have ot : QyOk ⟨q.x0, q.label, q.hi, q.lo, q.norm⟩ := ⟨oy.x0, oy.hi, oy.lo, oy.n0, oy.nh, oy.nl⟩
  have l1t : [q.x0, q.hi, q.lo].any (bad1 n.inp) = false := by
    simp only [List.any_cons, List.any_nil, Bool.or_false, Bool.or_eq_false_iff] at l1 ⊢
    exact ⟨l1.1, l1.2.2, l1.2.1⟩
  have ht := query_r ok ot
  rw [query_of (q := ⟨q.x0, q.label, q.hi, q.lo, q.norm⟩) l0 l1t l2] at ht
  have oa : QyOk ⟨q.x0, o.getLastD 0, q.lo, q.hi, q.norm⟩ := ⟨oy.x0, oy.lo, oy.hi, oy.n0, oy.nl, oy.nh⟩
  have ha := query_r ok oa
  rw [query_of (q := ⟨q.x0, o.getLastD 0, q.lo, q.hi, q.norm⟩) l0 l1 l2] at ha
  dsimp only at ha ht
  rw [if_neg (by rw [l3]; decide), if_pos (.inr (by omega))] at ha
  rw [if_neg (show ¬ (q.label < 0 ∨ q.label ≥ o.getLastD 0) by omega)] at ht
  have sr := sameRats_r (a := q.lo) (b := q.hi) (by have := oy.nl; omega) oy.lo
  have hlens : ((q.x0.length : Int) = n.inp ∧ (q.lo.length : Int) = n.inp ∧ (q.hi.length : Int) = n.inp) ∧ q.lo.all formedR = true ∧ q.hi.all formedR = true := by
    simp only [List.any_cons, List.any_nil, Bool.or_false, Bool.or_eq_false_iff] at l1
    unfold bad1 at l1
    simp only [Bool.or_eq_false_iff, bne_eq_false_iff_eq, Bool.not_eq_false'] at l1
    exact ⟨⟨l1.1.1, l1.2.1.1, l1.2.2.1⟩, l1.2.1.2, l1.2.2.2⟩
  obtain ⟨⟨n1, n2, n3⟩, f1, f2⟩ := hlens
  generalize hgl : o.getLastD 0 = last at *
  by_cases hp : q.lo = q.hi
  · have ct : cmpsT (q.hi.zip q.lo) = false := by rw [hp]; exact cmps_self _
    rw [if_neg (by rw [ct]; decide)] at ht
    rw [decide_eq_true hp] at sr
    clear f1 f2 l3 ct hp
    obtain ⟨inp, ls⟩ := n
    obtain ⟨x0, label, lo, hi, norm⟩ := q
    dsimp only at *
    refine ret_of (L := L) lay_ok Try.func7 rfl Try.ntmps7 rfl ?_
    refine goq ?_
    refine go ?_
    refine cl (by exact rfl) plain29 rfl hs ?_
    refine go ?_
    refine cl (by exact rfl) plain31 rfl hy ?_
    refine go ?_
    refine cl (by exact rfl) plain26 rfl hqr ?_
    refine go ?_
    refine cl (by exact rfl) plain22 rfl hz ?_
    refine go ?_
    refine awp_cF rfl (beq_eq_false_iff_ne.2 (by omega)) ?_
    refine go ?_
    refine ar_atE (enc := niC) (l := o) (o.length - 1) last hlast rfl rfl rfl rfl rfl (fun _ => rfl) rfl (by omega) ?_
    refine go ?_
    refine cl (by exact rfl) plain26 rfl ht ?_
    refine go ?_
    refine cl (by exact rfl) plain32 rfl sr ?_
    refine go ?_
    refine ar_eq 61 rfl (d' := .im (.bool true)) (eqt (beq_iff_eq.2 n1)) ?_
    refine go ?_
    refine ar_eq 69 rfl (d' := .im (.bool true)) (eqt (beq_iff_eq.2 n2)) ?_
    refine go ?_
    refine ar_eq 74 rfl (d' := .im (.bool true)) (eqt (decide_eq_true l4)) ?_
    refine go ?_
    refine ar_eq 80 rfl (d' := .im (.bool true)) (eqt (decide_eq_true l5)) ?_
    refine go ?_
    refine cl (by exact rfl) plain26 rfl ha ?_
    refine go ?_
    refine cl (by exact rfl) plain28 rfl aw ?_
    refine go ?_
    refine ⟨_, rfl, ?_⟩
    rfl
  · have ct := cmps_turn (by omega) f1 f2 l3 hp
    rw [if_pos ct] at ht
    rw [decide_eq_false hp] at sr
    clear f1 f2 l3 ct hp
    obtain ⟨inp, ls⟩ := n
    obtain ⟨x0, label, lo, hi, norm⟩ := q
    dsimp only at *
    refine ret_of (L := L) lay_ok Try.func7 rfl Try.ntmps7 rfl ?_
    refine goq ?_
    refine go ?_
    refine cl (by exact rfl) plain29 rfl hs ?_
    refine go ?_
    refine cl (by exact rfl) plain31 rfl hy ?_
    refine go ?_
    refine cl (by exact rfl) plain26 rfl hqr ?_
    refine go ?_
    refine cl (by exact rfl) plain22 rfl hz ?_
    refine go ?_
    refine awp_cF rfl (beq_eq_false_iff_ne.2 (by omega)) ?_
    refine go ?_
    refine ar_atE (enc := niC) (l := o) (o.length - 1) last hlast rfl rfl rfl rfl rfl (fun _ => rfl) rfl (by omega) ?_
    refine go ?_
    refine cl (by exact rfl) plain26 rfl ht ?_
    refine go ?_
    refine cl (by exact rfl) plain32 rfl sr ?_
    refine go ?_
    refine ar_eq 61 rfl (d' := .im (.bool true)) (eqt (beq_iff_eq.2 n1)) ?_
    refine go ?_
    refine ar_eq 69 rfl (d' := .im (.bool true)) (eqt (beq_iff_eq.2 n2)) ?_
    refine go ?_
    refine ar_eq 74 rfl (d' := .im (.bool true)) (eqt (decide_eq_true l4)) ?_
    refine go ?_
    refine ar_eq 80 rfl (d' := .im (.bool true)) (eqt (decide_eq_true l5)) ?_
    refine go ?_
    refine cl (by exact rfl) plain26 rfl ha ?_
    refine go ?_
    refine cl (by exact rfl) plain28 rfl aw ?_
    refine go ?_
    refine ⟨_, rfl, ?_⟩
    rfl
end Go.Proofs.Ytkbhchlecokpiaa
