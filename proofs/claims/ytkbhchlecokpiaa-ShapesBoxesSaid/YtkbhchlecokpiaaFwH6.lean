/- Queries: whether they may be. -/
import Derived.Test.YtkbhchlecokpiaaFwH5
namespace Go.Proofs.Ytkbhchlecokpiaa
open Go Go.RowKit Fw Tw Rat
set_option linter.unusedVariables false
set_option linter.unusedSimpArgs false
theorem go_len : ∀ {ls : List Ly} {out o : List Int} {u t : Int}, goT ls out u t = (o, 0) → o.length = out.length + ls.length
  | [], out, o, u, t, h => by
    unfold goT at h
    simp only [Prod.mk.injEq, and_true] at h
    subst h; rfl
  | l :: ls, out, o, u, t, h => by
    unfold goT at h
    split at h
    · simp at h
    · split at h
      · simp at h
      · have := go_len h
        rw [this, List.length_append]
        simp only [List.length_cons, List.length_nil]; omega
theorem look_len {n : Nt} {o : List Int} (h : lookF n = (o, 0)) : o.length = n.lay.length + 1 := by
  unfold lookF at h
  split at h
  · simp at h
  · have := go_len h
    simp only [List.length_cons, List.length_nil] at this; omega
theorem last_get {out : List Int} (h : 0 < out.length) : out[out.length - 1]? = some (out.getLastD 0) := by
  rw [← List.getLast?_eq_getElem?, List.getLastD_eq_getLast?]
  cases hl : out.getLast? with
  | none => rw [List.getLast?_eq_none_iff] at hl; subst hl; simp at h
  | some u => rfl
def bad1 (inp : Int) (x : List RQ) : Bool := ((x.length : Int) != inp) || !x.all formedR
def cmpsT (l : List (RQ × RQ)) : Bool := l.any fun p => decide (cmpQ (vq p.1) (vq p.2) > 0)
def queryT (n : Nt) (q : Qy) : Int :=
  if (lookF n).2 ≠ 0 then (lookF n).2
  else if [q.x0, q.lo, q.hi].any (bad1 n.inp) = true then 22
  else if ((q.norm != 1) && (q.norm != 2)) = true then 22
  else if cmpsT (q.lo.zip q.hi) = true then 23
  else if q.label < 0 ∨ q.label ≥ (lookF n).1.getLastD 0 then 24 else 0
structure QyOk (q : Qy) : Prop where
  x0 : ∀ r ∈ q.x0, WfQ r 1000
  lo : ∀ r ∈ q.lo, WfQ r 1000
  hi : ∀ r ∈ q.hi, WfQ r 1000
  n0 : q.x0.length ≤ 1000000
  nl : q.lo.length ≤ 1000000
  nh : q.hi.length ≤ 1000000
def vrC (x : List RQ) : List M := [mS rqC x]
theorem zip_any {α β : Type} {p : α × β → Bool} {l : List α} {m : List β} {i : Nat} {a : α} {b : β} (ha : l[i]? = some a) (hb : m[i]? = some b) : ((l.zip m).drop i).any p = (p (a, b) || ((l.zip m).drop (i + 1)).any p) := by
  have hz : (l.zip m)[i]? = some (a, b) := by rw [List.getElem?_zip_eq_some]; exact ⟨ha, hb⟩
  obtain ⟨h, e⟩ := List.getElem?_eq_some_iff.1 hz
  rw [List.drop_eq_getElem_cons h, e, List.any_cons]
set_option maxHeartbeats 16000000 in
set_option maxRecDepth 100000 in
theorem query_r {n : Nt} {q : Qy} (ok : NtOk n) (oq : QyOk q) : Ret Try.prog 26 [.agg (ntC n), .agg (qyC q)] (.int .i64 (queryT n q)) := by
  have hml : maxLen = 9223372036854775807 := rfl
  have h := look_r ok
  have hlen := @look_len n
  have oX : ∀ x ∈ [q.x0, q.lo, q.hi], x.length ≤ 1000000 ∧ ∀ r ∈ x, WfQ r 1000 := by
    intro x hx
    simp only [List.mem_cons, List.not_mem_nil, or_false] at hx
    rcases hx with rfl | rfl | rfl
    · exact ⟨oq.n0, oq.x0⟩
    · exact ⟨oq.nl, oq.lo⟩
    · exact ⟨oq.nh, oq.hi⟩
  have olo := oq.lo
  have ohi := oq.hi
  have onl := oq.nl
  have okn := ok.len
  have hb : queryT n q = queryT n q := rfl
  conv at hb => rhs; unfold queryT
  generalize queryT n q = res at hb ⊢
  obtain ⟨inp, ls⟩ := n
  obtain ⟨x0, label, lo, hi, norm⟩ := q
  dsimp only at hb oX olo ohi hlen onl okn
  generalize lookF ⟨inp, ls⟩ = p at *
  obtain ⟨out, e⟩ := p
  dsimp only at hb hlen
  by_cases he : e = 0
  case neg =>
    rw [if_pos he] at hb
    subst hb
    unfold lookM at h
    dsimp only at h
    rw [if_neg he] at h
    refine ret_of (L := L) lay_ok Try.func26 rfl Try.ntmps26 rfl ?_
    refine goq ?_
    refine go ?_
    refine cl (by exact rfl) plain54 rfl h ?_
    refine go ?_
    refine awp_cT rfl (int_ne he) ?_
    refine go ?_
    exact ⟨_, rfl, rfl⟩
  subst he
  have hl1 := hlen rfl
  rw [if_neg (by simp)] at hb
  have e1 : lookM (out, 0) = .tup [mS niC out, .int .i64 0] := rfl
  rw [e1] at h
  refine ret_of (L := L) lay_ok Try.func26 rfl Try.ntmps26 rfl ?_
  refine goq ?_
  refine go ?_
  refine cl (by exact rfl) plain54 rfl h ?_
  refine go ?_
  refine awp_frzRow (id := 24) (k := 24) (cs' := [x0, lo, hi].flatMap vrC) rfl rfl (by exact Nat.le_refl 3) rfl ?_
  refine awp_loopC (A := Nat) (B := Unit) (fun i => i ≤ 3 ∧ (([x0, lo, hi].take i).any (bad1 inp)) = false)
    (fun i => [(26, some (.im (.int .i64 (i : Nat)))), (25, some (.im (.int .i64 3))), (24, some (.im (mS vrC [x0, lo, hi]))), (2, some (.ptr 2 0)), (3, some (.ptr 3 0)), (5, some (.im (mS niC out)))])
    (fun i => [(2, some (.box 52 [.im (.int .i64 inp), .im (mS lyC ls)])), (3, some (.box 67 ((qyC ⟨x0, label, lo, hi, norm⟩).map .im)))]) (fun i => 3 - i)
    (fun _ => [x0, lo, hi].any (bad1 inp) = false)
    (fun _ => [(2, some (.ptr 2 0)), (3, some (.ptr 3 0)), (5, some (.im (mS niC out)))])
    (fun _ => [(2, some (.box 52 [.im (.int .i64 inp), .im (mS lyC ls)])), (3, some (.box 67 ((qyC ⟨x0, label, lo, hi, norm⟩).map .im)))]) 0 ⟨by omega, rfl⟩ ?_ ?_ ?_
  · exact gou0
  · rintro i ⟨h1, h2⟩
    rcases Nat.lt_or_ge i 3 with hlt | hge
    · obtain ⟨x, hx⟩ : ∃ x, [x0, lo, hi][i]? = some x := ⟨[x0, lo, hi][i], List.getElem?_eq_getElem hlt⟩
      have hxm := List.mem_of_getElem? hx
      have ox := oX x hxm
      have ha := allR_r (by omega) (by omega) (by omega) ox.2
      have step : ([x0, lo, hi].take (i + 1)).any (bad1 inp) = bad1 inp x := by
        rw [List.take_add_one, hx, List.any_append, h2]
        simp
      have hany : bad1 inp x = true → [x0, lo, hi].any (bad1 inp) = true := fun hb1 => List.any_eq_true.2 ⟨x, hxm, hb1⟩
      have hbx : bad1 inp x = (((x.length : Int) != inp) || !x.all formedR) := rfl
      rw [hbx] at step hany
      refine go ?_
      refine awp_cT rfl (by rw [decide_eq_true_eq]; omega) ?_
      refine go ?_
      refine ar_atE (enc := vrC) (l := [x0, lo, hi]) i x hx rfl rfl rfl rfl rfl (fun _ => rfl) rfl rfl ?_
      refine go ?_
      by_cases d1 : (x.length : Int) = inp
      case neg =>
        have d1' := int_ne d1
        rw [d1', Bool.true_or] at hany
        rw [if_pos (hany rfl)] at hb
        refine ar_eq 35 rfl (d' := .im (.bool true)) (eqt d1') ?_
        refine go ?_
        subst hb
        exact .inr ⟨_, rfl, rfl⟩
      have d1' := int_eq d1
      rw [d1', Bool.false_or] at step hany
      refine ar_eq 35 rfl (d' := .im (.bool false)) (eqt d1') ?_
      refine go ?_
      refine cl (by exact rfl) plain55 rfl ha ?_
      refine go ?_
      by_cases d2 : x.all formedR = true
      · rw [d2] at step
        refine awp_cF rfl (by rw [d2]; rfl) ?_
        refine go ?_
        refine ⟨i + 1, ⟨by omega, step⟩, ?_, by omega⟩
        exact gou0
      · have d2' := (Bool.not_eq_true _).mp d2
        rw [d2'] at hany
        rw [if_pos (hany rfl)] at hb
        refine awp_cT rfl (by rw [d2']; rfl) ?_
        refine go ?_
        subst hb
        exact .inr ⟨_, rfl, rfl⟩
    · have : i = 3 := by omega
      subst this
      refine go ?_
      refine .inl ⟨rfl, (), h2, ?_⟩
      exact gou0
  rintro _ hok
  rw [if_neg (by rw [hok]; decide)] at hb
  simp only [List.any_cons, List.any_nil, Bool.or_false, Bool.or_eq_false_iff] at hok
  obtain ⟨k1, k2, k3⟩ := hok
  have el : ∀ x : List RQ, bad1 inp x = false → (x.length : Int) = inp := by
    intro x hx
    unfold bad1 at hx
    rw [Bool.or_eq_false_iff] at hx
    simpa using hx.1
  have l1 := el _ k2
  have l2 := el _ k3
  have hll : lo.length = hi.length := by omega
  change Awp _ _ _ _ [(2, some (.ptr 2 0)), (3, some (.ptr 3 0)), (5, some (.im (mS niC out)))] [(2, some (.box 52 [.im (.int .i64 inp), .im (mS lyC ls)])), (3, some (.box 67 ((qyC ⟨x0, label, lo, hi, norm⟩).map .im)))]
  refine go ?_
  by_cases n1 : norm = 1
  case neg =>
    refine ar_eq 44 rfl (d' := .im (.bool true)) (eqt (int_ne n1)) ?_
    refine go ?_
    by_cases n2 : norm = 2
    case neg =>
      rw [if_pos (by rw [int_ne n1, int_ne n2]; rfl)] at hb
      refine awp_cT rfl (int_ne n2) ?_
      refine go ?_
      subst hb
      exact ⟨_, rfl, rfl⟩
    rw [if_neg (by rw [int_eq n2]; simp)] at hb
    refine awp_cF rfl (int_eq n2) ?_
    refine go ?_
    refine awp_loopC (A := Nat) (B := Unit) (fun i => i ≤ lo.length ∧ ((lo.zip hi).drop i).any (fun p => decide (cmpQ (vq p.1) (vq p.2) > 0)) = cmpsT (lo.zip hi))
      (fun i => [(52, some (.im (.int .i64 (i : Nat)))), (51, some (.im (.int .i64 (lo.length : Nat)))), (3, some (.ptr 3 0)), (5, some (.im (mS niC out)))])
      (fun i => [(3, some (.box 67 ((qyC ⟨x0, label, lo, hi, norm⟩).map .im)))]) (fun i => lo.length - i)
      (fun _ => cmpsT (lo.zip hi) = false) (fun _ => [(3, some (.ptr 3 0)), (5, some (.im (mS niC out)))]) (fun _ => [(3, some (.box 67 ((qyC ⟨x0, label, lo, hi, norm⟩).map .im)))]) 0 ⟨Nat.zero_le _, rfl⟩ ?_ ?_ ?_
    · exact gou0
    · rintro i ⟨h1, h2⟩
      by_cases hlt : i < lo.length
      · obtain ⟨a, ha⟩ : ∃ a, lo[i]? = some a := ⟨lo[i], List.getElem?_eq_getElem hlt⟩
        obtain ⟨b, hbb⟩ : ∃ b, hi[i]? = some b := ⟨hi[i]'(by omega), List.getElem?_eq_getElem (by omega)⟩
        rw [zip_any ha hbb] at h2
        have hc := cmp_q ((olo a (List.mem_of_getElem? ha)).isQ (by omega)) ((ohi b (List.mem_of_getElem? hbb)).isQ (by omega)) (by omega) (by omega)
        refine go ?_
        refine awp_cT rfl (by rw [decide_eq_true_eq]; omega) ?_
        refine go ?_
        refine ar_atE (enc := rqC) i a ha rfl rfl rfl rfl rfl (fun _ => rfl) rfl rfl ?_
        refine go ?_
        refine ar_atE (enc := rqC) i b hbb rfl rfl rfl rfl rfl (fun _ => rfl) rfl rfl ?_
        refine go ?_
        refine cl (by exact rfl) plain19 rfl hc ?_
        refine go ?_
        by_cases d : cmpQ (vq a) (vq b) > 0
        · rw [decide_eq_true d, Bool.true_or] at h2
          rw [if_pos h2.symm] at hb
          refine awp_cT rfl (decide_eq_true d) ?_
          refine go ?_
          subst hb
          exact .inr ⟨_, rfl, rfl⟩
        · rw [decide_eq_false d, Bool.false_or] at h2
          refine awp_cF rfl (decide_eq_false d) ?_
          refine go ?_
          refine ⟨i + 1, ⟨by omega, h2⟩, ?_, by omega⟩
          exact gou0
      · have e : (lo.zip hi).drop i = [] := List.drop_eq_nil_of_le (by rw [List.length_zip]; omega)
        rw [e] at h2
        refine go ?_
        refine awp_cF rfl (by rw [decide_eq_false_iff_not]; omega) ?_
        refine go ?_
        refine .inl ⟨rfl, (), h2.symm, ?_⟩
        exact gou0
    rintro _ hcm
    rw [if_neg (by rw [hcm]; decide)] at hb
    refine go ?_
    by_cases g1 : label < 0
    · rw [if_pos (.inl g1)] at hb
      refine ar_eq 71 rfl (d' := .im (.bool true)) (eqt (decide_eq_true g1)) ?_
      refine go ?_
      subst hb
      exact ⟨_, rfl, rfl⟩
    refine ar_eq 71 rfl (d' := .im (.bool false)) (eqt (decide_eq_false g1)) ?_
    have hu := last_get (out := out) (by omega)
    refine go ?_
    refine ar_atE (enc := niC) (l := out) (out.length - 1) _ hu rfl rfl rfl rfl rfl (fun _ => rfl) rfl (by omega) ?_
    refine go ?_
    by_cases g2 : label ≥ out.getLastD 0
    · rw [if_pos (.inr g2)] at hb
      refine awp_cT rfl (decide_eq_true g2) ?_
      refine go ?_
      subst hb
      exact ⟨_, rfl, rfl⟩
    · rw [if_neg (by rintro (h | h) <;> contradiction)] at hb
      refine awp_cF rfl (decide_eq_false g2) ?_
      refine go ?_
      subst hb
      exact ⟨_, rfl, rfl⟩
  rw [if_neg (by rw [int_eq n1]; simp)] at hb
  refine ar_eq 44 rfl (d' := .im (.bool false)) (eqt (int_eq n1)) ?_
  refine go ?_
  refine awp_loopC (A := Nat) (B := Unit) (fun i => i ≤ lo.length ∧ ((lo.zip hi).drop i).any (fun p => decide (cmpQ (vq p.1) (vq p.2) > 0)) = cmpsT (lo.zip hi))
    (fun i => [(52, some (.im (.int .i64 (i : Nat)))), (51, some (.im (.int .i64 (lo.length : Nat)))), (3, some (.ptr 3 0)), (5, some (.im (mS niC out)))])
    (fun i => [(3, some (.box 67 ((qyC ⟨x0, label, lo, hi, norm⟩).map .im)))]) (fun i => lo.length - i)
    (fun _ => cmpsT (lo.zip hi) = false) (fun _ => [(3, some (.ptr 3 0)), (5, some (.im (mS niC out)))]) (fun _ => [(3, some (.box 67 ((qyC ⟨x0, label, lo, hi, norm⟩).map .im)))]) 0 ⟨Nat.zero_le _, rfl⟩ ?_ ?_ ?_
  · exact gou0
  · rintro i ⟨h1, h2⟩
    by_cases hlt : i < lo.length
    · obtain ⟨a, ha⟩ : ∃ a, lo[i]? = some a := ⟨lo[i], List.getElem?_eq_getElem hlt⟩
      obtain ⟨b, hbb⟩ : ∃ b, hi[i]? = some b := ⟨hi[i]'(by omega), List.getElem?_eq_getElem (by omega)⟩
      rw [zip_any ha hbb] at h2
      have hc := cmp_q ((olo a (List.mem_of_getElem? ha)).isQ (by omega)) ((ohi b (List.mem_of_getElem? hbb)).isQ (by omega)) (by omega) (by omega)
      refine go ?_
      refine awp_cT rfl (by rw [decide_eq_true_eq]; omega) ?_
      refine go ?_
      refine ar_atE (enc := rqC) i a ha rfl rfl rfl rfl rfl (fun _ => rfl) rfl rfl ?_
      refine go ?_
      refine ar_atE (enc := rqC) i b hbb rfl rfl rfl rfl rfl (fun _ => rfl) rfl rfl ?_
      refine go ?_
      refine cl (by exact rfl) plain19 rfl hc ?_
      refine go ?_
      by_cases d : cmpQ (vq a) (vq b) > 0
      · rw [decide_eq_true d, Bool.true_or] at h2
        rw [if_pos h2.symm] at hb
        refine awp_cT rfl (decide_eq_true d) ?_
        refine go ?_
        subst hb
        exact .inr ⟨_, rfl, rfl⟩
      · rw [decide_eq_false d, Bool.false_or] at h2
        refine awp_cF rfl (decide_eq_false d) ?_
        refine go ?_
        refine ⟨i + 1, ⟨by omega, h2⟩, ?_, by omega⟩
        exact gou0
    · have e : (lo.zip hi).drop i = [] := List.drop_eq_nil_of_le (by rw [List.length_zip]; omega)
      rw [e] at h2
      refine go ?_
      refine awp_cF rfl (by rw [decide_eq_false_iff_not]; omega) ?_
      refine go ?_
      refine .inl ⟨rfl, (), h2.symm, ?_⟩
      exact gou0
  rintro _ hcm
  rw [if_neg (by rw [hcm]; decide)] at hb
  refine go ?_
  by_cases g1 : label < 0
  · rw [if_pos (.inl g1)] at hb
    refine ar_eq 71 rfl (d' := .im (.bool true)) (eqt (decide_eq_true g1)) ?_
    refine go ?_
    subst hb
    exact ⟨_, rfl, rfl⟩
  refine ar_eq 71 rfl (d' := .im (.bool false)) (eqt (decide_eq_false g1)) ?_
  have hu := last_get (out := out) (by omega)
  refine go ?_
  refine ar_atE (enc := niC) (l := out) (out.length - 1) _ hu rfl rfl rfl rfl rfl (fun _ => rfl) rfl (by omega) ?_
  refine go ?_
  by_cases g2 : label ≥ out.getLastD 0
  · rw [if_pos (.inr g2)] at hb
    refine awp_cT rfl (decide_eq_true g2) ?_
    refine go ?_
    subst hb
    exact ⟨_, rfl, rfl⟩
  · rw [if_neg (by rintro (h | h) <;> contradiction)] at hb
    refine awp_cF rfl (decide_eq_false g2) ?_
    refine go ?_
    subst hb
    exact ⟨_, rfl, rfl⟩
end Go.Proofs.Ytkbhchlecokpiaa
