/- A beginning of a network that may be, may be. -/
import Derived.Test.YtkbhchlecokpiaaFwH9
namespace Go.Proofs.Ytkbhchlecokpiaa
open Go Go.RowKit Fw Tw Rat
set_option linter.unusedVariables false
set_option linter.unusedSimpArgs false
theorem conv_pos {l : Ly} {n : Int} (h : 0 ≤ convT l n) : 1 ≤ convT l n := by
  unfold convT at h ⊢
  split
  · rename_i c; rw [if_pos c] at h; omega
  rename_i c0
  rw [if_neg c0] at h
  split
  · rename_i c; rw [if_pos c] at h; omega
  rename_i c1
  rw [if_neg c1] at h
  split
  · rename_i c; rw [if_pos c] at h; omega
  rename_i c2
  rw [if_neg c2] at h
  split
  · rename_i c; rw [if_pos c] at h; omega
  rename_i c3
  rw [if_neg c3] at h
  split
  · rename_i c; rw [if_pos c] at h; omega
  rename_i c4
  rw [if_neg c4] at h
  split
  · rename_i c; rw [if_pos c] at h; omega
  rename_i c5
  rw [if_neg c5] at h
  split
  · rename_i c; rw [if_pos c] at h; omega
  rename_i c6
  rw [if_neg c6] at h
  split
  · rename_i c; rw [if_pos c] at h; omega
  rename_i c7
  rw [if_neg c7] at h
  split
  · rename_i c; rw [if_pos c] at h; omega
  have hs : (sidesL l).all sideI = true := by simpa using c0
  simp only [sidesL, List.all_cons, List.all_nil, Bool.and_true, Bool.and_eq_true, sideI_iff] at hs
  obtain ⟨s1, s2, s3, s4, s5, s6, s7⟩ := hs
  have d1 : 0 ≤ (l.high + 2 * l.pad - l.kh) / l.st := Int.ediv_nonneg (by omega) (by omega)
  have d2 : 0 ≤ (l.wide + 2 * l.pad - l.kw) / l.st := Int.ediv_nonneg (by omega) (by omega)
  generalize (l.high + 2 * l.pad - l.kh) / l.st = a at *
  generalize (l.wide + 2 * l.pad - l.kw) / l.st = b at *
  have m1 : 1 * 1 ≤ l.out * (a + 1) := Int.mul_le_mul s4.1 (by omega) (by omega) (by omega)
  have m2 : 1 * 1 ≤ l.out * (a + 1) * (b + 1) := Int.mul_le_mul (by omega) (by omega) (by omega) (by omega)
  omega
theorem behind_pos {l : Ly} {n : Int} (hn : 1 ≤ n) (h : 0 ≤ (behindT l n).1) : 1 ≤ (behindT l n).1 := by
  unfold behindT at h ⊢
  split
  · rename_i c; rw [if_pos c] at h; exact absurd h (by decide)
  rename_i c0
  rw [if_neg c0] at h
  split
  · rename_i c
    rw [if_pos c] at h
    split
    · rename_i d
      simp only [Bool.and_eq_true, decide_eq_true_eq] at d
      exact d.1.1
    · rename_i d; rw [if_neg d] at h; exact absurd h (by decide)
  rename_i c1
  rw [if_neg c1] at h
  split
  · rename_i c
    rw [if_pos c] at h
    exact conv_pos h
  rename_i c2
  rw [if_neg c2] at h
  split
  · rename_i c
    rw [if_pos c] at h
    split
    · exact hn
    · rename_i d; rw [if_neg d] at h; exact absurd h (by decide)
  rename_i c3
  rw [if_neg c3] at h
  split
  · rename_i c
    rw [if_pos c] at h
    split
    · rename_i d
      have := d.2
      unfold poolT at this
      simp only [Bool.and_eq_true, decide_eq_true_eq] at this
      exact this.1
    · rename_i d; rw [if_neg d] at h; exact absurd h (by decide)
  · rename_i c; rw [if_neg c] at h; exact absurd h (by decide)
theorem go_all : ∀ {ls : List Ly} {out o : List Int} {u t : Int}, 1 ≤ u → (∀ x ∈ out, 1 ≤ x ∧ x ≤ 256) → goT ls out u t = (o, 0) → ∀ x ∈ o, 1 ≤ x ∧ x ≤ 256
  | [], out, o, u, t, _, h, e => by
    unfold goT at e
    simp only [Prod.mk.injEq, and_true] at e
    subst e; exact h
  | l :: ls, out, o, u, t, hu, h, e => by
    unfold goT at e
    split at e
    · simp at e
    · rename_i c1
      split at e
      · simp at e
      · rename_i c2
        have hp := behind_pos hu (Int.not_lt.1 c1)
        refine go_all hp ?_ e
        intro x hx
        rcases List.mem_append.1 hx with hx | hx
        · exact h x hx
        · rw [List.mem_singleton.1 hx]
          exact ⟨hp, by omega⟩
theorem go_take : ∀ {ls : List Ly} {out o : List Int} {u t : Int} {k : Nat}, k ≤ ls.length → goT ls out u t = (o, 0) → goT (ls.take k) out u t = (o.take (out.length + k), 0)
  | [], out, o, u, t, k, hk, e => by
    unfold goT at e
    simp only [Prod.mk.injEq, and_true] at e
    subst e
    simp only [List.length_nil] at hk
    have : k = 0 := by omega
    subst this
    rw [List.take_nil]
    unfold goT
    simp
  | l :: ls, out, o, u, t, 0, hk, e => by
    have hp : out <+: o := by
      clear hk
      revert e
      generalize l :: ls = m
      intro e
      induction m generalizing out u t with
      | nil =>
        unfold goT at e
        simp only [Prod.mk.injEq, and_true] at e
        subst e; exact List.prefix_refl _
      | cons a m ih =>
        unfold goT at e
        split at e
        · simp at e
        · split at e
          · simp at e
          · exact (List.prefix_append _ _).trans (ih _ _ _ e)
    rw [List.take_zero]
    unfold goT
    rw [Nat.add_zero]
    obtain ⟨r, rfl⟩ := hp
    rw [List.take_left]
  | l :: ls, out, o, u, t, k + 1, hk, e => by
    rw [List.take_succ_cons]
    unfold goT at e ⊢
    split at e
    · simp at e
    · rename_i c1
      rw [if_neg c1]
      split at e
      · simp at e
      · rename_i c2
        rw [if_neg c2]
        have := go_take (k := k) (by simpa using hk) e
        rw [this, List.length_append]
        simp only [List.length_cons, List.length_nil]
        rw [show out.length + (0 + 1) + k = out.length + (k + 1) by omega]
theorem go_err : ∀ {ls : List Ly} {out : List Int} {u t : Int}, (goT ls out u t).2 = 0 ∨ (goT ls out u t).2 = 22 ∨ (goT ls out u t).2 = 25
  | [], out, u, t => by unfold goT; exact .inl rfl
  | l :: ls, out, u, t => by
    unfold goT
    split
    · exact .inr (.inl rfl)
    · split
      · exact .inr (.inr rfl)
      · exact go_err
theorem look_err (n : Nt) : (lookF n).2 = 0 ∨ (lookF n).2 = 22 ∨ (lookF n).2 = 25 := by
  unfold lookF
  split
  · exact .inr (.inr rfl)
  · exact go_err
theorem look_go {n : Nt} {o : List Int} (h : lookF n = (o, 0)) : goT n.lay [n.inp] n.inp 0 = (o, 0) ∧ 1 ≤ n.inp ∧ n.inp ≤ 64 ∧ n.lay.length ≤ 16 := by
  unfold lookF at h
  split at h
  · simp at h
  · rename_i c
    simp only [not_or] at c
    exact ⟨h, by omega, by omega, by omega⟩
theorem look_take {n : Nt} {o : List Int} {k : Nat} (h : lookF n = (o, 0)) (hk : k ≤ n.lay.length) : lookF ⟨n.inp, n.lay.take k⟩ = (o.take (k + 1), 0) := by
  obtain ⟨h1, h2, h3, h4⟩ := look_go h
  unfold lookF
  dsimp only
  rw [if_neg (by rw [List.length_take]; omega), go_take hk h1]
  simp only [List.length_cons, List.length_nil]
  rw [show 0 + 1 + k = k + 1 by omega]
theorem look_first {n : Nt} {o : List Int} (h : lookF n = (o, 0)) : o[0]? = some n.inp := by
  have h1 := look_take (k := 0) h (Nat.zero_le _)
  rw [List.take_zero] at h1
  obtain ⟨g1, g2, g3, g4⟩ := look_go h
  unfold lookF at h1
  dsimp only at h1
  rw [if_neg (by simp only [List.length_nil]; omega)] at h1
  unfold goT at h1
  simp only [Prod.mk.injEq, and_true] at h1
  have := congrArg (fun l : List Int => l[0]?) h1
  simp only [List.getElem?_cons_zero] at this
  rw [this, List.getElem?_take]
  simp
/-- numbers with digits that are digits -/
def DgQ (r : RQ) : Prop := Dig W r.l1 ∧ Dig W r.l2
structure DgL (l : Ly) : Prop where
  bias : ∀ r ∈ l.bias, DgQ r
  ker : ∀ r ∈ l.ker, DgQ r
  rows : ∀ v ∈ l.rows, ∀ t ∈ v, DgQ t.x
theorem wf_short {r : RQ} {d : Int} (h : DgQ r) (hs : shortQ d r = true) (hd : d ≤ 1000) : WfQ r 1000 := by
  unfold shortQ at hs
  simp only [Bool.and_eq_true, decide_eq_true_eq] at hs
  exact ⟨h.1, h.2, by omega, by omega⟩
theorem rs_short {l : List RQ} {c d : Int} (h : ∀ r ∈ l, DgQ r) (hs : shortRs c d l = true) (hd : d ≤ 1000) : (∀ r ∈ l, WfQ r 1000) ∧ (l.length : Int) ≤ c := by
  unfold shortRs at hs
  simp only [Bool.and_eq_true, decide_eq_true_eq] at hs
  exact ⟨fun r hr => wf_short (h r hr) (List.all_eq_true.1 hs.2 r hr) hd, hs.1⟩
theorem ly_short {l : Ly} {u d : Int} (h : DgL l) (hs : smallL u d l = true) (hu : u ≤ 200000) (hd : d ≤ 1000) : LyOk l := by
  unfold smallL at hs
  simp only [Bool.and_eq_true, decide_eq_true_eq] at hs
  obtain ⟨⟨⟨⟨⟨⟨⟨⟨h1, h2⟩, h3⟩, h4⟩, h5⟩, h6⟩, h7⟩, h8⟩, h9⟩ := hs
  obtain ⟨b1, b2⟩ := rs_short h.bias h2 hd
  obtain ⟨k1, k2⟩ := rs_short h.ker h3 hd
  unfold shortVs at h1
  simp only [Bool.and_eq_true, decide_eq_true_eq] at h1
  refine ⟨b1, k1, fun v hv => ?_, fun g hg => ?_, by omega, by omega, by omega, by omega⟩
  · have := List.all_eq_true.1 h1.2 v hv
    unfold shortV at this
    simp only [Bool.and_eq_true, decide_eq_true_eq] at this
    exact ⟨by omega, fun t ht => wf_short (h.rows v hv t ht) (List.all_eq_true.1 this.2 t ht) hd⟩
  · have := List.all_eq_true.1 h9 g hg
    rw [decide_eq_true_eq] at this
    omega
theorem nt_short {n : Nt} {la u d : Int} (h : ∀ l ∈ n.lay, DgL l) (hs : smallN n la u d = true) (hla : la ≤ 1000000) (hu : u ≤ 200000) (hd : d ≤ 1000) : NtOk n := by
  unfold smallN at hs
  simp only [Bool.and_eq_true, decide_eq_true_eq] at hs
  exact ⟨fun l hl => ly_short (h l hl) (List.all_eq_true.1 hs.2 l hl) hu hd, by omega⟩
theorem ok_take {n : Nt} (h : NtOk n) (k : Nat) : NtOk ⟨n.inp, n.lay.take k⟩ := ⟨fun l hl => h.lay l (List.mem_of_mem_take hl), by have := h.len; simp only [List.length_take]; omega⟩
set_option maxHeartbeats 16000000 in
set_option maxRecDepth 100000 in
theorem sbegin_r {n : Nt} {k : Int} (hd : ∀ l ∈ n.lay, DgL l) (hk1 : -9223372036854775808 ≤ k) (hk2 : k ≤ 9223372036854775807) : Ret Try.prog 6 [.agg (ntC n), .int .i64 k] (.bool true) := by
  have hs := smallN_r (n := n) (la := 20) (u := 300) (d := 20) (by omega) (by omega) (by omega)
  have aw := awake10_r
  by_cases c0 : smallN n 20 300 20 = true
  case neg =>
    rw [(Bool.not_eq_true _).mp c0] at hs
    obtain ⟨inp, ls⟩ := n
    refine ret_of (L := L) lay_ok Try.func6 rfl Try.ntmps6 rfl ?_
    refine goq ?_
    refine go ?_
    refine cl (by exact rfl) plain29 rfl hs ?_
    refine go ?_
    refine cl (by exact rfl) plain28 rfl aw ?_
    refine go ?_
    refine ⟨_, rfl, ?_⟩
    rfl
  have ok := nt_short hd c0 (by omega) (by omega) (by omega)
  rw [c0] at hs
  have hc := check_r ok
  have hz := sizes_r ok
  have he := look_err n
  have hl1 := @look_len n
  have hf := @look_first n
  have hg := @look_go n
  have htk := @look_take n
  have okn := ok.len
  obtain ⟨inp, ls⟩ := n
  generalize hlf : lookF ⟨inp, ls⟩ = p at *
  obtain ⟨o, e⟩ := p
  dsimp only at *
  by_cases e0 : e = 0
  case neg =>
    rw [if_neg e0] at hz
    rcases he with he | he | he
    · exact absurd he e0
    all_goals
      subst he
      refine ret_of (L := L) lay_ok Try.func6 rfl Try.ntmps6 rfl ?_
      refine goq ?_
      refine go ?_
      refine cl (by exact rfl) plain29 rfl hs ?_
      refine go ?_
      refine cl (by exact rfl) plain22 rfl hz ?_
      refine go ?_
      refine cl (by exact rfl) plain21 rfl hc ?_
      refine go ?_
      refine cl (by exact rfl) plain28 rfl aw ?_
      refine go ?_
      refine ⟨_, rfl, ?_⟩
      rfl
  subst e0
  rw [if_pos rfl] at hz
  have hl := hl1 rfl
  have h0 := hf rfl
  obtain ⟨g1, g2, g3, g4⟩ := hg rfl
  have hall := go_all (by omega) (by intro x hx; rw [List.mem_singleton.1 hx]; omega) g1
  have hp := pick_r (x := k) (n := (o.length : Int)) hk1 hk2 (by omega) (by omega)
  have t1 := Int.emod_nonneg k (show ((o.length : Nat) : Int) ≠ 0 by omega)
  have t2 := Int.emod_lt_of_pos k (show (0 : Int) < ((o.length : Nat) : Int) by omega)
  obtain ⟨j, hj⟩ : ∃ j : Nat, k % (o.length : Int) = (j : Int) := ⟨(k % (o.length : Int)).toNat, by omega⟩
  rw [hj] at hp t1 t2
  have htk' := htk (k := j) rfl (by omega)
  have okm := ok_take ok j
  dsimp only at okm
  have hcm := check_r okm
  have hzm := sizes_r okm
  rw [htk'] at hcm hzm
  rw [if_pos rfl] at hzm
  dsimp only at hcm hzm
  have hsm := sameInts_r (a := o.take (j + 1)) (b := o.take (j + 1)) (by rw [List.length_take]; omega)
  rw [decide_eq_true rfl] at hsm
  refine ret_of (L := L) lay_ok Try.func6 rfl Try.ntmps6 rfl ?_
  refine goq ?_
  refine go ?_
  refine cl (by exact rfl) plain29 rfl hs ?_
  refine go ?_
  refine cl (by exact rfl) plain22 rfl hz ?_
  refine go ?_
  refine cl (by exact rfl) plain21 rfl hc ?_
  refine go ?_
  refine ar_eq 40 rfl (d' := .im (.bool false)) (eqt (int_eq (show ((o.length : Nat) : Int) = IntKind.i64.wrap ((ls.length : Int) + 1) by rw [wrapI (by omega) (by omega)]; omega))) ?_
  refine go ?_
  refine ar_atE (enc := niC) (l := o) 0 inp h0 rfl rfl rfl rfl rfl (fun _ => rfl) rfl rfl ?_
  refine go ?_
  refine awp_cF rfl (int_eq rfl) ?_
  refine go ?_
  refine awp_loopC (A := Nat) (B := Unit) (fun i => i ≤ o.length)
    (fun i => [(7, some (.im (.int .i64 (i : Nat)))), (5, some (.im (mS niC o))), (1, some (.im (.int .i64 k))), (2, some (.ptr 2 0))]) (fun i => [(2, some (.box 52 [.im (.int .i64 inp), .im (mS lyC ls)]))]) (fun i => o.length - i)
    (fun _ => True) (fun _ => [(5, some (.im (mS niC o))), (1, some (.im (.int .i64 k))), (2, some (.ptr 2 0))]) (fun _ => [(2, some (.box 52 [.im (.int .i64 inp), .im (mS lyC ls)]))]) 0 (Nat.zero_le _) ?_ ?_ ?_
  · exact gou0
  · rintro i h1
    by_cases hlt : i < o.length
    · obtain ⟨x, hx⟩ : ∃ x, o[i]? = some x := ⟨o[i], List.getElem?_eq_getElem hlt⟩
      have hb := hall x (List.mem_of_getElem? hx)
      refine go ?_
      refine awp_cT rfl (by rw [decide_eq_true_eq]; omega) ?_
      refine go ?_
      refine ar_atE (enc := niC) (l := o) i x hx rfl rfl rfl rfl rfl (fun _ => rfl) rfl rfl ?_
      refine go ?_
      refine ar_eq 59 rfl (d' := .im (.bool false)) (eqt (decide_eq_false (by omega))) ?_
      refine go ?_
      refine ar_atE (enc := niC) (l := o) i x hx rfl rfl rfl rfl rfl (fun _ => rfl) rfl rfl ?_
      refine go ?_
      refine awp_cF rfl (decide_eq_false (by omega)) ?_
      refine go ?_
      refine ⟨i + 1, by omega, ?_, by omega⟩
      exact gou0
    · have e : i = o.length := by omega
      subst e
      refine go ?_
      refine awp_cF rfl (by rw [decide_eq_false_iff_not]; omega) ?_
      refine go ?_
      refine .inl ⟨rfl, (), trivial, ?_⟩
      exact gou0
  rintro _ -
  refine go ?_
  refine cl (by exact rfl) plain30 rfl hp ?_
  refine go ?_
  refine ar_takeS (enc := lyC) (l := ls) (l' := ls.take j) j rfl rfl rfl rfl rfl rfl rfl (fun _ => rfl) rfl (by omega) rfl ?_
  refine go ?_
  refine cl (by exact rfl) plain21 rfl hcm ?_
  refine go ?_
  refine cl (by exact rfl) plain22 rfl hzm ?_
  refine go ?_
  refine ar_takeS (enc := niC) (l := o) (l' := o.take (j + 1)) (j + 1) rfl rfl rfl rfl rfl rfl rfl (fun _ => rfl) (by omega) (by omega) rfl ?_
  refine go ?_
  refine cl (by exact rfl) plain23 rfl hsm ?_
  refine go ?_
  refine cl (by exact rfl) plain28 rfl aw ?_
  refine go ?_
  refine ⟨_, rfl, ?_⟩
  rfl
end Go.Proofs.Ytkbhchlecokpiaa
