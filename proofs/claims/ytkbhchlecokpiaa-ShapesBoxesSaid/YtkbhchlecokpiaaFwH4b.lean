/- A layer: what is behind it. -/
import Derived.Test.YtkbhchlecokpiaaFwH4
namespace Go.Proofs.Ytkbhchlecokpiaa
open Go Go.RowKit Fw Tw Rat
set_option linter.unusedVariables false
set_option linter.unusedSimpArgs false
/-- a layer with numbers and lists of a size that is looked at -/
structure LyOk (l : Ly) : Prop where
  bias : ∀ r ∈ l.bias, WfQ r 1000
  ker : ∀ r ∈ l.ker, WfQ r 1000
  rows : ∀ v ∈ l.rows, v.length ≤ 1000000 ∧ ∀ t ∈ v, WfQ t.x 1000
  grp : ∀ g ∈ l.grp, g.length ≤ 1000000
  nb : l.bias.length ≤ 1000000
  nk : l.ker.length ≤ 1000000
  nr : l.rows.length ≤ 1000000
  ng : l.grp.length ≤ 1000000
def badT (l : Ly) : Bool := !l.bias.all formedR || !l.ker.all formedR || ((l.kind != 2) && (!nothingT l || decide ((l.ker.length : Int) > 0))) || ((l.kind != 1) && decide ((l.rows.length : Int) > 0)) || ((l.kind != 4) && decide ((l.grp.length : Int) > 0))
def termsT (l : Ly) (u : Int) : Int := IntKind.i64.wrap (IntKind.i64.wrap (IntKind.i64.wrap (u * l.ch) * l.kh) * l.kw)
def behindT (l : Ly) (n : Int) : Int × Int :=
  if badT l = true then (-1, 0)
  else if l.kind = 1 then if (decide ((l.rows.length : Int) ≥ 1) && ((l.rows.length : Int) == (l.bias.length : Int)) && l.rows.all (rightT n (-1))) = true then ((l.rows.length : Nat), (countT l.rows : Nat)) else (-1, 0)
  else if l.kind = 2 then (convT l n, termsT l (convT l n))
  else if l.kind = 3 then if l.bias.length = 0 then (n, 0) else (-1, 0)
  else if l.kind = 4 then if l.bias.length = 0 ∧ poolT l n = true then ((l.grp.length : Nat), (countT l.grp : Nat)) else (-1, 0)
  else (-1, 0)
abbrev bhM (p : Int × Int) : M := .tup [.int .i64 p.1, .int .i64 p.2]
theorem allV_r {l : List (List Tm)} {n : Int} (hl : l.length ≤ maxLen) (hw : ∀ v ∈ l, v.length ≤ 1000000 ∧ ∀ t ∈ v, WfQ t.x 1000) {T0 : TypeId} : RetD Try.prog 116 [.im (mS vcC l), .fn 117 [.ptr 900 0]] [(900, T0, [.im (.int .i64 n)])] (.bool (l.all (rightT n (-1)))) [(900, T0, [.im (.int .i64 n)])] := by
  have := all_V1 (S := Unit) (T0 := T0) (c0 := fun _ => .int .i64 n) (step := fun s a => (rightT n (-1) a, s)) plain117 hl (fun s a ha => beh1_r (by have := (hw a ha).1; omega) (hw a ha).2) ()
  rwa [allS_unit] at this
set_option maxHeartbeats 16000000 in
set_option maxRecDepth 100000 in
theorem behind_r {l : Ly} {n : Int} (ok : LyOk l) : Ret Try.prog 84 [.agg (lyC l), .int .i64 n] (bhM (behindT l n)) := by
  have hml : maxLen = 9223372036854775807 := rfl
  have ab := allR_r (by omega) (by omega) (by have := ok.nb; omega) ok.bias
  have ak := allR_r (by omega) (by omega) (by have := ok.nk; omega) ok.ker
  have hn := nothing_r l
  have hc := conv_r (l := l) (n := n)
  have hp := pool_r (l := l) (n := n) (by have := ok.ng; omega) (fun g hg => by have := ok.grp g hg; omega)
  have hv := (allV_r (n := n) (T0 := 3) (by have := ok.nr; omega) ok.rows).ren (sg [(900, 3)]) (sg_inj2 [900] rfl (by decide))
  have cv := countV_r (l := l.rows) (by have := ok.nr; omega) (Nat.le_trans (countT_le fun v hv => (ok.rows v hv).1) (Nat.le_trans (Nat.mul_le_mul_right _ ok.nr) (by omega)))
  have cg := countG_r (l := l.grp) (by have := ok.ng; omega) (Nat.le_trans (countT_le ok.grp) (Nat.le_trans (Nat.mul_le_mul_right _ ok.ng) (by omega)))
  have hb : behindT l n = behindT l n := rfl
  conv at hb => rhs; unfold behindT
  generalize hbt : behindT l n = bt at hb ⊢
  have hbad : badT l = badT l := rfl
  conv at hbad => rhs; unfold badT
  generalize hgb : badT l = bad at hb hbad
  generalize hgn : nothingT l = N at hn hbad
  obtain ⟨kind, rows, bias, ch, high, wide, out, kh, kw, st, pad, ker, grp⟩ := l
  dsimp only at ab ak hv cv cg hb hbad
  generalize hgB : bias.all formedR = B at ab hbad
  generalize hgK : ker.all formedR = K0 at ak hbad
  refine ret_of (L := L) lay_ok Try.func84 rfl Try.ntmps84 rfl ?_
  refine goq ?_
  refine gon ?_
  refine awp_cutS (A := Unit) (fun _ => True) (fun _ => [(2, some (.ptr 2 0)), (3, some (.ptr 3 0)), (54, some (.im (.bool bad)))])
    (fun _ => [(3, some (.box 3 [.im (.int .i64 n)])), (2, some (.box 60 ((lyC ⟨kind, rows, bias, ch, high, wide, out, kh, kw, st, pad, ker, grp⟩).map .im)))]) ?_ ?_
  · cases B with
    | false =>
      refine go ?_
      refine cl (by exact rfl) plain55 rfl ab ?_
      refine go ?_
      refine .inl ⟨rfl, (), trivial, ?_⟩
      refine gou ?_
      refine sub_te rfl ?_ (eqt (by rw [hbad]; rfl))
      exact gou0
    | true =>
      refine go ?_
      refine cl (by exact rfl) plain55 rfl ab ?_
      refine go ?_
      refine cl (by exact rfl) plain55 rfl ak ?_
      cases K0 with
      | false =>
        refine go ?_
        refine .inl ⟨rfl, (), trivial, ?_⟩
        refine gou ?_
        refine sub_te rfl ?_ (eqt (by rw [hbad]; rfl))
        exact gou0
      | true =>
        refine go ?_
        by_cases h2 : (kind != 2) = true
        · refine ar_eq 21 rfl (d' := .im (.bool true)) (eqt h2) ?_
          refine go ?_
          refine cl (by exact rfl) plain115 rfl hn ?_
          cases N with
          | false =>
            refine go ?_
            refine .inl ⟨rfl, (), trivial, ?_⟩
            refine gou ?_
            refine sub_te rfl ?_ (eqt (by rw [hbad]; simp only [h2, Bool.not_true, Bool.not_false, Bool.false_or, Bool.or_false, Bool.true_and, Bool.and_true, Bool.false_and, Bool.true_or, Bool.or_true]))
            exact gou0
          | true =>
            refine go ?_
            by_cases hk : decide ((ker.length : Int) > 0) = true
            · refine ar_eq 33 rfl (d' := .im (.bool true)) (eqt hk) ?_
              refine go ?_
              refine .inl ⟨rfl, (), trivial, ?_⟩
              refine gou ?_
              refine sub_te rfl ?_ (eqt (by rw [hbad]; simp only [h2, hk, Bool.not_true, Bool.not_false, Bool.false_or, Bool.or_false, Bool.true_and, Bool.and_true, Bool.false_and, Bool.true_or, Bool.or_true]))
              exact gou0
            · refine ar_eq 33 rfl (d' := .im (.bool false)) (eqt ((Bool.not_eq_true _).mp hk)) ?_
              refine go ?_
              by_cases h1 : (kind != 1) = true
              · refine ar_eq 37 rfl (d' := .im (.bool true)) (eqt h1) ?_
                refine go ?_
                by_cases hr : decide ((rows.length : Int) > 0) = true
                · refine ar_eq 44 rfl (d' := .im (.bool true)) (eqt hr) ?_
                  refine go ?_
                  refine .inl ⟨rfl, (), trivial, ?_⟩
                  refine gou ?_
                  refine sub_te rfl ?_ (eqt (by rw [hbad]; simp only [h2, (Bool.not_eq_true _).mp hk, h1, hr, Bool.not_true, Bool.not_false, Bool.false_or, Bool.or_false, Bool.true_and, Bool.and_true, Bool.false_and, Bool.true_or, Bool.or_true]))
                  exact gou0
                · refine ar_eq 44 rfl (d' := .im (.bool false)) (eqt ((Bool.not_eq_true _).mp hr)) ?_
                  refine go ?_
                  by_cases h4 : (kind != 4) = true
                  · refine ar_eq 48 rfl (d' := .im (.bool true)) (eqt h4) ?_
                    refine go ?_
                    refine .inl ⟨rfl, (), trivial, ?_⟩
                    refine gou ?_
                    refine sub_te rfl ?_ (eqt (by rw [hbad]; simp only [h2, (Bool.not_eq_true _).mp hk, h1, (Bool.not_eq_true _).mp hr, h4, Bool.not_true, Bool.not_false, Bool.false_or, Bool.or_false, Bool.true_and, Bool.and_true, Bool.false_and, Bool.true_or, Bool.or_true]))
                    exact gou0
                  · refine ar_eq 48 rfl (d' := .im (.bool false)) (eqt ((Bool.not_eq_true _).mp h4)) ?_
                    refine go ?_
                    refine .inl ⟨rfl, (), trivial, ?_⟩
                    refine gou ?_
                    refine sub_te rfl ?_ (eqt (by rw [hbad]; simp only [h2, (Bool.not_eq_true _).mp hk, h1, (Bool.not_eq_true _).mp hr, (Bool.not_eq_true _).mp h4, Bool.not_true, Bool.not_false, Bool.false_or, Bool.or_false, Bool.true_and, Bool.and_true, Bool.false_and, Bool.true_or, Bool.or_true]))
                    exact gou0
              · refine ar_eq 37 rfl (d' := .im (.bool false)) (eqt ((Bool.not_eq_true _).mp h1)) ?_
                refine go ?_
                by_cases h4 : (kind != 4) = true
                · refine ar_eq 48 rfl (d' := .im (.bool true)) (eqt h4) ?_
                  refine go ?_
                  refine .inl ⟨rfl, (), trivial, ?_⟩
                  refine gou ?_
                  refine sub_te rfl ?_ (eqt (by rw [hbad]; simp only [h2, (Bool.not_eq_true _).mp hk, (Bool.not_eq_true _).mp h1, h4, Bool.not_true, Bool.not_false, Bool.false_or, Bool.or_false, Bool.true_and, Bool.and_true, Bool.false_and, Bool.true_or, Bool.or_true]))
                  exact gou0
                · refine ar_eq 48 rfl (d' := .im (.bool false)) (eqt ((Bool.not_eq_true _).mp h4)) ?_
                  refine go ?_
                  refine .inl ⟨rfl, (), trivial, ?_⟩
                  refine gou ?_
                  refine sub_te rfl ?_ (eqt (by rw [hbad]; simp only [h2, (Bool.not_eq_true _).mp hk, (Bool.not_eq_true _).mp h1, (Bool.not_eq_true _).mp h4, Bool.not_true, Bool.not_false, Bool.false_or, Bool.or_false, Bool.true_and, Bool.and_true, Bool.false_and, Bool.true_or, Bool.or_true]))
                  exact gou0
        · refine ar_eq 21 rfl (d' := .im (.bool false)) (eqt ((Bool.not_eq_true _).mp h2)) ?_
          refine go ?_
          by_cases h1 : (kind != 1) = true
          · refine ar_eq 37 rfl (d' := .im (.bool true)) (eqt h1) ?_
            refine go ?_
            by_cases hr : decide ((rows.length : Int) > 0) = true
            · refine ar_eq 44 rfl (d' := .im (.bool true)) (eqt hr) ?_
              refine go ?_
              refine .inl ⟨rfl, (), trivial, ?_⟩
              refine gou ?_
              refine sub_te rfl ?_ (eqt (by rw [hbad]; simp only [(Bool.not_eq_true _).mp h2, h1, hr, Bool.not_true, Bool.not_false, Bool.false_or, Bool.or_false, Bool.true_and, Bool.and_true, Bool.false_and, Bool.true_or, Bool.or_true]))
              exact gou0
            · refine ar_eq 44 rfl (d' := .im (.bool false)) (eqt ((Bool.not_eq_true _).mp hr)) ?_
              refine go ?_
              by_cases h4 : (kind != 4) = true
              · refine ar_eq 48 rfl (d' := .im (.bool true)) (eqt h4) ?_
                refine go ?_
                refine .inl ⟨rfl, (), trivial, ?_⟩
                refine gou ?_
                refine sub_te rfl ?_ (eqt (by rw [hbad]; simp only [(Bool.not_eq_true _).mp h2, h1, (Bool.not_eq_true _).mp hr, h4, Bool.not_true, Bool.not_false, Bool.false_or, Bool.or_false, Bool.true_and, Bool.and_true, Bool.false_and, Bool.true_or, Bool.or_true]))
                exact gou0
              · refine ar_eq 48 rfl (d' := .im (.bool false)) (eqt ((Bool.not_eq_true _).mp h4)) ?_
                refine go ?_
                refine .inl ⟨rfl, (), trivial, ?_⟩
                refine gou ?_
                refine sub_te rfl ?_ (eqt (by rw [hbad]; simp only [(Bool.not_eq_true _).mp h2, h1, (Bool.not_eq_true _).mp hr, (Bool.not_eq_true _).mp h4, Bool.not_true, Bool.not_false, Bool.false_or, Bool.or_false, Bool.true_and, Bool.and_true, Bool.false_and, Bool.true_or, Bool.or_true]))
                exact gou0
          · refine ar_eq 37 rfl (d' := .im (.bool false)) (eqt ((Bool.not_eq_true _).mp h1)) ?_
            refine go ?_
            by_cases h4 : (kind != 4) = true
            · refine ar_eq 48 rfl (d' := .im (.bool true)) (eqt h4) ?_
              refine go ?_
              refine .inl ⟨rfl, (), trivial, ?_⟩
              refine gou ?_
              refine sub_te rfl ?_ (eqt (by rw [hbad]; simp only [(Bool.not_eq_true _).mp h2, (Bool.not_eq_true _).mp h1, h4, Bool.not_true, Bool.not_false, Bool.false_or, Bool.or_false, Bool.true_and, Bool.and_true, Bool.false_and, Bool.true_or, Bool.or_true]))
              exact gou0
            · refine ar_eq 48 rfl (d' := .im (.bool false)) (eqt ((Bool.not_eq_true _).mp h4)) ?_
              refine go ?_
              refine .inl ⟨rfl, (), trivial, ?_⟩
              refine gou ?_
              refine sub_te rfl ?_ (eqt (by rw [hbad]; simp only [(Bool.not_eq_true _).mp h2, (Bool.not_eq_true _).mp h1, (Bool.not_eq_true _).mp h4, Bool.not_true, Bool.not_false, Bool.false_or, Bool.or_false, Bool.true_and, Bool.and_true, Bool.false_and, Bool.true_or, Bool.or_true]))
              exact gou0
  rintro _ -
  cases bad with
  | true =>
    refine go ?_
    rw [if_pos rfl] at hb
    subst hb
    exact ⟨_, rfl, rfl⟩
  | false =>
  rw [if_neg (by decide)] at hb
  clear hbad hgb hgB hgK hgn
  refine go ?_
  by_cases k1 : kind = 1
  · subst k1
    rw [if_pos rfl] at hb
    refine go ?_
    by_cases r1 : decide ((rows.length : Int) ≥ 1) = true
    case neg =>
      have r1' := (Bool.not_eq_true _).mp r1
      rw [r1'] at hb
      refine ar_eq 63 rfl (d' := .im (.bool false)) (eqt r1') ?_
      refine go ?_
      subst hb
      exact ⟨_, rfl, rfl⟩
    refine ar_eq 63 rfl (d' := .im (.bool true)) (eqt r1) ?_
    rw [r1] at hb
    refine go ?_
    by_cases r2 : ((rows.length : Int) == (bias.length : Int)) = true
    case neg =>
      have r2' := (Bool.not_eq_true _).mp r2
      rw [r2'] at hb
      refine ar_eq 72 rfl (d' := .im (.bool false)) (eqt r2') ?_
      refine go ?_
      subst hb
      exact ⟨_, rfl, rfl⟩
    refine ar_eq 72 rfl (d' := .im (.bool true)) (eqt r2) ?_
    rw [r2] at hb
    refine go ?_
    refine cld plain116 hv ?_
    refine go ?_
    by_cases r3 : rows.all (rightT n (-1)) = true
    · refine awp_cT rfl r3 ?_
      rw [r3, if_pos (by decide)] at hb
      refine go ?_
      refine cl (by exact rfl) plain119 rfl cv ?_
      refine go ?_
      subst hb
      exact ⟨_, rfl, rfl⟩
    · have r3' := (Bool.not_eq_true _).mp r3
      refine awp_cF rfl r3' ?_
      rw [r3', if_neg (by decide)] at hb
      refine go ?_
      subst hb
      exact ⟨_, rfl, rfl⟩
  rw [if_neg k1] at hb
  refine awp_cF rfl (beq_eq_false_iff_ne.2 k1) ?_
  refine go ?_
  by_cases k2 : kind = 2
  · subst k2
    rw [if_pos rfl] at hb
    refine go ?_
    refine cl (by exact rfl) plain120 rfl hc ?_
    refine go ?_
    subst hb
    exact ⟨_, rfl, rfl⟩
  rw [if_neg k2] at hb
  refine awp_cF rfl (beq_eq_false_iff_ne.2 k2) ?_
  refine go ?_
  by_cases k3 : kind = 3
  · subst k3
    rw [if_pos rfl] at hb
    refine go ?_
    by_cases b0 : bias.length = 0
    · rw [if_pos b0] at hb
      refine awp_cT rfl (by rw [b0]; rfl) ?_
      refine go ?_
      subst hb
      exact ⟨_, rfl, rfl⟩
    · rw [if_neg b0] at hb
      refine awp_cF rfl (beq_eq_false_iff_ne.2 (show (bias.length : Int) ≠ 0 by omega)) ?_
      refine go ?_
      subst hb
      exact ⟨_, rfl, rfl⟩
  rw [if_neg k3] at hb
  refine awp_cF rfl (beq_eq_false_iff_ne.2 k3) ?_
  refine go ?_
  by_cases k4 : kind = 4
  · subst k4
    rw [if_pos rfl] at hb
    refine go ?_
    by_cases b0 : bias.length = 0
    case neg =>
      rw [if_neg (fun h => b0 h.1)] at hb
      refine ar_eq 113 rfl (d' := .im (.bool false)) (eqt (beq_eq_false_iff_ne.2 (show (bias.length : Int) ≠ 0 by omega))) ?_
      refine go ?_
      subst hb
      exact ⟨_, rfl, rfl⟩
    refine ar_eq 113 rfl (d' := .im (.bool true)) (eqt (by rw [b0]; rfl)) ?_
    refine go ?_
    refine cl (by exact rfl) plain121 rfl hp ?_
    refine go ?_
    by_cases p0 : poolT ⟨4, rows, bias, ch, high, wide, out, kh, kw, st, pad, ker, grp⟩ n = true
    · rw [if_pos ⟨b0, p0⟩] at hb
      refine awp_cT rfl p0 ?_
      refine go ?_
      refine cl (by exact rfl) plain122 rfl cg ?_
      refine go ?_
      subst hb
      exact ⟨_, rfl, rfl⟩
    · rw [if_neg (fun h => p0 h.2)] at hb
      refine awp_cF rfl ((Bool.not_eq_true _).mp p0) ?_
      refine go ?_
      subst hb
      exact ⟨_, rfl, rfl⟩
  rw [if_neg k4] at hb
  refine awp_cF rfl (beq_eq_false_iff_ne.2 k4) ?_
  refine go ?_
  subst hb
  exact ⟨_, rfl, rfl⟩
end Go.Proofs.Ytkbhchlecokpiaa
