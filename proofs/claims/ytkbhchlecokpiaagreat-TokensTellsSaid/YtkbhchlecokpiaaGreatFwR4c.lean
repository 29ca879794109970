/- The document's fractions: Parse, by the logic over data. -/
import Derived.Test.YtkbhchlecokpiaaGreatFwR4b
namespace Go.Proofs.YtkbhchlecokpiaaGreat
open Go Go.RowKit Fw Tw Rat
set_option linter.unusedVariables false
set_option linter.unusedSimpArgs false
/-- the place of the first slash, or the end -/
def atT : List UInt8 → Nat
  | [] => 0
  | b :: l => if b == 47 then 0 else atT l + 1
theorem atT_le : ∀ s : List UInt8, atT s ≤ s.length
  | [] => Nat.le_refl _
  | b :: l => by
    unfold atT
    have := atT_le l
    split
    · omega
    · simp only [List.length_cons]; omega
theorem cut_at : ∀ s : List UInt8, cutT s = if atT s < s.length then (s.take (atT s), s.drop (atT s + 1), true) else (s, [], false)
  | [] => rfl
  | b :: l => by
    unfold cutT atT
    by_cases h : (b == 47) = true
    · rw [if_pos h, if_pos h]; simp
    · rw [if_neg h, if_neg h, cut_at l]
      by_cases h2 : atT l < l.length
      · rw [if_pos h2, if_pos rfl, if_pos (by simpa using h2)]; simp
      · have h3 : ¬ atT l + 1 < (b :: l).length := by simp only [List.length_cons]; omega
        rw [if_neg h2, if_neg h3]; rfl
theorem at_step {s : List UInt8} {i : Nat} (h : i < s.length) : i + atT (s.drop i) = if s[i] == 47 then i else i + 1 + atT (s.drop (i + 1)) := by
  rw [List.drop_eq_getElem_cons h]
  conv => lhs; unfold atT
  split
  · rfl
  · omega
theorem at_take (s : List UInt8) : (cutT s).1 = s.take (atT s) := by
  rw [cut_at]
  split
  · rfl
  · rename_i h
    rw [List.take_of_length_le (by omega)]
set_option maxHeartbeats 4000000 in
theorem rparseQ_r {s : List UInt8} (hs : s.length ≤ maxLen) : Ret Tryz.prog 71 [.str s] (.tup [mQ (parseQ s).1, .int .i64 (parseQ s).2]) := by
  have hml : maxLen = 9223372036854775807 := rfl
  have hl1 : (cutT s).1.length ≤ maxLen := Nat.le_trans (cut_len s).1 hs
  have p1 := rparse_r hl1
  have o1 := rof_r (n := 1) (by omega) (by omega)
  have hat := atT_le s
  have htk := at_take s
  have hca := cut_at s
  refine ret_ofL (L := L) lay_ok Tryz.func71 rfl Tryz.ntmps71 rfl ?_
  refine go ?_
  refine awp_loopC (A := Nat) (B := Unit) (fun i => i ≤ s.length) (fun i => [(0, some (.im (.str s))), (2, some (.ptr 2 0)), (3, some (.im (.int .i64 0))), (4, some (.im (.int .i64 ((i + atT (s.drop i) : Nat) : Int)))), (5, some (.im (.int .i64 ((i : Int) - 1))))]) (fun _ => [(2, some boxQ0)]) (fun i => i)
    (fun _ => True) (fun _ => [(0, some (.im (.str s))), (2, some (.ptr 2 0)), (3, some (.im (.int .i64 0))), (4, some (.im (.int .i64 ((atT s : Nat) : Int))))]) (fun _ => [(2, some boxQ0)]) s.length (Nat.le_refl _) ?_ ?_ ?_
  · refine sub_t rfl (sub_t rfl (sub_t rfl (sub_te rfl ?_ (imI (by rw [List.drop_of_length_le (Nat.le_refl _)]; rfl)))))
    exact gou0
  · rintro i hi
    rcases i with _ | i
    · refine go ?_
      refine .inl ⟨rfl, (), trivial, ?_⟩
      refine sub_t rfl (sub_t rfl (sub_t rfl (sub_te rfl ?_ (imI (by rw [List.drop_zero]; omega)))))
      exact gou0
    have hil : i < s.length := by omega
    have hst := at_step hil
    refine go ?_
    refine awp_cT rfl (by rw [decide_eq_true_eq]; omega) ?_
    refine go ?_
    refine ar_indexStr (c := s[i]) (wantF_ok rfl) rfl rfl rfl rfl rfl (by omega) (by rw [show ((((i + 1 : Nat) : Int) - 1)).toNat = i by omega]; exact List.getElem?_eq_getElem hil) ?_
    refine go ?_
    by_cases hc : (s[i] == 47) = true
    · refine awp_cT rfl ((u8eq s[i] 47).trans hc) ?_
      refine go ?_
      refine ⟨i, by omega, ?_, by omega⟩
      rw [if_pos hc] at hst
      refine sub_t rfl (sub_t rfl (sub_t rfl (sub_te rfl (sub_te rfl ?_ (imI (by omega))) (imI (by omega)))))
      exact gou0
    · refine awp_cF rfl ((u8eq s[i] 47).trans (by simpa using hc)) ?_
      refine go ?_
      refine ⟨i, by omega, ?_, by omega⟩
      rw [if_neg hc] at hst
      refine sub_t rfl (sub_t rfl (sub_t rfl (sub_te rfl (sub_te rfl ?_ (imI (by omega))) (imI (by omega)))))
      exact gou0
  rintro _ -
  have hq : parseQ s = parseP (parseZ (cutT s).1) (parseZ (belowT s)) (negT (belowT s)) := rfl
  have w1 : ∀ z e, parseZ (cutT s).1 = (z, e) → e = 0 → z.natAbs < W ^ 40 := fun z e h he => W40 h he
  have w2 : ∀ z e, parseZ (belowT s) = (z, e) → e = 0 → z.natAbs < W ^ 40 := fun z e h he => W40 h he
  have wp : ∀ z e, parseZ (belowT s) = (z, e) → negT (belowT s) = false → 0 ≤ z := by
    intro z e h hn
    unfold parseZ at h
    rw [hn] at h
    unfold parseT at h
    split at h
    · cases h; decide
    · split at h
      · cases h; decide
      · split at h
        · cases h; decide
        · cases h; unfold sg; rw [if_neg (by decide)]; omega
  rw [htk] at p1
  rw [htk] at w1 hq
  have hsd : s.length < maxLen + 1 := by omega
  have p2 : (atT s < s.length → Ret Tryz.prog 106 [.str (s.drop (atT s + 1))] (.tup [mI (parseZ (belowT s)).1, .int .i64 (parseZ (belowT s)).2])) ∧ (¬ atT s < s.length → parseZ (belowT s) = (1, 0) ∧ negT (belowT s) = false) := by
    constructor
    · intro h
      have : belowT s = s.drop (atT s + 1) := by unfold belowT; rw [hca, if_pos h]; rfl
      rw [this]
      exact rparse_r (by rw [List.length_drop]; omega)
    · intro h
      have : belowT s = [49] := by unfold belowT; rw [hca, if_neg h]; rfl
      rw [this]
      exact ⟨rfl, rfl⟩
  have hbn : atT s < s.length → negT (belowT s) = negT (s.drop (atT s + 1)) := by
    intro h
    have : belowT s = s.drop (atT s + 1) := by unfold belowT; rw [hca, if_pos h]; rfl
    rw [this]
  generalize negT (belowT s) = ng at *
  generalize parseZ (belowT s) = y at *
  generalize parseZ (s.take (atT s)) = x at *
  obtain ⟨n, e⟩ := x
  obtain ⟨d, f⟩ := y
  simp only [] at p1 p2
  refine go ?_
  refine ar_sliceStrHi (s' := s.take (atT s)) (wantF_ok rfl) rfl rfl rfl rfl rfl ⟨by omega, by omega⟩ (by rw [Int.toNat_natCast]) ?_
  refine cl (by exact rfl) plain106 rfl p1 ?_
  refine go ?_
  refine cl (by exact rfl) plain107 rfl o1 ?_
  refine goq ?_
  refine gon ?_
  refine gon ?_
  refine awp_cutS (A := Unit) (fun _ => ng = false) (fun _ => [(2, some (.ptr 2 0)), (3, some (.im (.int .i64 0))), (6, some (.ptr 6 0)), (7, some (.im (.int .i64 e))), (8, some (.ptr 8 0)), (9, some (.im (.int .i64 f)))]) (fun _ => [(2, some boxQ0), (6, some (.box 31 [.im (.bool (decide (n < 0))), .im (mN n.natAbs)])), (8, some (.box 31 [.im (.bool (decide (d < 0))), .im (mN d.natAbs)]))]) ?_ ?_
  · by_cases hlt : atT s < s.length
    · have p2 := p2.1 hlt
      refine awp_cT rfl (by rw [decide_eq_true_eq]; omega) ?_
      refine goq ?_
      rcases hdr : s.drop (atT s + 1) with _ | ⟨c, r⟩
      · have hl0 : s.length ≤ atT s + 1 := by
          have := congrArg List.length hdr
          rw [List.length_drop] at this
          simp at this; omega
        rw [hdr] at p2 hbn
        refine go ?_
        refine ar_eq 41 rfl (d' := .im (.bool false)) (eqt (by rw [decide_eq_false_iff_not]; omega)) ?_
        refine go ?_
        refine ar_sliceStrLo (s' := []) (wantF_ok rfl) rfl rfl rfl rfl rfl ⟨by omega, by omega⟩ (by rw [← hdr]; congr 1) ?_
        refine cl (by exact rfl) plain106 rfl p2 ?_
        refine go ?_
        refine .inl ⟨rfl, (), (hbn hlt).trans rfl, ?_⟩
        exact gou0
      · have hl0 : atT s + 1 < s.length := by
          have := congrArg List.length hdr
          rw [List.length_drop, List.length_cons] at this
          omega
        have hget : s[((atT s : Nat) : Int).toNat + 1]? = some c := by
          have := congrArg (fun l : List UInt8 => l[0]?) hdr
          simp only [List.getElem?_drop, List.getElem?_cons_zero] at this
          rw [Int.toNat_natCast]
          exact this
        rw [hdr] at p2 hbn
        refine go ?_
        refine ar_eq 41 rfl (d' := .im (.bool true)) (eqt (by rw [decide_eq_true_eq]; omega)) ?_
        refine go ?_
        refine ar_indexStr (c := c) (wantF_ok rfl) rfl rfl rfl rfl rfl (by omega) (by rw [show (((atT s : Nat) : Int) + 1).toNat = ((atT s : Nat) : Int).toNat + 1 by omega]; exact hget) ?_
        refine go ?_
        by_cases hn : (c == 45) = true
        · refine awp_cT rfl ((u8eq c 45).trans hn) ?_
          refine go ?_
          refine .inr ?_
          refine ⟨_, rfl, ?_⟩
          have : ng = true := (hbn hlt).trans hn
          exact le_errQ (hq.trans (by unfold parseP; rw [if_pos (.inr (.inr this))])) rfl
        · refine awp_cF rfl ((u8eq c 45).trans ((Bool.not_eq_true _).mp hn)) ?_
          refine go ?_
          refine ar_sliceStrLo (s' := c :: r) (wantF_ok rfl) rfl rfl rfl rfl rfl ⟨by omega, by omega⟩ (by rw [← hdr]; congr 1) ?_
          refine cl (by exact rfl) plain106 rfl p2 ?_
          refine go ?_
          refine .inl ⟨rfl, (), (hbn hlt).trans ((Bool.not_eq_true _).mp hn), ?_⟩
          exact gou0
    · obtain ⟨hy, hng⟩ := p2.2 hlt
      simp only [Prod.mk.injEq] at hy
      obtain ⟨rfl, rfl⟩ := hy
      refine awp_cF rfl (by rw [decide_eq_false_iff_not]; omega) ?_
      refine go ?_
      refine .inl ⟨rfl, (), hng, ?_⟩
      exact gou0
  rintro _ hng
  subst hng
  have hno : ∀ h1 : ¬ e = 11, ∀ h2 : ¬ f = 11, ¬ (e = 11 ∨ f = 11 ∨ false = true) := fun h1 h2 h => h.elim h1 (fun h => h.elim h2 (by decide))
  refine go ?_
  by_cases he : e = 11
  · subst he
    refine go ?_
    refine ⟨_, rfl, ?_⟩
    exact le_errQ (hq.trans (by unfold parseP; rw [if_pos (.inl rfl)])) rfl
  refine ar_eq 59 rfl (d' := .im (.bool false)) (eqt (beq_eq_false_iff_ne.2 he)) ?_
  refine go ?_
  by_cases hf : f = 11
  · subst hf
    refine go ?_
    refine ⟨_, rfl, ?_⟩
    exact le_errQ (hq.trans (by unfold parseP; rw [if_pos (.inr (.inl rfl))])) rfl
  refine awp_cF rfl (beq_eq_false_iff_ne.2 hf) ?_
  refine go ?_
  by_cases he0 : e = 0
  · by_cases hf0 : f = 0
    · subst he0 hf0
      have i1 : IsZ (mI n) n 40 := isZ_mI (w1 n 0 rfl rfl)
      have i2 : IsZ (mI d) d 40 := isZ_mI (w2 d 0 rfl rfl)
      have sd := rsign_r i2 (by omega)
      have hd0 := wp d 0 rfl rfl
      refine go ?_
      refine cl (by exact rfl) plain108 rfl sd ?_
      refine go ?_
      by_cases hd : d = 0
      · refine awp_cT rfl (by rw [hd]; rfl) ?_
        refine go ?_
        refine ⟨_, rfl, ?_⟩
        exact le_errQ (hq.trans (by unfold parseP; rw [if_neg (hno he hf), if_neg (by simp), if_pos hd])) rfl
      · have lw := rlowest_q i1 i2 (by omega) (by omega) (by omega)
        refine awp_cF rfl (by rw [beq_eq_false_iff_ne]; unfold signZ; split <;> (try split) <;> omega) ?_
        refine go ?_
        refine cl (by exact rfl) plain76 rfl lw ?_
        refine go ?_
        refine ⟨_, rfl, ?_⟩
        have e1 : parseQ s = (n /. d, 0) := hq.trans (by unfold parseP; rw [if_neg (hno he hf), if_neg (by simp), if_neg hd])
        rw [e1]
        exact Le.refl _
    · subst he0
      refine go ?_
      refine awp_cT rfl (by rw [bne_iff_ne]; exact hf0) ?_
      refine go ?_
      refine ⟨_, rfl, ?_⟩
      exact le_errQ (hq.trans (by unfold parseP; rw [if_neg (hno he hf), if_pos (.inr hf0)])) rfl
  · refine ar_eq 66 rfl (d' := .im (.bool true)) (eqt (by rw [bne_iff_ne]; exact he0)) ?_
    refine go ?_
    refine ⟨_, rfl, ?_⟩
    exact le_errQ (hq.trans (by unfold parseP; rw [if_neg (hno he hf), if_pos (.inl he0)])) rfl
end Go.Proofs.YtkbhchlecokpiaaGreat
