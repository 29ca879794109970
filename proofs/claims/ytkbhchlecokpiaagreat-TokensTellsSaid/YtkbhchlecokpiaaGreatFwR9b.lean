/- The document's tokens: the walk. -/
import Derived.Test.YtkbhchlecokpiaaGreatFwR9
namespace Go.Proofs.YtkbhchlecokpiaaGreat
open Go Go.RowKit Fw Tw Rat
set_option linter.unusedVariables false
set_option linter.unusedSimpArgs false
theorem dig45 : ∀ c : UInt8, (isNum c && !(c == 47)) = (isDig c || c == 45) := by
  intro c
  have h : ∀ n, n < 256 → (isNum (UInt8.ofNat n) && !(UInt8.ofNat n == 47)) = (isDig (UInt8.ofNat n) || UInt8.ofNat n == 45) := by decide +kernel
  have := h c.toNat c.toNat_lt
  rwa [UInt8.ofNat_toNat] at this
theorem sign_no {c : UInt8} (h1 : c ≠ 123) (h2 : c ≠ 125) (h3 : c ≠ 91) (h4 : c ≠ 93) (h5 : c ≠ 58) (h6 : c ≠ 44) : ¬ 0 ≤ Lib.indexByte signs c := by
  have h : ∀ n, n < 256 → (Lib.indexByte signs (UInt8.ofNat n) < 0 ∨ UInt8.ofNat n = 123 ∨ UInt8.ofNat n = 125 ∨ UInt8.ofNat n = 91 ∨ UInt8.ofNat n = 93 ∨ UInt8.ofNat n = 58 ∨ UInt8.ofNat n = 44) := by decide +kernel
  have := h c.toNat c.toNat_lt
  rw [UInt8.ofNat_toNat] at this
  rcases this with h | h | h | h | h | h | h
  · omega
  · exact absurd h h1
  · exact absurd h h2
  · exact absurd h h3
  · exact absurd h h4
  · exact absurd h h5
  · exact absurd h h6
abbrev RT (x r : List UInt8) (rm : Bool) (acc : List Tk) (id : Nat) : TL := [(0, some (.im (.str x))), (2, some (.im .nil)), (3, some (.ptr 3 0)), (7, some (.im (.int .i64 ((x.length - r.length : Nat) : Int)))), (6, some (.im (.bool rm))), (5, some (.im (.int .i64 (lineT x r : Nat)))), (4, some (.row id acc.length 7))]
abbrev RH (acc : List Tk) (id : Nat) : HL := [(id, some (.rw 120 7 (acc.flatMap tkC))), (3, some (.box 77 [.im (.int .i64 0), .im (.int .i64 0)]))]
theorem round_id {P : Program} {N : Nat} {c : Code} {K : KK} {x r : List UInt8} {rm : Bool} {acc : List Tk} {id : Nat} (hid : id = 77 ∨ id = 116 ∨ id = 147 ∨ id = 1077) (key : Awp P N c K (RT x r rm acc 1077) (RH acc 1077)) : Awp P N c K (RT x r rm acc id) (RH acc id) := by
  rcases hid with rfl | rfl | rfl | rfl
  · refine awp_renRow (id := 77) (id' := 1077) (k := 4) rfl rfl rfl rfl ?_
    refine awp_sub (t' := RT x r rm acc 1077) (h' := RH acc 1077) ?_ key
    exact gou0
  · refine awp_renRow (id := 116) (id' := 1077) (k := 4) rfl rfl rfl rfl ?_
    refine awp_sub (t' := RT x r rm acc 1077) (h' := RH acc 1077) ?_ key
    exact gou0
  · refine awp_renRow (id := 147) (id' := 1077) (k := 4) rfl rfl rfl rfl ?_
    refine awp_sub (t' := RT x r rm acc 1077) (h' := RH acc 1077) ?_ key
    exact gou0
  · exact key
theorem u8f {c d : UInt8} (h : c ≠ d) : (((c.toNat : Nat) : Int) == ((d.toNat : Nat) : Int)) = false := (u8eq c d).trans (beq_eq_false_iff_ne.2 h)
set_option maxRecDepth 100000 in
set_option maxHeartbeats 32000000 in
theorem rtokens_r {x : List UInt8} (hx : x.length ≤ maxLen) : Ret Tryz.prog 34 [.str x] (toksM (tokensT x)) := by
  have hml : maxLen = 9223372036854775807 := rfl
  by_cases hlong : 262144 < x.length
  · have e : tokensT x = .inr (3, 0) := by unfold tokensT; rw [if_pos hlong]
    rw [e]
    refine ret_of (L := L) lay_ok Tryz.func34 rfl Tryz.ntmps34 rfl ?_
    refine goq ?_
    refine go ?_
    refine awp_cT rfl (by rw [decide_eq_true_eq]; omega) ?_
    refine go ?_
    refine ⟨_, rfl, ?_⟩
    rfl
  have e : tokensT x = toks x x [] := by unfold tokensT; rw [if_neg hlong]
  have hx' : x.length ≤ 262144 := by omega
  rw [e]
  generalize htt : toks x x [] = tt
  refine ret_of (L := L) lay_ok Tryz.func34 rfl Tryz.ntmps34 rfl ?_
  refine goq ?_
  refine go ?_
  refine awp_cF rfl (by rw [decide_eq_false_iff_not]; omega) ?_
  refine go ?_
  refine awp_nilRow (id := 77) (k := 4) (sz := 7) (e := 120) rfl rfl ?_
  refine awp_loopC (A := List UInt8 × Bool × List Tk × Nat) (B := List Tk × Nat) (fun q => q.1 <:+ x ∧ toks x (goOn q.2.1 q.1) q.2.2.1 = tt ∧ q.2.2.1.length + q.1.length ≤ x.length ∧ (q.2.2.2 = 77 ∨ q.2.2.2 = 116 ∨ q.2.2.2 = 147 ∨ q.2.2.2 = 1077))
    (fun q => RT x q.1 q.2.1 q.2.2.1 q.2.2.2) (fun q => RH q.2.2.1 q.2.2.2) (fun q => q.1.length)
    (fun p => tt = .inl (p.1 ++ [⟨1, [], none, p.2⟩]) ∧ p.1.length ≤ x.length)
    (fun p => [(2, some (.im .nil)), (3, some (.ptr 3 0)), (5, some (.im (.int .i64 (p.2 : Nat)))), (4, some (.row 1077 p.1.length 7))]) (fun p => RH p.1 1077) (x, false, [], 77) ⟨List.suffix_refl x, htt, by simp, .inl rfl⟩ ?_ ?_ ?_
  · refine gou ?_
    refine sub_te rfl ?_ (deqi (by simp))
    refine gou ?_
    refine sub_te rfl ?_ (deqi (by simp))
    exact gou0
  · rintro ⟨r, rm, acc, id⟩ ⟨h1, h2, h3, hid⟩
    simp only [] at h1 h2 h3 hid
    refine round_id hid ?_
    change Awp _ _ _ _ (RT x r rm acc 1077) (RH acc 1077)
    rcases r with _ | ⟨c, b⟩
    · have e0 : goOn rm [] = [] := by cases rm <;> rfl
      rw [e0, toks_end (by rw [skip_nilD]; rfl) (by rw [skip_nilD]; rfl), skip_nilD] at h2
      refine go ?_
      refine awp_cF rfl (by rw [decide_eq_false_iff_not]; simp only [List.length_nil]; omega) ?_
      refine go ?_
      refine .inl ⟨rfl, (acc, lineT x []), ⟨h2.symm, by show acc.length ≤ x.length; omega⟩, ?_⟩
      exact gou0
    have hlc : (c :: b).length = b.length + 1 := rfl
    have hle := h1.length_le
    have hg := suf_get h1
    have hb1 : b <:+ x := (List.suffix_cons c b).trans h1
    have hll : lineT x (c :: b) ≤ 1 + x.length := by unfold lineT; have : x.count 10 ≤ x.length := List.count_le_length; omega
    have eat : ((x.length - (c :: b).length : Nat) : Int) + 1 = ((x.length - b.length : Nat) : Int) := by omega
    refine go ?_
    refine awp_cT rfl (by rw [decide_eq_true_eq]; omega) ?_
    refine go ?_
    refine ar_indexStr (c := c) (wantF_ok rfl) rfl rfl rfl rfl rfl (by omega) hg ?_
    by_cases c10 : c = 10
    · subst c10
      have e0 : goOn false b = b := rfl
      have e1 : toks x (goOn rm (10 :: b)) acc = toks x b acc := by
        cases rm with
        | false => exact toks_skip (skip_gap rfl)
        | true => exact toks_skip (skip_nl b)
      rw [e1] at h2
      refine go ?_
      refine ⟨(b, false, acc, 1077), ⟨hb1, h2, by simp only [List.length_cons] at h3; show acc.length + b.length ≤ _; omega, .inr (.inr (.inr rfl))⟩, ?_, by show b.length < (10 :: b).length; simp⟩
      refine gou ?_
      refine sub_te rfl ?_ (deqi eat)
      refine gou ?_
      refine sub_te rfl ?_ (deqi (by rw [line_nl h1]; rfl))
      exact gou0
    refine go ?_
    refine awp_cF rfl (u8f c10) ?_
    have hln : lineT x b = lineT x (c :: b) := line_ne c10
    cases rm with
    | true =>
      have e1 : goOn true (c :: b) = goOn true b := by
        show (c :: b).dropWhile notNl = b.dropWhile notNl
        rw [List.dropWhile_cons, if_pos]
        show (!(c == 10)) = true
        rw [beq_eq_false_iff_ne.2 c10]; rfl
      rw [e1] at h2
      refine go ?_
      refine ⟨(b, true, acc, 1077), ⟨hb1, h2, by rw [hlc] at h3; show acc.length + b.length ≤ _; omega, .inr (.inr (.inr rfl))⟩, ?_, by show b.length < (c :: b).length; simp⟩
      refine gou ?_
      refine sub_te rfl ?_ (deqi eat)
      refine gou ?_
      refine sub_te rfl ?_ (deqi (by rw [hln]))
      exact gou0
    | false =>
    have e0 : goOn false (c :: b) = c :: b := rfl
    rw [e0] at h2
    by_cases cg : c = 32 ∨ c = 9 ∨ c = 13
    · have e1 : toks x (c :: b) acc = toks x b acc := toks_skip (skip_gap (by rcases cg with rfl | rfl | rfl <;> rfl))
      rw [e1] at h2
      rcases cg with rfl | rfl | rfl
      all_goals
        refine go ?_
        refine ⟨(b, false, acc, 1077), ⟨hb1, h2, by rw [hlc] at h3; show acc.length + b.length ≤ _; omega, .inr (.inr (.inr rfl))⟩, ?_, by show b.length < b.length + 1; omega⟩
        refine gou ?_
        refine sub_te rfl ?_ (deqi eat)
        exact gou0
    have n32 : c ≠ 32 := fun h => cg (.inl h)
    have n9 : c ≠ 9 := fun h => cg (.inr (.inl h))
    have n13 : c ≠ 13 := fun h => cg (.inr (.inr h))
    refine go ?_
    refine ar_eq 34 rfl (d' := .im (.bool false)) (eqt (u8f n32)) ?_
    refine go ?_
    refine ar_eq 38 rfl (d' := .im (.bool false)) (eqt (u8f n9)) ?_
    refine go ?_
    refine ar_eq 42 rfl (d' := .im (.bool false)) (eqt (u8f n13)) ?_
    by_cases c35 : c = 35
    · subst c35
      have e1 : toks x (35 :: b) acc = toks x (goOn true b) acc := by
        refine toks_skip ?_
        rw [skip_sharp]
        rfl
      rw [e1] at h2
      refine go ?_
      refine ⟨(b, true, acc, 1077), ⟨hb1, h2, by rw [hlc] at h3; show acc.length + b.length ≤ _; omega, .inr (.inr (.inr rfl))⟩, ?_, by show b.length < b.length + 1; omega⟩
      refine gou ?_
      refine sub_te rfl ?_ (deqi eat)
      exact gou0
    refine go ?_
    refine awp_cF rfl (u8f c35) ?_
    have hsk : skip (c :: b) = c :: b := by
      refine skip_stop ?_ c35
      rw [List.dropWhile_cons, if_neg]
      show ¬ (c == 32 || c == 9 || c == 13 || c == 10) = true
      rw [beq_eq_false_iff_ne.2 n32, beq_eq_false_iff_ne.2 n9, beq_eq_false_iff_ne.2 n13, beq_eq_false_iff_ne.2 c10]
      decide
    have hTe := toks_err (x := x) (r := c :: b) (acc := acc)
    have hT2 := toks_next (x := x) (r := c :: b) (acc := acc)
    rw [hsk, h2] at hTe hT2
    refine go ?_
    refine cl (by exact rfl) plain69 rfl (rletter_r c) ?_
    refine go ?_
    by_cases hP : isLet c = true
    · have en : nextT x (c :: b) = (⟨2, (c :: b).takeWhile isLet, none, lineT x (c :: b)⟩, 0, (c :: b).dropWhile isLet) := by simp only [nextT, hP, if_true]
      rw [en] at hT2
      have hT := (hT2 rfl (by exact fun h => Nat.noConfusion (Nat.succ.inj h))).symm
      refine awp_cT rfl hP ?_
      refine go ?_
      have hdw : (c :: b).dropWhile isLet = b.dropWhile isLet := by rw [List.dropWhile_cons, if_pos hP]
      have hds := List.dropWhile_suffix isLet (l := b)
      have hdl := hds.length_le
      refine awp_loopC (A := List UInt8) (B := Unit) (fun s => s <:+ b ∧ s.dropWhile isLet = b.dropWhile isLet)
        (fun s => [(9, some (.im (.int .i64 ((x.length - s.length : Nat) : Int))))] ++ RT x (c :: b) false acc 1077) (fun s => RH acc 1077) (fun s => s.length)
        (fun _ => True) (fun _ => [(9, some (.im (.int .i64 ((x.length - (b.dropWhile isLet).length : Nat) : Int))))] ++ RT x (c :: b) false acc 1077) (fun _ => RH acc 1077) b ⟨List.suffix_refl b, rfl⟩ ?_ ?_ ?_
      · refine gou ?_
        refine sub_te rfl ?_ (deqi eat)
        exact gou0
      · rintro s ⟨g1, g2⟩
        change Awp _ _ _ _ ([(9, some (.im (.int .i64 ((x.length - s.length : Nat) : Int))))] ++ RT x (c :: b) false acc 1077) (RH acc 1077)
        have g3 := g1.trans hb1
        have g4 := g3.length_le
        rcases s with _ | ⟨d, s⟩
        · refine go ?_
          refine ar_eq 61 rfl (d' := .im (.bool false)) (eqt (by rw [decide_eq_false_iff_not]; simp only [List.length_nil]; omega)) ?_
          refine go ?_
          refine .inl ⟨rfl, (), trivial, ?_⟩
          refine gou ?_
          refine sub_te rfl ?_ (deqi (by rw [← g2]; rfl))
          exact gou0
        · have hlc2 : (d :: s).length = s.length + 1 := rfl
          refine go ?_
          refine ar_eq 61 rfl (d' := .im (.bool true)) (eqt (by rw [decide_eq_true_eq]; omega)) ?_
          refine go ?_
          refine ar_indexStr (c := d) (wantF_ok rfl) rfl rfl rfl rfl rfl (by omega) (suf_get g3) ?_
          refine go ?_
          refine cl (by exact rfl) plain69 rfl (rletter_r d) ?_
          refine go ?_
          by_cases hd : isLet d = true
          · refine awp_cT rfl hd ?_
            refine go ?_
            refine ⟨s, ⟨(List.suffix_cons d s).trans g1, by rw [← g2, List.dropWhile_cons, if_pos hd]⟩, ?_, by show s.length < (d :: s).length; simp⟩
            refine gou ?_
            refine sub_te rfl ?_ (deqi (by omega))
            exact gou0
          · refine awp_cF rfl ((Bool.not_eq_true _).mp hd) ?_
            refine go ?_
            refine .inl ⟨rfl, (), trivial, ?_⟩
            refine gou ?_
            refine sub_te rfl ?_ (deqi (by rw [← g2, List.dropWhile_cons, if_neg hd]))
            exact gou0
      rintro _ -
      change Awp _ _ _ _ ([(9, some (.im (.int .i64 ((x.length - (b.dropWhile isLet).length : Nat) : Int))))] ++ RT x (c :: b) false acc 1077) (RH acc 1077)
      rw [← hdw] at hdl ⊢
      have hcut := suf_cut (p := isLet) h1 rfl
      have hsd := (List.dropWhile_suffix isLet (l := c :: b)).trans h1
      have hlt : ((c :: b).dropWhile isLet).length ≤ b.length := hdl
      have hlnd := line_drop (p := isLet) h1 (by decide) rfl
      refine go ?_
      refine ar_sliceStr (s' := (c :: b).takeWhile isLet) (wantF_ok rfl) rfl rfl rfl rfl rfl rfl ⟨by omega, by omega, by omega⟩ hcut ?_
      refine go ?_
      refine ar_app1 (enc := tkC) (l := acc) (a := ⟨2, (c :: b).takeWhile isLet, none, lineT x (c :: b)⟩) rfl rfl rfl rfl rfl rfl rfl tkC_len rfl rfl rfl rfl rfl rfl rfl (by rw [List.length_append]; show (acc.length + 1) * 96 ≤ _; omega) (by rw [List.length_append]; show acc.length + 1 ≤ _; omega) rfl ?_
      refine go ?_
      refine ⟨((c :: b).dropWhile isLet, false, acc ++ [(⟨2, (c :: b).takeWhile isLet, none, lineT x (c :: b)⟩ : Tk)], 77), ⟨hsd, hT, by rw [hlc] at h3; rw [List.length_append]; show acc.length + 1 + ((c :: b).dropWhile isLet).length ≤ _; omega, .inl rfl⟩, ?_, by show ((c :: b).dropWhile isLet).length < (c :: b).length; omega⟩
      refine gou ?_
      refine sub_te rfl ?_ (deqi (by rw [hlnd]))
      exact gou0
    have nL : isLet c = false := (Bool.not_eq_true _).mp hP
    refine awp_cF rfl nL ?_
    refine go ?_
    refine cl (by exact rfl) plain70 rfl (rpart_r c) ?_
    by_cases h45 : (isDig c || c == 45) = true
    · have h45' := (dig45 c).trans h45
      rw [Bool.and_eq_true] at h45'
      have hP := h45'.1
      have en : nextT x (c :: b) = (⟨3, [], some (parseQ ((c :: b).takeWhile isNum)).1, lineT x (c :: b)⟩, if (parseQ ((c :: b).takeWhile isNum)).2 = 11 then 20 else (parseQ ((c :: b).takeWhile isNum)).2, (c :: b).dropWhile isNum) := by simp only [nextT, nL, h45, if_true, Bool.false_eq_true, if_false]
      rw [en] at hT2 hTe
      refine go ?_
      refine ar_eq 80 rfl (d' := .im (.bool true)) (eqt hP) ?_
      refine go ?_
      refine awp_cT rfl (by have := h45'.2; rw [Bool.not_eq_true', beq_eq_false_iff_ne] at this; exact congrArg Bool.not (u8f this)) ?_
      refine go ?_
      have hdw : (c :: b).dropWhile isNum = b.dropWhile isNum := by rw [List.dropWhile_cons, if_pos hP]
      have hds := List.dropWhile_suffix isNum (l := b)
      have hdl := hds.length_le
      refine awp_loopC (A := List UInt8) (B := Unit) (fun s => s <:+ b ∧ s.dropWhile isNum = b.dropWhile isNum)
        (fun s => [(9, some (.im (.int .i64 ((x.length - s.length : Nat) : Int))))] ++ RT x (c :: b) false acc 1077) (fun s => RH acc 1077) (fun s => s.length)
        (fun _ => True) (fun _ => [(9, some (.im (.int .i64 ((x.length - (b.dropWhile isNum).length : Nat) : Int))))] ++ RT x (c :: b) false acc 1077) (fun _ => RH acc 1077) b ⟨List.suffix_refl b, rfl⟩ ?_ ?_ ?_
      · refine gou ?_
        refine sub_te rfl ?_ (deqi eat)
        exact gou0
      · rintro s ⟨g1, g2⟩
        change Awp _ _ _ _ ([(9, some (.im (.int .i64 ((x.length - s.length : Nat) : Int))))] ++ RT x (c :: b) false acc 1077) (RH acc 1077)
        have g3 := g1.trans hb1
        have g4 := g3.length_le
        rcases s with _ | ⟨d, s⟩
        · refine go ?_
          refine ar_eq 88 rfl (d' := .im (.bool false)) (eqt (by rw [decide_eq_false_iff_not]; simp only [List.length_nil]; omega)) ?_
          refine go ?_
          refine .inl ⟨rfl, (), trivial, ?_⟩
          refine gou ?_
          refine sub_te rfl ?_ (deqi (by rw [← g2]; rfl))
          exact gou0
        · have hlc2 : (d :: s).length = s.length + 1 := rfl
          refine go ?_
          refine ar_eq 88 rfl (d' := .im (.bool true)) (eqt (by rw [decide_eq_true_eq]; omega)) ?_
          refine go ?_
          refine ar_indexStr (c := d) (wantF_ok rfl) rfl rfl rfl rfl rfl (by omega) (suf_get g3) ?_
          refine go ?_
          refine cl (by exact rfl) plain70 rfl (rpart_r d) ?_
          refine go ?_
          by_cases hd : isNum d = true
          · refine awp_cT rfl hd ?_
            refine go ?_
            refine ⟨s, ⟨(List.suffix_cons d s).trans g1, by rw [← g2, List.dropWhile_cons, if_pos hd]⟩, ?_, by show s.length < (d :: s).length; simp⟩
            refine gou ?_
            refine sub_te rfl ?_ (deqi (by omega))
            exact gou0
          · refine awp_cF rfl ((Bool.not_eq_true _).mp hd) ?_
            refine go ?_
            refine .inl ⟨rfl, (), trivial, ?_⟩
            refine gou ?_
            refine sub_te rfl ?_ (deqi (by rw [← g2, List.dropWhile_cons, if_neg hd]))
            exact gou0
      rintro _ -
      change Awp _ _ _ _ ([(9, some (.im (.int .i64 ((x.length - (b.dropWhile isNum).length : Nat) : Int))))] ++ RT x (c :: b) false acc 1077) (RH acc 1077)
      rw [← hdw] at hdl ⊢
      have hcut := suf_cut (p := isNum) h1 rfl
      have hsd := (List.dropWhile_suffix isNum (l := c :: b)).trans h1
      have hlt : ((c :: b).dropWhile isNum).length ≤ b.length := hdl
      have hlnd := line_drop (p := isNum) h1 (by decide) rfl
      have hlen : ((c :: b).takeWhile isNum).length ≤ maxLen := by
        have := (List.takeWhile_prefix isNum (l := c :: b)).length_le
        omega
      have hq := rparseQ_r hlen
      generalize (c :: b).takeWhile isNum = s at *
      generalize parseQ s = pr at *
      obtain ⟨q, n⟩ := pr
      dsimp only at hT2 hTe hq
      refine go ?_
      refine ar_sliceStr (s' := s) (wantF_ok rfl) rfl rfl rfl rfl rfl rfl ⟨by omega, by omega, by omega⟩ hcut ?_
      refine go ?_
      refine cl (by exact rfl) plain71 rfl hq ?_
      refine go ?_
      by_cases h11 : n = 11
      · subst h11
        have hE := hTe (by exact (show (20 : Int) ≠ 0 by decide))
        refine awp_cT rfl rfl ?_
        refine go ?_
        rw [hE]
        exact .inr ⟨_, rfl, rfl⟩
      simp only [if_neg h11] at hTe hT2
      refine awp_cF rfl (by rw [beq_eq_false_iff_ne]; exact h11) ?_
      refine go ?_
      by_cases h0 : n = 0
      case neg =>
        have hE := hTe h0
        refine awp_cT rfl (by rw [bne_iff_ne]; exact h0) ?_
        refine go ?_
        rw [hE]
        exact .inr ⟨_, rfl, rfl⟩
      subst h0
      have hT := (hT2 rfl (by exact fun h => Nat.noConfusion (Nat.succ.inj h))).symm
      refine awp_cF rfl rfl ?_
      refine go ?_
      refine ar_app1 (enc := tkC) (l := acc) (a := ⟨3, [], some q, lineT x (c :: b)⟩) rfl rfl rfl rfl rfl rfl rfl tkC_len rfl rfl rfl rfl rfl rfl rfl (by rw [List.length_append]; show (acc.length + 1) * 96 ≤ _; omega) (by rw [List.length_append]; show acc.length + 1 ≤ _; omega) rfl ?_
      refine go ?_
      refine ⟨((c :: b).dropWhile isNum, false, acc ++ [(⟨3, [], some q, lineT x (c :: b)⟩ : Tk)], 116), ⟨hsd, hT, by rw [hlc] at h3; rw [List.length_append]; show acc.length + 1 + ((c :: b).dropWhile isNum).length ≤ _; omega, .inr (.inl rfl)⟩, ?_, by show ((c :: b).dropWhile isNum).length < (c :: b).length; omega⟩
      refine gou ?_
      refine sub_te rfl ?_ (deqi (by rw [hlnd]))
      exact gou0
    have n45 : (isDig c || c == 45) = false := (Bool.not_eq_true _).mp h45
    have h45' := (dig45 c).trans n45
    by_cases c47 : c = 47
    · subst c47
      have en : nextT x (47 :: b) = (⟨0, [], none, lineT x (47 :: b)⟩, 20, 47 :: b) := by
        have : ¬ 0 ≤ Lib.indexByte signs 47 := by decide
        simp only [nextT, nL, n45, this, if_true, Bool.false_eq_true, if_false]
      rw [en] at hTe
      have hE := hTe (by exact (show (20 : Int) ≠ 0 by decide))
      refine go ?_
      rw [hE]
      exact .inr ⟨_, rfl, rfl⟩
    have nN : isNum c = false := by
      rw [beq_eq_false_iff_ne.2 c47] at h45'
      simpa using h45'
    by_cases cs : c = 123 ∨ c = 125 ∨ c = 91 ∨ c = 93 ∨ c = 58 ∨ c = 44
    · have hone := suf_one h1
      rcases cs with rfl | rfl | rfl | rfl | rfl | rfl
      · have en : nextT x (123 :: b) = (⟨4, [123], none, lineT x (123 :: b)⟩, 0, b) := by
          have : 0 ≤ Lib.indexByte signs 123 := by decide
          simp only [nextT, nL, n45, this, if_true, Bool.false_eq_true, if_false]
        rw [en] at hT2
        have hT := (hT2 rfl (by exact fun h => Nat.noConfusion (Nat.succ.inj h))).symm
        refine go ?_
        refine ar_eq 80 rfl (d' := .im (.bool false)) (eqt nN) ?_
        refine go ?_
        refine ar_sliceStr (s' := [123]) (wantF_ok rfl) rfl rfl rfl rfl rfl rfl ⟨by omega, by omega, by omega⟩ hone ?_
        refine go ?_
        refine ar_app1 (enc := tkC) (l := acc) (a := ⟨4, [123], none, lineT x (123 :: b)⟩) rfl rfl rfl rfl rfl rfl rfl tkC_len rfl rfl rfl rfl rfl rfl rfl (by rw [List.length_append]; show (acc.length + 1) * 96 ≤ _; omega) (by rw [List.length_append]; show acc.length + 1 ≤ _; omega) rfl ?_
        refine go ?_
        refine ⟨(b, false, acc ++ [(⟨4, [123], none, lineT x (123 :: b)⟩ : Tk)], 147), ⟨hb1, hT, by rw [hlc] at h3; rw [List.length_append]; show acc.length + 1 + b.length ≤ _; omega, .inr (.inr (.inl rfl))⟩, ?_, by show b.length < b.length + 1; omega⟩
        refine gou ?_
        refine sub_te rfl ?_ (deqi eat)
        exact gou0
      · have en : nextT x (125 :: b) = (⟨4, [125], none, lineT x (125 :: b)⟩, 0, b) := by
          have : 0 ≤ Lib.indexByte signs 125 := by decide
          simp only [nextT, nL, n45, this, if_true, Bool.false_eq_true, if_false]
        rw [en] at hT2
        have hT := (hT2 rfl (by exact fun h => Nat.noConfusion (Nat.succ.inj h))).symm
        refine go ?_
        refine ar_eq 80 rfl (d' := .im (.bool false)) (eqt nN) ?_
        refine go ?_
        refine ar_sliceStr (s' := [125]) (wantF_ok rfl) rfl rfl rfl rfl rfl rfl ⟨by omega, by omega, by omega⟩ hone ?_
        refine go ?_
        refine ar_app1 (enc := tkC) (l := acc) (a := ⟨4, [125], none, lineT x (125 :: b)⟩) rfl rfl rfl rfl rfl rfl rfl tkC_len rfl rfl rfl rfl rfl rfl rfl (by rw [List.length_append]; show (acc.length + 1) * 96 ≤ _; omega) (by rw [List.length_append]; show acc.length + 1 ≤ _; omega) rfl ?_
        refine go ?_
        refine ⟨(b, false, acc ++ [(⟨4, [125], none, lineT x (125 :: b)⟩ : Tk)], 147), ⟨hb1, hT, by rw [hlc] at h3; rw [List.length_append]; show acc.length + 1 + b.length ≤ _; omega, .inr (.inr (.inl rfl))⟩, ?_, by show b.length < b.length + 1; omega⟩
        refine gou ?_
        refine sub_te rfl ?_ (deqi eat)
        exact gou0
      · have en : nextT x (91 :: b) = (⟨4, [91], none, lineT x (91 :: b)⟩, 0, b) := by
          have : 0 ≤ Lib.indexByte signs 91 := by decide
          simp only [nextT, nL, n45, this, if_true, Bool.false_eq_true, if_false]
        rw [en] at hT2
        have hT := (hT2 rfl (by exact fun h => Nat.noConfusion (Nat.succ.inj h))).symm
        refine go ?_
        refine ar_eq 80 rfl (d' := .im (.bool false)) (eqt nN) ?_
        refine go ?_
        refine ar_sliceStr (s' := [91]) (wantF_ok rfl) rfl rfl rfl rfl rfl rfl ⟨by omega, by omega, by omega⟩ hone ?_
        refine go ?_
        refine ar_app1 (enc := tkC) (l := acc) (a := ⟨4, [91], none, lineT x (91 :: b)⟩) rfl rfl rfl rfl rfl rfl rfl tkC_len rfl rfl rfl rfl rfl rfl rfl (by rw [List.length_append]; show (acc.length + 1) * 96 ≤ _; omega) (by rw [List.length_append]; show acc.length + 1 ≤ _; omega) rfl ?_
        refine go ?_
        refine ⟨(b, false, acc ++ [(⟨4, [91], none, lineT x (91 :: b)⟩ : Tk)], 147), ⟨hb1, hT, by rw [hlc] at h3; rw [List.length_append]; show acc.length + 1 + b.length ≤ _; omega, .inr (.inr (.inl rfl))⟩, ?_, by show b.length < b.length + 1; omega⟩
        refine gou ?_
        refine sub_te rfl ?_ (deqi eat)
        exact gou0
      · have en : nextT x (93 :: b) = (⟨4, [93], none, lineT x (93 :: b)⟩, 0, b) := by
          have : 0 ≤ Lib.indexByte signs 93 := by decide
          simp only [nextT, nL, n45, this, if_true, Bool.false_eq_true, if_false]
        rw [en] at hT2
        have hT := (hT2 rfl (by exact fun h => Nat.noConfusion (Nat.succ.inj h))).symm
        refine go ?_
        refine ar_eq 80 rfl (d' := .im (.bool false)) (eqt nN) ?_
        refine go ?_
        refine ar_sliceStr (s' := [93]) (wantF_ok rfl) rfl rfl rfl rfl rfl rfl ⟨by omega, by omega, by omega⟩ hone ?_
        refine go ?_
        refine ar_app1 (enc := tkC) (l := acc) (a := ⟨4, [93], none, lineT x (93 :: b)⟩) rfl rfl rfl rfl rfl rfl rfl tkC_len rfl rfl rfl rfl rfl rfl rfl (by rw [List.length_append]; show (acc.length + 1) * 96 ≤ _; omega) (by rw [List.length_append]; show acc.length + 1 ≤ _; omega) rfl ?_
        refine go ?_
        refine ⟨(b, false, acc ++ [(⟨4, [93], none, lineT x (93 :: b)⟩ : Tk)], 147), ⟨hb1, hT, by rw [hlc] at h3; rw [List.length_append]; show acc.length + 1 + b.length ≤ _; omega, .inr (.inr (.inl rfl))⟩, ?_, by show b.length < b.length + 1; omega⟩
        refine gou ?_
        refine sub_te rfl ?_ (deqi eat)
        exact gou0
      · have en : nextT x (58 :: b) = (⟨4, [58], none, lineT x (58 :: b)⟩, 0, b) := by
          have : 0 ≤ Lib.indexByte signs 58 := by decide
          simp only [nextT, nL, n45, this, if_true, Bool.false_eq_true, if_false]
        rw [en] at hT2
        have hT := (hT2 rfl (by exact fun h => Nat.noConfusion (Nat.succ.inj h))).symm
        refine go ?_
        refine ar_eq 80 rfl (d' := .im (.bool false)) (eqt nN) ?_
        refine go ?_
        refine ar_sliceStr (s' := [58]) (wantF_ok rfl) rfl rfl rfl rfl rfl rfl ⟨by omega, by omega, by omega⟩ hone ?_
        refine go ?_
        refine ar_app1 (enc := tkC) (l := acc) (a := ⟨4, [58], none, lineT x (58 :: b)⟩) rfl rfl rfl rfl rfl rfl rfl tkC_len rfl rfl rfl rfl rfl rfl rfl (by rw [List.length_append]; show (acc.length + 1) * 96 ≤ _; omega) (by rw [List.length_append]; show acc.length + 1 ≤ _; omega) rfl ?_
        refine go ?_
        refine ⟨(b, false, acc ++ [(⟨4, [58], none, lineT x (58 :: b)⟩ : Tk)], 147), ⟨hb1, hT, by rw [hlc] at h3; rw [List.length_append]; show acc.length + 1 + b.length ≤ _; omega, .inr (.inr (.inl rfl))⟩, ?_, by show b.length < b.length + 1; omega⟩
        refine gou ?_
        refine sub_te rfl ?_ (deqi eat)
        exact gou0
      · have en : nextT x (44 :: b) = (⟨4, [44], none, lineT x (44 :: b)⟩, 0, b) := by
          have : 0 ≤ Lib.indexByte signs 44 := by decide
          simp only [nextT, nL, n45, this, if_true, Bool.false_eq_true, if_false]
        rw [en] at hT2
        have hT := (hT2 rfl (by exact fun h => Nat.noConfusion (Nat.succ.inj h))).symm
        refine go ?_
        refine ar_eq 80 rfl (d' := .im (.bool false)) (eqt nN) ?_
        refine go ?_
        refine ar_sliceStr (s' := [44]) (wantF_ok rfl) rfl rfl rfl rfl rfl rfl ⟨by omega, by omega, by omega⟩ hone ?_
        refine go ?_
        refine ar_app1 (enc := tkC) (l := acc) (a := ⟨4, [44], none, lineT x (44 :: b)⟩) rfl rfl rfl rfl rfl rfl rfl tkC_len rfl rfl rfl rfl rfl rfl rfl (by rw [List.length_append]; show (acc.length + 1) * 96 ≤ _; omega) (by rw [List.length_append]; show acc.length + 1 ≤ _; omega) rfl ?_
        refine go ?_
        refine ⟨(b, false, acc ++ [(⟨4, [44], none, lineT x (44 :: b)⟩ : Tk)], 147), ⟨hb1, hT, by rw [hlc] at h3; rw [List.length_append]; show acc.length + 1 + b.length ≤ _; omega, .inr (.inr (.inl rfl))⟩, ?_, by show b.length < b.length + 1; omega⟩
        refine gou ?_
        refine sub_te rfl ?_ (deqi eat)
        exact gou0
    simp only [not_or] at cs
    have hns := sign_no cs.1 cs.2.1 cs.2.2.1 cs.2.2.2.1 cs.2.2.2.2.1 cs.2.2.2.2.2
    have en : nextT x (c :: b) = (⟨0, [], none, lineT x (c :: b)⟩, 20, c :: b) := by simp only [nextT, nL, n45, hns, if_true, Bool.false_eq_true, if_false]
    rw [en] at hTe
    have hE := hTe (by exact (show (20 : Int) ≠ 0 by decide))
    refine go ?_
    refine ar_eq 80 rfl (d' := .im (.bool false)) (eqt nN) ?_
    refine go ?_
    refine ar_eq 119 rfl (d' := .im (.bool false)) (eqt (u8f cs.1)) ?_
    refine go ?_
    refine ar_eq 123 rfl (d' := .im (.bool false)) (eqt (u8f cs.2.1)) ?_
    refine go ?_
    refine ar_eq 127 rfl (d' := .im (.bool false)) (eqt (u8f cs.2.2.1)) ?_
    refine go ?_
    refine ar_eq 131 rfl (d' := .im (.bool false)) (eqt (u8f cs.2.2.2.1)) ?_
    refine go ?_
    refine ar_eq 135 rfl (d' := .im (.bool false)) (eqt (u8f cs.2.2.2.2.1)) ?_
    refine go ?_
    refine awp_cF rfl (u8f cs.2.2.2.2.2) ?_
    refine go ?_
    rw [hE]
    exact .inr ⟨_, rfl, rfl⟩
  rintro ⟨acc, ln⟩ ⟨h1, h2⟩
  simp only [] at h1 h2
  rw [h1]
  change Awp _ _ _ _ [(2, some (.im .nil)), (3, some (.ptr 3 0)), (5, some (.im (.int .i64 (ln : Nat)))), (4, some (.row 1077 acc.length 7))] (RH acc 1077)
  refine go ?_
  refine ar_app1 (enc := tkC) (l := acc) (a := ⟨1, [], none, ln⟩) rfl rfl rfl rfl rfl rfl rfl tkC_len rfl rfl rfl rfl rfl rfl rfl (by rw [List.length_append]; show (acc.length + 1) * 96 ≤ _; omega) (by rw [List.length_append]; show acc.length + 1 ≤ _; omega) rfl ?_
  refine goq ?_
  refine awp_frzRow (id := 155) (k := 2) rfl rfl (by rw [flatMap_len tkC_len]; exact Nat.le_refl _) (List.take_of_length_le (by rw [flatMap_len tkC_len]; exact Nat.le_refl _)) ?_
  refine go ?_
  exact ⟨_, rfl, rfl⟩
end Go.Proofs.YtkbhchlecokpiaaGreat
