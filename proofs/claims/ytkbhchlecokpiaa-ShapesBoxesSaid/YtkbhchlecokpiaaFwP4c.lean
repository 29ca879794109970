/- strings.Cut at a slash; ratio.Parse, by the logic over data. -/
import Derived.Test.YtkbhchlecokpiaaFwP4b
import Derived.Test.YtkbhchlecokpiaaShelfS
namespace Go.Proofs.Ytkbhchlecokpiaa
open Go Go.RowKit Fw Tw Rat
set_option linter.unusedVariables false
set_option linter.unusedSimpArgs false
/-- a text, parted at its first slash -/
def cutT : List UInt8 → List UInt8 × List UInt8 × Bool
  | [] => ([], [], false)
  | b :: l => if b == 47 then ([], l, true) else if (cutT l).2.2 then (b :: (cutT l).1, (cutT l).2.1, true) else (b :: l, [], false)
theorem cut_index : ∀ s : List UInt8, (Lib.indexByte s 47 = -1 ∧ cutT s = (s, [], false)) ∨ ∃ i : Nat, Lib.indexByte s 47 = i ∧ i + 1 ≤ s.length ∧ cutT s = (s.take i, s.drop (i + 1), true)
  | [] => .inl ⟨rfl, rfl⟩
  | b :: l => by
    unfold Lib.indexByte cutT
    by_cases h : (b == 47) = true
    · rw [if_pos h, if_pos h]
      exact .inr ⟨0, rfl, by simp, by simp⟩
    · rw [if_neg h, if_neg h]
      rcases cut_index l with ⟨h1, h2⟩ | ⟨i, h1, h2, h3⟩
      · rw [h1, h2]; exact .inl ⟨rfl, rfl⟩
      · rw [h1, h3]
        refine .inr ⟨i + 1, ?_, by simpa using h2, ?_⟩
        · rw [if_neg (by rw [beq_iff_eq]; omega)]; omega
        · simp
theorem str2 {ok : Nat → Prop} {w : World} {s t : List UInt8} {vs : List Value} (h : RMt ok w [.str s, .str t] vs) : vs = [.string ⟨s.toArray⟩, .string ⟨t.toArray⟩] := by
  obtain ⟨v, v', rfl, h1, h2⟩ := rmt2 h
  simp only [RM] at h1 h2
  rw [h1, h2]
theorem index1_r {s : List UInt8} {c : UInt8} : Ret Try.prog 98 [.str s, .str [c]] (.int .i64 (Lib.indexByte s c)) := by
  intro ok w vs h
  rw [str2 h]
  refine (Try.stringslite_Index_one ⟨s.toArray⟩ c w).mono ?_
  rintro e w' ⟨rfl, rfl⟩
  exact ⟨_, rfl, by simp only [RM], Below.refl _ _⟩
theorem scut_r {s : List UInt8} (hs : s.length ≤ maxLen) : Ret Try.prog 155 [.str s, .str [47]] (.tup [.str (cutT s).1, .str (cutT s).2.1, .bool (cutT s).2.2]) := by
  have hml : maxLen = 9223372036854775807 := rfl
  have hi := index1_r (s := s) (c := 47)
  rcases cut_index s with ⟨h1, h2⟩ | ⟨i, h1, h2, h3⟩
  · rw [h1] at hi
    rw [h2]
    refine ret_of (L := L) lay_ok Try.func155 rfl Try.ntmps155 rfl ?_
    refine go ?_
    refine cl (by exact rfl) plain98 rfl hi ?_
    refine go ?_
    refine ⟨_, rfl, ?_⟩
    rfl
  · rw [h1] at hi
    rw [h3]
    refine ret_of (L := L) lay_ok Try.func155 rfl Try.ntmps155 rfl ?_
    refine go ?_
    refine cl (by exact rfl) plain98 rfl hi ?_
    refine go ?_
    refine ar_sliceStrHi (s' := s.take i) (wantF_ok rfl) rfl rfl rfl rfl rfl ⟨by omega, by omega⟩ (by rw [Int.toNat_natCast]) ?_
    refine go ?_
    refine ar_eq 20 rfl (d' := .im (.int .i64 ((i + 1 : Nat) : Int))) (imI (by rw [IntKind.wrap_i64]; simp only [List.length_singleton]; omega)) ?_
    refine ar_sliceStrLo (s' := s.drop (i + 1)) (wantF_ok rfl) rfl rfl rfl rfl rfl ⟨by omega, by omega⟩ (by rw [Int.toNat_natCast]) ?_
    refine go ?_
    refine ⟨_, rfl, ?_⟩
    rfl
theorem cut_r {s : List UInt8} (hs : s.length ≤ maxLen) : Ret Try.prog 125 [.str s, .str [47]] (.tup [.str (cutT s).1, .str (cutT s).2.1, .bool (cutT s).2.2]) := by
  have h := scut_r hs
  refine ret_of (L := L) lay_ok Try.func125 rfl Try.ntmps125 rfl ?_
  refine go ?_
  refine cl (by exact rfl) plain155 rfl h ?_
  refine go ?_
  refine ⟨_, rfl, ?_⟩
  rfl
theorem cut_len (s : List UInt8) : (cutT s).1.length ≤ s.length ∧ (cutT s).2.1.length ≤ s.length := by
  rcases cut_index s with ⟨h1, h2⟩ | ⟨i, h1, h2, h3⟩
  · rw [h2]; simp
  · rw [h3]; simp; omega
/-- what stands below the slash -/
def belowT (s : List UInt8) : List UInt8 := if (cutT s).2.2 then (cutT s).2.1 else [49]
/-- what a text says as a fraction, or its error -/
def parseP (n : Int × Int) (d : Int × Int) (neg : Bool) : Rat × Int :=
  if n.2 = 11 ∨ d.2 = 11 ∨ neg = true then (0, 11) else if n.2 ≠ 0 ∨ d.2 ≠ 0 then (0, 3) else if d.1 = 0 then (0, 10) else (n.1 /. d.1, 0)
def parseQ (s : List UInt8) : Rat × Int := parseP (parseZ (cutT s).1) (parseZ (belowT s)) (negT (belowT s))
theorem parse_val {s : List UInt8} (h : (parseZ s).2 = 0) : (parseZ s).1.natAbs < W ^ 40 := by
  unfold parseZ at h ⊢
  generalize bodyT s = t at *
  generalize negT s = neg at *
  unfold parseT at h ⊢
  split at h
  · cases h
  · rename_i hb
    rw [if_neg hb]
    split at h
    · cases h
    · rename_i ha
      rw [if_neg ha]
      split at h
      · cases h
      · rename_i hl
        rw [if_neg hl]
        show (sg neg (valT t)).natAbs < _
        rw [sg_abs]
        exact Nat.lt_of_lt_of_le (valT_lt (by simpa using ha)) (ten40 (by omega))
theorem parse_nil : parseZ [] = (0, 11) := rfl
theorem W40 {s : List UInt8} {z e : Int} (h : parseZ s = (z, e)) (he : e = 0) : z.natAbs < W ^ 40 := by
  have := parse_val (s := s) (by rw [h, he])
  rwa [h] at this
abbrev boxQ0 : O := .box 26 [.im (.bool false), .im .nil, .im (.bool false), .im .nil]
theorem le_errQ {x y : Rat × Int} (h : x = y) (h1 : y.1 = 0) : Le (.tup [.agg [.bool false, .nil, .bool false, .nil], .int .i64 y.2]) (.tup [mQ x.1, .int .i64 x.2]) := by
  subst h
  rw [h1]
  exact le_tup (.cons le_zeroQ (.cons (Le.refl _) .nil))
set_option maxHeartbeats 4000000 in
theorem parseQ_r {s : List UInt8} (hs : s.length ≤ maxLen) : Ret Try.prog 95 [.str s] (.tup [mQ (parseQ s).1, .int .i64 (parseQ s).2]) := by
  have hml : maxLen = 9223372036854775807 := rfl
  have hcut := cut_r hs
  have hl1 : (cutT s).1.length ≤ maxLen := Nat.le_trans (cut_len s).1 hs
  have hl2 : (belowT s).length ≤ maxLen := by
    unfold belowT
    split
    · exact Nat.le_trans (cut_len s).2 hs
    · simp [maxLen]
  have p1 := parse_r hl1
  have p2 := parse_r hl2
  refine ret_ofL (L := L) lay_ok Try.func95 rfl Try.ntmps95 rfl ?_
  refine go ?_
  refine cl (by exact rfl) plain125 rfl hcut ?_
  refine go ?_
  refine awp_cutS (A := Unit) (fun _ => True) (fun _ => [(2, some (.ptr 2 0)), (3, some (.im (.int .i64 0))), (4, some (.im (.str (cutT s).1))), (5, some (.im (.str (belowT s))))]) (fun _ => [(2, some boxQ0)]) ?_ ?_
  · by_cases h : (cutT s).2.2 = true
    · refine awp_cF rfl (by rw [h]; rfl) ?_
      refine go ?_
      refine .inl ⟨rfl, (), trivial, ?_⟩
      have e : belowT s = (cutT s).2.1 := by unfold belowT; rw [if_pos h]
      rw [e]
      exact gou0
    · rw [Bool.not_eq_true] at h
      refine awp_cT rfl (by rw [h]; rfl) ?_
      refine go ?_
      refine .inl ⟨rfl, (), trivial, ?_⟩
      have e : belowT s = [49] := by unfold belowT; rw [h]; rfl
      rw [e]
      exact gou0
  rintro _ -
  have hq : parseQ s = parseP (parseZ (cutT s).1) (parseZ (belowT s)) (negT (belowT s)) := rfl
  have w1 : ∀ z e, parseZ (cutT s).1 = (z, e) → e = 0 → z.natAbs < W ^ 40 := fun z e h he => W40 h he
  have w2 : ∀ z e, parseZ (belowT s) = (z, e) → e = 0 → z.natAbs < W ^ 40 := fun z e h he => W40 h he
  have hnil : (parseZ (belowT s)).2 ≠ 11 → belowT s ≠ [] := fun h e => h (by rw [e]; rfl)
  generalize belowT s = below at *
  generalize (cutT s).1 = above at *
  generalize parseZ above = x at *
  generalize parseZ below = y at *
  obtain ⟨n, e⟩ := x
  obtain ⟨d, f⟩ := y
  simp only [] at p1 p2 hnil
  refine goq ?_
  refine go ?_
  refine cl (by exact rfl) plain126 rfl p1 ?_
  refine go ?_
  refine cl (by exact rfl) plain126 rfl p2 ?_
  refine go ?_
  by_cases he : e = 11
  · subst he
    refine go ?_
    refine ⟨_, rfl, ?_⟩
    exact le_errQ hq (by rfl)
  refine ar_eq 32 rfl (d' := .im (.bool false)) (eqt (beq_eq_false_iff_ne.2 he)) ?_
  refine go ?_
  by_cases hf : f = 11
  · subst hf
    refine go ?_
    refine ⟨_, rfl, ?_⟩
    exact le_errQ (hq.trans (by unfold parseP; rw [if_pos (.inr (.inl rfl))])) rfl
  refine ar_eq 36 rfl (d' := .im (.bool false)) (eqt (beq_eq_false_iff_ne.2 hf)) ?_
  refine go ?_
  rcases below with _ | ⟨c, r⟩
  · exact absurd rfl (hnil hf)
  refine ar_indexStr (c := c) (wantF_ok rfl) rfl rfl rfl rfl rfl (by omega) rfl ?_
  refine go ?_
  by_cases hn : negT (c :: r) = true
  · refine awp_cT rfl ((u8eq c 45).trans hn) ?_
    refine go ?_
    refine ⟨_, rfl, ?_⟩
    exact le_errQ (hq.trans (by unfold parseP; rw [if_pos (.inr (.inr hn))])) rfl
  refine awp_cF rfl ((u8eq c 45).trans ((Bool.not_eq_true _).mp hn)) ?_
  have hno : ¬ (e = 11 ∨ f = 11 ∨ negT (c :: r) = true) := fun h => h.elim he (fun h => h.elim hf hn)
  refine go ?_
  by_cases he0 : e = 0
  · by_cases hf0 : f = 0
    · subst he0 hf0
      have i1 : IsZ (mI n) n 40 := isZ_mI (w1 n 0 rfl rfl)
      have i2 : IsZ (mI d) d 40 := isZ_mI (w2 d 0 rfl rfl)
      have sd := sign_r i2 (by omega)
      have mk := make_q i1 i2 (by omega) (by omega)
      refine go ?_
      refine cl (by exact rfl) plain79 rfl sd ?_
      refine go ?_
      by_cases hd : d = 0
      · refine awp_cT rfl (by rw [hd]; rfl) ?_
        refine go ?_
        refine ⟨_, rfl, ?_⟩
        exact le_errQ (hq.trans (by unfold parseP; rw [if_neg hno, if_neg (by simp), if_pos hd])) rfl
      · refine awp_cF rfl (by rw [beq_eq_false_iff_ne]; unfold signZ; split <;> (try split) <;> omega) ?_
        refine go ?_
        refine cl (by exact rfl) plain68 rfl mk ?_
        refine go ?_
        refine ⟨_, rfl, ?_⟩
        have e1 : parseQ s = (n /. d, 0) := hq.trans (by unfold parseP; rw [if_neg hno, if_neg (by simp), if_neg hd])
        rw [e1]
        exact Le.refl _
    · subst he0
      refine go ?_
      refine awp_cT rfl (by rw [bne_iff_ne]; exact hf0) ?_
      refine go ?_
      refine ⟨_, rfl, ?_⟩
      exact le_errQ (hq.trans (by unfold parseP; rw [if_neg hno, if_pos (.inr hf0)])) rfl
  · refine ar_eq 45 rfl (d' := .im (.bool true)) (eqt (by rw [bne_iff_ne]; exact he0)) ?_
    refine go ?_
    refine ⟨_, rfl, ?_⟩
    exact le_errQ (hq.trans (by unfold parseP; rw [if_neg hno, if_pos (.inl he0)])) rfl
end Go.Proofs.Ytkbhchlecokpiaa
