/- The reader of tokens: the next token. -/
import Derived.Test.YtkbhchlecokpiaaGreatFwK4b
namespace Go.Proofs.YtkbhchlecokpiaaGreat
open Go Go.RowKit Fw Tw Rat
set_option linter.unusedVariables false
set_option linter.unusedSimpArgs false
/-- a token: its kind, its text, its number, its line -/
structure Tk where
  k : Nat
  s : List UInt8
  q : Option Rat
  l : Nat
def tkX : Option Rat → List M
  | none => [.bool false, .nil, .bool false, .nil]
  | some q => [.bool (decide (q.num < 0)), mN q.num.natAbs, .bool false, mN (if q.den = 1 then 0 else q.den)]
def tkC (t : Tk) : List M := match t.q with
  | none => [.int .u8 (t.k : Nat), .str t.s, .bool false, .nil, .bool false, .nil, .int .i64 (t.l : Nat)]
  | some q => [.int .u8 (t.k : Nat), .str t.s, .bool (decide (q.num < 0)), mN q.num.natAbs, .bool false, mN (if q.den = 1 then 0 else q.den), .int .i64 (t.l : Nat)]
def tkM (t : Tk) : M := .agg (tkC t)
def signs : List UInt8 := [123, 125, 91, 93, 58, 44]
abbrev lineT (x r : List UInt8) : Nat := 1 + (x.count 10 - r.count 10)
/-- the token here, its error, what is left -/
def nextT (x : List UInt8) : List UInt8 → Tk × Int × List UInt8
  | [] => (⟨1, [], none, lineT x []⟩, 0, [])
  | c :: b => if isLet c then (⟨2, (c :: b).takeWhile isLet, none, lineT x (c :: b)⟩, 0, (c :: b).dropWhile isLet)
    else if isDig c || c == 45 then (⟨3, [], some (parseQ ((c :: b).takeWhile isNum)).1, lineT x (c :: b)⟩, if (parseQ ((c :: b).takeWhile isNum)).2 = 11 then 20 else (parseQ ((c :: b).takeWhile isNum)).2, (c :: b).dropWhile isNum)
    else if 0 ≤ Lib.indexByte signs c then (⟨4, [c], none, lineT x (c :: b)⟩, 0, b)
    else (⟨0, [], none, lineT x (c :: b)⟩, 20, c :: b)
theorem indexB_r {s : List UInt8} {c : UInt8} : Ret Tryz.prog 105 [.str s, .int .u8 c.toNat] (.int .i64 (Lib.indexByte s c)) := by
  intro ok w vs h
  obtain ⟨v, v', rfl, h1, h2⟩ := rmt2 h
  simp only [RM] at h1 h2
  rw [h1, h2]
  refine (Tryz.strings_IndexByte ⟨s.toArray⟩ c.toNat w).mono ?_
  rintro e w' ⟨rfl, rfl⟩
  refine ⟨_, rfl, ?_, Below.refl _ _⟩
  simp only [RM, Int.toNat_natCast]
  have : (c.toNat).toUInt8 = c := by simp [Nat.toUInt8]
  rw [this]
theorem sign_nl {c : UInt8} (h : 0 ≤ Lib.indexByte signs c) : c ≠ 10 := by
  rintro rfl
  revert h; decide
theorem rdS {x : List UInt8} {p q l m : Int} (h1 : p = q) (h2 : l = m) : some [M.str x, .int .i64 p, .int .i64 l] = some [M.str x, .int .i64 q, .int .i64 m] := by rw [h1, h2]
theorem suf_one {x b : List UInt8} {c : UInt8} (h : (c :: b) <:+ x) : (x.drop (((x.length - (c :: b).length : Nat)) : Int).toNat).take (((((x.length - (c :: b).length : Nat)) : Int) + 1).toNat - (((x.length - (c :: b).length : Nat)) : Int).toNat) = [c] := by
  obtain ⟨p, rfl⟩ := h
  rw [List.length_append, Nat.add_sub_cancel, Int.toNat_natCast, List.drop_left, show ((p.length : Int) + 1).toNat - p.length = 1 by omega]
  rfl
set_option maxHeartbeats 4000000 in
theorem next_s {x r : List UInt8} (hr : r <:+ x) (hx : x.length ≤ 262144) :
    RetP Tryz.prog 68 127 (rS x r) [] (.tup [tkM (nextT x r).1, .int .i64 (nextT x r).2.1]) (rS x (nextT x r).2.2) := by
  have hle := hr.length_le
  have hml : maxLen = 9223372036854775807 := rfl
  refine retB_of (L := L) lay_ok Tryz.func68 rfl Tryz.ntmps68 rfl rfl (fun bl => ?_)
  refine goq ?_
  refine go ?_
  rcases r with _ | ⟨c, b⟩
  · refine awp_cT rfl (by rw [beq_iff_eq]; simp only [List.length_nil]; omega) ?_
    refine go ?_
    exact ⟨⟨_, rfl, rfl⟩, ⟨_, rfl, rfl⟩, trivial⟩
  have hlc : (c :: b).length = b.length + 1 := rfl
  have hg := suf_get hr
  refine awp_cF rfl (by rw [beq_eq_false_iff_ne]; omega) ?_
  refine go ?_
  refine ar_indexStr (c := c) (wantF_ok rfl) rfl rfl rfl rfl rfl (by omega) hg ?_
  refine go ?_
  refine cl (by exact rfl) plain101 rfl (letter_r c) ?_
  refine go ?_
  by_cases h1 : isLet c = true
  · have e : nextT x (c :: b) = (⟨2, (c :: b).takeWhile isLet, none, lineT x (c :: b)⟩, 0, (c :: b).dropWhile isLet) := by simp only [nextT, h1, if_true]
    rw [e]
    refine awp_cT rfl h1 ?_
    refine go ?_
    refine clq plain98 (while_s hr hx plain101 letter_r) ?_
    refine go ?_
    exact ⟨⟨_, rfl, rfl⟩, ⟨_, rfl, rfl⟩, trivial⟩
  · refine awp_cF rfl ((Bool.not_eq_true _).mp h1) ?_
    have hn1 : isLet c = false := (Bool.not_eq_true _).mp h1
    refine awp_seq ?_
    refine awp_cutS (A := Unit) (fun _ => True) (fun _ => [(0, some (.ptr 0 0)), (2, some (.ptr 2 0)), (4, some (.ptr 4 0)), (5, some (.im (.int .u8 c.toNat))), (42, some (.im (.bool (isDig c || c == 45))))])
      (fun _ => [(4, some (.box 120 [.im (.int .u8 0), .im (.str []), .im (.bool false), .im .nil, .im (.bool false), .im .nil, .im (.int .i64 (lineT x (c :: b) : Nat))])), (2, some (.box 120 [.im (.int .u8 0), .im (.str []), .im (.bool false), .im .nil, .im (.bool false), .im .nil, .im (.int .i64 0)])), (0, some (.bx (bl 0) 127 (rdD x (x.length - (c :: b).length) (lineT x (c :: b)))))]) ?_ ?_
    · by_cases h : isDig c = true
      · refine go ?_
        refine cl (by exact rfl) plain102 rfl (digit_r c) ?_
        refine go ?_
        refine ar_eq 45 rfl (d' := .im (.bool true)) (eqt h) ?_
        refine go ?_
        refine .inl ⟨rfl, (), trivial, ?_⟩
        refine gou ?_
        refine sub_te rfl ?_ (eqt (by rw [h]; rfl))
        exact gou0
      · have h' : isDig c = false := by simpa using h
        refine go ?_
        refine cl (by exact rfl) plain102 rfl (digit_r c) ?_
        refine go ?_
        refine ar_eq 45 rfl (d' := .im (.bool false)) (eqt h') ?_
        refine go ?_
        refine .inl ⟨rfl, (), trivial, ?_⟩
        refine gou ?_
        refine sub_te rfl ?_ (eqt (by rw [h', Bool.false_or]; exact u8eq c 45))
        exact gou0
    rintro _ -
    by_cases h2 : (isDig c || c == 45) = true
    · refine awp_cT rfl h2 ?_
      have hlen : ((c :: b).takeWhile isNum).length ≤ maxLen := by
        have := (List.takeWhile_prefix isNum (l := c :: b)).length_le
        omega
      have hq := parseQ_r hlen
      have e : nextT x (c :: b) = (⟨3, [], some (parseQ ((c :: b).takeWhile isNum)).1, lineT x (c :: b)⟩, if (parseQ ((c :: b).takeWhile isNum)).2 = 11 then 20 else (parseQ ((c :: b).takeWhile isNum)).2, (c :: b).dropWhile isNum) := by simp only [nextT, hn1, h2, if_true, Bool.false_eq_true, if_false]
      rw [e]
      have hw := while_s hr hx plain104 num_r
      generalize (c :: b).takeWhile isNum = s at *
      generalize parseQ s = pr at *
      obtain ⟨q, n⟩ := pr
      refine go ?_
      refine clq plain98 hw ?_
      refine go ?_
      refine cl (by exact rfl) plain103 rfl hq ?_
      refine go ?_
      by_cases h11 : n = 11
      · subst h11
        refine awp_cT rfl rfl ?_
        refine go ?_
        exact ⟨⟨_, rfl, rfl⟩, ⟨_, rfl, rfl⟩, trivial⟩
      · refine awp_cF rfl (by rw [beq_eq_false_iff_ne]; exact h11) ?_
        simp only [if_neg h11]
        refine go ?_
        exact ⟨⟨_, rfl, rfl⟩, ⟨_, rfl, rfl⟩, trivial⟩
    · have hn2 : (isDig c || c == 45) = false := (Bool.not_eq_true _).mp h2
      refine awp_cF rfl hn2 ?_
      refine go ?_
      refine cl (by exact rfl) plain105 rfl (indexB_r (s := signs) (c := c)) ?_
      refine go ?_
      by_cases h3 : 0 ≤ Lib.indexByte signs c
      · have e : nextT x (c :: b) = (⟨4, [c], none, lineT x (c :: b)⟩, 0, b) := by simp only [nextT, hn1, hn2, h3, if_true, Bool.false_eq_true, if_false]
        rw [e]
        have hc10 := sign_nl h3
        have hcnt : (c :: b).count 10 = b.count 10 := by rw [List.count_cons_of_ne hc10]
        refine awp_cT rfl (by rw [decide_eq_true_eq]; exact h3) ?_
        refine go ?_
        refine ar_sliceStr (s' := [c]) (wantF_ok rfl) rfl rfl rfl rfl rfl rfl ⟨by omega, by omega, by omega⟩ (suf_one hr) ?_
        refine go ?_
        refine ⟨⟨_, rfl, rfl⟩, ⟨_, rfl, rdS ?_ ?_⟩, trivial⟩
        · try dsimp only
          omega
        · show ((1 + (x.count 10 - (c :: b).count 10) : Nat) : Int) = ((1 + (x.count 10 - b.count 10) : Nat) : Int)
          rw [hcnt]
      · have e : nextT x (c :: b) = (⟨0, [], none, lineT x (c :: b)⟩, 20, c :: b) := by simp only [nextT, hn1, hn2, h3, if_true, Bool.false_eq_true, if_false]
        rw [e]
        refine awp_cF rfl (by rw [decide_eq_false_iff_not]; exact h3) ?_
        refine go ?_
        exact ⟨⟨_, rfl, rfl⟩, ⟨_, rfl, rfl⟩, trivial⟩
end Go.Proofs.YtkbhchlecokpiaaGreat
