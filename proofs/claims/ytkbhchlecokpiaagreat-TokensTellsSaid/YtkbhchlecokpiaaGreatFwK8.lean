/- The tokens of two texts, one behind the other: the plain law. -/
import Derived.Test.YtkbhchlecokpiaaGreatFwK6
namespace Go.Proofs.YtkbhchlecokpiaaGreat
open Go Go.RowKit Fw Tw Rat
set_option linter.unusedVariables false
set_option linter.unusedSimpArgs false
theorem dropW_app {p : UInt8 → Bool} {c : UInt8} {y : List UInt8} : ∀ {r b : List UInt8} {d : UInt8}, r.dropWhile p = d :: b → (r ++ c :: y).dropWhile p = d :: (b ++ c :: y)
  | [], b, d, h => by cases h
  | a :: r, b, d, h => by
    rw [List.cons_append, List.dropWhile_cons]
    rw [List.dropWhile_cons] at h
    split
    · rename_i hp
      rw [if_pos hp] at h
      exact dropW_app h
    · rename_i hp
      rw [if_neg hp] at h
      cases h
      rfl
theorem dropW_nil {p : UInt8 → Bool} {z : List UInt8} : ∀ {r : List UInt8}, r.dropWhile p = [] → (r ++ z).dropWhile p = z.dropWhile p
  | [], h => rfl
  | a :: r, h => by
    rw [List.cons_append, List.dropWhile_cons]
    rw [List.dropWhile_cons] at h
    split
    · rename_i hp
      rw [if_pos hp] at h
      exact dropW_nil h
    · rename_i hp
      rw [if_neg hp] at h
      cases h
theorem dropW_stop {p : UInt8 → Bool} {c : UInt8} {y : List UInt8} (hc : p c = false) : ∀ r : List UInt8, (r ++ c :: y).dropWhile p = r.dropWhile p ++ c :: y
  | [] => by rw [List.nil_append, List.dropWhile_cons, hc]; rfl
  | a :: r => by
    rw [List.cons_append, List.dropWhile_cons, List.dropWhile_cons]
    split
    · exact dropW_stop hc r
    · rfl
theorem takeW_stop {p : UInt8 → Bool} {c : UInt8} {y : List UInt8} (hc : p c = false) : ∀ r : List UInt8, (r ++ c :: y).takeWhile p = r.takeWhile p
  | [] => by rw [List.nil_append, List.takeWhile_cons, hc]; rfl
  | a :: r => by
    rw [List.cons_append, List.takeWhile_cons, List.takeWhile_cons]
    split
    · rw [takeW_stop hc r]
    · rfl
theorem skip_nl (y : List UInt8) : skip (10 :: y) = skip y := by
  have e : (10 :: y).dropWhile isGap = y.dropWhile isGap := by rw [List.dropWhile_cons]; rfl
  cases h : y.dropWhile isGap with
  | nil => rw [skip_nil h, skip_nil (by rw [e, h])]
  | cons c b =>
    by_cases hc : c = 35
    · subst hc
      rw [skip_hash h, skip_hash (by rw [e, h])]
    · rw [skip_stop h hc, skip_stop (by rw [e, h]) hc]
theorem skip_app (y : List UInt8) : ∀ (n : Nat) (r : List UInt8), r.length = n → skip (r ++ 10 :: y) = if skip r = [] then skip y else skip r ++ 10 :: y := by
  intro n
  induction n using Nat.strongRecOn with
  | _ n ih =>
    intro r hn
    have h2 := drop_len (so := isGap) r
    cases h : r.dropWhile isGap with
    | nil =>
      rw [skip_nil h, if_pos rfl]
      have e : (r ++ 10 :: y).dropWhile isGap = (10 :: y).dropWhile isGap := dropW_nil h
      have e2 : (10 :: y).dropWhile isGap = y.dropWhile isGap := by rw [List.dropWhile_cons]; rfl
      rw [e2] at e
      cases h3 : y.dropWhile isGap with
      | nil => rw [skip_nil h3, skip_nil (by rw [e, h3])]
      | cons c b =>
        by_cases hc : c = 35
        · subst hc
          rw [skip_hash h3, skip_hash (by rw [e, h3])]
        · rw [skip_stop h3 hc, skip_stop (by rw [e, h3]) hc]
    | cons c b =>
      have e := dropW_app (c := 10) (y := y) h
      rw [h, List.length_cons] at h2
      by_cases hc : c = 35
      · subst hc
        rw [skip_hash h, skip_hash e, dropW_stop (by rfl) b]
        have h1 := drop_len (so := notNl) b
        exact ih _ (by omega) _ rfl
      · rw [skip_stop h hc, skip_stop e hc, if_neg (by simp)]
        rfl
/-- a token further down -/
def Tk.down (d : Nat) (t : Tk) : Tk := ⟨t.k, t.s, t.q, t.l + d⟩
theorem line_app {x y r : List UInt8} (hr : r <:+ x) : lineT (x ++ 10 :: y) (r ++ 10 :: y) = lineT x r := by
  unfold lineT
  have := (suf_cnt hr).2
  rw [List.count_append, List.count_append]
  omega
theorem next_app {x y b : List UInt8} {c : UInt8} (hr : (c :: b) <:+ x) : nextT (x ++ 10 :: y) (c :: (b ++ 10 :: y)) = ((nextT x (c :: b)).1, (nextT x (c :: b)).2.1, (nextT x (c :: b)).2.2 ++ 10 :: y) := by
  have hl := line_app (y := y) hr
  have i1 : isLet 10 = false := by decide
  have i2 : isNum 10 = false := by decide
  have t1 := takeW_stop (y := y) i1 (c :: b)
  have t2 := takeW_stop (y := y) i2 (c :: b)
  have d1 := dropW_stop (y := y) i1 (c :: b)
  have d2 := dropW_stop (y := y) i2 (c :: b)
  rw [List.cons_append] at hl t1 t2 d1 d2
  unfold nextT
  dsimp only
  rw [hl, t1, t2, d1, d2]
  split
  · rfl
  · split
    · rfl
    · split
      · rfl
      · rfl
theorem line_down {x y r : List UInt8} (hr : r <:+ y) : lineT (x ++ 10 :: y) r = lineT y r + (x.count 10 + 1) := by
  unfold lineT
  have := (suf_cnt hr).2
  rw [List.count_append, List.count_cons_self]
  omega
theorem next_down {x y r : List UInt8} (hr : r <:+ y) : nextT (x ++ 10 :: y) r = ((nextT y r).1.down (x.count 10 + 1), (nextT y r).2.1, (nextT y r).2.2) := by
  have hl := line_down (x := x) hr
  rcases r with _ | ⟨c, b⟩
  · unfold nextT Tk.down
    rw [hl]
  unfold nextT
  dsimp only
  rw [hl]
  split
  · rfl
  · split
    · rfl
    · split
      · rfl
      · rfl
/-- what is found further down -/
def downs (d : Nat) (acc : List Tk) : List Tk ⊕ (Int × Nat) → List Tk ⊕ (Int × Nat)
  | .inl l => .inl (acc ++ l.map (Tk.down d))
  | .inr f => .inr (f.1, f.2 + d)
theorem toks_down {x y : List UInt8} : ∀ (n : Nat) (r : List UInt8) (acc m : List Tk), r.length = n → r <:+ y → toks (x ++ 10 :: y) r (acc ++ m.map (Tk.down (x.count 10 + 1))) = downs (x.count 10 + 1) acc (toks y r m) := by
  intro n
  induction n using Nat.strongRecOn with
  | _ n ih =>
    intro r acc m hn hr
    have hz : skip r <:+ y := (skip_suf _ r rfl).trans hr
    have hnx := next_down (x := x) hz
    by_cases h0 : (nextT y (skip r)).2.1 = 0
    · have h0' : (nextT (x ++ 10 :: y) (skip r)).2.1 = 0 := by rw [hnx]; exact h0
      by_cases h1 : (nextT y (skip r)).1.k = 1
      · rw [toks_end h0 h1, toks_end h0' (by rw [hnx]; exact h1), hnx]
        simp only [downs, List.map_append, List.map_cons, List.map_nil, List.append_assoc]
      · have g1 := next_lt y (skip r) h1 h0
        have g2 := skip_len r
        rw [toks_next h0 h1, toks_next h0' (by rw [hnx]; exact h1), hnx]
        dsimp only
        have := ih _ (by omega) (nextT y (skip r)).2.2 acc (m ++ [(nextT y (skip r)).1]) rfl ((next_suf y (skip r)).trans hz)
        rw [List.map_append, ← List.append_assoc] at this
        exact this
    · rw [toks_err h0, toks_err (by rw [hnx]; exact h0), hnx]
      rfl
/-- the tokens of a text, another one behind it -/
def bothT (d : Nat) (y : List Tk ⊕ (Int × Nat)) : List Tk ⊕ (Int × Nat) → List Tk ⊕ (Int × Nat)
  | .inl l => downs d l.dropLast y
  | .inr f => .inr f
theorem skip_nilD : skip [] = [] := skip_nil rfl
theorem nil_k {x r : List UInt8} (h0 : (nextT x r).2.1 = 0) (h : (nextT x r).1.k = 1) : r = [] := by
  rcases r with _ | ⟨c, b⟩
  · rfl
  · exfalso
    unfold nextT at h h0
    dsimp only at h h0
    split at h
    · revert h; simp
    · split at h
      · revert h; simp
      · split at h
        · revert h; simp
        · revert h; simp
theorem toks_both {x y : List UInt8} : ∀ (n : Nat) (r : List UInt8) (acc : List Tk), r.length = n → r <:+ x → toks (x ++ 10 :: y) (r ++ 10 :: y) acc = bothT (x.count 10 + 1) (toks y y []) (toks x r acc) := by
  intro n
  induction n using Nat.strongRecOn with
  | _ n ih =>
    intro r acc hn hr
    have hz : skip r <:+ x := (skip_suf _ r rfl).trans hr
    have hsk := skip_app y _ r rfl
    have g2 := skip_len r
    cases h : skip r with
    | nil =>
      rw [h, if_pos rfl] at hsk
      have e1 : toks x r acc = .inl (acc ++ [(nextT x []).1]) := by
        have := toks_end (x := x) (r := r) (acc := acc) (by rw [h]; rfl) (by rw [h]; rfl)
        rw [this, h]
      rw [e1]
      have e2 := toks_down (x := x) (y := y) _ y acc [] rfl (List.suffix_refl y)
      have e3 : toks (x ++ 10 :: y) (r ++ 10 :: y) acc = toks (x ++ 10 :: y) y acc := by
        conv => lhs; unfold toks
        conv => rhs; unfold toks
        rw [hsk]
      rw [e3]
      simp only [List.map_nil, List.append_nil] at e2
      rw [e2]
      simp only [bothT, List.dropLast_concat]
    | cons c b =>
      rw [h, if_neg (by simp), List.cons_append] at hsk
      rw [h] at hz g2
      have hnx := next_app (y := y) hz
      rw [← hsk] at hnx
      rw [← h] at hnx
      by_cases h0 : (nextT x (skip r)).2.1 = 0
      · have h0' : (nextT (x ++ 10 :: y) (skip (r ++ 10 :: y))).2.1 = 0 := by rw [hnx]; exact h0
        have h1 : (nextT x (skip r)).1.k ≠ 1 := by
          intro h1
          have := nil_k h0 h1
          rw [h] at this
          cases this
        have g1 := next_lt x (skip r) h1 h0
        rw [toks_next h0 h1, toks_next h0' (by rw [hnx]; exact h1), hnx]
        dsimp only
        rw [h] at g1 ⊢
        exact ih _ (by omega) _ _ rfl ((next_suf x (c :: b)).trans hz)
      · rw [toks_err h0, toks_err (by rw [hnx]; exact h0), hnx]
        rfl
theorem tokens_both {x y : List UInt8} (hx : x.length ≤ 2000) (hy : y.length ≤ 2000) : tokensT (x ++ 10 :: y) = bothT (x.count 10 + 1) (tokensT y) (tokensT x) := by
  have e1 : tokensT (x ++ 10 :: y) = toks (x ++ 10 :: y) (x ++ 10 :: y) [] := by
    unfold tokensT; rw [if_neg (by rw [List.length_append, List.length_cons]; omega)]
  have e2 : tokensT x = toks x x [] := by unfold tokensT; rw [if_neg (by omega)]
  have e3 : tokensT y = toks y y [] := by unfold tokensT; rw [if_neg (by omega)]
  rw [e1, e2, e3]
  exact toks_both _ x [] rfl (List.suffix_refl x)
end Go.Proofs.YtkbhchlecokpiaaGreat
