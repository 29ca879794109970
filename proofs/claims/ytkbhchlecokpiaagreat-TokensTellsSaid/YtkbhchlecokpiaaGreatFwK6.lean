/- Tokens: plain facts of the plain function; its reckoning at fixed texts. -/
import Derived.Test.YtkbhchlecokpiaaGreatFwK4d
namespace Go.Proofs.YtkbhchlecokpiaaGreat
open Go Go.RowKit Fw Tw Rat
set_option linter.unusedVariables false
set_option linter.unusedSimpArgs false
theorem parse_small (s : List UInt8) : (parseZ s).1.natAbs < W ^ 40 := by
  unfold parseZ
  generalize bodyT s = t
  generalize negT s = neg
  unfold parseT
  have h0 : (0 : Int).natAbs < W ^ 40 := Nat.pow_pos W_pos
  split
  · exact h0
  · split
    · exact h0
    · rename_i ha
      split
      · exact h0
      · rename_i hl
        show (sg neg (valT t)).natAbs < _
        rw [sg_abs]
        exact Nat.lt_of_lt_of_le (valT_lt (by simpa using ha)) (Nat.le_trans (Nat.pow_le_pow_right (by omega) (show t.length ≤ 600 by omega)) (by decide +kernel))
theorem parseQ_small (s : List UInt8) : Sq (parseQ s).1 1000 := by
  have h0 : Sq 0 1000 := Sq.mono (j := 1) ⟨by decide, by decide, by omega⟩ (by omega)
  unfold parseQ parseP
  have a1 := parse_small (cutT s).1
  have a2 := parse_small (belowT s)
  split
  · exact h0
  · split
    · exact h0
    · split
      · exact h0
      · exact Sq.mono (Sq.div a1 a2 (by omega)) (by omega)
theorem next_sq (x r : List UInt8) : Sq ((nextT x r).1.q.getD 0) 1000 := by
  have h0 : Sq 0 1000 := Sq.mono (j := 1) ⟨by decide, by decide, by omega⟩ (by omega)
  rcases r with _ | ⟨c, b⟩
  · exact h0
  · unfold nextT
    dsimp only
    split
    · exact h0
    · split
      · exact parseQ_small _
      · split
        · exact h0
        · exact h0
theorem next_l (x r : List UInt8) : (nextT x r).1.l ≤ 1 + x.count 10 := by
  have : (nextT x r).1.l = lineT x r := by
    rcases r with _ | ⟨c, b⟩
    · rfl
    · unfold nextT
      dsimp only
      split
      · rfl
      · split
        · rfl
        · split
          · rfl
          · rfl
  rw [this]
  unfold lineT
  omega
theorem toks_all {p : Tk → Prop} {x : List UInt8} (hp : ∀ r, p (nextT x r).1) : ∀ (n : Nat) (r : List UInt8) (acc l : List Tk), r.length ≤ n → (∀ t ∈ acc, p t) → toks x r acc = .inl l → ∀ t ∈ l, p t := by
  intro n
  induction n using Nat.strongRecOn with
  | _ n ih =>
    intro r acc l hn ha h
    have hacc : ∀ t ∈ acc ++ [(nextT x (skip r)).1], p t := by
      intro t ht
      rcases List.mem_append.1 ht with h1 | h1
      · exact ha t h1
      · rw [List.mem_singleton.1 h1]; exact hp _
    by_cases h0 : (nextT x (skip r)).2.1 = 0
    · by_cases h1 : (nextT x (skip r)).1.k = 1
      · rw [toks_end h0 h1] at h
        cases h
        exact hacc
      · rw [toks_next h0 h1] at h
        have g1 := next_lt x (skip r) h1 h0
        have g2 := skip_len r
        exact ih _ (by omega) _ _ _ (Nat.le_refl _) hacc h
    · rw [toks_err h0] at h
      cases h
theorem toks_count {x : List UInt8} : ∀ (n : Nat) (r : List UInt8) (acc l : List Tk), r.length ≤ n → toks x r acc = .inl l → acc.length < l.length ∧ l.length ≤ acc.length + r.length + 1 := by
  intro n
  induction n using Nat.strongRecOn with
  | _ n ih =>
    intro r acc l hn h
    by_cases h0 : (nextT x (skip r)).2.1 = 0
    · by_cases h1 : (nextT x (skip r)).1.k = 1
      · rw [toks_end h0 h1] at h
        cases h
        rw [List.length_append]; simp only [List.length_cons, List.length_nil]; omega
      · rw [toks_next h0 h1] at h
        have g1 := next_lt x (skip r) h1 h0
        have g2 := skip_len r
        have := ih _ (show (nextT x (skip r)).2.2.length < n by omega) _ _ _ (Nat.le_refl _) h
        rw [List.length_append] at this; simp only [List.length_cons, List.length_nil] at this; omega
    · rw [toks_err h0] at h
      cases h
theorem toks_fault {x : List UInt8} : ∀ (n : Nat) (r : List UInt8) (acc : List Tk) (f : Int × Nat), r.length ≤ n → toks x r acc = .inr f → f.1 ≠ 0 ∧ f.2 ≤ 1 + x.count 10 := by
  intro n
  induction n using Nat.strongRecOn with
  | _ n ih =>
    intro r acc f hn h
    by_cases h0 : (nextT x (skip r)).2.1 = 0
    · by_cases h1 : (nextT x (skip r)).1.k = 1
      · rw [toks_end h0 h1] at h
        cases h
      · rw [toks_next h0 h1] at h
        have g1 := next_lt x (skip r) h1 h0
        have g2 := skip_len r
        exact ih _ (by omega) _ _ _ (Nat.le_refl _) h
    · rw [toks_err h0] at h
      cases h
      exact ⟨h0, next_l _ _⟩
theorem tokens_sq {x : List UInt8} {l : List Tk} (h : tokensT x = .inl l) : (∀ t ∈ l, Sq (t.q.getD 0) 1000 ∧ t.l ≤ 1 + x.count 10) ∧ 0 < l.length ∧ l.length ≤ 262145 := by
  unfold tokensT at h
  split at h
  · cases h
  · have := toks_count _ x [] l (Nat.le_refl _) h
    refine ⟨toks_all (p := fun t => Sq (t.q.getD 0) 1000 ∧ t.l ≤ 1 + x.count 10) (fun r => ⟨next_sq x r, next_l x r⟩) _ x [] l (Nat.le_refl _) (by simp) h, by omega, ?_⟩
    simp only [List.length_nil] at this
    omega
theorem tokens_fault {x : List UInt8} {f : Int × Nat} (h : tokensT x = .inr f) : f.1 ≠ 0 ∧ f.2 ≤ 1 + x.count 10 := by
  unfold tokensT at h
  split at h
  · cases h
    exact ⟨by decide, by omega⟩
  · exact toks_fault _ x [] f (Nat.le_refl _) h
/-! by steps that are counted, for reckoning -/
def skipF : Nat → List UInt8 → List UInt8
  | 0, r => r
  | n + 1, r => match r.dropWhile isGap with
    | [] => []
    | c :: b => if c = 35 then skipF n (b.dropWhile notNl) else c :: b
theorem skip_fuel : ∀ (n : Nat) (r : List UInt8), r.length < n → skipF n r = skip r
  | 0, r, h => by omega
  | n + 1, r, h => by
    have h2 := drop_len (so := isGap) r
    unfold skipF
    split
    · rename_i h'
      rw [skip_nil h']
    · rename_i c b h'
      rw [h', List.length_cons] at h2
      split
      · rename_i hc
        subst hc
        rw [skip_hash h']
        have h1 := drop_len (so := notNl) b
        exact skip_fuel n _ (by omega)
      · rename_i hc
        rw [skip_stop h' hc]
def toksF : Nat → List UInt8 → List UInt8 → List Tk → List Tk ⊕ (Int × Nat)
  | 0, _, _, acc => .inl acc
  | n + 1, x, r, acc =>
    let y := nextT x (skipF (r.length + 1) r)
    if y.2.1 = 0 then if y.1.k = 1 then .inl (acc ++ [y.1]) else toksF n x y.2.2 (acc ++ [y.1]) else .inr (y.2.1, y.1.l)
theorem toks_fuel : ∀ (n : Nat) (x r : List UInt8) (acc : List Tk), r.length < n → toksF n x r acc = toks x r acc
  | 0, x, r, acc, h => by omega
  | n + 1, x, r, acc, h => by
    unfold toksF
    rw [skip_fuel _ r (Nat.lt_succ_self _)]
    dsimp only
    split
    · rename_i h0
      split
      · rename_i h1
        rw [toks_end h0 h1]
      · rename_i h1
        rw [toks_next h0 h1]
        have g1 := next_lt x (skip r) h1 h0
        have g2 := skip_len r
        exact toks_fuel n x _ _ (by omega)
    · rename_i h0
      rw [toks_err h0]
def tkB (a b : Tk) : Bool := a.k == b.k && a.s == b.s && a.l == b.l && decide (a.q = b.q)
theorem tkB_eq {a b : Tk} (h : tkB a b = true) : a = b := by
  obtain ⟨k, s, q, l⟩ := a
  obtain ⟨k', s', q', l'⟩ := b
  simp only [tkB, Bool.and_eq_true, beq_iff_eq, decide_eq_true_eq] at h
  obtain ⟨⟨⟨rfl, rfl⟩, rfl⟩, rfl⟩ := h
  rfl
def lB : List Tk → List Tk → Bool
  | [], [] => true
  | a :: l, b :: m => tkB a b && lB l m
  | _, _ => false
theorem lB_eq : ∀ {l m : List Tk}, lB l m = true → l = m
  | [], [], _ => rfl
  | a :: l, b :: m, h => by
    simp only [lB, Bool.and_eq_true] at h
    rw [tkB_eq h.1, lB_eq h.2]
  | [], b :: m, h => by simp [lB] at h
  | a :: l, [], h => by simp [lB] at h
def okB (x : List UInt8) (l : List Tk) : Bool := Nat.ble x.length 262144 && match toksF (x.length + 1) x x [] with
  | .inl m => lB m l
  | .inr _ => false
theorem okB_eq {x : List UInt8} {l : List Tk} (h : okB x l = true) : tokensT x = .inl l := by
  unfold okB at h
  rw [Bool.and_eq_true, toks_fuel _ x x [] (Nat.lt_succ_self _)] at h
  have h1 := Nat.le_of_ble_eq_true h.1
  unfold tokensT
  rw [if_neg (by omega)]
  have h2 := h.2
  split at h2
  · rename_i m hm
    rw [hm, lB_eq h2]
  · cases h2
def noB (x : List UInt8) (e : Int) (n : Nat) : Bool := Nat.ble x.length 262144 && match toksF (x.length + 1) x x [] with
  | .inl m => false
  | .inr f => f.1 == e && f.2 == n
theorem noB_eq {x : List UInt8} {e : Int} {n : Nat} (h : noB x e n = true) : tokensT x = .inr (e, n) := by
  unfold noB at h
  rw [Bool.and_eq_true, toks_fuel _ x x [] (Nat.lt_succ_self _)] at h
  have h1 := Nat.le_of_ble_eq_true h.1
  unfold tokensT
  rw [if_neg (by omega)]
  have h2 := h.2
  split at h2
  · cases h2
  · rename_i f hm
    rw [Bool.and_eq_true, beq_iff_eq, beq_iff_eq] at h2
    rw [hm, ← h2.1, ← h2.2]
end Go.Proofs.YtkbhchlecokpiaaGreat
