/- A program logic over data: a region that draws its order comes to what the order of the text comes to, where unordered operations keep out of each other's way. -/
import Derived.Test.YtbofdldkiooegaaFwJ
namespace Fw
open Go Go.RowKit
set_option linter.unusedVariables false
set_option linter.unusedSimpArgs false
set_option linter.unusedSectionVars false

abbrev Z := List (Oper × Eff)

/-- what the operations of a set come to, in the order of the text -/
def appT (S : Nat → Bool) : Nat → Z → (Nat → Option D) → Nat → Option D
  | _, [], T => T
  | k, (o, e) :: z, T => appT S (k + 1) z (bif S k then putT T o.dst e.r else T)
def appH (S : Nat → Bool) : Nat → Z → (Nat → Option O) → Nat → Option O
  | _, [], H => H
  | k, (o, e) :: z, H => appH S (k + 1) z (bif S k then chH H e.ch else H)

def keys (e : Eff) : List Nat := e.ch.map (·.1)

theorem chH_agree {H H' : Nat → Option O} {x : Nat} (h : H x = H' x) : ∀ (ch : List (Nat × Option O)), chH H ch x = chH H' ch x
  | [] => h
  | (j, o) :: l => by
    simp only [chH]
    rw [chH_agree h l]
theorem chH_in {H H' : Nat → Option O} {x : Nat} : ∀ {ch : List (Nat × Option O)}, x ∈ ch.map (·.1) → chH H ch x = chH H' ch x
  | [], h => by simp at h
  | (j, o) :: l, h => by
    simp only [chH]
    by_cases he : j = x
    · rw [if_pos he, if_pos he]
    · rw [if_neg he, if_neg he]
      exact chH_in (by simp at h; rcases h with h | h; exact absurd h.symm he; simpa using h)
theorem chH_out {H : Nat → Option O} {x : Nat} : ∀ {ch : List (Nat × Option O)}, x ∉ ch.map (·.1) → chH H ch x = H x
  | [], h => rfl
  | (j, o) :: l, h => by
    simp only [List.map_cons, List.mem_cons, not_or] at h
    simp only [chH]
    rw [if_neg (fun he => h.1 he.symm)]
    exact chH_out h.2

theorem appT_agree {x : Nat} : ∀ {z : Z} {k k' : Nat} {S S' : Nat → Bool} {T T' : Nat → Option D}, T x = T' x → (∀ i o e, z[i]? = some (o, e) → o.dst = some x → S (k + i) = S' (k' + i)) → appT S k z T x = appT S' k' z T' x
  | [], k, k', S, S', T, T', h, hs => h
  | (o, e) :: z, k, k', S, S', T, T', h, hs => by
    simp only [appT]
    refine appT_agree ?_ (fun i o' e' hi ho => by have := hs (i + 1) o' e' (by simpa using hi) ho; rwa [show k + (i + 1) = k + 1 + i by omega, show k' + (i + 1) = k' + 1 + i by omega] at this)
    by_cases ho : o.dst = some x
    · have := hs 0 o e rfl ho
      rw [Nat.add_zero, Nat.add_zero] at this
      rw [this]
      cases S' k' with
      | true => simp [putT, ho]
      | false => simpa using h
    · cases S k <;> cases S' k' <;> simp [putT, ho, h]
theorem appH_agree {x : Nat} : ∀ {z : Z} {k k' : Nat} {S S' : Nat → Bool} {H H' : Nat → Option O}, H x = H' x → (∀ i o e, z[i]? = some (o, e) → x ∈ keys e → S (k + i) = S' (k' + i)) → appH S k z H x = appH S' k' z H' x
  | [], k, k', S, S', T, T', h, hs => h
  | (o, e) :: z, k, k', S, S', T, T', h, hs => by
    simp only [appH]
    refine appH_agree ?_ (fun i o' e' hi ho => by have := hs (i + 1) o' e' (by simpa using hi) ho; rwa [show k + (i + 1) = k + 1 + i by omega, show k' + (i + 1) = k' + 1 + i by omega] at this)
    by_cases ho : x ∈ keys e
    · have := hs 0 o e rfl ho
      rw [Nat.add_zero, Nat.add_zero] at this
      rw [this]
      cases S' k' with
      | true => simp only [cond_true]; exact chH_in ho
      | false => simpa using h
    · have h1 : ∀ H : Nat → Option O, chH H e.ch x = H x := fun H => chH_out ho
      cases S k <;> cases S' k' <;> simp [h1, h]

/-- nobody in the set writes it -/
theorem appT_none {x : Nat} : ∀ {z : Z} {k : Nat} {S : Nat → Bool} {T : Nat → Option D}, (∀ i o e, z[i]? = some (o, e) → S (k + i) = true → o.dst ≠ some x) → appT S k z T x = T x
  | [], k, S, T, h => rfl
  | (o, e) :: z, k, S, T, h => by
    simp only [appT]
    rw [appT_none (fun i o' e' hi hS => h (i + 1) o' e' (by simpa using hi) (by rwa [show k + (i + 1) = k + 1 + i by omega]))]
    cases hk : S k with
    | false => rfl
    | true =>
      have := h 0 o e rfl (by simpa using hk)
      simp [putT, this]
theorem appH_none {x : Nat} : ∀ {z : Z} {k : Nat} {S : Nat → Bool} {T : Nat → Option O}, (∀ i o e, z[i]? = some (o, e) → S (k + i) = true → x ∉ keys e) → appH S k z T x = T x
  | [], k, S, T, h => rfl
  | (o, e) :: z, k, S, T, h => by
    simp only [appH]
    rw [appH_none (fun i o' e' hi hS => h (i + 1) o' e' (by simpa using hi) (by rwa [show k + (i + 1) = k + 1 + i by omega]))]
    cases hk : S k with
    | false => rfl
    | true => exact chH_out (h 0 o e rfl (by simpa using hk))

/-- the last one that writes it -/
theorem appT_last {x : Nat} : ∀ {z : Z} {k i : Nat} {S : Nat → Bool} {T : Nat → Option D} {o : Oper} {e : Eff}, z[i]? = some (o, e) → S (k + i) = true → o.dst = some x → (∀ j o' e', i < j → z[j]? = some (o', e') → S (k + j) = true → o'.dst ≠ some x) → appT S k z T x = e.r
  | [], k, i, S, T, o, e, hi, _, _, _ => by simp at hi
  | (o0, e0) :: z, k, 0, S, T, o, e, hi, hS, ho, hl => by
    simp at hi
    obtain ⟨rfl, rfl⟩ := hi
    rw [Nat.add_zero] at hS
    simp only [appT, hS, cond_true]
    rw [appT_none (fun j o' e' hj hSj => hl (j + 1) o' e' (by omega) (by simpa using hj) (by rwa [show k + (j + 1) = k + 1 + j by omega]))]
    simp [putT, ho]
  | (o0, e0) :: z, k, i + 1, S, T, o, e, hi, hS, ho, hl => by
    simp only [appT]
    exact appT_last (i := i) (by simpa using hi) (by rwa [show k + 1 + i = k + (i + 1) by omega]) ho (fun j o' e' hij hj hSj => hl (j + 1) o' e' (by omega) (by simpa using hj) (by rwa [show k + (j + 1) = k + 1 + j by omega]))
theorem appH_last {x : Nat} : ∀ {z : Z} {k i : Nat} {S : Nat → Bool} {T : Nat → Option O} {o : Oper} {e : Eff} (H' : Nat → Option O), z[i]? = some (o, e) → S (k + i) = true → x ∈ keys e → (∀ j o' e', i < j → z[j]? = some (o', e') → S (k + j) = true → x ∉ keys e') → appH S k z T x = chH H' e.ch x
  | [], k, i, S, T, o, e, H', hi, _, _, _ => by simp at hi
  | (o0, e0) :: z, k, 0, S, T, o, e, H', hi, hS, ho, hl => by
    simp at hi
    obtain ⟨rfl, rfl⟩ := hi
    rw [Nat.add_zero] at hS
    simp only [appH, hS, cond_true]
    rw [appH_none (fun j o' e' hj hSj => hl (j + 1) o' e' (by omega) (by simpa using hj) (by rwa [show k + (j + 1) = k + 1 + j by omega]))]
    exact chH_in ho
  | (o0, e0) :: z, k, i + 1, S, T, o, e, H', hi, hS, ho, hl => by
    simp only [appH]
    exact appH_last (i := i) H' (by simpa using hi) (by rwa [show k + 1 + i = k + (i + 1) by omega]) ho (fun j o' e' hij hj hSj => hl (j + 1) o' e' (by omega) (by simpa using hj) (by rwa [show k + (j + 1) = k + 1 + j by omega]))

theorem appT_src {x : Nat} {d : D} : ∀ {z : Z} {k : Nat} {S : Nat → Bool} {T : Nat → Option D}, appT S k z T x = some d → T x = some d ∨ ∃ i o e, z[i]? = some (o, e) ∧ S (k + i) = true ∧ e.r = some d
  | [], k, S, T, h => .inl h
  | (o, e) :: z, k, S, T, h => by
    simp only [appT] at h
    rcases appT_src h with h1 | ⟨i, o', e', h1, h2, h3⟩
    · cases hk : S k with
      | false => rw [hk] at h1; exact .inl h1
      | true =>
        rw [hk] at h1
        simp only [cond_true, putT] at h1
        by_cases ho : o.dst = some x
        · rw [if_pos ho] at h1
          exact .inr ⟨0, o, e, rfl, by simpa using hk, h1⟩
        · rw [if_neg ho] at h1; exact .inl h1
    · exact .inr ⟨i + 1, o', e', by simpa using h1, by rwa [show k + (i + 1) = k + 1 + i by omega], h3⟩
theorem appT_src' {x : Nat} {d : D} : ∀ {z : Z} {k : Nat} {S : Nat → Bool} {T : Nat → Option D}, appT S k z T x = some d → T x = some d ∨ ∃ (i : Nat) (o : Oper) (e : Eff), z[i]? = some (o, e) ∧ S (k + i) = true ∧ o.dst = some x ∧ e.r = some d
  | [], k, S, T, h => .inl h
  | (o, e) :: z, k, S, T, h => by
    simp only [appT] at h
    rcases appT_src' h with h1 | ⟨i, o', e', h1, h2, h3⟩
    · cases hk : S k with
      | false => rw [hk] at h1; exact .inl h1
      | true =>
        rw [hk] at h1
        simp only [cond_true, putT] at h1
        by_cases ho : o.dst = some x
        · rw [if_pos ho] at h1
          exact .inr ⟨0, o, e, rfl, by simpa using hk, ho, h1⟩
        · rw [if_neg ho] at h1; exact .inl h1
    · exact .inr ⟨i + 1, o', e', by simpa using h1, by rwa [show k + (i + 1) = k + 1 + i by omega], h3⟩
theorem chH_src {H : Nat → Option O} {x : Nat} {o : O} : ∀ {ch : List (Nat × Option O)}, chH H ch x = some o → H x = some o ∨ (x, some o) ∈ ch
  | [], h => .inl h
  | (j, p) :: l, h => by
    simp only [chH] at h
    by_cases he : j = x
    · rw [if_pos he] at h
      subst he; subst h
      exact .inr (by simp)
    · rw [if_neg he] at h
      rcases chH_src h with h | h
      · exact .inl h
      · exact .inr (List.mem_cons_of_mem _ h)
theorem appH_src {x : Nat} {d : O} : ∀ {z : Z} {k : Nat} {S : Nat → Bool} {T : Nat → Option O}, appH S k z T x = some d → T x = some d ∨ ∃ i o e, z[i]? = some (o, e) ∧ S (k + i) = true ∧ (x, some d) ∈ e.ch
  | [], k, S, T, h => .inl h
  | (o, e) :: z, k, S, T, h => by
    simp only [appH] at h
    rcases appH_src h with h1 | ⟨i, o', e', h1, h2, h3⟩
    · cases hk : S k with
      | false => rw [hk] at h1; exact .inl h1
      | true =>
        rw [hk] at h1
        rcases chH_src h1 with h1 | h1
        · exact .inl h1
        · exact .inr ⟨0, o, e, rfl, by simpa using hk, h1⟩
    · exact .inr ⟨i + 1, o', e', by simpa using h1, by rwa [show k + (i + 1) = k + 1 + i by omega], h3⟩

/-! ### the check -/

def disj : List Nat → List Nat → Bool
  | [], _ => true
  | x :: l, m => notIn x m && disj l m
theorem disj_spec : ∀ {l m : List Nat}, disj l m = true → ∀ x ∈ l, x ∉ m
  | [], m, h, x, hx => by simp at hx
  | y :: l, m, h, x, hx => by
    simp only [disj, Bool.and_eq_true] at h
    rcases List.mem_cons.1 hx with rfl | hx
    · exact notIn_spec h.1
    · exact disj_spec h.2 x hx

def chRefs : List (Nat × Option O) → List Nat
  | [] => []
  | (j, none) :: l => j :: chRefs l
  | (j, some o) :: l => j :: (o.refs ++ chRefs l)
def effRefs (e : Eff) : List Nat := (match e.r with | some d => d.refs | none => []) ++ chRefs e.ch
theorem chRefs_mem : ∀ {l : List (Nat × Option O)} {j : Nat} {o : O}, (j, some o) ∈ l → j ∈ chRefs l ∧ ∀ r ∈ o.refs, r ∈ chRefs l
  | [], j, o, h => by simp at h
  | (i, none) :: l, j, o, h => by
    simp at h
    have := chRefs_mem h
    simp only [chRefs]
    exact ⟨List.mem_cons_of_mem _ this.1, fun r hr => List.mem_cons_of_mem _ (this.2 r hr)⟩
  | (i, some p) :: l, j, o, h => by
    simp only [List.mem_cons, Prod.mk.injEq, Option.some.injEq] at h
    simp only [chRefs]
    rcases h with ⟨rfl, rfl⟩ | h
    · exact ⟨by simp, fun r hr => by simp [hr]⟩
    · have := chRefs_mem h
      exact ⟨by simp [this.1], fun r hr => by simp [this.2 r hr]⟩

def dynApart (x y : Eff) : Bool := disj (keys x) (y.tch ++ keys y) && disj (keys y) x.tch && disj x.nw (effRefs y) && disj y.nw (effRefs x)

def laterOk (ops : Array Oper) (o : Oper) (e : Eff) (i : Nat) : List (Oper × Eff) → List Nat → Bool
  | (o', e') :: l, m :: ms => (Nat.testBit m i || (o.apart ops o' && dynApart e e')) && laterOk ops o e i l ms
  | [], _ => true
  | _, [] => false
def pairsOk (ops : Array Oper) : Nat → List (Oper × Eff) → List Nat → Bool
  | i, (o, e) :: l, _ :: ms => laterOk ops o e i l ms && pairsOk ops (i + 1) l ms
  | _, [], _ => true
  | _, _, [] => false

def maskOf (masks : List Nat) (o : Oper) : Nat := o.after.toList.foldl (fun s e => bif Region.binds .any e then s ||| 2 ^ e.on ||| masks.getD e.on 0 else s) 0
def masksGo : List Nat → List Oper → List Nat
  | acc, [] => acc
  | acc, o :: l => masksGo (acc ++ [maskOf acc o]) l
def masksOk (masks : List Nat) : List Oper → List Nat → Bool
  | o :: l, m :: ms => Nat.beq m (maskOf masks o) && masksOk masks l ms
  | [], [] => true
  | _, _ => false
def backOk : Nat → List Oper → Bool
  | _, [] => true
  | k, o :: l => o.after.toList.all (fun e => !(Region.binds .any e) || Nat.blt e.on k) && backOk (k + 1) l
def statOk (ops : Array Oper) (masks : List Nat) : Bool := masksOk masks ops.toList masks && backOk 0 ops.toList && Region.noSelect ops

theorem laterOk_spec {ops : Array Oper} {o : Oper} {e : Eff} {i : Nat} : ∀ {l : Z} {ms : List Nat}, laterOk ops o e i l ms = true → ∀ (j : Nat) (o' : Oper) (e' : Eff), l[j]? = some (o', e') → ∃ m, ms[j]? = some m ∧ (Nat.testBit m i = true ∨ (o.apart ops o' = true ∧ dynApart e e' = true))
  | [], ms, h, j, o', e', hj => by simp at hj
  | p :: l, [], h, j, o', e', hj => by simp [laterOk] at h
  | (o1, e1) :: l, m :: ms, h, 0, o', e', hj => by
    simp at hj
    obtain ⟨rfl, rfl⟩ := hj
    simp only [laterOk, Bool.and_eq_true, Bool.or_eq_true] at h
    exact ⟨m, rfl, h.1⟩
  | (o1, e1) :: l, m :: ms, h, j + 1, o', e', hj => by
    simp only [laterOk, Bool.and_eq_true] at h
    simpa using laterOk_spec h.2 j o' e' (by simpa using hj)
theorem pairsOk_spec {ops : Array Oper} : ∀ {z : Z} {k : Nat} {ms : List Nat}, pairsOk ops k z ms = true → ∀ i j o e o' e', i < j → z[i]? = some (o, e) → z[j]? = some (o', e') → ∃ m, ms[j]? = some m ∧ (Nat.testBit m (k + i) = true ∨ (o.apart ops o' = true ∧ dynApart e e' = true))
  | [], k, ms, h, i, j, o, e, o', e', hij, hi, hj => by simp at hi
  | p :: z, k, [], h, i, j, o, e, o', e', hij, hi, hj => by simp [pairsOk] at h
  | (o1, e1) :: z, k, m :: ms, h, 0, j, o, e, o', e', hij, hi, hj => by
    simp at hi
    obtain ⟨rfl, rfl⟩ := hi
    simp only [pairsOk, Bool.and_eq_true] at h
    obtain ⟨j', rfl⟩ : ∃ j', j = j' + 1 := ⟨j - 1, by omega⟩
    simpa using laterOk_spec h.1 j' o' e' (by simpa using hj)
  | (o1, e1) :: z, k, m :: ms, h, i + 1, j, o, e, o', e', hij, hi, hj => by
    simp only [pairsOk, Bool.and_eq_true] at h
    obtain ⟨j', rfl⟩ : ∃ j', j = j' + 1 := ⟨j - 1, by omega⟩
    have := pairsOk_spec h.2 i j' o e o' e' (by omega) (by simpa using hi) (by simpa using hj)
    rw [show k + 1 + i = k + (i + 1) by omega] at this
    simpa using this

theorem foldl_mask (masks : List Nat) : ∀ (l : List Edge) (s i : Nat), Nat.testBit (l.foldl (fun s e => bif Region.binds .any e then s ||| 2 ^ e.on ||| masks.getD e.on 0 else s) s) i = true →
    Nat.testBit s i = true ∨ ∃ e ∈ l, Region.binds .any e = true ∧ (e.on = i ∨ Nat.testBit (masks.getD e.on 0) i = true)
  | [], s, i, h => .inl h
  | e :: l, s, i, h => by
    simp only [List.foldl_cons] at h
    rcases foldl_mask masks l _ i h with h1 | ⟨e', h1, h2⟩
    · cases hb : Region.binds .any e with
      | false => rw [hb] at h1; exact .inl h1
      | true =>
        rw [hb] at h1
        simp only [cond_true, Nat.testBit_or, Bool.or_eq_true] at h1
        rcases h1 with (h1 | h1) | h1
        · exact .inl h1
        · refine .inr ⟨e, by simp, hb, .inl ?_⟩
          rw [Nat.testBit_two_pow] at h1
          simpa using h1
        · exact .inr ⟨e, by simp, hb, .inr h1⟩
    · exact .inr ⟨e', List.mem_cons_of_mem _ h1, h2⟩
theorem masksOk_spec {masks : List Nat} : ∀ {l : List Oper} {ms : List Nat}, masksOk masks l ms = true → ms.length = l.length ∧ ∀ (j : Nat) (o : Oper), l[j]? = some o → ms[j]? = some (maskOf masks o)
  | [], [], h => by simp
  | [], m :: ms, h => by simp [masksOk] at h
  | o :: l, [], h => by simp [masksOk] at h
  | o :: l, m :: ms, h => by
    simp only [masksOk, Bool.and_eq_true] at h
    obtain ⟨h1, h2⟩ := masksOk_spec h.2
    refine ⟨by simp [h1], fun j o' hj => ?_⟩
    cases j with
    | zero => simp at hj; subst hj; simp [Nat.eq_of_beq_eq_true h.1]
    | succ j => simpa using h2 j o' (by simpa using hj)
theorem backOk_spec : ∀ {l : List Oper} {k : Nat}, backOk k l = true → ∀ j o e, l[j]? = some o → e ∈ o.after.toList → Region.binds .any e = true → e.on < k + j
  | [], k, h, j, o, e, hj, he, hb => by simp at hj
  | o0 :: l, k, h, 0, o, e, hj, he, hb => by
    simp at hj; subst hj
    simp only [backOk, Bool.and_eq_true, List.all_eq_true] at h
    have := h.1 e he
    simp only [hb, Bool.not_true, Bool.false_or] at this
    have := Nat.le_of_ble_eq_true this
    omega
  | o0 :: l, k, h, j + 1, o, e, hj, he, hb => by
    simp only [backOk, Bool.and_eq_true] at h
    have := backOk_spec h.2 j o e (by simpa using hj) he hb
    omega

section
variable {P : Program} {L : Nat → Option TI} {N : Nat} {w0 : World} {ok0 S0 : Nat → Prop} {ops : Array Oper} {Q : Exit → Act → World → Prop}

theorem Run.lengths {l : List Oper} {t t' : TL} {h h' : HL} {es : List Eff} (hr : Run P L N ops l t h es t' h') : es.length = l.length := by
  induction hr with
  | nil => rfl
  | step _ _ _ _ _ ih => simp [ih]
  | skip _ _ _ ih => simp [ih]
  | know _ _ ih => exact ih

/-- the lists behind the first k operations -/
theorem Run.at {l : List Oper} {t t' : TL} {h h' : HL} {es : List Eff} (hr : Run P L N ops l t h es t' h') : ∀ (i : Nat) (o : Oper), l[i]? = some o → ∃ e ti hi, es[i]? = some e ∧ dstOk N o.dst = true ∧
    lookT ti = appT (fun j => decide (j < i)) 0 (l.zip es) (lookT t) ∧ lookH hi = appH (fun j => decide (j < i)) 0 (l.zip es) (lookH h) ∧
    (∀ p, p ∈ t → p ∈ ti) ∧ (∀ p, p ∈ h → p ∈ hi) ∧ (∀ j o' e', j < i → (l.zip es)[j]? = some (o', e') → (∀ d dd, o'.dst = some d → e'.r = some dd → (d, some dd) ∈ ti) ∧ (∀ p, p ∈ e'.ch → p ∈ hi)) ∧
    ((Want (lookT ti) ops o.guard true ∧ Step P L (ev (lookT ti)) (lookH hi) o.op o.dst o.type e ∧ freshAll ti hi e.nw = true) ∨ (Want (lookT ti) ops o.guard false ∧ e = skipE)) := by
  induction hr with
  | nil => intro i o hi; simp at hi
  | @step o rest t h e es t' h' hw hs hd hf hr ih =>
    intro i o' hi
    cases i with
    | zero =>
      simp at hi; subst hi
      refine ⟨e, t, h, rfl, hd, ?_, ?_, fun _ hp => hp, fun _ hp => hp, fun j o' e' hj => by omega, .inl ⟨hw, hs, hf⟩⟩
      · funext x; exact (appT_none (fun i o e _ hS => by simp at hS)).symm
      · funext x; exact (appH_none (fun i o e _ hS => by simp at hS)).symm
    | succ i =>
      obtain ⟨e', ti, hi', g1, g2, g3, g4, g5, g6, g7, g8⟩ := ih i o' (by simpa using hi)
      refine ⟨e', ti, hi', by simpa using g1, g2, ?_, ?_, ?_, ?_, ?_, g8⟩
      · rw [g3, lookT_put]
        simp only [List.zip_cons_cons, appT]
        funext x
        refine appT_agree ?_ (fun q o1 e1 _ _ => decide_eq_decide.2 (by omega))
        simp
      · rw [g4, lookH_ch]
        simp only [List.zip_cons_cons, appH]
        funext x
        refine appH_agree ?_ (fun q o1 e1 _ _ => decide_eq_decide.2 (by omega))
        simp
      · intro p hp
        refine g5 p ?_
        unfold putL
        split
        · exact List.mem_cons_of_mem _ hp
        · exact hp
      · intro p hp; exact g6 p (List.mem_append_right _ hp)
      · intro j o1 e1 hj hz
        cases j with
        | zero =>
          simp only [List.zip_cons_cons] at hz
          simp at hz
          obtain ⟨rfl, rfl⟩ := hz
          refine ⟨fun d dd h1 h2 => g5 _ ?_, fun p hp => g6 p (List.mem_append_left _ hp)⟩
          unfold putL
          rw [h1, h2]; simp
        | succ j =>
          simp only [List.zip_cons_cons] at hz
          exact g7 j o1 e1 (by omega) (by simpa using hz)
  | @skip o rest t h es t' h' hw hd hr ih =>
    intro i o' hi
    cases i with
    | zero =>
      simp at hi; subst hi
      refine ⟨skipE, t, h, rfl, hd, ?_, ?_, fun _ hp => hp, fun _ hp => hp, fun j o' e' hj => by omega, .inr ⟨hw, rfl⟩⟩
      · funext x; exact (appT_none (fun i o e _ hS => by simp at hS)).symm
      · funext x; exact (appH_none (fun i o e _ hS => by simp at hS)).symm
    | succ i =>
      obtain ⟨e', ti, hi', g1, g2, g3, g4, g5, g6, g7, g8⟩ := ih i o' (by simpa using hi)
      refine ⟨e', ti, hi', by simpa using g1, g2, ?_, ?_, ?_, ?_, ?_, g8⟩
      · rw [g3, lookT_put]
        simp only [List.zip_cons_cons, appT]
        funext x
        refine appT_agree ?_ (fun q o1 e1 _ _ => decide_eq_decide.2 (by omega))
        simp [skipE]
      · rw [g4]
        simp only [List.zip_cons_cons, appH]
        funext x
        refine appH_agree ?_ (fun q o1 e1 _ _ => decide_eq_decide.2 (by omega))
        simp [skipE, chH]
      · intro p hp
        refine g5 p ?_
        unfold putL
        split
        · exact List.mem_cons_of_mem _ hp
        · exact hp
      · intro p hp; exact g6 p hp
      · intro j o1 e1 hj hz
        cases j with
        | zero =>
          simp only [List.zip_cons_cons] at hz
          simp at hz
          obtain ⟨rfl, rfl⟩ := hz
          refine ⟨fun d dd h1 h2 => g5 _ ?_, fun p hp => by simp [skipE] at hp⟩
          unfold putL
          simp only [skipE] at h2
          rw [h1, ← h2]; simp
        | succ j =>
          simp only [List.zip_cons_cons] at hz
          exact g7 j o1 e1 (by omega) (by simpa using hz)
  | know hk hr ih =>
    intro i o' hi
    obtain ⟨e', ti, hi', g1, g2, g3, g4, g5, g6, g7, g8⟩ := ih i o' hi
    refine ⟨e', ti, hi', g1, g2, by rw [g3, lookT_know hk], g4, fun p hp => g5 p (List.mem_cons_of_mem _ hp), g6, g7, g8⟩

theorem Run.final {l : List Oper} {t t' : TL} {h h' : HL} {es : List Eff} (hr : Run P L N ops l t h es t' h') : ∀ (S : Nat → Bool) (k : Nat), (∀ i, i < l.length → S (k + i) = true) → lookT t' = appT S k (l.zip es) (lookT t) ∧ lookH h' = appH S k (l.zip es) (lookH h) := by
  induction hr with
  | nil => intro S k _; exact ⟨rfl, rfl⟩
  | @step o rest t h e es t' h' hw hs hd hf hr ih =>
    intro S k hS
    obtain ⟨g1, g2⟩ := ih S (k + 1) (fun i hi => by have := hS (i + 1) (by simp; omega); rwa [show k + (i + 1) = k + 1 + i by omega] at this)
    have h0 := hS 0 (by simp)
    rw [Nat.add_zero] at h0
    simp only [List.zip_cons_cons, appT, appH, h0, cond_true]
    rw [g1, g2, lookT_put, lookH_ch]
    exact ⟨rfl, rfl⟩
  | @skip o rest t h es t' h' hw hd hr ih =>
    intro S k hS
    obtain ⟨g1, g2⟩ := ih S (k + 1) (fun i hi => by have := hS (i + 1) (by simp; omega); rwa [show k + (i + 1) = k + 1 + i by omega] at this)
    have h0 := hS 0 (by simp)
    rw [Nat.add_zero] at h0
    simp only [List.zip_cons_cons, appT, appH, h0, cond_true]
    rw [g1, g2, lookT_put]
    exact ⟨rfl, rfl⟩
  | know hk hr ih =>
    intro S k hS
    obtain ⟨g1, g2⟩ := ih S k hS
    rw [g1, g2, lookT_know hk]
    exact ⟨rfl, rfl⟩

/-- the set of what has run, with all that must run before -/
structure Done (ops : Array Oper) (masks : List Nat) (S : Nat → Bool) : Prop where
  lt : ∀ j, S j = true → j < ops.size
  back : ∀ j m i, S j = true → masks[j]? = some m → Nat.testBit m i = true → S i = true

def addS (S : Nat → Bool) (i : Nat) : Nat → Bool := fun j => bif Nat.beq j i then true else S j
theorem addS_same (S : Nat → Bool) (i : Nat) : addS S i i = true := by simp [addS, Nat.beq_refl]
theorem addS_other {S : Nat → Bool} {i j : Nat} (h : j ≠ i) : addS S i j = S j := by simp [addS, beq_no h]

/-- the check at work: what a set comes to, the next operation added, is what it does behind the set -/
theorem draw_step {t t' : TL} {h h' : HL} {es : List Eff} {masks : List Nat} (hr : Run P L N ops ops.toList t h es t' h') (hp : pairsOk ops 0 (ops.toList.zip es) masks = true)
    {S : Nat → Bool} (hS : Done ops masks S) {i : Nat} {o : Oper} (hi : ops[i]? = some o) (hno : S i = false) (hpre : ∀ m j, masks[i]? = some m → Nat.testBit m j = true → S j = true) :
    ∃ e, es[i]? = some e ∧ dstOk N o.dst = true ∧
      ((Want (appT S 0 (ops.toList.zip es) (lookT t)) ops o.guard true ∧ Step P L (ev (appT S 0 (ops.toList.zip es) (lookT t))) (appH S 0 (ops.toList.zip es) (lookH h)) o.op o.dst o.type e ∧
        ∀ id ∈ e.nw, Fresh (appT S 0 (ops.toList.zip es) (lookT t)) (appH S 0 (ops.toList.zip es) (lookH h)) id) ∨ (Want (appT S 0 (ops.toList.zip es) (lookT t)) ops o.guard false ∧ e = skipE)) ∧
      putT (appT S 0 (ops.toList.zip es) (lookT t)) o.dst e.r = appT (addS S i) 0 (ops.toList.zip es) (lookT t) ∧ chH (appH S 0 (ops.toList.zip es) (lookH h)) e.ch = appH (addS S i) 0 (ops.toList.zip es) (lookH h) := by
  have hil : ops.toList[i]? = some o := by simpa using hi
  obtain ⟨e, ti, hi', g1, g2, g3, g4, g5, g6, g7, g8⟩ := hr.at i o hil
  have hz : (ops.toList.zip es)[i]? = some (o, e) := by rw [List.getElem?_zip_eq_some]; exact ⟨hil, g1⟩
  have hpairs := pairsOk_spec hp
  -- two operations of which one is in the set and the other is this one, on the wrong side of the text, are apart
  have early : ∀ j o' e', (ops.toList.zip es)[j]? = some (o', e') → j < i → S j = false → o'.apart ops o = true ∧ dynApart e' e = true := by
    intro j o' e' hj hlt hsj
    obtain ⟨m, hm, hor⟩ := hpairs j i o' e' o e hlt hj hz
    rw [Nat.zero_add] at hor
    rcases hor with hb | hb
    · have := hpre m j hm hb; rw [this] at hsj; cases hsj
    · exact hb
  have late : ∀ j o' e', (ops.toList.zip es)[j]? = some (o', e') → i < j → S j = true → o.apart ops o' = true ∧ dynApart e e' = true := by
    intro j o' e' hj hlt hsj
    obtain ⟨m, hm, hor⟩ := hpairs i j o e o' e' hlt hz hj
    rw [Nat.zero_add] at hor
    rcases hor with hb | hb
    · have := hS.back j m i hsj hm hb; rw [this] at hno; cases hno
    · exact hb
  -- a slot that this one looks at is as in the text
  have slot : ∀ x, x ∈ o.looksAt ops → appT S 0 (ops.toList.zip es) (lookT t) x = lookT ti x := by
    intro x hx
    rw [g3]
    refine appT_agree rfl (fun j o' e' hj hd => ?_)
    rw [Nat.zero_add]
    rcases Nat.lt_trichotomy j i with hlt | rfl | hlt
    · rw [decide_eq_true hlt]
      cases hsj : S j with
      | true => rfl
      | false =>
        have := (early j o' e' hj hlt hsj).1
        exact absurd hx ((Oper.apart_spec this).1 x hd)
    · rw [hno]; simp
    · rw [decide_eq_false (by omega)]
      cases hsj : S j with
      | false => rfl
      | true =>
        have := (late j o' e' hj hlt hsj).1
        exact absurd hx ((Oper.apart_spec this).2.2 x hd)
  have objs : ∀ x, x ∈ e.tch → appH S 0 (ops.toList.zip es) (lookH h) x = lookH hi' x := by
    intro x hx
    rw [g4]
    refine appH_agree rfl (fun j o' e' hj hd => ?_)
    rw [Nat.zero_add]
    rcases Nat.lt_trichotomy j i with hlt | rfl | hlt
    · rw [decide_eq_true hlt]
      cases hsj : S j with
      | true => rfl
      | false =>
        have := (early j o' e' hj hlt hsj).2
        simp only [dynApart, Bool.and_eq_true] at this
        exact absurd (List.mem_append_left _ hx) (disj_spec this.1.1.1 x hd)
    · rw [hno]; simp
    · rw [decide_eq_false (by omega)]
      cases hsj : S j with
      | false => rfl
      | true =>
        have := (late j o' e' hj hlt hsj).2
        simp only [dynApart, Bool.and_eq_true] at this
        exact absurd hx (disj_spec this.1.1.2 x hd)
  have hops : ∀ x ∈ o.op.operands, ev (appT S 0 (ops.toList.zip es) (lookT t)) x = ev (lookT ti) x := by
    intro x hx
    cases x with
    | tmp d =>
      simp only [ev]
      refine slot d ?_
      unfold Oper.looksAt
      refine List.mem_append_left _ ?_
      simp only [List.mem_filterMap]
      exact ⟨.tmp d, by simpa using hx, rfl⟩
    | _ => rfl
  have hwant : ∀ r, Want (lookT ti) ops o.guard r → Want (appT S 0 (ops.toList.zip es) (lookT t)) ops o.guard r := by
    intro r hw
    have hl : ∀ j d want, o.guard = some (j, want) → dstOf ops j = some d → d ∈ o.looksAt ops := by
      intro j d want hg hd
      unfold Oper.looksAt
      refine List.mem_append_right _ ?_
      rw [hg]
      unfold dstOf at hd
      simp [hd]
    generalize hgd : o.guard = gd at hw
    cases hw with
    | free => exact .free
    | told hd h hr => exact .told hd (by rw [slot _ (hl _ _ _ hgd hd)]; exact h) hr
    | past hd h => exact .past hd (by rw [slot _ (hl _ _ _ hgd hd)]; exact h)
  refine ⟨e, g1, g2, ?_, ?_, ?_⟩
  · rcases g8 with ⟨h1, h2, h3⟩ | ⟨h1, h2⟩
    · refine .inl ⟨hwant _ h1, h2.congr hops objs, fun id hid => ?_⟩
      obtain ⟨f1, f2⟩ := freshAll_spec h3 id hid
      have noLate : ∀ j o' e', (ops.toList.zip es)[j]? = some (o', e') → i < j → S j = true → id ∉ effRefs e' := by
        intro j o' e' hj hlt hsj
        have := (late j o' e' hj hlt hsj).2
        simp only [dynApart, Bool.and_eq_true] at this
        exact disj_spec this.1.2 id hid
      constructor
      · intro x d hx
        rcases appT_src hx with hx | ⟨j, o', e', hj, hsj, hrr⟩
        · exact freshT_mem f1 x d (g5 _ (lookT_mem hx))
        · rw [Nat.zero_add] at hsj
          have hne : j ≠ i := by rintro rfl; rw [hno] at hsj; cases hsj
          rcases Nat.lt_or_ge j i with hlt | hge
          · cases hdd : o'.dst with
            | none =>
              -- a value that no slot takes is not seen
              have hx' := hx
              have := appT_src' hx'
              rcases this with h1 | ⟨j2, o2, e2, hj2, hs2, hd2, hr2⟩
              · exact freshT_mem f1 x d (g5 _ (lookT_mem h1))
              · rw [Nat.zero_add] at hs2
                have hne2 : j2 ≠ i := by rintro rfl; rw [hno] at hs2; cases hs2
                rcases Nat.lt_or_ge j2 i with hlt2 | hge2
                · exact freshT_mem f1 x d ((g7 j2 o2 e2 hlt2 hj2).1 x d hd2 hr2)
                · have := noLate j2 o2 e2 hj2 (by omega) hs2
                  unfold effRefs at this
                  rw [hr2] at this
                  exact fun hm => this (List.mem_append_left _ hm)
            | some dd => exact freshT_mem f1 dd d ((g7 j o' e' hlt hj).1 dd d hdd hrr)
          · have := noLate j o' e' hj (by omega) hsj
            unfold effRefs at this
            rw [hrr] at this
            exact fun hm => this (List.mem_append_left _ hm)
      · intro x ob hx
        rcases appH_src hx with hx | ⟨j, o', e', hj, hsj, hrr⟩
        · exact freshH_mem f2 x ob (g6 _ (lookH_mem hx))
        · rw [Nat.zero_add] at hsj
          have hne : j ≠ i := by rintro rfl; rw [hno] at hsj; cases hsj
          rcases Nat.lt_or_ge j i with hlt | hge
          · exact freshH_mem f2 x ob ((g7 j o' e' hlt hj).2 _ hrr)
          · have := noLate j o' e' hj (by omega) hsj
            unfold effRefs at this
            obtain ⟨q1, q2⟩ := chRefs_mem hrr
            refine ⟨?_, fun hm => this (List.mem_append_right _ (q2 _ hm))⟩
            rintro rfl
            exact this (List.mem_append_right _ q1)
    · exact .inr ⟨hwant _ h1, h2⟩
  · funext x
    by_cases hx : o.dst = some x
    · simp only [putT, if_pos hx]
      refine (appT_last (i := i) hz (by rw [Nat.zero_add]; exact addS_same S i) hx (fun j o' e' hij hj hsj => ?_)).symm
      rw [Nat.zero_add, addS_other (by omega)] at hsj
      exact (Oper.apart_spec (late j o' e' hj hij hsj).1).2.1 x hx
    · simp only [putT, if_neg hx]
      refine appT_agree rfl (fun j o' e' hj hd => ?_)
      rw [Nat.zero_add]
      have : j ≠ i := by rintro rfl; rw [hz] at hj; cases hj; exact hx hd
      rw [addS_other this]
  · funext x
    by_cases hx : x ∈ keys e
    · refine (appH_last (i := i) _ hz (by rw [Nat.zero_add]; exact addS_same S i) hx (fun j o' e' hij hj hsj => ?_)).symm
      rw [Nat.zero_add, addS_other (by omega)] at hsj
      have := (late j o' e' hj hij hsj).2
      simp only [dynApart, Bool.and_eq_true] at this
      exact fun hm => disj_spec this.1.1.1 x hx (List.mem_append_right _ hm)
    · rw [chH_out hx]
      refine appH_agree rfl (fun j o' e' hj hd => ?_)
      rw [Nat.zero_add]
      have : j ≠ i := by rintro rfl; rw [hz] at hj; cases hj; exact hx hd
      rw [addS_other this]

/-- a region that draws its order -/
theorem Run.drawn (hL : LayOk P L) {t t' : TL} {h h' : HL} {es : List Eff} {masks : List Nat} (hr : Run P L N ops ops.toList t h es t' h') (hst : statOk ops masks = true) (hp : pairsOk ops 0 (ops.toList.zip es) masks = true)
    (hQ : ∀ β' ok' a' w', Conc N w0 ok0 S0 (lookT t') (lookH h') β' ok' a' w' → Q .normal a' w') :
    ∀ (fuel : Nat) (listed : Array Bool) {β : Nat → Option Nat} {ok : Nat → Prop} {a : Act} {w : World}, listed.size = ops.size → (listed.toList.count false) = fuel → Done ops masks (fun j => listed.getD j false) →
      Conc N w0 ok0 S0 (appT (fun j => listed.getD j false) 0 (ops.toList.zip es) (lookT t)) (appH (fun j => listed.getD j false) 0 (ops.toList.zip es) (lookH h)) β ok a w → wpAny P .any ops Q fuel listed a w := by
  simp only [statOk, Bool.and_eq_true] at hst
  obtain ⟨⟨hm, hb⟩, _⟩ := hst
  obtain ⟨hml, hm⟩ := masksOk_spec hm
  have hb := backOk_spec hb
  have hel := hr.lengths
  -- where nothing is ready, all has run
  have allDone : ∀ (listed : Array Bool), listed.size = ops.size → Region.ready .any ops listed = [] → ∀ j, j < ops.size → listed.getD j false = true := by
    intro listed hsz hrd j
    induction j using Nat.strongRecOn with
    | _ j ih =>
      intro hj
      cases hl : listed.getD j false with
      | true => rfl
      | false =>
        exfalso
        have : j ∈ Region.ready .any ops listed := by
          unfold Region.ready
          simp only [List.mem_filter, List.mem_range, Bool.and_eq_true, Bool.not_eq_true']
          refine ⟨hj, ?_, ?_⟩
          · rw [Array.getD_eq_getD_getElem?, Array.getElem?_eq_getElem (by omega)] at hl ⊢
            simpa using hl
          · rw [Array.getElem?_eq_getElem hj]
            simp only [Option.map_some, Option.getD_some, Array.all_eq_true']
            intro ed hed
            cases hbd : Region.binds .any ed with
            | false => rfl
            | true =>
              simp only [Bool.not_true, Bool.false_or]
              have hlt := hb j ops[j] ed (by simp [hj]) (by simpa using hed) hbd
              exact ih ed.on (by omega) (by omega)
        rw [hrd] at this
        simp at this
  have finish : ∀ (listed : Array Bool) {β : Nat → Option Nat} {ok : Nat → Prop} {a : Act} {w : World}, listed.size = ops.size → Region.ready .any ops listed = [] →
      Conc N w0 ok0 S0 (appT (fun j => listed.getD j false) 0 (ops.toList.zip es) (lookT t)) (appH (fun j => listed.getD j false) 0 (ops.toList.zip es) (lookH h)) β ok a w → Q .normal a w := by
    intro listed β ok a w hsz hrd hc
    obtain ⟨f1, f2⟩ := hr.final (fun j => listed.getD j false) 0 (fun i hi => by rw [Nat.zero_add]; exact allDone listed hsz hrd i (by simpa using hi))
    rw [← f1, ← f2] at hc
    exact hQ _ _ _ _ hc
  intro fuel
  induction fuel with
  | zero =>
    intro listed β ok a w hsz hcnt hS hc
    have hrd : Region.ready .any ops listed = [] := by
      have hall : ∀ j, j < ops.size → listed.getD j false = true := by
        intro j hj
        cases hl : listed.getD j false with
        | true => rfl
        | false =>
          exfalso
          have : false ∈ listed.toList := by
            rw [Array.getD_eq_getD_getElem?, Array.getElem?_eq_getElem (by omega)] at hl
            simp only [Option.getD_some] at hl
            rw [← hl]; simp
          have := List.count_pos_iff.2 this
          omega
      unfold Region.ready
      rw [List.filter_eq_nil_iff]
      intro j hj
      simp only [List.mem_range] at hj
      have := hall j hj
      rw [Array.getD_eq_getD_getElem?, Array.getElem?_eq_getElem (by omega)] at this
      simp only [Option.getD_some] at this
      rw [Array.getD_eq_getD_getElem?, Array.getElem?_eq_getElem (by omega)]
      simp [this]
    exact ⟨hrd, finish listed hsz hrd hc⟩
  | succ fuel ih =>
    intro listed β ok a w hsz hcnt hS hc
    refine ⟨fun hrd => finish listed hsz hrd hc, fun i hi => ?_⟩
    unfold Region.ready at hi
    simp only [List.mem_filter, List.mem_range, Bool.and_eq_true, Bool.not_eq_true'] at hi
    obtain ⟨hlt, hl, hed⟩ := hi
    have ho : ops[i]? = some ops[i] := Array.getElem?_eq_getElem hlt
    rw [ho] at hed
    simp only [Option.map_some, Option.getD_some, Array.all_eq_true'] at hed
    have hlf : listed.getD i false = false := by
      rw [Array.getD_eq_getD_getElem?, Array.getElem?_eq_getElem (by omega)] at hl ⊢
      simpa using hl
    have hpre : ∀ m j, masks[i]? = some m → Nat.testBit m j = true → listed.getD j false = true := by
      intro m j hmi hbit
      rw [hm i ops[i] (by simp [hlt])] at hmi
      cases hmi
      rcases foldl_mask masks _ 0 j hbit with h0 | ⟨ed, h1, h2, h3⟩
      · simp at h0
      · have h4 := hed ed (by simpa using h1)
        simp only [h2, Bool.not_true, Bool.false_or] at h4
        rcases h3 with rfl | h3
        · exact h4
        · have hon : ed.on < i := by have := hb i ops[i] ed (by simp [hlt]) h1 h2; omega
          refine hS.back ed.on (masks.getD ed.on 0) j h4 ?_ h3
          have : ed.on < masks.length := by rw [hml]; simp; omega
          simp [List.getD_eq_getElem?_getD, List.getElem?_eq_getElem this]
    obtain ⟨e, g1, g2, g3, g4, g5⟩ := draw_step hr hp hS ho hlf hpre
    have hset : ∀ j, (listed.setIfInBounds i true).getD j false = addS (fun j => listed.getD j false) i j := by
      intro j
      by_cases hj : j = i
      · subst hj
        rw [addS_same]
        simp [Array.getD, hsz, hlt]
      · rw [addS_other hj]
        simp only [Array.getD_eq_getD_getElem?]
        rw [Array.getElem?_setIfInBounds_ne (by omega)]
    have hfun : (fun j => (listed.setIfInBounds i true).getD j false) = addS (fun j => listed.getD j false) i := funext hset
    refine wpOp_of hL hc ho g2 g3 (fun β' ok' a' w' hc' => ?_)
    refine ih (listed.setIfInBounds i true) (β := β') (ok := ok') (by simpa using hsz) ?_ ?_ ?_
    · have hil : i < listed.toList.length := by simpa [hsz] using hlt
      have e1 : listed.toList[i] = false := by
        rw [Array.getD_eq_getD_getElem?, Array.getElem?_eq_getElem (by omega)] at hlf
        simpa using hlf
      rw [Array.toList_setIfInBounds, List.count_set hil, e1]
      simp at hcnt ⊢
      omega
    · rw [hfun]
      refine ⟨fun j hj => ?_, fun j m k hj hmj hbit => ?_⟩
      · by_cases he : j = i
        · subst he; exact hlt
        · rw [addS_other he] at hj; exact hS.lt j hj
      · by_cases he : j = i
        · subst he
          have := hpre m k hmj hbit
          by_cases hk : k = j
          · subst hk; exact addS_same _ _
          · rw [addS_other hk]; exact this
        · rw [addS_other he] at hj
          have := hS.back j m k hj hmj hbit
          by_cases hk : k = i
          · subst hk; exact addS_same _ _
          · rw [addS_other hk]; exact this
    · rw [hfun, ← g4, ← g5]
      exact hc'
end
end Fw
