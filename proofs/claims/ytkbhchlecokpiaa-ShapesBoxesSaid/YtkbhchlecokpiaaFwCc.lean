/- A program logic over data: a region's run in the order of the text; whatever order the edges allow comes to the same. -/
import Derived.Test.YtkbhchlecokpiaaFwCb
import Derived.Scope
set_option linter.unusedVariables false
set_option linter.unusedSimpArgs false
/-! ## FwJ: A program logic over data: a region's run in the order of the text; whatever order the edges allow comes to the same. -/
namespace Fw
open Go Go.RowKit
set_option linter.unusedVariables false
set_option linter.unusedSimpArgs false
set_option linter.unusedSectionVars false

abbrev TL := List (Nat × Option D)
abbrev HL := List (Nat × Option O)

def lookT : TL → Nat → Option D
  | [], _ => none
  | (j, d) :: l, i => bif Nat.beq j i then d else lookT l i
def lookH : HL → Nat → Option O
  | [], _ => none
  | (j, d) :: l, i => bif Nat.beq j i then d else lookH l i

def putL (t : TL) (dst : Option Nat) (r : Option D) : TL := match dst with
  | some j => (j, r) :: t
  | none => t

theorem beq_no {j i : Nat} (h : ¬ j = i) : Nat.beq j i = false := by
  cases hb : Nat.beq j i with
  | false => rfl
  | true => exact absurd (Nat.eq_of_beq_eq_true hb) h

theorem lookT_put (t : TL) (dst : Option Nat) (r : Option D) : lookT (putL t dst r) = putT (lookT t) dst r := by
  funext i
  cases dst with
  | none => simp [putL, putT]
  | some j =>
    simp only [putL, lookT, putT, Option.some.injEq]
    by_cases h : j = i
    · subst h; simp [Nat.beq_refl]
    · have : Nat.beq j i = false := beq_no h
      rw [this, if_neg h]; rfl
theorem lookH_ch (h : HL) : ∀ (ch : List (Nat × Option O)), lookH (ch ++ h) = chH (lookH h) ch
  | [] => by funext i; rfl
  | (j, o) :: l => by
    funext i
    simp only [List.cons_append, lookH, chH]
    by_cases h' : j = i
    · subst h'; simp [Nat.beq_refl]
    · have : Nat.beq j i = false := beq_no h'
      rw [this, if_neg h', lookH_ch h l]; rfl

/-- nobody in the lists names it, not even where another entry hides it -/
def notIn (id : Nat) : List Nat → Bool
  | [] => true
  | j :: l => bif Nat.beq j id then false else notIn id l
def freshT (id : Nat) : TL → Bool
  | [] => true
  | (_, none) :: l => freshT id l
  | (_, some d) :: l => notIn id d.refs && freshT id l
def freshH (id : Nat) : HL → Bool
  | [] => true
  | (j, none) :: l => freshH id l
  | (j, some o) :: l => !(Nat.beq j id) && notIn id o.refs && freshH id l
def freshAll (t : TL) (h : HL) : List Nat → Bool
  | [] => true
  | id :: l => freshT id t && freshH id h && freshAll t h l

theorem notIn_spec {id : Nat} : ∀ {l : List Nat}, notIn id l = true → id ∉ l
  | [], _ => by simp
  | j :: l, h => by
    simp only [notIn] at h
    cases hb : Nat.beq j id with
    | true => rw [hb] at h; simp at h
    | false =>
      rw [hb] at h
      have h1 : j ≠ id := by
        intro he; subst he; simp [Nat.beq_refl] at hb
      have := notIn_spec (l := l) (by simpa using h)
      simp; exact ⟨fun h => h1 h.symm, this⟩
theorem freshT_mem {id : Nat} : ∀ {t : TL}, freshT id t = true → ∀ i d, (i, some d) ∈ t → id ∉ d.refs
  | [], _, i, d, hm => by simp at hm
  | (j, none) :: l, h, i, d, hm => by
    simp only [freshT] at h
    simp at hm
    exact freshT_mem h i d hm
  | (j, some d') :: l, h, i, d, hm => by
    simp only [freshT, Bool.and_eq_true] at h
    simp at hm
    rcases hm with ⟨_, rfl⟩ | hm
    · exact notIn_spec h.1
    · exact freshT_mem h.2 i d hm
theorem freshH_mem {id : Nat} : ∀ {t : HL}, freshH id t = true → ∀ i o, (i, some o) ∈ t → i ≠ id ∧ id ∉ o.refs
  | [], _, i, d, hm => by simp at hm
  | (j, none) :: l, h, i, d, hm => by
    simp only [freshH] at h
    simp at hm
    exact freshH_mem h i d hm
  | (j, some d') :: l, h, i, d, hm => by
    simp only [freshH, Bool.and_eq_true, Bool.not_eq_true'] at h
    simp at hm
    rcases hm with ⟨rfl, rfl⟩ | hm
    · refine ⟨?_, notIn_spec h.1.2⟩
      rintro rfl
      have := h.1.1
      simp [Nat.beq_refl] at this
    · exact freshH_mem h.2 i d hm
theorem lookT_mem {t : TL} {i : Nat} {d : D} (h : lookT t i = some d) : (i, some d) ∈ t := by
  induction t with
  | nil => simp [lookT] at h
  | cons p l ih =>
    obtain ⟨j, x⟩ := p
    simp only [lookT] at h
    cases hb : Nat.beq j i with
    | true =>
      rw [hb] at h
      have := Nat.eq_of_beq_eq_true hb
      subst this
      simp at h; subst h; simp
    | false => rw [hb] at h; exact List.mem_cons_of_mem _ (ih (by simpa using h))
theorem lookH_mem {t : HL} {i : Nat} {d : O} (h : lookH t i = some d) : (i, some d) ∈ t := by
  induction t with
  | nil => simp [lookH] at h
  | cons p l ih =>
    obtain ⟨j, x⟩ := p
    simp only [lookH] at h
    cases hb : Nat.beq j i with
    | true =>
      rw [hb] at h
      have := Nat.eq_of_beq_eq_true hb
      subst this
      simp at h; subst h; simp
    | false => rw [hb] at h; exact List.mem_cons_of_mem _ (ih (by simpa using h))
theorem freshAll_spec {t : TL} {h : HL} : ∀ {l : List Nat}, freshAll t h l = true → ∀ id ∈ l, freshT id t = true ∧ freshH id h = true
  | [], _, id, hm => by simp at hm
  | j :: l, hf, id, hm => by
    simp only [freshAll, Bool.and_eq_true] at hf
    rcases List.mem_cons.1 hm with rfl | hm
    · exact hf.1
    · exact freshAll_spec hf.2 id hm
theorem fresh_of {t : TL} {h : HL} {id : Nat} (h1 : freshT id t = true) (h2 : freshH id h = true) : Fresh (lookT t) (lookH h) id :=
  ⟨fun i d hd => freshT_mem h1 i d (lookT_mem hd), fun i o ho => freshH_mem h2 i o (lookH_mem ho)⟩

/-- what an operation that is passed over leaves -/
def skipE : Eff := ⟨some (.im (.tup [])), [], [], []⟩

def dstOf (ops : Array Oper) (j : Nat) : Option Nat := (ops[j]?).bind (·.dst)

/-- is an operation wanted? -/
inductive Want (T : Nat → Option D) (ops : Array Oper) : Option (Nat × Bool) → Bool → Prop
  | free : Want T ops none true
  | told {j d : Nat} {b want r : Bool} (hd : dstOf ops j = some d) (h : T d = some (.im (.bool b))) (hr : (b == want) = r) : Want T ops (some (j, want)) r
  | past {j d : Nat} {want : Bool} (hd : dstOf ops j = some d) (h : T d = some (.im (.tup []))) : Want T ops (some (j, want)) false

def dstOk (N : Nat) : Option Nat → Bool
  | some d => Nat.blt d N
  | none => true
theorem dstOk_spec {N : Nat} {dst : Option Nat} (h : dstOk N dst = true) : ∀ d, dst = some d → d < N := by
  rintro d rfl
  have := Nat.le_of_ble_eq_true h
  omega

inductive Run (P : Program) (L : Nat → Option TI) (N : Nat) (ops : Array Oper) : List Oper → TL → HL → List Eff → TL → HL → Prop
  | nil {t h} : Run P L N ops [] t h [] t h
  | step {o rest t h e es t' h'} (hw : Want (lookT t) ops o.guard true) (hs : Step P L (ev (lookT t)) (lookH h) o.op o.dst o.type e) (hd : dstOk N o.dst = true) (hf : freshAll t h e.nw = true)
      (hr : Run P L N ops rest (putL t o.dst e.r) (e.ch ++ h) es t' h') : Run P L N ops (o :: rest) t h (e :: es) t' h'
  | skip {o rest t h es t' h'} (hw : Want (lookT t) ops o.guard false) (hd : dstOk N o.dst = true) (hr : Run P L N ops rest (putL t o.dst (some (.im (.tup [])))) h es t' h') : Run P L N ops (o :: rest) t h (skipE :: es) t' h'
  | know {l t h es t' h' k d} (hk : lookT t k = some d) (hr : Run P L N ops l ((k, some d) :: t) h es t' h') : Run P L N ops l t h es t' h'

theorem lookT_know {t : TL} {k : Nat} {d : D} (hk : lookT t k = some d) : lookT ((k, some d) :: t) = lookT t := by
  funext i
  simp only [lookT]
  cases hb : Nat.beq k i with
  | false => rfl
  | true =>
    have := Nat.eq_of_beq_eq_true hb
    subst this
    simp [hk]

section
variable {P : Program} {L : Nat → Option TI} {N : Nat} {w0 : World} {ok0 S0 : Nat → Prop} {T : Nat → Option D} {H : Nat → Option O} {β : Nat → Option Nat} {ok : Nat → Prop} {a : Act} {w w' : World} {ops : Array Oper}
  {Q : Exit → Act → World → Prop}

theorem yielded_bool (hc : Conc N w0 ok0 S0 T H β ok a w) {j d : Nat} {b : Bool} (hd : dstOf ops j = some d) (h : T d = some (.im (.bool b))) : yielded ops a.tmps j = some b := by
  have h1 := hc.tmp d _ h
  simp only [RD, RM] at h1
  unfold dstOf at hd
  unfold yielded
  rw [hd]
  simp only [Option.bind_some]
  have : a.tmps[d]? = some (.bool b) := by
    rw [Array.getD_eq_getD_getElem?] at h1
    cases hx : a.tmps[d]? with
    | none => rw [hx] at h1; simp [undef] at h1
    | some v => rw [hx] at h1; simp at h1; rw [h1]
  rw [this]
theorem yielded_past (hc : Conc N w0 ok0 S0 T H β ok a w) {j d : Nat} (hd : dstOf ops j = some d) (h : T d = some (.im (.tup []))) : yielded ops a.tmps j = none := by
  have h1 := hc.tmp d _ h
  simp only [RD, RM] at h1
  obtain ⟨us, h1, _⟩ := h1
  unfold dstOf at hd
  unfold yielded
  rw [hd]
  simp only [Option.bind_some]
  rw [Array.getD_eq_getD_getElem?] at h1
  cases hx : a.tmps[d]? with
  | none => rfl
  | some v => rw [hx] at h1; simp at h1; rw [h1]
theorem Want.sound (hc : Conc N w0 ok0 S0 T H β ok a w) {o : Oper} {r : Bool} (h : Want T ops o.guard r) : Region.wanted o (yielded ops a.tmps) = r := by
  unfold Region.wanted
  generalize o.guard = g at h
  cases h with
  | free => rfl
  | @told j d b want r hd h hr =>
    simp only [yielded_bool hc hd h]
    rw [← hr]
    cases b <;> cases want <;> rfl
  | past hd h => simp only [yielded_past hc hd h]; rfl

theorem rd_undef : RD β ok w (.im (.tup [])) undef := by simp only [RD, RM]; exact ⟨#[], rfl, by simp [RMt]⟩

/-- one operation of a region -/
theorem wpOp_of (hL : LayOk P L) (hc : Conc N w0 ok0 S0 T H β ok a w) {i : Nat} {o : Oper} {e : Eff} (hi : ops[i]? = some o) (hd : dstOk N o.dst = true)
    (h : (Want T ops o.guard true ∧ Step P L (ev T) H o.op o.dst o.type e ∧ ∀ id ∈ e.nw, Fresh T H id) ∨ (Want T ops o.guard false ∧ e = skipE)) {K : Act → World → Prop}
    (hK : ∀ β' ok' a' w', Conc N w0 ok0 S0 (putT T o.dst e.r) (chH H e.ch) β' ok' a' w' → K a' w') : wpOp P ops Q i K a w := by
  unfold wpOp
  rw [hi]
  simp only []
  rcases h with ⟨h1, h2, h3⟩ | ⟨h1, rfl⟩
  · rw [if_pos (h1.sound hc)]
    refine .inl (Oper.wp_mono ?_ (h2.sound hL hc (dstOk_spec hd) h3))
    rintro a' w' ⟨β', ok', hc'⟩
    exact hK β' ok' a' w' hc'
  · rw [if_neg (by rw [h1.sound hc]; simp)]
    exact hK β ok _ w (hc.put o.dst undef _ (dstOk_spec hd) (fun d h => by cases h; exact rd_undef))

/-- a region in the order of the text -/
theorem Run.plain (hL : LayOk P L) : ∀ {l : List Oper} {t : TL} {h : HL} {es : List Eff} {t' : TL} {h' : HL} (k : Nat) {β : Nat → Option Nat} {ok : Nat → Prop} {a : Act} {w : World}, Run P L N ops l t h es t' h' → ops.toList.drop k = l →
    Conc N w0 ok0 S0 (lookT t) (lookH h) β ok a w → (∀ β' ok' a' w', Conc N w0 ok0 S0 (lookT t') (lookH h') β' ok' a' w' → Q .normal a' w') → wpOps P ops Q (List.range' k (ops.size - k)) a w := by
  intro l t h es t' h' k β ok a w hr
  induction hr generalizing k β ok a w with
  | nil =>
    intro hl hc hQ
    have : ops.size ≤ k := by
      have := congrArg List.length hl
      simp at this; omega
    rw [show ops.size - k = 0 by omega]
    exact hQ _ _ _ _ hc
  | @step o rest t h e es t' h' hw hs hd hf hr ih =>
    intro hl hc hQ
    have hk : k < ops.size := by
      have := congrArg List.length hl
      simp at this; omega
    have ho : ops[k]? = some o := by
      have := congrArg (·[0]?) hl
      simpa using this
    obtain ⟨q, hq⟩ : ∃ q, ops.size - k = q + 1 := ⟨ops.size - k - 1, by omega⟩
    rw [hq, List.range'_succ, wpOps_cons]
    refine wpOp_of hL hc ho hd (.inl ⟨hw, hs, fun id hid => ?_⟩) (fun β' ok' a' w' hc' => ?_)
    · have := freshAll_spec hf id hid
      exact fresh_of this.1 this.2
    · rw [show q = ops.size - (k + 1) by omega]
      refine ih (k + 1) ?_ (by rw [lookT_put, lookH_ch]; exact hc') hQ
      have := congrArg (List.drop 1) hl
      simpa [List.drop_drop] using this
  | @skip o rest t h es t' h' hw hd hr ih =>
    intro hl hc hQ
    have hk : k < ops.size := by
      have := congrArg List.length hl
      simp at this; omega
    have ho : ops[k]? = some o := by
      have := congrArg (·[0]?) hl
      simpa using this
    obtain ⟨q, hq⟩ : ∃ q, ops.size - k = q + 1 := ⟨ops.size - k - 1, by omega⟩
    rw [hq, List.range'_succ, wpOps_cons]
    refine wpOp_of hL hc ho hd (.inr ⟨hw, rfl⟩) (fun β' ok' a' w' hc' => ?_)
    rw [show q = ops.size - (k + 1) by omega]
    refine ih (k + 1) ?_ (by rw [lookT_put]; exact hc') hQ
    have := congrArg (List.drop 1) hl
    simpa [List.drop_drop] using this
  | know hk hr ih =>
    intro hl hc hQ
    exact ih k hl (by rw [lookT_know hk]; exact hc) hQ

end
end Fw

/-! ## FwK: A program logic over data: a region that draws its order comes to what the order of the text comes to, where unordered operations keep out of each other's way. -/
namespace Fw
open Go Go.RowKit
set_option linter.unusedVariables false
set_option linter.unusedSimpArgs false
set_option linter.unusedSectionVars false

abbrev Z := List (Oper × Eff)

/-- what the operations of a set come to, in the order of the text -/
def appT (S : Nat → Bool) : Nat → Z → (Nat → Option D) → Nat → Option D
  | _, [], T => T
  | k, (o, e) :: z, T => appT S (k + 1) z (bif S k then putT T o.dst e.r else T)
def appH (S : Nat → Bool) : Nat → Z → (Nat → Option O) → Nat → Option O
  | _, [], H => H
  | k, (o, e) :: z, H => appH S (k + 1) z (bif S k then chH H e.ch else H)

def keys (e : Eff) : List Nat := e.ch.map (·.1)

theorem chH_agree {H H' : Nat → Option O} {x : Nat} (h : H x = H' x) : ∀ (ch : List (Nat × Option O)), chH H ch x = chH H' ch x
  | [] => h
  | (j, o) :: l => by
    simp only [chH]
    rw [chH_agree h l]
theorem chH_in {H H' : Nat → Option O} {x : Nat} : ∀ {ch : List (Nat × Option O)}, x ∈ ch.map (·.1) → chH H ch x = chH H' ch x
  | [], h => by simp at h
  | (j, o) :: l, h => by
    simp only [chH]
    by_cases he : j = x
    · rw [if_pos he, if_pos he]
    · rw [if_neg he, if_neg he]
      exact chH_in (by simp at h; rcases h with h | h; exact absurd h.symm he; simpa using h)
theorem chH_out {H : Nat → Option O} {x : Nat} : ∀ {ch : List (Nat × Option O)}, x ∉ ch.map (·.1) → chH H ch x = H x
  | [], h => rfl
  | (j, o) :: l, h => by
    simp only [List.map_cons, List.mem_cons, not_or] at h
    simp only [chH]
    rw [if_neg (fun he => h.1 he.symm)]
    exact chH_out h.2

theorem appT_agree {x : Nat} : ∀ {z : Z} {k k' : Nat} {S S' : Nat → Bool} {T T' : Nat → Option D}, T x = T' x → (∀ i o e, z[i]? = some (o, e) → o.dst = some x → S (k + i) = S' (k' + i)) → appT S k z T x = appT S' k' z T' x
  | [], k, k', S, S', T, T', h, hs => h
  | (o, e) :: z, k, k', S, S', T, T', h, hs => by
    simp only [appT]
    refine appT_agree ?_ (fun i o' e' hi ho => by have := hs (i + 1) o' e' (by simpa using hi) ho; rwa [show k + (i + 1) = k + 1 + i by omega, show k' + (i + 1) = k' + 1 + i by omega] at this)
    by_cases ho : o.dst = some x
    · have := hs 0 o e rfl ho
      rw [Nat.add_zero, Nat.add_zero] at this
      rw [this]
      cases S' k' with
      | true => simp [putT, ho]
      | false => simpa using h
    · cases S k <;> cases S' k' <;> simp [putT, ho, h]
theorem appH_agree {x : Nat} : ∀ {z : Z} {k k' : Nat} {S S' : Nat → Bool} {H H' : Nat → Option O}, H x = H' x → (∀ i o e, z[i]? = some (o, e) → x ∈ keys e → S (k + i) = S' (k' + i)) → appH S k z H x = appH S' k' z H' x
  | [], k, k', S, S', T, T', h, hs => h
  | (o, e) :: z, k, k', S, S', T, T', h, hs => by
    simp only [appH]
    refine appH_agree ?_ (fun i o' e' hi ho => by have := hs (i + 1) o' e' (by simpa using hi) ho; rwa [show k + (i + 1) = k + 1 + i by omega, show k' + (i + 1) = k' + 1 + i by omega] at this)
    by_cases ho : x ∈ keys e
    · have := hs 0 o e rfl ho
      rw [Nat.add_zero, Nat.add_zero] at this
      rw [this]
      cases S' k' with
      | true => simp only [cond_true]; exact chH_in ho
      | false => simpa using h
    · have h1 : ∀ H : Nat → Option O, chH H e.ch x = H x := fun H => chH_out ho
      cases S k <;> cases S' k' <;> simp [h1, h]

/-- nobody in the set writes it -/
theorem appT_none {x : Nat} : ∀ {z : Z} {k : Nat} {S : Nat → Bool} {T : Nat → Option D}, (∀ i o e, z[i]? = some (o, e) → S (k + i) = true → o.dst ≠ some x) → appT S k z T x = T x
  | [], k, S, T, h => rfl
  | (o, e) :: z, k, S, T, h => by
    simp only [appT]
    rw [appT_none (fun i o' e' hi hS => h (i + 1) o' e' (by simpa using hi) (by rwa [show k + (i + 1) = k + 1 + i by omega]))]
    cases hk : S k with
    | false => rfl
    | true =>
      have := h 0 o e rfl (by simpa using hk)
      simp [putT, this]
theorem appH_none {x : Nat} : ∀ {z : Z} {k : Nat} {S : Nat → Bool} {T : Nat → Option O}, (∀ i o e, z[i]? = some (o, e) → S (k + i) = true → x ∉ keys e) → appH S k z T x = T x
  | [], k, S, T, h => rfl
  | (o, e) :: z, k, S, T, h => by
    simp only [appH]
    rw [appH_none (fun i o' e' hi hS => h (i + 1) o' e' (by simpa using hi) (by rwa [show k + (i + 1) = k + 1 + i by omega]))]
    cases hk : S k with
    | false => rfl
    | true => exact chH_out (h 0 o e rfl (by simpa using hk))

/-- the last one that writes it -/
theorem appT_last {x : Nat} : ∀ {z : Z} {k i : Nat} {S : Nat → Bool} {T : Nat → Option D} {o : Oper} {e : Eff}, z[i]? = some (o, e) → S (k + i) = true → o.dst = some x → (∀ j o' e', i < j → z[j]? = some (o', e') → S (k + j) = true → o'.dst ≠ some x) → appT S k z T x = e.r
  | [], k, i, S, T, o, e, hi, _, _, _ => by simp at hi
  | (o0, e0) :: z, k, 0, S, T, o, e, hi, hS, ho, hl => by
    simp at hi
    obtain ⟨rfl, rfl⟩ := hi
    rw [Nat.add_zero] at hS
    simp only [appT, hS, cond_true]
    rw [appT_none (fun j o' e' hj hSj => hl (j + 1) o' e' (by omega) (by simpa using hj) (by rwa [show k + (j + 1) = k + 1 + j by omega]))]
    simp [putT, ho]
  | (o0, e0) :: z, k, i + 1, S, T, o, e, hi, hS, ho, hl => by
    simp only [appT]
    exact appT_last (i := i) (by simpa using hi) (by rwa [show k + 1 + i = k + (i + 1) by omega]) ho (fun j o' e' hij hj hSj => hl (j + 1) o' e' (by omega) (by simpa using hj) (by rwa [show k + (j + 1) = k + 1 + j by omega]))
theorem appH_last {x : Nat} : ∀ {z : Z} {k i : Nat} {S : Nat → Bool} {T : Nat → Option O} {o : Oper} {e : Eff} (H' : Nat → Option O), z[i]? = some (o, e) → S (k + i) = true → x ∈ keys e → (∀ j o' e', i < j → z[j]? = some (o', e') → S (k + j) = true → x ∉ keys e') → appH S k z T x = chH H' e.ch x
  | [], k, i, S, T, o, e, H', hi, _, _, _ => by simp at hi
  | (o0, e0) :: z, k, 0, S, T, o, e, H', hi, hS, ho, hl => by
    simp at hi
    obtain ⟨rfl, rfl⟩ := hi
    rw [Nat.add_zero] at hS
    simp only [appH, hS, cond_true]
    rw [appH_none (fun j o' e' hj hSj => hl (j + 1) o' e' (by omega) (by simpa using hj) (by rwa [show k + (j + 1) = k + 1 + j by omega]))]
    exact chH_in ho
  | (o0, e0) :: z, k, i + 1, S, T, o, e, H', hi, hS, ho, hl => by
    simp only [appH]
    exact appH_last (i := i) H' (by simpa using hi) (by rwa [show k + 1 + i = k + (i + 1) by omega]) ho (fun j o' e' hij hj hSj => hl (j + 1) o' e' (by omega) (by simpa using hj) (by rwa [show k + (j + 1) = k + 1 + j by omega]))

theorem appT_src {x : Nat} {d : D} : ∀ {z : Z} {k : Nat} {S : Nat → Bool} {T : Nat → Option D}, appT S k z T x = some d → T x = some d ∨ ∃ i o e, z[i]? = some (o, e) ∧ S (k + i) = true ∧ e.r = some d
  | [], k, S, T, h => .inl h
  | (o, e) :: z, k, S, T, h => by
    simp only [appT] at h
    rcases appT_src h with h1 | ⟨i, o', e', h1, h2, h3⟩
    · cases hk : S k with
      | false => rw [hk] at h1; exact .inl h1
      | true =>
        rw [hk] at h1
        simp only [cond_true, putT] at h1
        by_cases ho : o.dst = some x
        · rw [if_pos ho] at h1
          exact .inr ⟨0, o, e, rfl, by simpa using hk, h1⟩
        · rw [if_neg ho] at h1; exact .inl h1
    · exact .inr ⟨i + 1, o', e', by simpa using h1, by rwa [show k + (i + 1) = k + 1 + i by omega], h3⟩
theorem appT_src' {x : Nat} {d : D} : ∀ {z : Z} {k : Nat} {S : Nat → Bool} {T : Nat → Option D}, appT S k z T x = some d → T x = some d ∨ ∃ (i : Nat) (o : Oper) (e : Eff), z[i]? = some (o, e) ∧ S (k + i) = true ∧ o.dst = some x ∧ e.r = some d
  | [], k, S, T, h => .inl h
  | (o, e) :: z, k, S, T, h => by
    simp only [appT] at h
    rcases appT_src' h with h1 | ⟨i, o', e', h1, h2, h3⟩
    · cases hk : S k with
      | false => rw [hk] at h1; exact .inl h1
      | true =>
        rw [hk] at h1
        simp only [cond_true, putT] at h1
        by_cases ho : o.dst = some x
        · rw [if_pos ho] at h1
          exact .inr ⟨0, o, e, rfl, by simpa using hk, ho, h1⟩
        · rw [if_neg ho] at h1; exact .inl h1
    · exact .inr ⟨i + 1, o', e', by simpa using h1, by rwa [show k + (i + 1) = k + 1 + i by omega], h3⟩
theorem chH_src {H : Nat → Option O} {x : Nat} {o : O} : ∀ {ch : List (Nat × Option O)}, chH H ch x = some o → H x = some o ∨ (x, some o) ∈ ch
  | [], h => .inl h
  | (j, p) :: l, h => by
    simp only [chH] at h
    by_cases he : j = x
    · rw [if_pos he] at h
      subst he; subst h
      exact .inr (by simp)
    · rw [if_neg he] at h
      rcases chH_src h with h | h
      · exact .inl h
      · exact .inr (List.mem_cons_of_mem _ h)
theorem appH_src {x : Nat} {d : O} : ∀ {z : Z} {k : Nat} {S : Nat → Bool} {T : Nat → Option O}, appH S k z T x = some d → T x = some d ∨ ∃ i o e, z[i]? = some (o, e) ∧ S (k + i) = true ∧ (x, some d) ∈ e.ch
  | [], k, S, T, h => .inl h
  | (o, e) :: z, k, S, T, h => by
    simp only [appH] at h
    rcases appH_src h with h1 | ⟨i, o', e', h1, h2, h3⟩
    · cases hk : S k with
      | false => rw [hk] at h1; exact .inl h1
      | true =>
        rw [hk] at h1
        rcases chH_src h1 with h1 | h1
        · exact .inl h1
        · exact .inr ⟨0, o, e, rfl, by simpa using hk, h1⟩
    · exact .inr ⟨i + 1, o', e', by simpa using h1, by rwa [show k + (i + 1) = k + 1 + i by omega], h3⟩

/-! ### the check -/

def disj : List Nat → List Nat → Bool
  | [], _ => true
  | x :: l, m => notIn x m && disj l m
theorem disj_spec : ∀ {l m : List Nat}, disj l m = true → ∀ x ∈ l, x ∉ m
  | [], m, h, x, hx => by simp at hx
  | y :: l, m, h, x, hx => by
    simp only [disj, Bool.and_eq_true] at h
    rcases List.mem_cons.1 hx with rfl | hx
    · exact notIn_spec h.1
    · exact disj_spec h.2 x hx

def chRefs : List (Nat × Option O) → List Nat
  | [] => []
  | (j, none) :: l => j :: chRefs l
  | (j, some o) :: l => j :: (o.refs ++ chRefs l)
def effRefs (e : Eff) : List Nat := (match e.r with | some d => d.refs | none => []) ++ chRefs e.ch
theorem chRefs_mem : ∀ {l : List (Nat × Option O)} {j : Nat} {o : O}, (j, some o) ∈ l → j ∈ chRefs l ∧ ∀ r ∈ o.refs, r ∈ chRefs l
  | [], j, o, h => by simp at h
  | (i, none) :: l, j, o, h => by
    simp at h
    have := chRefs_mem h
    simp only [chRefs]
    exact ⟨List.mem_cons_of_mem _ this.1, fun r hr => List.mem_cons_of_mem _ (this.2 r hr)⟩
  | (i, some p) :: l, j, o, h => by
    simp only [List.mem_cons, Prod.mk.injEq, Option.some.injEq] at h
    simp only [chRefs]
    rcases h with ⟨rfl, rfl⟩ | h
    · exact ⟨by simp, fun r hr => by simp [hr]⟩
    · have := chRefs_mem h
      exact ⟨by simp [this.1], fun r hr => by simp [this.2 r hr]⟩

def dynApart (x y : Eff) : Bool := disj (keys x) (y.tch ++ keys y) && disj (keys y) x.tch && disj x.nw (effRefs y) && disj y.nw (effRefs x)

def laterOk (ops : Array Oper) (o : Oper) (e : Eff) (i : Nat) : List (Oper × Eff) → List Nat → Bool
  | (o', e') :: l, m :: ms => (Nat.testBit m i || (o.apart ops o' && dynApart e e')) && laterOk ops o e i l ms
  | [], _ => true
  | _, [] => false
def pairsOk (ops : Array Oper) : Nat → List (Oper × Eff) → List Nat → Bool
  | i, (o, e) :: l, _ :: ms => laterOk ops o e i l ms && pairsOk ops (i + 1) l ms
  | _, [], _ => true
  | _, _, [] => false

def maskOf (masks : List Nat) (o : Oper) : Nat := o.after.toList.foldl (fun s e => bif Region.binds .any e then s ||| 2 ^ e.on ||| masks.getD e.on 0 else s) 0
def masksGo : List Nat → List Oper → List Nat
  | acc, [] => acc
  | acc, o :: l => masksGo (acc ++ [maskOf acc o]) l
def masksOk (masks : List Nat) : List Oper → List Nat → Bool
  | o :: l, m :: ms => Nat.beq m (maskOf masks o) && masksOk masks l ms
  | [], [] => true
  | _, _ => false
def backOk : Nat → List Oper → Bool
  | _, [] => true
  | k, o :: l => o.after.toList.all (fun e => !(Region.binds .any e) || Nat.blt e.on k) && backOk (k + 1) l
def statOk (ops : Array Oper) (masks : List Nat) : Bool := masksOk masks ops.toList masks && backOk 0 ops.toList && Region.noSelect ops

theorem laterOk_spec {ops : Array Oper} {o : Oper} {e : Eff} {i : Nat} : ∀ {l : Z} {ms : List Nat}, laterOk ops o e i l ms = true → ∀ (j : Nat) (o' : Oper) (e' : Eff), l[j]? = some (o', e') → ∃ m, ms[j]? = some m ∧ (Nat.testBit m i = true ∨ (o.apart ops o' = true ∧ dynApart e e' = true))
  | [], ms, h, j, o', e', hj => by simp at hj
  | p :: l, [], h, j, o', e', hj => by simp [laterOk] at h
  | (o1, e1) :: l, m :: ms, h, 0, o', e', hj => by
    simp at hj
    obtain ⟨rfl, rfl⟩ := hj
    simp only [laterOk, Bool.and_eq_true, Bool.or_eq_true] at h
    exact ⟨m, rfl, h.1⟩
  | (o1, e1) :: l, m :: ms, h, j + 1, o', e', hj => by
    simp only [laterOk, Bool.and_eq_true] at h
    simpa using laterOk_spec h.2 j o' e' (by simpa using hj)
theorem pairsOk_spec {ops : Array Oper} : ∀ {z : Z} {k : Nat} {ms : List Nat}, pairsOk ops k z ms = true → ∀ i j o e o' e', i < j → z[i]? = some (o, e) → z[j]? = some (o', e') → ∃ m, ms[j]? = some m ∧ (Nat.testBit m (k + i) = true ∨ (o.apart ops o' = true ∧ dynApart e e' = true))
  | [], k, ms, h, i, j, o, e, o', e', hij, hi, hj => by simp at hi
  | p :: z, k, [], h, i, j, o, e, o', e', hij, hi, hj => by simp [pairsOk] at h
  | (o1, e1) :: z, k, m :: ms, h, 0, j, o, e, o', e', hij, hi, hj => by
    simp at hi
    obtain ⟨rfl, rfl⟩ := hi
    simp only [pairsOk, Bool.and_eq_true] at h
    obtain ⟨j', rfl⟩ : ∃ j', j = j' + 1 := ⟨j - 1, by omega⟩
    simpa using laterOk_spec h.1 j' o' e' (by simpa using hj)
  | (o1, e1) :: z, k, m :: ms, h, i + 1, j, o, e, o', e', hij, hi, hj => by
    simp only [pairsOk, Bool.and_eq_true] at h
    obtain ⟨j', rfl⟩ : ∃ j', j = j' + 1 := ⟨j - 1, by omega⟩
    have := pairsOk_spec h.2 i j' o e o' e' (by omega) (by simpa using hi) (by simpa using hj)
    rw [show k + 1 + i = k + (i + 1) by omega] at this
    simpa using this

theorem foldl_mask (masks : List Nat) : ∀ (l : List Edge) (s i : Nat), Nat.testBit (l.foldl (fun s e => bif Region.binds .any e then s ||| 2 ^ e.on ||| masks.getD e.on 0 else s) s) i = true →
    Nat.testBit s i = true ∨ ∃ e ∈ l, Region.binds .any e = true ∧ (e.on = i ∨ Nat.testBit (masks.getD e.on 0) i = true)
  | [], s, i, h => .inl h
  | e :: l, s, i, h => by
    simp only [List.foldl_cons] at h
    rcases foldl_mask masks l _ i h with h1 | ⟨e', h1, h2⟩
    · cases hb : Region.binds .any e with
      | false => rw [hb] at h1; exact .inl h1
      | true =>
        rw [hb] at h1
        simp only [cond_true, Nat.testBit_or, Bool.or_eq_true] at h1
        rcases h1 with (h1 | h1) | h1
        · exact .inl h1
        · refine .inr ⟨e, by simp, hb, .inl ?_⟩
          rw [Nat.testBit_two_pow] at h1
          simpa using h1
        · exact .inr ⟨e, by simp, hb, .inr h1⟩
    · exact .inr ⟨e', List.mem_cons_of_mem _ h1, h2⟩
theorem masksOk_spec {masks : List Nat} : ∀ {l : List Oper} {ms : List Nat}, masksOk masks l ms = true → ms.length = l.length ∧ ∀ (j : Nat) (o : Oper), l[j]? = some o → ms[j]? = some (maskOf masks o)
  | [], [], h => by simp
  | [], m :: ms, h => by simp [masksOk] at h
  | o :: l, [], h => by simp [masksOk] at h
  | o :: l, m :: ms, h => by
    simp only [masksOk, Bool.and_eq_true] at h
    obtain ⟨h1, h2⟩ := masksOk_spec h.2
    refine ⟨by simp [h1], fun j o' hj => ?_⟩
    cases j with
    | zero => simp at hj; subst hj; simp [Nat.eq_of_beq_eq_true h.1]
    | succ j => simpa using h2 j o' (by simpa using hj)
theorem backOk_spec : ∀ {l : List Oper} {k : Nat}, backOk k l = true → ∀ j o e, l[j]? = some o → e ∈ o.after.toList → Region.binds .any e = true → e.on < k + j
  | [], k, h, j, o, e, hj, he, hb => by simp at hj
  | o0 :: l, k, h, 0, o, e, hj, he, hb => by
    simp at hj; subst hj
    simp only [backOk, Bool.and_eq_true, List.all_eq_true] at h
    have := h.1 e he
    simp only [hb, Bool.not_true, Bool.false_or] at this
    have := Nat.le_of_ble_eq_true this
    omega
  | o0 :: l, k, h, j + 1, o, e, hj, he, hb => by
    simp only [backOk, Bool.and_eq_true] at h
    have := backOk_spec h.2 j o e (by simpa using hj) he hb
    omega

section
variable {P : Program} {L : Nat → Option TI} {N : Nat} {w0 : World} {ok0 S0 : Nat → Prop} {ops : Array Oper} {Q : Exit → Act → World → Prop}

theorem Run.lengths {l : List Oper} {t t' : TL} {h h' : HL} {es : List Eff} (hr : Run P L N ops l t h es t' h') : es.length = l.length := by
  induction hr with
  | nil => rfl
  | step _ _ _ _ _ ih => simp [ih]
  | skip _ _ _ ih => simp [ih]
  | know _ _ ih => exact ih

/-- the lists behind the first k operations -/
theorem Run.at {l : List Oper} {t t' : TL} {h h' : HL} {es : List Eff} (hr : Run P L N ops l t h es t' h') : ∀ (i : Nat) (o : Oper), l[i]? = some o → ∃ e ti hi, es[i]? = some e ∧ dstOk N o.dst = true ∧
    lookT ti = appT (fun j => decide (j < i)) 0 (l.zip es) (lookT t) ∧ lookH hi = appH (fun j => decide (j < i)) 0 (l.zip es) (lookH h) ∧
    (∀ p, p ∈ t → p ∈ ti) ∧ (∀ p, p ∈ h → p ∈ hi) ∧ (∀ j o' e', j < i → (l.zip es)[j]? = some (o', e') → (∀ d dd, o'.dst = some d → e'.r = some dd → (d, some dd) ∈ ti) ∧ (∀ p, p ∈ e'.ch → p ∈ hi)) ∧
    ((Want (lookT ti) ops o.guard true ∧ Step P L (ev (lookT ti)) (lookH hi) o.op o.dst o.type e ∧ freshAll ti hi e.nw = true) ∨ (Want (lookT ti) ops o.guard false ∧ e = skipE)) := by
  induction hr with
  | nil => intro i o hi; simp at hi
  | @step o rest t h e es t' h' hw hs hd hf hr ih =>
    intro i o' hi
    cases i with
    | zero =>
      simp at hi; subst hi
      refine ⟨e, t, h, rfl, hd, ?_, ?_, fun _ hp => hp, fun _ hp => hp, fun j o' e' hj => by omega, .inl ⟨hw, hs, hf⟩⟩
      · funext x; exact (appT_none (fun i o e _ hS => by simp at hS)).symm
      · funext x; exact (appH_none (fun i o e _ hS => by simp at hS)).symm
    | succ i =>
      obtain ⟨e', ti, hi', g1, g2, g3, g4, g5, g6, g7, g8⟩ := ih i o' (by simpa using hi)
      refine ⟨e', ti, hi', by simpa using g1, g2, ?_, ?_, ?_, ?_, ?_, g8⟩
      · rw [g3, lookT_put]
        simp only [List.zip_cons_cons, appT]
        funext x
        refine appT_agree ?_ (fun q o1 e1 _ _ => decide_eq_decide.2 (by omega))
        simp
      · rw [g4, lookH_ch]
        simp only [List.zip_cons_cons, appH]
        funext x
        refine appH_agree ?_ (fun q o1 e1 _ _ => decide_eq_decide.2 (by omega))
        simp
      · intro p hp
        refine g5 p ?_
        unfold putL
        split
        · exact List.mem_cons_of_mem _ hp
        · exact hp
      · intro p hp; exact g6 p (List.mem_append_right _ hp)
      · intro j o1 e1 hj hz
        cases j with
        | zero =>
          simp only [List.zip_cons_cons] at hz
          simp at hz
          obtain ⟨rfl, rfl⟩ := hz
          refine ⟨fun d dd h1 h2 => g5 _ ?_, fun p hp => g6 p (List.mem_append_left _ hp)⟩
          unfold putL
          rw [h1, h2]; simp
        | succ j =>
          simp only [List.zip_cons_cons] at hz
          exact g7 j o1 e1 (by omega) (by simpa using hz)
  | @skip o rest t h es t' h' hw hd hr ih =>
    intro i o' hi
    cases i with
    | zero =>
      simp at hi; subst hi
      refine ⟨skipE, t, h, rfl, hd, ?_, ?_, fun _ hp => hp, fun _ hp => hp, fun j o' e' hj => by omega, .inr ⟨hw, rfl⟩⟩
      · funext x; exact (appT_none (fun i o e _ hS => by simp at hS)).symm
      · funext x; exact (appH_none (fun i o e _ hS => by simp at hS)).symm
    | succ i =>
      obtain ⟨e', ti, hi', g1, g2, g3, g4, g5, g6, g7, g8⟩ := ih i o' (by simpa using hi)
      refine ⟨e', ti, hi', by simpa using g1, g2, ?_, ?_, ?_, ?_, ?_, g8⟩
      · rw [g3, lookT_put]
        simp only [List.zip_cons_cons, appT]
        funext x
        refine appT_agree ?_ (fun q o1 e1 _ _ => decide_eq_decide.2 (by omega))
        simp [skipE]
      · rw [g4]
        simp only [List.zip_cons_cons, appH]
        funext x
        refine appH_agree ?_ (fun q o1 e1 _ _ => decide_eq_decide.2 (by omega))
        simp [skipE, chH]
      · intro p hp
        refine g5 p ?_
        unfold putL
        split
        · exact List.mem_cons_of_mem _ hp
        · exact hp
      · intro p hp; exact g6 p hp
      · intro j o1 e1 hj hz
        cases j with
        | zero =>
          simp only [List.zip_cons_cons] at hz
          simp at hz
          obtain ⟨rfl, rfl⟩ := hz
          refine ⟨fun d dd h1 h2 => g5 _ ?_, fun p hp => by simp [skipE] at hp⟩
          unfold putL
          simp only [skipE] at h2
          rw [h1, ← h2]; simp
        | succ j =>
          simp only [List.zip_cons_cons] at hz
          exact g7 j o1 e1 (by omega) (by simpa using hz)
  | know hk hr ih =>
    intro i o' hi
    obtain ⟨e', ti, hi', g1, g2, g3, g4, g5, g6, g7, g8⟩ := ih i o' hi
    refine ⟨e', ti, hi', g1, g2, by rw [g3, lookT_know hk], g4, fun p hp => g5 p (List.mem_cons_of_mem _ hp), g6, g7, g8⟩

theorem Run.final {l : List Oper} {t t' : TL} {h h' : HL} {es : List Eff} (hr : Run P L N ops l t h es t' h') : ∀ (S : Nat → Bool) (k : Nat), (∀ i, i < l.length → S (k + i) = true) → lookT t' = appT S k (l.zip es) (lookT t) ∧ lookH h' = appH S k (l.zip es) (lookH h) := by
  induction hr with
  | nil => intro S k _; exact ⟨rfl, rfl⟩
  | @step o rest t h e es t' h' hw hs hd hf hr ih =>
    intro S k hS
    obtain ⟨g1, g2⟩ := ih S (k + 1) (fun i hi => by have := hS (i + 1) (by simp; omega); rwa [show k + (i + 1) = k + 1 + i by omega] at this)
    have h0 := hS 0 (by simp)
    rw [Nat.add_zero] at h0
    simp only [List.zip_cons_cons, appT, appH, h0, cond_true]
    rw [g1, g2, lookT_put, lookH_ch]
    exact ⟨rfl, rfl⟩
  | @skip o rest t h es t' h' hw hd hr ih =>
    intro S k hS
    obtain ⟨g1, g2⟩ := ih S (k + 1) (fun i hi => by have := hS (i + 1) (by simp; omega); rwa [show k + (i + 1) = k + 1 + i by omega] at this)
    have h0 := hS 0 (by simp)
    rw [Nat.add_zero] at h0
    simp only [List.zip_cons_cons, appT, appH, h0, cond_true]
    rw [g1, g2, lookT_put]
    exact ⟨rfl, rfl⟩
  | know hk hr ih =>
    intro S k hS
    obtain ⟨g1, g2⟩ := ih S k hS
    rw [g1, g2, lookT_know hk]
    exact ⟨rfl, rfl⟩

/-- the set of what has run, with all that must run before -/
structure Done (ops : Array Oper) (masks : List Nat) (S : Nat → Bool) : Prop where
  lt : ∀ j, S j = true → j < ops.size
  back : ∀ j m i, S j = true → masks[j]? = some m → Nat.testBit m i = true → S i = true

def addS (S : Nat → Bool) (i : Nat) : Nat → Bool := fun j => bif Nat.beq j i then true else S j
theorem addS_same (S : Nat → Bool) (i : Nat) : addS S i i = true := by simp [addS, Nat.beq_refl]
theorem addS_other {S : Nat → Bool} {i j : Nat} (h : j ≠ i) : addS S i j = S j := by simp [addS, beq_no h]

/-- the check at work: what a set comes to, the next operation added, is what it does behind the set -/
theorem draw_step {t t' : TL} {h h' : HL} {es : List Eff} {masks : List Nat} (hr : Run P L N ops ops.toList t h es t' h') (hp : pairsOk ops 0 (ops.toList.zip es) masks = true)
    {S : Nat → Bool} (hS : Done ops masks S) {i : Nat} {o : Oper} (hi : ops[i]? = some o) (hno : S i = false) (hpre : ∀ m j, masks[i]? = some m → Nat.testBit m j = true → S j = true) :
    ∃ e, es[i]? = some e ∧ dstOk N o.dst = true ∧
      ((Want (appT S 0 (ops.toList.zip es) (lookT t)) ops o.guard true ∧ Step P L (ev (appT S 0 (ops.toList.zip es) (lookT t))) (appH S 0 (ops.toList.zip es) (lookH h)) o.op o.dst o.type e ∧
        ∀ id ∈ e.nw, Fresh (appT S 0 (ops.toList.zip es) (lookT t)) (appH S 0 (ops.toList.zip es) (lookH h)) id) ∨ (Want (appT S 0 (ops.toList.zip es) (lookT t)) ops o.guard false ∧ e = skipE)) ∧
      putT (appT S 0 (ops.toList.zip es) (lookT t)) o.dst e.r = appT (addS S i) 0 (ops.toList.zip es) (lookT t) ∧ chH (appH S 0 (ops.toList.zip es) (lookH h)) e.ch = appH (addS S i) 0 (ops.toList.zip es) (lookH h) := by
  have hil : ops.toList[i]? = some o := by simpa using hi
  obtain ⟨e, ti, hi', g1, g2, g3, g4, g5, g6, g7, g8⟩ := hr.at i o hil
  have hz : (ops.toList.zip es)[i]? = some (o, e) := by rw [List.getElem?_zip_eq_some]; exact ⟨hil, g1⟩
  have hpairs := pairsOk_spec hp
  -- two operations of which one is in the set and the other is this one, on the wrong side of the text, are apart
  have early : ∀ j o' e', (ops.toList.zip es)[j]? = some (o', e') → j < i → S j = false → o'.apart ops o = true ∧ dynApart e' e = true := by
    intro j o' e' hj hlt hsj
    obtain ⟨m, hm, hor⟩ := hpairs j i o' e' o e hlt hj hz
    rw [Nat.zero_add] at hor
    rcases hor with hb | hb
    · have := hpre m j hm hb; rw [this] at hsj; cases hsj
    · exact hb
  have late : ∀ j o' e', (ops.toList.zip es)[j]? = some (o', e') → i < j → S j = true → o.apart ops o' = true ∧ dynApart e e' = true := by
    intro j o' e' hj hlt hsj
    obtain ⟨m, hm, hor⟩ := hpairs i j o e o' e' hlt hz hj
    rw [Nat.zero_add] at hor
    rcases hor with hb | hb
    · have := hS.back j m i hsj hm hb; rw [this] at hno; cases hno
    · exact hb
  -- a slot that this one looks at is as in the text
  have slot : ∀ x, x ∈ o.looksAt ops → appT S 0 (ops.toList.zip es) (lookT t) x = lookT ti x := by
    intro x hx
    rw [g3]
    refine appT_agree rfl (fun j o' e' hj hd => ?_)
    rw [Nat.zero_add]
    rcases Nat.lt_trichotomy j i with hlt | rfl | hlt
    · rw [decide_eq_true hlt]
      cases hsj : S j with
      | true => rfl
      | false =>
        have := (early j o' e' hj hlt hsj).1
        exact absurd hx ((Oper.apart_spec this).1 x hd)
    · rw [hno]; simp
    · rw [decide_eq_false (by omega)]
      cases hsj : S j with
      | false => rfl
      | true =>
        have := (late j o' e' hj hlt hsj).1
        exact absurd hx ((Oper.apart_spec this).2.2 x hd)
  have objs : ∀ x, x ∈ e.tch → appH S 0 (ops.toList.zip es) (lookH h) x = lookH hi' x := by
    intro x hx
    rw [g4]
    refine appH_agree rfl (fun j o' e' hj hd => ?_)
    rw [Nat.zero_add]
    rcases Nat.lt_trichotomy j i with hlt | rfl | hlt
    · rw [decide_eq_true hlt]
      cases hsj : S j with
      | true => rfl
      | false =>
        have := (early j o' e' hj hlt hsj).2
        simp only [dynApart, Bool.and_eq_true] at this
        exact absurd (List.mem_append_left _ hx) (disj_spec this.1.1.1 x hd)
    · rw [hno]; simp
    · rw [decide_eq_false (by omega)]
      cases hsj : S j with
      | false => rfl
      | true =>
        have := (late j o' e' hj hlt hsj).2
        simp only [dynApart, Bool.and_eq_true] at this
        exact absurd hx (disj_spec this.1.1.2 x hd)
  have hops : ∀ x ∈ o.op.operands, ev (appT S 0 (ops.toList.zip es) (lookT t)) x = ev (lookT ti) x := by
    intro x hx
    cases x with
    | tmp d =>
      simp only [ev]
      refine slot d ?_
      unfold Oper.looksAt
      refine List.mem_append_left _ ?_
      simp only [List.mem_filterMap]
      exact ⟨.tmp d, by simpa using hx, rfl⟩
    | _ => rfl
  have hwant : ∀ r, Want (lookT ti) ops o.guard r → Want (appT S 0 (ops.toList.zip es) (lookT t)) ops o.guard r := by
    intro r hw
    have hl : ∀ j d want, o.guard = some (j, want) → dstOf ops j = some d → d ∈ o.looksAt ops := by
      intro j d want hg hd
      unfold Oper.looksAt
      refine List.mem_append_right _ ?_
      rw [hg]
      unfold dstOf at hd
      simp [hd]
    generalize hgd : o.guard = gd at hw
    cases hw with
    | free => exact .free
    | told hd h hr => exact .told hd (by rw [slot _ (hl _ _ _ hgd hd)]; exact h) hr
    | past hd h => exact .past hd (by rw [slot _ (hl _ _ _ hgd hd)]; exact h)
  refine ⟨e, g1, g2, ?_, ?_, ?_⟩
  · rcases g8 with ⟨h1, h2, h3⟩ | ⟨h1, h2⟩
    · refine .inl ⟨hwant _ h1, h2.congr hops objs, fun id hid => ?_⟩
      obtain ⟨f1, f2⟩ := freshAll_spec h3 id hid
      have noLate : ∀ j o' e', (ops.toList.zip es)[j]? = some (o', e') → i < j → S j = true → id ∉ effRefs e' := by
        intro j o' e' hj hlt hsj
        have := (late j o' e' hj hlt hsj).2
        simp only [dynApart, Bool.and_eq_true] at this
        exact disj_spec this.1.2 id hid
      constructor
      · intro x d hx
        rcases appT_src hx with hx | ⟨j, o', e', hj, hsj, hrr⟩
        · exact freshT_mem f1 x d (g5 _ (lookT_mem hx))
        · rw [Nat.zero_add] at hsj
          have hne : j ≠ i := by rintro rfl; rw [hno] at hsj; cases hsj
          rcases Nat.lt_or_ge j i with hlt | hge
          · cases hdd : o'.dst with
            | none =>
              -- a value that no slot takes is not seen
              have hx' := hx
              have := appT_src' hx'
              rcases this with h1 | ⟨j2, o2, e2, hj2, hs2, hd2, hr2⟩
              · exact freshT_mem f1 x d (g5 _ (lookT_mem h1))
              · rw [Nat.zero_add] at hs2
                have hne2 : j2 ≠ i := by rintro rfl; rw [hno] at hs2; cases hs2
                rcases Nat.lt_or_ge j2 i with hlt2 | hge2
                · exact freshT_mem f1 x d ((g7 j2 o2 e2 hlt2 hj2).1 x d hd2 hr2)
                · have := noLate j2 o2 e2 hj2 (by omega) hs2
                  unfold effRefs at this
                  rw [hr2] at this
                  exact fun hm => this (List.mem_append_left _ hm)
            | some dd => exact freshT_mem f1 dd d ((g7 j o' e' hlt hj).1 dd d hdd hrr)
          · have := noLate j o' e' hj (by omega) hsj
            unfold effRefs at this
            rw [hrr] at this
            exact fun hm => this (List.mem_append_left _ hm)
      · intro x ob hx
        rcases appH_src hx with hx | ⟨j, o', e', hj, hsj, hrr⟩
        · exact freshH_mem f2 x ob (g6 _ (lookH_mem hx))
        · rw [Nat.zero_add] at hsj
          have hne : j ≠ i := by rintro rfl; rw [hno] at hsj; cases hsj
          rcases Nat.lt_or_ge j i with hlt | hge
          · exact freshH_mem f2 x ob ((g7 j o' e' hlt hj).2 _ hrr)
          · have := noLate j o' e' hj (by omega) hsj
            unfold effRefs at this
            obtain ⟨q1, q2⟩ := chRefs_mem hrr
            refine ⟨?_, fun hm => this (List.mem_append_right _ (q2 _ hm))⟩
            rintro rfl
            exact this (List.mem_append_right _ q1)
    · exact .inr ⟨hwant _ h1, h2⟩
  · funext x
    by_cases hx : o.dst = some x
    · simp only [putT, if_pos hx]
      refine (appT_last (i := i) hz (by rw [Nat.zero_add]; exact addS_same S i) hx (fun j o' e' hij hj hsj => ?_)).symm
      rw [Nat.zero_add, addS_other (by omega)] at hsj
      exact (Oper.apart_spec (late j o' e' hj hij hsj).1).2.1 x hx
    · simp only [putT, if_neg hx]
      refine appT_agree rfl (fun j o' e' hj hd => ?_)
      rw [Nat.zero_add]
      have : j ≠ i := by rintro rfl; rw [hz] at hj; cases hj; exact hx hd
      rw [addS_other this]
  · funext x
    by_cases hx : x ∈ keys e
    · refine (appH_last (i := i) _ hz (by rw [Nat.zero_add]; exact addS_same S i) hx (fun j o' e' hij hj hsj => ?_)).symm
      rw [Nat.zero_add, addS_other (by omega)] at hsj
      have := (late j o' e' hj hij hsj).2
      simp only [dynApart, Bool.and_eq_true] at this
      exact fun hm => disj_spec this.1.1.1 x hx (List.mem_append_right _ hm)
    · rw [chH_out hx]
      refine appH_agree rfl (fun j o' e' hj hd => ?_)
      rw [Nat.zero_add]
      have : j ≠ i := by rintro rfl; rw [hz] at hj; cases hj; exact hx hd
      rw [addS_other this]

/-- a region that draws its order -/
theorem Run.drawn (hL : LayOk P L) {t t' : TL} {h h' : HL} {es : List Eff} {masks : List Nat} (hr : Run P L N ops ops.toList t h es t' h') (hst : statOk ops masks = true) (hp : pairsOk ops 0 (ops.toList.zip es) masks = true)
    (hQ : ∀ β' ok' a' w', Conc N w0 ok0 S0 (lookT t') (lookH h') β' ok' a' w' → Q .normal a' w') :
    ∀ (fuel : Nat) (listed : Array Bool) {β : Nat → Option Nat} {ok : Nat → Prop} {a : Act} {w : World}, listed.size = ops.size → (listed.toList.count false) = fuel → Done ops masks (fun j => listed.getD j false) →
      Conc N w0 ok0 S0 (appT (fun j => listed.getD j false) 0 (ops.toList.zip es) (lookT t)) (appH (fun j => listed.getD j false) 0 (ops.toList.zip es) (lookH h)) β ok a w → wpAny P .any ops Q fuel listed a w := by
  simp only [statOk, Bool.and_eq_true] at hst
  obtain ⟨⟨hm, hb⟩, _⟩ := hst
  obtain ⟨hml, hm⟩ := masksOk_spec hm
  have hb := backOk_spec hb
  have hel := hr.lengths
  -- where nothing is ready, all has run
  have allDone : ∀ (listed : Array Bool), listed.size = ops.size → Region.ready .any ops listed = [] → ∀ j, j < ops.size → listed.getD j false = true := by
    intro listed hsz hrd j
    induction j using Nat.strongRecOn with
    | _ j ih =>
      intro hj
      cases hl : listed.getD j false with
      | true => rfl
      | false =>
        exfalso
        have : j ∈ Region.ready .any ops listed := by
          unfold Region.ready
          simp only [List.mem_filter, List.mem_range, Bool.and_eq_true, Bool.not_eq_true']
          refine ⟨hj, ?_, ?_⟩
          · rw [Array.getD_eq_getD_getElem?, Array.getElem?_eq_getElem (by omega)] at hl ⊢
            simpa using hl
          · rw [Array.getElem?_eq_getElem hj]
            simp only [Option.map_some, Option.getD_some, Array.all_eq_true']
            intro ed hed
            cases hbd : Region.binds .any ed with
            | false => rfl
            | true =>
              simp only [Bool.not_true, Bool.false_or]
              have hlt := hb j ops[j] ed (by simp [hj]) (by simpa using hed) hbd
              exact ih ed.on (by omega) (by omega)
        rw [hrd] at this
        simp at this
  have finish : ∀ (listed : Array Bool) {β : Nat → Option Nat} {ok : Nat → Prop} {a : Act} {w : World}, listed.size = ops.size → Region.ready .any ops listed = [] →
      Conc N w0 ok0 S0 (appT (fun j => listed.getD j false) 0 (ops.toList.zip es) (lookT t)) (appH (fun j => listed.getD j false) 0 (ops.toList.zip es) (lookH h)) β ok a w → Q .normal a w := by
    intro listed β ok a w hsz hrd hc
    obtain ⟨f1, f2⟩ := hr.final (fun j => listed.getD j false) 0 (fun i hi => by rw [Nat.zero_add]; exact allDone listed hsz hrd i (by simpa using hi))
    rw [← f1, ← f2] at hc
    exact hQ _ _ _ _ hc
  intro fuel
  induction fuel with
  | zero =>
    intro listed β ok a w hsz hcnt hS hc
    have hrd : Region.ready .any ops listed = [] := by
      have hall : ∀ j, j < ops.size → listed.getD j false = true := by
        intro j hj
        cases hl : listed.getD j false with
        | true => rfl
        | false =>
          exfalso
          have : false ∈ listed.toList := by
            rw [Array.getD_eq_getD_getElem?, Array.getElem?_eq_getElem (by omega)] at hl
            simp only [Option.getD_some] at hl
            rw [← hl]; simp
          have := List.count_pos_iff.2 this
          omega
      unfold Region.ready
      rw [List.filter_eq_nil_iff]
      intro j hj
      simp only [List.mem_range] at hj
      have := hall j hj
      rw [Array.getD_eq_getD_getElem?, Array.getElem?_eq_getElem (by omega)] at this
      simp only [Option.getD_some] at this
      rw [Array.getD_eq_getD_getElem?, Array.getElem?_eq_getElem (by omega)]
      simp [this]
    exact ⟨hrd, finish listed hsz hrd hc⟩
  | succ fuel ih =>
    intro listed β ok a w hsz hcnt hS hc
    refine ⟨fun hrd => finish listed hsz hrd hc, fun i hi => ?_⟩
    unfold Region.ready at hi
    simp only [List.mem_filter, List.mem_range, Bool.and_eq_true, Bool.not_eq_true'] at hi
    obtain ⟨hlt, hl, hed⟩ := hi
    have ho : ops[i]? = some ops[i] := Array.getElem?_eq_getElem hlt
    rw [ho] at hed
    simp only [Option.map_some, Option.getD_some, Array.all_eq_true'] at hed
    have hlf : listed.getD i false = false := by
      rw [Array.getD_eq_getD_getElem?, Array.getElem?_eq_getElem (by omega)] at hl ⊢
      simpa using hl
    have hpre : ∀ m j, masks[i]? = some m → Nat.testBit m j = true → listed.getD j false = true := by
      intro m j hmi hbit
      rw [hm i ops[i] (by simp [hlt])] at hmi
      cases hmi
      rcases foldl_mask masks _ 0 j hbit with h0 | ⟨ed, h1, h2, h3⟩
      · simp at h0
      · have h4 := hed ed (by simpa using h1)
        simp only [h2, Bool.not_true, Bool.false_or] at h4
        rcases h3 with rfl | h3
        · exact h4
        · have hon : ed.on < i := by have := hb i ops[i] ed (by simp [hlt]) h1 h2; omega
          refine hS.back ed.on (masks.getD ed.on 0) j h4 ?_ h3
          have : ed.on < masks.length := by rw [hml]; simp; omega
          simp [List.getD_eq_getElem?_getD, List.getElem?_eq_getElem this]
    obtain ⟨e, g1, g2, g3, g4, g5⟩ := draw_step hr hp hS ho hlf hpre
    have hset : ∀ j, (listed.setIfInBounds i true).getD j false = addS (fun j => listed.getD j false) i j := by
      intro j
      by_cases hj : j = i
      · subst hj
        rw [addS_same]
        simp [Array.getD, hsz, hlt]
      · rw [addS_other hj]
        simp only [Array.getD_eq_getD_getElem?]
        rw [Array.getElem?_setIfInBounds_ne (by omega)]
    have hfun : (fun j => (listed.setIfInBounds i true).getD j false) = addS (fun j => listed.getD j false) i := funext hset
    refine wpOp_of hL hc ho g2 g3 (fun β' ok' a' w' hc' => ?_)
    refine ih (listed.setIfInBounds i true) (β := β') (ok := ok') (by simpa using hsz) ?_ ?_ ?_
    · have hil : i < listed.toList.length := by simpa [hsz] using hlt
      have e1 : listed.toList[i] = false := by
        rw [Array.getD_eq_getD_getElem?, Array.getElem?_eq_getElem (by omega)] at hlf
        simpa using hlf
      rw [Array.toList_setIfInBounds, List.count_set hil, e1]
      simp at hcnt ⊢
      omega
    · rw [hfun]
      refine ⟨fun j hj => ?_, fun j m k hj hmj hbit => ?_⟩
      · by_cases he : j = i
        · subst he; exact hlt
        · rw [addS_other he] at hj; exact hS.lt j hj
      · by_cases he : j = i
        · subst he
          have := hpre m k hmj hbit
          by_cases hk : k = j
          · subst hk; exact addS_same _ _
          · rw [addS_other hk]; exact this
        · rw [addS_other he] at hj
          have := hS.back j m k hj hmj hbit
          by_cases hk : k = i
          · subst hk; exact addS_same _ _
          · rw [addS_other hk]; exact this
    · rw [hfun, ← g4, ← g5]
      exact hc'
end
end Fw

/-! ## FwL: A program logic over data: code and functions. -/
namespace Fw
open Go Go.RowKit
set_option linter.unusedVariables false
set_option linter.unusedSimpArgs false
set_option linter.unusedSectionVars false

/-- how a piece of code ends -/
inductive X where
  | normal
  | exit (id : Nat)
  | ret

def X.of : Exit → Option X
  | .normal => some .normal
  | .exit id => some (.exit id)
  | .ret => some .ret
  | _ => none

abbrev KK := X → TL → HL → Prop

/-- code, from slots and objects on, comes to K -/
def Awp (P : Program) (N : Nat) (c : Code) (K : KK) (t : TL) (h : HL) : Prop :=
  ∀ (w0 : World) (ok0 S0 : Nat → Prop) (β : Nat → Option Nat) (ok : Nat → Prop) (a : Act) (w : World), Conc N w0 ok0 S0 (lookT t) (lookH h) β ok a w →
    c.wp P (fun e a' w' => ∃ x t' h' β' ok', X.of e = some x ∧ K x t' h' ∧ Conc N w0 ok0 S0 (lookT t') (lookH h') β' ok' a' w') a w

def AR (P : Program) (L : Nat → Option TI) (N : Nat) (ops : Array Oper) (l : List Oper) (K : List Eff → TL → HL → Prop) (t : TL) (h : HL) : Prop := ∃ es t' h', Run P L N ops l t h es t' h' ∧ K es t' h'

section
variable {P : Program} {L : Nat → Option TI} {N : Nat} {ops : Array Oper} {K : KK} {t t' : TL} {h h' : HL}

theorem awp_mono {c : Code} {K' : KK} (hc : Awp P N c K t h) (hk : ∀ x t h, K x t h → K' x t h) : Awp P N c K' t h :=
  fun w0 ok0 S0 β ok a w hcc => wp_mono (hc w0 ok0 S0 β ok a w hcc) fun e a' w' ⟨x, t', h', β', ok', h1, h2, h3⟩ => ⟨x, t', h', β', ok', h1, hk _ _ _ h2, h3⟩

theorem awp_skip (hk : K .normal t h) : Awp P N .skip K t h := fun w0 ok0 S0 β ok a w hc => wp_skip ⟨.normal, t, h, β, ok, rfl, hk, hc⟩
theorem awp_label {l : Nat} (hk : K .normal t h) : Awp P N (.label l) K t h := fun w0 ok0 S0 β ok a w hc => wp_label ⟨.normal, t, h, β, ok, rfl, hk, hc⟩
theorem awp_ret (hk : K .ret t h) : Awp P N .ret K t h := fun w0 ok0 S0 β ok a w hc => wp_ret ⟨.ret, t, h, β, ok, rfl, hk, hc⟩
theorem awp_exit {id : Nat} (hk : K (.exit id) t h) : Awp P N (.exit id) K t h := fun w0 ok0 S0 β ok a w hc => wp_exit ⟨.exit id, t, h, β, ok, rfl, hk, hc⟩

def seqK (P : Program) (N : Nat) (y : Code) (K : KK) : KK := fun e t h => match e with
  | .normal => Awp P N y K t h
  | e => K e t h
theorem awp_seq {x y : Code} (hx : Awp P N x (seqK P N y K) t h) : Awp P N (.seq x y) K t h := by
  intro w0 ok0 S0 β ok a w hc
  refine wp_seq (wp_mono (hx w0 ok0 S0 β ok a w hc) ?_)
  rintro e a' w' ⟨x, t', h', β', ok', h1, h2, h3⟩
  cases e <;> simp only [X.of, Option.some.injEq, reduceCtorEq] at h1 <;> subst h1
  · exact h2 w0 ok0 S0 β' ok' a' w' h3
  · exact ⟨_, t', h', β', ok', rfl, h2, h3⟩
  · exact ⟨_, t', h', β', ok', rfl, h2, h3⟩

theorem awp_cond {c : Operand} {x y : Code} {b : Bool} (hc : ev (lookT t) c = some (.im (.bool b))) (h1 : b = true → Awp P N x K t h) (h2 : b = false → Awp P N y K t h) : Awp P N (.cond c x y) K t h := by
  intro w0 ok0 S0 β ok a w hcc
  have := rd_bool hcc hc
  exact wp_cond_split this (fun hb => h1 hb w0 ok0 S0 β ok a w hcc) (fun hb => h2 hb w0 ok0 S0 β ok a w hcc)

theorem awp_condT {c : Operand} {x y : Code} (hc : ev (lookT t) c = some (.im (.bool true))) (h1 : Awp P N x K t h) : Awp P N (.cond c x y) K t h := awp_cond hc (fun _ => h1) (fun h => by cases h)
theorem awp_condF {c : Operand} {x y : Code} (hc : ev (lookT t) c = some (.im (.bool false))) (h2 : Awp P N y K t h) : Awp P N (.cond c x y) K t h := awp_cond hc (fun h => by cases h) (fun _ => h2)

def blockK (id : Nat) (K : KK) : KK := fun e t h => match e with
  | .exit j => bif Nat.beq j id then K .normal t h else K (.exit j) t h
  | e => K e t h
theorem awp_block {id : Nat} {c : Code} (hc : Awp P N c (blockK id K) t h) : Awp P N (.block id c) K t h := by
  intro w0 ok0 S0 β ok a w hcc
  refine wp_block (wp_mono (hc w0 ok0 S0 β ok a w hcc) ?_)
  rintro e a' w' ⟨x, t', h', β', ok', h1, h2, h3⟩
  cases e <;> simp only [X.of, Option.some.injEq, reduceCtorEq] at h1 <;> subst h1
  · exact ⟨_, t', h', β', ok', rfl, h2, h3⟩
  · rename_i j
    simp only [blockK] at h2
    by_cases hj : j = id
    · subst hj
      simp only [Nat.beq_refl, cond_true] at h2
      simp only [Exit.inBlock, if_true]
      exact ⟨_, t', h', β', ok', rfl, h2, h3⟩
    · rw [beq_no hj] at h2
      simp only [Exit.inBlock, if_neg hj]
      exact ⟨_, t', h', β', ok', rfl, h2, h3⟩
  · exact ⟨_, t', h', β', ok', rfl, h2, h3⟩
theorem awp_scope {c : Code} (hc : Awp P N c K t h) : Awp P N (.scope c) K t h := by
  intro w0 ok0 S0 β ok a w hcc
  refine wp_scope_straight (wp_mono (hc w0 ok0 S0 β ok a w hcc) ?_)
  rintro e a' w' ⟨x, t', h', β', ok', h1, h2, h3⟩
  cases e <;> simp only [X.of, Option.some.injEq, reduceCtorEq] at h1 <;> subst h1 <;> exact ⟨_, t', h', β', ok', rfl, h2, h3⟩

theorem awp_region {id : Nat} (hL : LayOk P L) (hr : AR P L N ops ops.toList (fun _ => K .normal) t h) : Awp P N (.region id ops false) K t h := by
  intro w0 ok0 S0 β ok a w hc
  obtain ⟨es, t', h', hr, hk⟩ := hr
  refine wp_region ?_
  rw [List.range_eq_range']
  exact hr.plain hL 0 rfl hc (fun β' ok' a' w' hc' => ⟨.normal, t', h', β', ok', rfl, hk, hc'⟩)

theorem done_none (masks : List Nat) : Done ops masks (fun j => (Array.replicate ops.size false).getD j false) := by
  have : ∀ j, (Array.replicate ops.size false).getD j false = false := by
    intro j
    simp only [Array.getD_eq_getD_getElem?, Array.getElem?_replicate]
    split <;> rfl
  exact ⟨(fun j hj => by rw [this] at hj; cases hj), (fun j m i hj => by rw [this] at hj; cases hj)⟩

theorem awp_draw {id : Nat} (hL : LayOk P L) (hm : P.follows .mixedOrders = true) (masks : List Nat) (hst : statOk ops masks = true) (hr : AR P L N ops ops.toList (fun es t h => pairsOk ops 0 (ops.toList.zip es) masks = true ∧ K .normal t h) t h) : Awp P N (.region id ops true) K t h := by
  intro w0 ok0 S0 β ok a w hc
  obtain ⟨es, t', h', hr, hp, hk⟩ := hr
  refine wp_region_any hm ?_
  have hS := done_none (ops := ops) masks
  have hnone : ∀ j, (Array.replicate ops.size false).getD j false = false := by
    intro j
    simp only [Array.getD_eq_getD_getElem?, Array.getElem?_replicate]
    split <;> rfl
  refine hr.drawn hL hst hp (fun β' ok' a' w' hc' => ⟨.normal, t', h', β', ok', rfl, hk, hc'⟩) ops.size (Array.replicate ops.size false) (by simp) (by simp) hS (β := β) (ok := ok) ?_
  have e1 : appT (fun j => (Array.replicate ops.size false).getD j false) 0 (ops.toList.zip es) (lookT t) = lookT t := by
    funext x
    exact appT_none (fun i o e _ hh => by rw [hnone] at hh; cases hh)
  have e2 : appH (fun j => (Array.replicate ops.size false).getD j false) 0 (ops.toList.zip es) (lookH h) = lookH h := by
    funext x
    exact appH_none (fun i o e _ hh => by rw [hnone] at hh; cases hh)
  rw [e1, e2]
  exact hc.drew _

/-- .. with the masks reckoned -/
theorem awp_drawn {id : Nat} (hL : LayOk P L) (hm : P.follows .mixedOrders = true) (hst : statOk ops (masksGo [] ops.toList) = true) (hr : AR P L N ops ops.toList (fun es t h => pairsOk ops 0 (ops.toList.zip es) (masksGo [] ops.toList) = true ∧ K .normal t h) t h) : Awp P N (.region id ops true) K t h := awp_draw hL hm _ hst hr

/-- fewer claims -/
def Sub (t : TL) (h : HL) (t' : TL) (h' : HL) : Prop := (∀ i d, lookT t' i = some d → lookT t i = some d) ∧ (∀ i o, lookH h' i = some o → lookH h i = some o)
theorem awp_sub {c : Code} (hs : Sub t h t' h') (hc : Awp P N c K t' h') : Awp P N c K t h :=
  fun w0 ok0 S0 β ok a w hcc => hc w0 ok0 S0 β ok a w (hcc.weaken hs.1 hs.2)

theorem Sub.refl (t : TL) (h : HL) : Sub t h t h := ⟨fun _ _ h => h, fun _ _ h => h⟩
theorem sub_of {t : TL} {h : HL} {t' : List (Nat × D)} {h' : List (Nat × O)} (h1 : ∀ p ∈ t', lookT t p.1 = some p.2) (h2 : ∀ p ∈ h', lookH h p.1 = some p.2) :
    Sub t h (t'.map fun p => (p.1, some p.2)) (h'.map fun p => (p.1, some p.2)) := by
  constructor
  · intro i d hd
    have := lookT_mem hd
    simp only [List.mem_map] at this
    obtain ⟨p, hp, he⟩ := this
    simp only [Prod.mk.injEq, Option.some.injEq] at he
    obtain ⟨rfl, rfl⟩ := he
    exact h1 p hp
  · intro i d hd
    have := lookH_mem hd
    simp only [List.mem_map] at this
    obtain ⟨p, hp, he⟩ := this
    simp only [Prod.mk.injEq, Option.some.injEq] at he
    obtain ⟨rfl, rfl⟩ := he
    exact h2 p hp

/-- a loop: at its head the claims I x, for some x; each round lowers μ -/
theorem awp_loop {A : Type} {c : Code} (It : A → TL) (Ih : A → HL) (μ : A → Nat) (x0 : A) (h0 : Sub t h (It x0) (Ih x0))
    (round : ∀ x, Awp P N c (fun e t' h' => match e with | .normal => ∃ y, Sub t' h' (It y) (Ih y) ∧ μ y < μ x | e => K e t' h') (It x) (Ih x)) : Awp P N (.loop c) K t h := by
  intro w0 ok0 S0 β ok a w hc
  have key : ∀ n x β ok a w, μ x = n → Conc N w0 ok0 S0 (lookT (It x)) (lookH (Ih x)) β ok a w →
      (Code.loop c).wp P (fun e a' w' => ∃ x t' h' β' ok', X.of e = some x ∧ K x t' h' ∧ Conc N w0 ok0 S0 (lookT t') (lookH h') β' ok' a' w') a w := by
    intro n x β ok a w hn hcc
    let I : Act → World → Nat → Prop := fun a w n => ∃ x β ok, μ x = n ∧ Conc N w0 ok0 S0 (lookT (It x)) (lookH (Ih x)) β ok a w
    have hI : I a w n := ⟨x, β, ok, hn, hcc⟩
    refine wp_loop (fun a w => ∃ n, I a w n) (fun a w => Classical.epsilon fun n => I a w n ∧ ∀ m, I a w m → n ≤ m) ⟨n, hI⟩ ?_
    rintro a w ⟨n, hI⟩
    -- the least measure that fits
    have least : ∀ (a : Act) (w : World), (∃ n, I a w n) → ∃ n, I a w n ∧ ∀ m, I a w m → n ≤ m := by
      rintro a w ⟨n, hn⟩
      induction n using Nat.strongRecOn with
      | _ n ih =>
        by_cases hh : ∃ m, m < n ∧ I a w m
        · obtain ⟨m, hm, hI⟩ := hh; exact ih m hm hI
        · exact ⟨n, hn, fun m hm => by rcases Nat.lt_or_ge m n with h | h; exact absurd ⟨m, h, hm⟩ hh; exact h⟩
    have heps := Classical.epsilon_spec (least a w ⟨n, hI⟩)
    obtain ⟨x, β, ok, hx, hcx⟩ := heps.1
    refine wp_mono (round x w0 ok0 S0 β ok a w hcx) ?_
    rintro e a' w' ⟨xe, t', h', β', ok', h1, h2, h3⟩
    cases e <;> simp only [X.of, Option.some.injEq, reduceCtorEq] at h1 <;> subst h1
    · obtain ⟨y, hs, hlt⟩ := h2
      have hIy : I a' w' (μ y) := ⟨y, β', ok', rfl, h3.weaken hs.1 hs.2⟩
      refine ⟨⟨_, hIy⟩, ?_⟩
      have h4 := Classical.epsilon_spec (least a' w' ⟨_, hIy⟩)
      have h5 := h4.2 _ hIy
      exact Nat.lt_of_le_of_lt h5 (by omega)
    · exact ⟨_, t', h', β', ok', rfl, h2, h3⟩
    · exact ⟨_, t', h', β', ok', rfl, h2, h3⟩
  exact key _ x0 β ok a w rfl (hc.weaken h0.1 h0.2)

/-! ### what a function hands back -/

mutual
/-- what a slot holds, as data: rows are read -/
def resD (h : HL) : D → Option M
  | .im m => some m
  | .agg ds => (resL h ds).map .agg
  | .tup ds => (resL h ds).map .tup
  | .row id n sz => match lookH h id with
    | some (.rw _ sz' cs) => bif Nat.beq sz sz' && Nat.ble (n * sz) cs.length then some (.seq n (cs.take (n * sz))) else none
    | _ => none
  | _ => none
def resL (h : HL) : List D → Option (List M)
  | [] => some []
  | d :: ds => match resD h d, resL h ds with
    | some m, some ms => some (m :: ms)
    | _, _ => none
end

def resV (L : Nat → Option TI) (t : TL) (h : HL) : ResultVar → Option M
  | .tmp k => (lookT t k).bind (resD h)
  | .cell k ty => match lookT t k with
    | some (.ptr id 0) => match lookH h id, L ty with
      | some (.box _ cs), some i => bif aggD i.desc && Nat.beq cs.length i.size then (resL h cs).map .agg else none
      | _, _ => none
    | _ => none
def resVs (L : Nat → Option TI) (t : TL) (h : HL) : List ResultVar → Option (List M)
  | [] => some []
  | r :: rs => match resV L t h r, resVs L t h rs with
    | some m, some ms => some (m :: ms)
    | _, _ => none
/-- one result, or a tuple -/
def tupM : List M → M
  | [m] => m
  | ms => .tup ms

section
variable {w0 w : World} {ok0 : Nat → Prop} {β : Nat → Option Nat} {ok : Nat → Prop} {a : Act}

mutual
theorem resD_rm (hc : Conc N w0 ok0 (fun _ => False) (lookT t) (lookH h) β ok a w) : ∀ (d : D) (m : M) (v : Value), resD h d = some m → RD β ok w d v → RM (fun b => ok0 b ∨ w0.heap.size ≤ b) w m v
  | .im m', m, v, hm, hr => by
    simp only [resD, Option.some.injEq] at hm; subst hm
    simp only [RD] at hr
    exact RM.mono (fun b hb _ => ⟨(hc.okf b hb).imp id (fun h => h.resolve_right id), rfl⟩) _ _ hr
  | .agg ds, m, v, hm, hr => by
    simp only [resD, Option.map_eq_some_iff] at hm
    obtain ⟨ms, h1, rfl⟩ := hm
    simp only [RD] at hr
    obtain ⟨us, rfl, h2⟩ := hr
    simp only [RM]
    exact ⟨us, rfl, resL_rms hc ds ms _ h1 h2⟩
  | .tup ds, m, v, hm, hr => by
    simp only [resD, Option.map_eq_some_iff] at hm
    obtain ⟨ms, h1, rfl⟩ := hm
    simp only [RD] at hr
    obtain ⟨us, rfl, h2⟩ := hr
    simp only [RM]
    exact ⟨us, rfl, resL_rmt hc ds ms _ h1 h2⟩
  | .ptr _ _, m, v, hm, hr => by simp [resD] at hm
  | .ep _, m, v, hm, hr => by simp [resD] at hm
  | .fn _ _, m, v, hm, hr => by simp [resD] at hm
  | .iface _ _, m, v, hm, hr => by simp [resD] at hm
  | .row id n sz, m, v, hm, hr => by
    simp only [resD] at hm
    cases hh : lookH h id with
    | none => rw [hh] at hm; simp at hm
    | some o =>
      rw [hh] at hm
      cases o with
      | box t cs => simp at hm
      | it s p => simp at hm
      | bx b t cs => simp at hm
      | rw e sz' cs =>
        simp only [] at hm
        cases hb : (Nat.beq sz sz' && Nat.ble (n * sz) cs.length) with
        | false => rw [hb] at hm; simp at hm
        | true =>
          rw [hb] at hm
          simp only [cond_true, Option.some.injEq] at hm
          subst hm
          simp only [Bool.and_eq_true] at hb
          have h1 := Nat.eq_of_beq_eq_true hb.1
          have h2 := Nat.le_of_ble_eq_true hb.2
          subst h1
          simp only [RD] at hr
          simp only [RM]
          rcases hr with ⟨rfl, rfl⟩ | ⟨b, cap, hbb, rfl, hnc, hcm, us, e', hus, hsz⟩
          · exact ⟨none, 0, rfl, Nat.le_refl _, by unfold maxLen; omega, by simp, by simp, by simp⟩
          · obtain ⟨us', cap', g1, g2, g3, g4, g5⟩ := rd_rw hc hh hbb
            refine ⟨_, cap, rfl, hnc, hcm, by rintro rfl; simp, fun _ => ⟨b, 0, rfl, .inr ?_⟩, ?_⟩
            · rcases hc.low id _ b hh hbb with h | h
              · exact h
              · exact h.elim
            · intro b' off' hh'
              simp only [Option.some.injEq, Addr.mk.injEq, and_true] at hh'
              obtain ⟨rfl, rfl⟩ := hh'
              have g6 : RMs ok w (cs.take (n * sz)) (us'.toList.take (n * sz)) := by
                have := g5.take (n * sz)
                rwa [List.take_take, show min (n * sz) cs.length = n * sz by omega] at this
              have g7 : RMs (fun b => ok0 b ∨ w0.heap.size ≤ b) w (cs.take (n * sz)) (us'.toList.take (n * sz)) := RMs.mono (fun b hb _ => ⟨(hc.okf b hb).imp (fun h => h) (fun h => h.resolve_right fun h => h), rfl⟩) _ _ g6
              have h8 : (cs.take (n * sz)).length = n * sz := by rw [List.length_take]; omega
              refine RMs.rmc (ms := cs.take (n * sz)) (off := 0) g1 (k := us'.size) (by rw [h8]; omega) ?_
              rw [List.drop_zero, h8, List.take_take, show min (n * sz) us'.size = n * sz by omega]
              exact g7
theorem resL_rms (hc : Conc N w0 ok0 (fun _ => False) (lookT t) (lookH h) β ok a w) : ∀ (ds : List D) (ms : List M) (vs : List Value), resL h ds = some ms → RDs β ok w ds vs → RMs (fun b => ok0 b ∨ w0.heap.size ≤ b) w ms vs
  | [], ms, vs, hm, hr => by
    simp only [resL, Option.some.injEq] at hm; subst hm
    simp only [RDs] at hr; subst hr; simp [RMs]
  | d :: ds, ms, vs, hm, hr => by
    simp only [resL] at hm
    cases h1 : resD h d with
    | none => rw [h1] at hm; simp at hm
    | some m =>
      cases h2 : resL h ds with
      | none => rw [h1, h2] at hm; simp at hm
      | some ms' =>
        rw [h1, h2] at hm
        simp only [Option.some.injEq] at hm; subst hm
        simp only [RDs] at hr
        obtain ⟨u, us, rfl, h3, h4, h5⟩ := hr
        simp only [RMs]
        exact ⟨u, us, rfl, h3, resD_rm hc d m u h1 h4, resL_rms hc ds ms' us h2 h5⟩
theorem resL_rmt (hc : Conc N w0 ok0 (fun _ => False) (lookT t) (lookH h) β ok a w) : ∀ (ds : List D) (ms : List M) (vs : List Value), resL h ds = some ms → RDt β ok w ds vs → RMt (fun b => ok0 b ∨ w0.heap.size ≤ b) w ms vs
  | [], ms, vs, hm, hr => by
    simp only [resL, Option.some.injEq] at hm; subst hm
    simp only [RDt] at hr; subst hr; simp [RMt]
  | d :: ds, ms, vs, hm, hr => by
    simp only [resL] at hm
    cases h1 : resD h d with
    | none => rw [h1] at hm; simp at hm
    | some m =>
      cases h2 : resL h ds with
      | none => rw [h1, h2] at hm; simp at hm
      | some ms' =>
        rw [h1, h2] at hm
        simp only [Option.some.injEq] at hm; subst hm
        simp only [RDt] at hr
        obtain ⟨u, us, rfl, h4, h5⟩ := hr
        simp only [RMt]
        exact ⟨u, us, rfl, resD_rm hc d m u h1 h4, resL_rmt hc ds ms' us h2 h5⟩
end

def resRun (P : Program) (a : Act) : ResultVar → Sem Value
  | .tmp t => pure (a.tmps.getD t undef)
  | .cell k t => do loadVar t (← asAddr (a.tmps.getD k undef))

theorem resV_run (hL : LayOk P L) (hc : Conc N w0 ok0 (fun _ => False) (lookT t) (lookH h) β ok a w) {r : ResultVar} {m : M} (hm : resV L t h r = some m) :
    ∃ v, (resRun P a r).run P w = .ok v w ∧ RM (fun b => ok0 b ∨ w0.heap.size ≤ b) w m v := by
  cases r with
  | tmp k =>
    simp only [resV, Option.bind_eq_some_iff] at hm
    obtain ⟨d, h1, h2⟩ := hm
    exact ⟨_, rfl, resD_rm hc d m _ h2 (hc.tmp k d h1)⟩
  | cell k ty =>
    simp only [resV] at hm
    split at hm
    · rename_i id hk
      split at hm
      · rename_i tb cs i hh hi
        cases hb : (aggD i.desc && Nat.beq cs.length i.size) with
        | false => rw [hb] at hm; simp at hm
        | true =>
          rw [hb] at hm
          simp only [cond_true, Option.map_eq_some_iff] at hm
          obtain ⟨ms, h1, rfl⟩ := hm
          simp only [Bool.and_eq_true] at hb
          have h2 := Nat.eq_of_beq_eq_true hb.2
          have h3 := hc.tmp k _ hk
          simp only [RD] at h3
          obtain ⟨b, hbb, hv⟩ := h3
          obtain ⟨us, g1, g2⟩ := rd_box hc hh hbb
          refine ⟨.agg us, ?_, ?_⟩
          · have hlen : cs.length = us.size := by simpa using g2.length
            have hcell : ∀ j u, us.toList[j]? = some u → w.cell? ⟨b, 0 + j, none⟩ = some u := by
              intro j u hj
              rw [Nat.zero_add, cell_get g1, ← Array.getElem?_toList]; exact hj
            have := run_loadVarA (w := w) hL hi hb.1 (vs := us.toList) (by simp; omega) hcell
            simp only [resRun, hv, asAddr, Sem.run_bind, Sem.run_pure, Result.andThen_ok, this]
            
          · simp only [RM]
            exact ⟨us, rfl, resL_rms hc cs ms _ h1 g2⟩
      · cases hm
    · cases hm

theorem resVs_run (hL : LayOk P L) (hc : Conc N w0 ok0 (fun _ => False) (lookT t) (lookH h) β ok a w) : ∀ {rs : List ResultVar} {ms : List M}, resVs L t h rs = some ms →
    ∃ vs, (rs.mapM (resRun P a)).run P w = .ok vs w ∧ RMt (fun b => ok0 b ∨ w0.heap.size ≤ b) w ms vs
  | [], ms, hm => by
    simp only [resVs, Option.some.injEq] at hm; subst hm
    exact ⟨[], by simp [List.mapM_nil], by simp [RMt]⟩
  | r :: rs, ms, hm => by
    simp only [resVs] at hm
    cases h1 : resV L t h r with
    | none => rw [h1] at hm; simp at hm
    | some m =>
      cases h2 : resVs L t h rs with
      | none => rw [h1, h2] at hm; simp at hm
      | some ms' =>
        rw [h1, h2] at hm
        simp only [Option.some.injEq] at hm; subst hm
        obtain ⟨v, g1, g2⟩ := resV_run hL hc h1
        obtain ⟨vs, g3, g4⟩ := resVs_run hL hc h2
        refine ⟨v :: vs, ?_, by simp only [RMt]; exact ⟨v, vs, rfl, g2, g4⟩⟩
        haveI := sem_lawful
        rw [List.mapM_cons]
        simp only [Sem.run_bind, g1, Result.andThen_ok, g3, Sem.run_pure]

theorem RMt.length {ok : Nat → Prop} {w : World} : ∀ {ms : List M} {vs : List Value}, RMt ok w ms vs → ms.length = vs.length
  | [], vs, h => by simp only [RMt] at h; subst h; rfl
  | m :: ms, vs, h => by
    simp only [RMt] at h
    obtain ⟨u, us, rfl, _, h3⟩ := h
    simp [RMt.length h3]

theorem results_run (hL : LayOk P L) (hc : Conc N w0 ok0 (fun _ => False) (lookT t) (lookH h) β ok a w) {fn : Func} {ms : List M} (hm : resVs L t h fn.results.toList = some ms) :
    ∃ v, (results fn a.tmps).run P w = .ok v w ∧ RM (fun b => ok0 b ∨ w0.heap.size ≤ b) w (tupM ms) v := by
  obtain ⟨vs, h1, h2⟩ := resVs_run hL hc hm
  have hf : results fn a.tmps = (do let vs ← fn.results.mapM (resRun P a); pure (if h : vs.size = 1 then vs[0] else .tuple vs)) := by
    unfold results
    congr 1
  haveI := sem_lawful
  rw [hf]
  rw [Array.mapM_eq_mapM_toList, map_eq_pure_bind]
  have hl := h2.length
  match ms, vs, h2, hl with
  | [m], [v], h2, _ =>
    simp only [RMt] at h2
    obtain ⟨u, us, h3, h4, rfl⟩ := h2
    simp only [List.cons.injEq] at h3
    obtain ⟨rfl, _⟩ := h3
    refine ⟨v, ?_, h4⟩
    simp only [Sem.run_bind, h1, Result.andThen_ok, Sem.run_pure]
    simp
  | [], [], h2, _ =>
    refine ⟨.tuple #[], ?_, by simp only [tupM, RM]; exact ⟨#[], rfl, h2⟩⟩
    simp only [Sem.run_bind, h1, Result.andThen_ok, Sem.run_pure]
    simp
  | m1 :: m2 :: ms, v1 :: v2 :: vs, h2, _ =>
    refine ⟨.tuple (v1 :: v2 :: vs).toArray, ?_, by simp only [tupM, RM]; exact ⟨_, rfl, by simpa using h2⟩⟩
    simp only [Sem.run_bind, h1, Result.andThen_ok, Sem.run_pure]
    simp

/-- a function's slots at its start -/
def iniT : Nat → List M → TL
  | _, [] => []
  | k, m :: ms => (k, some (.im m)) :: iniT (k + 1) ms

theorem iniT_look : ∀ {ms : List M} {k i : Nat} {d : D}, lookT (iniT k ms) i = some d → ∃ m, d = .im m ∧ k ≤ i ∧ ms[i - k]? = some m
  | [], k, i, d, h => by simp [iniT, lookT] at h
  | m :: ms, k, i, d, h => by
    simp only [iniT, lookT] at h
    cases hb : Nat.beq k i with
    | true =>
      rw [hb] at h
      have := Nat.eq_of_beq_eq_true hb
      subst this
      simp at h; subst h
      exact ⟨m, rfl, Nat.le_refl _, by simp⟩
    | false =>
      rw [hb] at h
      obtain ⟨m', h1, h2, h3⟩ := iniT_look (by simpa using h)
      refine ⟨m', h1, by omega, ?_⟩
      rw [show i - k = (i - (k + 1)) + 1 by omega]
      simpa using h3

/-- a function by its body -/
theorem ret_of (hL : LayOk P L) {f : FuncId} {fn : Func} {c : Code} {ms : List M} {m : M} (hf : P.funcs[f]? = some fn) (hb : fn.body = some c) (hN : fn.ntmps = N) (hml0 : Nat.ble ms.length N = true)
    (hbody : Awp P N c (fun x t h => match x with | .exit _ => False | _ => ∃ rs, resVs L t h fn.results.toList = some rs ∧ tupM rs = m) (iniT 0 ms) []) : Ret P f ms m := by
  have hml := Nat.le_of_ble_eq_true hml0
  intro ok w vs hvs
  refine calls_of_wp hf hb ?_
  have hlen := hvs.length
  have hs : Stays ok (fun b => ok b ∧ b < w.heap.size) w w := fun b h1 h2 => ⟨⟨h1, h2⟩, rfl⟩
  have hvs' := RMt.mono hs _ _ hvs
  have hc : Conc N w ok (fun _ => False) (lookT (iniT 0 ms)) (lookH []) (fun _ => none) (fun b => ok b ∧ b < w.heap.size) { tmps := vs.toArray ++ Array.replicate (fn.ntmps - vs.toArray.size) undef, defers := [] } w := by
    refine ⟨rfl, ?_, ?_, ?_, ?_, ?_, fun b hb => hb.2, fun b hb => .inl hb.1, ?_, Keep.refl _ _⟩
    · simp; omega
    · intro i d hd
      obtain ⟨m', rfl, _, h2⟩ := iniT_look hd
      rw [Nat.sub_zero] at h2
      obtain ⟨u, g1, g2⟩ := hvs'.get h2
      simp only [RD]
      have hi : i < vs.length := (List.getElem?_eq_some_iff.1 g1).1
      have : (vs.toArray ++ Array.replicate (fn.ntmps - vs.toArray.size) undef).getD i undef = u := by
        rw [Array.getD_eq_getD_getElem?, Array.getElem?_append_left (by simpa using hi)]
        simp [g1]
      rw [this]
      exact g2
    · intro i o h; simp [lookH] at h
    · intro i j o o' b h; simp [lookH] at h
    · intro b _ i o h; simp [lookH] at h
    · intro i o b h; simp [lookH] at h
  refine wp_mono (hbody w ok (fun _ => False) _ _ _ w hc) ?_
  rintro e a' w' ⟨x, t', h', β', ok', h1, h2, h3⟩
  have fin : ∀ rs, resVs L t' h' fn.results.toList = some rs → tupM rs = m → a'.defers = [] ∧ ∃ v, (results fn a'.tmps).run P w' = .ok v w' ∧ (∃ v', Ending.returned v = .returned v' ∧ RM (fun b => ok b ∨ w.heap.size ≤ b) w' m v' ∧ Below w.heap.size w w') := by
    rintro rs hrs rfl
    obtain ⟨v, g1, g2⟩ := results_run hL h3 hrs
    exact ⟨h3.defers, v, g1, v, rfl, g2, h3.keep.below⟩
  cases e <;> simp only [X.of, Option.some.injEq, reduceCtorEq] at h1 <;> subst h1
  · obtain ⟨rs, hrs, hm⟩ := h2
    exact fin rs hrs hm
  · exact h2.elim
  · obtain ⟨rs, hrs, hm⟩ := h2
    exact fin rs hrs hm
end
end
end Fw
