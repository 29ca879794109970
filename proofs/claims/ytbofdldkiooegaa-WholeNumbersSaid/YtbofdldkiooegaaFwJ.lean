/- A program logic over data: a region's run in the order of the text; whatever order the edges allow comes to the same. -/
import Derived.Test.YtbofdldkiooegaaFwI
namespace Fw
open Go Go.RowKit
set_option linter.unusedVariables false
set_option linter.unusedSimpArgs false
set_option linter.unusedSectionVars false

abbrev TL := List (Nat × Option D)
abbrev HL := List (Nat × Option O)

def lookT : TL → Nat → Option D
  | [], _ => none
  | (j, d) :: l, i => bif Nat.beq j i then d else lookT l i
def lookH : HL → Nat → Option O
  | [], _ => none
  | (j, d) :: l, i => bif Nat.beq j i then d else lookH l i

def putL (t : TL) (dst : Option Nat) (r : Option D) : TL := match dst with
  | some j => (j, r) :: t
  | none => t

theorem beq_no {j i : Nat} (h : ¬ j = i) : Nat.beq j i = false := by
  cases hb : Nat.beq j i with
  | false => rfl
  | true => exact absurd (Nat.eq_of_beq_eq_true hb) h

theorem lookT_put (t : TL) (dst : Option Nat) (r : Option D) : lookT (putL t dst r) = putT (lookT t) dst r := by
  funext i
  cases dst with
  | none => simp [putL, putT]
  | some j =>
    simp only [putL, lookT, putT, Option.some.injEq]
    by_cases h : j = i
    · subst h; simp [Nat.beq_refl]
    · have : Nat.beq j i = false := beq_no h
      rw [this, if_neg h]; rfl
theorem lookH_ch (h : HL) : ∀ (ch : List (Nat × Option O)), lookH (ch ++ h) = chH (lookH h) ch
  | [] => by funext i; rfl
  | (j, o) :: l => by
    funext i
    simp only [List.cons_append, lookH, chH]
    by_cases h' : j = i
    · subst h'; simp [Nat.beq_refl]
    · have : Nat.beq j i = false := beq_no h'
      rw [this, if_neg h', lookH_ch h l]; rfl

/-- nobody in the lists names it, not even where another entry hides it -/
def notIn (id : Nat) : List Nat → Bool
  | [] => true
  | j :: l => bif Nat.beq j id then false else notIn id l
def freshT (id : Nat) : TL → Bool
  | [] => true
  | (_, none) :: l => freshT id l
  | (_, some d) :: l => notIn id d.refs && freshT id l
def freshH (id : Nat) : HL → Bool
  | [] => true
  | (j, none) :: l => freshH id l
  | (j, some o) :: l => !(Nat.beq j id) && notIn id o.refs && freshH id l
def freshAll (t : TL) (h : HL) : List Nat → Bool
  | [] => true
  | id :: l => freshT id t && freshH id h && freshAll t h l

theorem notIn_spec {id : Nat} : ∀ {l : List Nat}, notIn id l = true → id ∉ l
  | [], _ => by simp
  | j :: l, h => by
    simp only [notIn] at h
    cases hb : Nat.beq j id with
    | true => rw [hb] at h; simp at h
    | false =>
      rw [hb] at h
      have h1 : j ≠ id := by
        intro he; subst he; simp [Nat.beq_refl] at hb
      have := notIn_spec (l := l) (by simpa using h)
      simp; exact ⟨fun h => h1 h.symm, this⟩
theorem freshT_mem {id : Nat} : ∀ {t : TL}, freshT id t = true → ∀ i d, (i, some d) ∈ t → id ∉ d.refs
  | [], _, i, d, hm => by simp at hm
  | (j, none) :: l, h, i, d, hm => by
    simp only [freshT] at h
    simp at hm
    exact freshT_mem h i d hm
  | (j, some d') :: l, h, i, d, hm => by
    simp only [freshT, Bool.and_eq_true] at h
    simp at hm
    rcases hm with ⟨_, rfl⟩ | hm
    · exact notIn_spec h.1
    · exact freshT_mem h.2 i d hm
theorem freshH_mem {id : Nat} : ∀ {t : HL}, freshH id t = true → ∀ i o, (i, some o) ∈ t → i ≠ id ∧ id ∉ o.refs
  | [], _, i, d, hm => by simp at hm
  | (j, none) :: l, h, i, d, hm => by
    simp only [freshH] at h
    simp at hm
    exact freshH_mem h i d hm
  | (j, some d') :: l, h, i, d, hm => by
    simp only [freshH, Bool.and_eq_true, Bool.not_eq_true'] at h
    simp at hm
    rcases hm with ⟨rfl, rfl⟩ | hm
    · refine ⟨?_, notIn_spec h.1.2⟩
      rintro rfl
      have := h.1.1
      simp [Nat.beq_refl] at this
    · exact freshH_mem h.2 i d hm
theorem lookT_mem {t : TL} {i : Nat} {d : D} (h : lookT t i = some d) : (i, some d) ∈ t := by
  induction t with
  | nil => simp [lookT] at h
  | cons p l ih =>
    obtain ⟨j, x⟩ := p
    simp only [lookT] at h
    cases hb : Nat.beq j i with
    | true =>
      rw [hb] at h
      have := Nat.eq_of_beq_eq_true hb
      subst this
      simp at h; subst h; simp
    | false => rw [hb] at h; exact List.mem_cons_of_mem _ (ih (by simpa using h))
theorem lookH_mem {t : HL} {i : Nat} {d : O} (h : lookH t i = some d) : (i, some d) ∈ t := by
  induction t with
  | nil => simp [lookH] at h
  | cons p l ih =>
    obtain ⟨j, x⟩ := p
    simp only [lookH] at h
    cases hb : Nat.beq j i with
    | true =>
      rw [hb] at h
      have := Nat.eq_of_beq_eq_true hb
      subst this
      simp at h; subst h; simp
    | false => rw [hb] at h; exact List.mem_cons_of_mem _ (ih (by simpa using h))
theorem freshAll_spec {t : TL} {h : HL} : ∀ {l : List Nat}, freshAll t h l = true → ∀ id ∈ l, freshT id t = true ∧ freshH id h = true
  | [], _, id, hm => by simp at hm
  | j :: l, hf, id, hm => by
    simp only [freshAll, Bool.and_eq_true] at hf
    rcases List.mem_cons.1 hm with rfl | hm
    · exact hf.1
    · exact freshAll_spec hf.2 id hm
theorem fresh_of {t : TL} {h : HL} {id : Nat} (h1 : freshT id t = true) (h2 : freshH id h = true) : Fresh (lookT t) (lookH h) id :=
  ⟨fun i d hd => freshT_mem h1 i d (lookT_mem hd), fun i o ho => freshH_mem h2 i o (lookH_mem ho)⟩

/-- what an operation that is passed over leaves -/
def skipE : Eff := ⟨some (.im (.tup [])), [], [], []⟩

def dstOf (ops : Array Oper) (j : Nat) : Option Nat := (ops[j]?).bind (·.dst)

/-- is an operation wanted? -/
inductive Want (T : Nat → Option D) (ops : Array Oper) : Option (Nat × Bool) → Bool → Prop
  | free : Want T ops none true
  | told {j d : Nat} {b want r : Bool} (hd : dstOf ops j = some d) (h : T d = some (.im (.bool b))) (hr : (b == want) = r) : Want T ops (some (j, want)) r
  | past {j d : Nat} {want : Bool} (hd : dstOf ops j = some d) (h : T d = some (.im (.tup []))) : Want T ops (some (j, want)) false

def dstOk (N : Nat) : Option Nat → Bool
  | some d => Nat.blt d N
  | none => true
theorem dstOk_spec {N : Nat} {dst : Option Nat} (h : dstOk N dst = true) : ∀ d, dst = some d → d < N := by
  rintro d rfl
  have := Nat.le_of_ble_eq_true h
  omega

inductive Run (P : Program) (L : Nat → Option TI) (N : Nat) (ops : Array Oper) : List Oper → TL → HL → List Eff → TL → HL → Prop
  | nil {t h} : Run P L N ops [] t h [] t h
  | step {o rest t h e es t' h'} (hw : Want (lookT t) ops o.guard true) (hs : Step P L (ev (lookT t)) (lookH h) o.op o.dst o.type e) (hd : dstOk N o.dst = true) (hf : freshAll t h e.nw = true)
      (hr : Run P L N ops rest (putL t o.dst e.r) (e.ch ++ h) es t' h') : Run P L N ops (o :: rest) t h (e :: es) t' h'
  | skip {o rest t h es t' h'} (hw : Want (lookT t) ops o.guard false) (hd : dstOk N o.dst = true) (hr : Run P L N ops rest (putL t o.dst (some (.im (.tup [])))) h es t' h') : Run P L N ops (o :: rest) t h (skipE :: es) t' h'
  | know {l t h es t' h' k d} (hk : lookT t k = some d) (hr : Run P L N ops l ((k, some d) :: t) h es t' h') : Run P L N ops l t h es t' h'

theorem lookT_know {t : TL} {k : Nat} {d : D} (hk : lookT t k = some d) : lookT ((k, some d) :: t) = lookT t := by
  funext i
  simp only [lookT]
  cases hb : Nat.beq k i with
  | false => rfl
  | true =>
    have := Nat.eq_of_beq_eq_true hb
    subst this
    simp [hk]

section
variable {P : Program} {L : Nat → Option TI} {N : Nat} {w0 : World} {ok0 S0 : Nat → Prop} {T : Nat → Option D} {H : Nat → Option O} {β : Nat → Option Nat} {ok : Nat → Prop} {a : Act} {w w' : World} {ops : Array Oper}
  {Q : Exit → Act → World → Prop}

theorem yielded_bool (hc : Conc N w0 ok0 S0 T H β ok a w) {j d : Nat} {b : Bool} (hd : dstOf ops j = some d) (h : T d = some (.im (.bool b))) : yielded ops a.tmps j = some b := by
  have h1 := hc.tmp d _ h
  simp only [RD, RM] at h1
  unfold dstOf at hd
  unfold yielded
  rw [hd]
  simp only [Option.bind_some]
  have : a.tmps[d]? = some (.bool b) := by
    rw [Array.getD_eq_getD_getElem?] at h1
    cases hx : a.tmps[d]? with
    | none => rw [hx] at h1; simp [undef] at h1
    | some v => rw [hx] at h1; simp at h1; rw [h1]
  rw [this]
theorem yielded_past (hc : Conc N w0 ok0 S0 T H β ok a w) {j d : Nat} (hd : dstOf ops j = some d) (h : T d = some (.im (.tup []))) : yielded ops a.tmps j = none := by
  have h1 := hc.tmp d _ h
  simp only [RD, RM] at h1
  obtain ⟨us, h1, _⟩ := h1
  unfold dstOf at hd
  unfold yielded
  rw [hd]
  simp only [Option.bind_some]
  rw [Array.getD_eq_getD_getElem?] at h1
  cases hx : a.tmps[d]? with
  | none => rfl
  | some v => rw [hx] at h1; simp at h1; rw [h1]
theorem Want.sound (hc : Conc N w0 ok0 S0 T H β ok a w) {o : Oper} {r : Bool} (h : Want T ops o.guard r) : Region.wanted o (yielded ops a.tmps) = r := by
  unfold Region.wanted
  generalize o.guard = g at h
  cases h with
  | free => rfl
  | @told j d b want r hd h hr =>
    simp only [yielded_bool hc hd h]
    rw [← hr]
    cases b <;> cases want <;> rfl
  | past hd h => simp only [yielded_past hc hd h]; rfl

theorem rd_undef : RD β ok w (.im (.tup [])) undef := by simp only [RD, RM]; exact ⟨#[], rfl, by simp [RMt]⟩

/-- one operation of a region -/
theorem wpOp_of (hL : LayOk P L) (hc : Conc N w0 ok0 S0 T H β ok a w) {i : Nat} {o : Oper} {e : Eff} (hi : ops[i]? = some o) (hd : dstOk N o.dst = true)
    (h : (Want T ops o.guard true ∧ Step P L (ev T) H o.op o.dst o.type e ∧ ∀ id ∈ e.nw, Fresh T H id) ∨ (Want T ops o.guard false ∧ e = skipE)) {K : Act → World → Prop}
    (hK : ∀ β' ok' a' w', Conc N w0 ok0 S0 (putT T o.dst e.r) (chH H e.ch) β' ok' a' w' → K a' w') : wpOp P ops Q i K a w := by
  unfold wpOp
  rw [hi]
  simp only []
  rcases h with ⟨h1, h2, h3⟩ | ⟨h1, rfl⟩
  · rw [if_pos (h1.sound hc)]
    refine .inl (Oper.wp_mono ?_ (h2.sound hL hc (dstOk_spec hd) h3))
    rintro a' w' ⟨β', ok', hc'⟩
    exact hK β' ok' a' w' hc'
  · rw [if_neg (by rw [h1.sound hc]; simp)]
    exact hK β ok _ w (hc.put o.dst undef _ (dstOk_spec hd) (fun d h => by cases h; exact rd_undef))

/-- a region in the order of the text -/
theorem Run.plain (hL : LayOk P L) : ∀ {l : List Oper} {t : TL} {h : HL} {es : List Eff} {t' : TL} {h' : HL} (k : Nat) {β : Nat → Option Nat} {ok : Nat → Prop} {a : Act} {w : World}, Run P L N ops l t h es t' h' → ops.toList.drop k = l →
    Conc N w0 ok0 S0 (lookT t) (lookH h) β ok a w → (∀ β' ok' a' w', Conc N w0 ok0 S0 (lookT t') (lookH h') β' ok' a' w' → Q .normal a' w') → wpOps P ops Q (List.range' k (ops.size - k)) a w := by
  intro l t h es t' h' k β ok a w hr
  induction hr generalizing k β ok a w with
  | nil =>
    intro hl hc hQ
    have : ops.size ≤ k := by
      have := congrArg List.length hl
      simp at this; omega
    rw [show ops.size - k = 0 by omega]
    exact hQ _ _ _ _ hc
  | @step o rest t h e es t' h' hw hs hd hf hr ih =>
    intro hl hc hQ
    have hk : k < ops.size := by
      have := congrArg List.length hl
      simp at this; omega
    have ho : ops[k]? = some o := by
      have := congrArg (·[0]?) hl
      simpa using this
    obtain ⟨q, hq⟩ : ∃ q, ops.size - k = q + 1 := ⟨ops.size - k - 1, by omega⟩
    rw [hq, List.range'_succ, wpOps_cons]
    refine wpOp_of hL hc ho hd (.inl ⟨hw, hs, fun id hid => ?_⟩) (fun β' ok' a' w' hc' => ?_)
    · have := freshAll_spec hf id hid
      exact fresh_of this.1 this.2
    · rw [show q = ops.size - (k + 1) by omega]
      refine ih (k + 1) ?_ (by rw [lookT_put, lookH_ch]; exact hc') hQ
      have := congrArg (List.drop 1) hl
      simpa [List.drop_drop] using this
  | @skip o rest t h es t' h' hw hd hr ih =>
    intro hl hc hQ
    have hk : k < ops.size := by
      have := congrArg List.length hl
      simp at this; omega
    have ho : ops[k]? = some o := by
      have := congrArg (·[0]?) hl
      simpa using this
    obtain ⟨q, hq⟩ : ∃ q, ops.size - k = q + 1 := ⟨ops.size - k - 1, by omega⟩
    rw [hq, List.range'_succ, wpOps_cons]
    refine wpOp_of hL hc ho hd (.inr ⟨hw, rfl⟩) (fun β' ok' a' w' hc' => ?_)
    rw [show q = ops.size - (k + 1) by omega]
    refine ih (k + 1) ?_ (by rw [lookT_put]; exact hc') hQ
    have := congrArg (List.drop 1) hl
    simpa [List.drop_drop] using this
  | know hk hr ih =>
    intro hl hc hQ
    exact ih k hl (by rw [lookT_know hk]; exact hc) hQ

end
end Fw
