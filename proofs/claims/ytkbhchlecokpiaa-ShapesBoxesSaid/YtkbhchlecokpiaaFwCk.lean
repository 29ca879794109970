/- Loops of a fixed number of rounds; other names for objects. -/
import Derived.Test.YtkbhchlecokpiaaFwCj
import Derived.LoopN
namespace Fw
open Go Go.RowKit
set_option linter.unusedVariables false
set_option linter.unusedSimpArgs false
set_option linter.unusedSectionVars false
section
variable {P : Program} {N : Nat}
/-- so many rounds at most -/
def AwpR (P : Program) (N : Nat) (c : Code) (K : KK) : Nat → TL → HL → Prop
  | 0, _, _ => False
  | n + 1, t, h => Awp P N c (fun e t' h' => match e with | .normal => Bx (AwpR P N c K n t' h') | e => K e t' h') t h
theorem awp_loopN {c : Code} {K : KK} {t : TL} {h : HL} (n : Nat) (hr : AwpR P N c K n t h) : Awp P N (.loop c) K t h := by
  intro w0 ok0 S0 β ok a w hc
  refine wp_loop_rounds n ?_
  have key : ∀ n t h β ok a w, AwpR P N c K n t h → Conc N w0 ok0 S0 (lookT t) (lookH h) β ok a w →
      Code.rounds P c (fun e a' w' => ∃ x t' h' β' ok', X.of e = some x ∧ K x t' h' ∧ Conc N w0 ok0 S0 (lookT t') (lookH h') β' ok' a' w') n a w := by
    intro n
    induction n with
    | zero => intro t h β ok a w hr; exact hr.elim
    | succ n ih =>
      intro t h β ok a w hr hc
      refine wp_mono (hr w0 ok0 S0 β ok a w hc) ?_
      rintro e a' w' ⟨xe, t', h', β', ok', h1, h2, h3⟩
      cases e <;> simp only [X.of, Option.some.injEq, reduceCtorEq] at h1 <;> subst h1
      · exact ih t' h' β' ok' a' w' h2.un h3
      · exact ⟨_, t', h', β', ok', rfl, h2, h3⟩
      · exact ⟨_, t', h', β', ok', rfl, h2, h3⟩
  exact key n t h β ok a w hr hc
theorem awpR_one {c : Code} {K : KK} {t : TL} {h : HL} {n : Nat} (hr : Awp P N c (fun e t' h' => match e with | .normal => Bx (AwpR P N c K n t' h') | e => K e t' h') t h) : AwpR P N c K (n + 1) t h := hr
theorem awpR_sub {c : Code} {K : KK} {t t' : TL} {h h' : HL} {n : Nat} (hs : Sub t h t' h') (hr : AwpR P N c K (n + 1) t' h') : AwpR P N c K (n + 1) t h := awp_sub hs hr
/-! other names -/
/-- two names change places -/
def sw (a b i : Nat) : Nat := bif Nat.beq i a then b else bif Nat.beq i b then a else i
theorem sw_sw (a b i : Nat) : sw a b (sw a b i) = i := by
  unfold sw
  by_cases h1 : i = a
  · subst h1
    by_cases h2 : b = i
    · subst h2; simp [Nat.beq_refl]
    · have : Nat.beq b i = false := by rw [← Bool.not_eq_true]; intro h; exact h2 (Nat.eq_of_beq_eq_true h)
      simp [Nat.beq_refl, this]
  · have e1 : Nat.beq i a = false := by rw [← Bool.not_eq_true]; intro h; exact h1 (Nat.eq_of_beq_eq_true h)
    by_cases h2 : i = b
    · subst h2
      simp [Nat.beq_refl, e1]
    · have e2 : Nat.beq i b = false := by rw [← Bool.not_eq_true]; intro h; exact h2 (Nat.eq_of_beq_eq_true h)
      simp [e1, e2]
theorem sw_inj {a b i j : Nat} (h : sw a b i = sw a b j) : i = j := by rw [← sw_sw a b i, h, sw_sw]
def renO (σ : Nat → Nat) : O → O
  | .box t cs => .box t (renL σ cs)
  | .rw e sz cs => .rw e sz cs
  | .it s p => .it s p
  | .bx b t cs => .bx b t (renL σ cs)
def renT (σ : Nat → Nat) : TL → TL
  | [] => []
  | (k, some d) :: t => (k, some (renD σ d)) :: renT σ t
  | (k, none) :: t => (k, none) :: renT σ t
def renH (σ : Nat → Nat) : HL → HL
  | [] => []
  | (i, some o) :: h => (σ i, some (renO σ o)) :: renH σ h
  | (i, none) :: h => (σ i, none) :: renH σ h
theorem renT_look {σ : Nat → Nat} : ∀ {t : TL} {i : Nat}, lookT (renT σ t) i = (lookT t i).map (renD σ)
  | [], i => rfl
  | (k, some d) :: t, i => by
    simp only [renT, lookT]
    cases Nat.beq k i with
    | true => rfl
    | false => exact renT_look
  | (k, none) :: t, i => by
    simp only [renT, lookT]
    cases Nat.beq k i with
    | true => rfl
    | false => exact renT_look
theorem beq_sw {a b i j : Nat} : Nat.beq (sw a b i) j = Nat.beq i (sw a b j) := by
  rw [Bool.eq_iff_iff]
  constructor
  · intro h
    have := Nat.eq_of_beq_eq_true h
    rw [← this, sw_sw]; exact Nat.beq_refl _
  · intro h
    have := Nat.eq_of_beq_eq_true h
    rw [this, sw_sw]; exact Nat.beq_refl _
theorem renH_look {a b : Nat} : ∀ {h : HL} {i : Nat}, lookH (renH (sw a b) h) i = (lookH h (sw a b i)).map (renO (sw a b))
  | [], i => rfl
  | (k, some o) :: h, i => by
    simp only [renH, lookH, beq_sw]
    cases Nat.beq k (sw a b i) with
    | true => rfl
    | false => exact renH_look
  | (k, none) :: h, i => by
    simp only [renH, lookH, beq_sw]
    cases Nat.beq k (sw a b i) with
    | true => rfl
    | false => exact renH_look
theorem renO_ro {β : Nat → Option Nat} {ok : Nat → Prop} {w : World} {a b i : Nat} {o : O} (h : RO β ok w i o) : RO (fun j => β (sw a b j)) ok w (sw a b i) (renO (sw a b) o) := by
  have hb : β (sw a b (sw a b i)) = β i := by rw [sw_sw]
  have hf : (fun i => β (sw a b (sw a b i))) = β := by funext i; rw [sw_sw]
  cases o with
  | box t cs =>
    simp only [renO, RO] at h ⊢
    obtain ⟨b', us, h1, h2, h3⟩ := h
    exact ⟨b', us, hb.trans h1, h2, (ren_rds cs _).2 (by rw [hf]; exact h3)⟩
  | rw e sz cs =>
    simp only [renO, RO] at h ⊢
    rw [hb]
    exact h
  | it s p =>
    simp only [renO, RO] at h ⊢
    rw [hb]
    exact h
  | bx b' t cs =>
    simp only [renO, RO] at h ⊢
    obtain ⟨h1, us, h2, h3⟩ := h
    exact ⟨hb.trans h1, us, h2, (ren_rds cs _).2 (by rw [hf]; exact h3)⟩
/-- two objects change names -/
theorem awp_sw (a b : Nat) {c : Code} {K : KK} {t t' : TL} {h h' : HL} (ht : renT (sw a b) t = t') (hh : renH (sw a b) h = h') (hK : Awp P N c K t' h') : Awp P N c K t h := by
  subst ht hh
  intro w0 ok0 S0 β ok ac w hc
  refine hK w0 ok0 S0 (fun j => β (sw a b j)) ok ac w ⟨hc.defers, hc.size, ?_, ?_, ?_, ?_, hc.okl, hc.okf, ?_, hc.keep⟩
  · intro i d hd
    rw [renT_look] at hd
    obtain ⟨d0, h1, rfl⟩ := Option.map_eq_some_iff.1 hd
    refine (ren_rd d0 _).2 ?_
    have hf : (fun i => β (sw a b (sw a b i))) = β := by funext i; rw [sw_sw]
    rw [hf]
    exact hc.tmp i d0 h1
  · intro i o ho
    rw [renH_look] at ho
    obtain ⟨o0, h1, rfl⟩ := Option.map_eq_some_iff.1 ho
    have := renO_ro (a := a) (b := b) (hc.obj _ o0 h1)
    rwa [sw_sw] at this
  · intro i j o o' b' h1 h2 h3 h4
    rw [renH_look] at h1 h2
    obtain ⟨o0, g1, _⟩ := Option.map_eq_some_iff.1 h1
    obtain ⟨o1, g2, _⟩ := Option.map_eq_some_iff.1 h2
    exact sw_inj (hc.inj _ _ _ _ b' g1 g2 h3 h4)
  · intro x hx i o ho
    rw [renH_look] at ho
    obtain ⟨o0, g1, _⟩ := Option.map_eq_some_iff.1 ho
    exact hc.okd x hx _ _ g1
  · intro i o x ho hx
    rw [renH_look] at ho
    obtain ⟨o0, g1, _⟩ := Option.map_eq_some_iff.1 ho
    exact hc.low _ _ x g1 hx
theorem awpR_sw (a b : Nat) {c : Code} {K : KK} {t t' : TL} {h h' : HL} {n : Nat} (ht : renT (sw a b) t = t') (hh : renH (sw a b) h = h') (hK : AwpR P N c K (n + 1) t' h') : AwpR P N c K (n + 1) t h := awp_sw a b ht hh hK
end
end Fw
