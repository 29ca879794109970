/- A program logic over data: code and functions. -/
import Derived.Test.YtbofdldkiooegaaFwK
import Derived.Scope
namespace Fw
open Go Go.RowKit
set_option linter.unusedVariables false
set_option linter.unusedSimpArgs false
set_option linter.unusedSectionVars false

/-- how a piece of code ends -/
inductive X where
  | normal
  | exit (id : Nat)
  | ret

def X.of : Exit → Option X
  | .normal => some .normal
  | .exit id => some (.exit id)
  | .ret => some .ret
  | _ => none

abbrev KK := X → TL → HL → Prop

/-- code, from slots and objects on, comes to K -/
def Awp (P : Program) (N : Nat) (c : Code) (K : KK) (t : TL) (h : HL) : Prop :=
  ∀ (w0 : World) (ok0 S0 : Nat → Prop) (β : Nat → Option Nat) (ok : Nat → Prop) (a : Act) (w : World), Conc N w0 ok0 S0 (lookT t) (lookH h) β ok a w →
    c.wp P (fun e a' w' => ∃ x t' h' β' ok', X.of e = some x ∧ K x t' h' ∧ Conc N w0 ok0 S0 (lookT t') (lookH h') β' ok' a' w') a w

def AR (P : Program) (L : Nat → Option TI) (N : Nat) (ops : Array Oper) (l : List Oper) (K : List Eff → TL → HL → Prop) (t : TL) (h : HL) : Prop := ∃ es t' h', Run P L N ops l t h es t' h' ∧ K es t' h'

section
variable {P : Program} {L : Nat → Option TI} {N : Nat} {ops : Array Oper} {K : KK} {t t' : TL} {h h' : HL}

theorem awp_mono {c : Code} {K' : KK} (hc : Awp P N c K t h) (hk : ∀ x t h, K x t h → K' x t h) : Awp P N c K' t h :=
  fun w0 ok0 S0 β ok a w hcc => wp_mono (hc w0 ok0 S0 β ok a w hcc) fun e a' w' ⟨x, t', h', β', ok', h1, h2, h3⟩ => ⟨x, t', h', β', ok', h1, hk _ _ _ h2, h3⟩

theorem awp_skip (hk : K .normal t h) : Awp P N .skip K t h := fun w0 ok0 S0 β ok a w hc => wp_skip ⟨.normal, t, h, β, ok, rfl, hk, hc⟩
theorem awp_label {l : Nat} (hk : K .normal t h) : Awp P N (.label l) K t h := fun w0 ok0 S0 β ok a w hc => wp_label ⟨.normal, t, h, β, ok, rfl, hk, hc⟩
theorem awp_ret (hk : K .ret t h) : Awp P N .ret K t h := fun w0 ok0 S0 β ok a w hc => wp_ret ⟨.ret, t, h, β, ok, rfl, hk, hc⟩
theorem awp_exit {id : Nat} (hk : K (.exit id) t h) : Awp P N (.exit id) K t h := fun w0 ok0 S0 β ok a w hc => wp_exit ⟨.exit id, t, h, β, ok, rfl, hk, hc⟩

def seqK (P : Program) (N : Nat) (y : Code) (K : KK) : KK := fun e t h => match e with
  | .normal => Awp P N y K t h
  | e => K e t h
theorem awp_seq {x y : Code} (hx : Awp P N x (seqK P N y K) t h) : Awp P N (.seq x y) K t h := by
  intro w0 ok0 S0 β ok a w hc
  refine wp_seq (wp_mono (hx w0 ok0 S0 β ok a w hc) ?_)
  rintro e a' w' ⟨x, t', h', β', ok', h1, h2, h3⟩
  cases e <;> simp only [X.of, Option.some.injEq, reduceCtorEq] at h1 <;> subst h1
  · exact h2 w0 ok0 S0 β' ok' a' w' h3
  · exact ⟨_, t', h', β', ok', rfl, h2, h3⟩
  · exact ⟨_, t', h', β', ok', rfl, h2, h3⟩

theorem awp_cond {c : Operand} {x y : Code} {b : Bool} (hc : ev (lookT t) c = some (.im (.bool b))) (h1 : b = true → Awp P N x K t h) (h2 : b = false → Awp P N y K t h) : Awp P N (.cond c x y) K t h := by
  intro w0 ok0 S0 β ok a w hcc
  have := rd_bool hcc hc
  exact wp_cond_split this (fun hb => h1 hb w0 ok0 S0 β ok a w hcc) (fun hb => h2 hb w0 ok0 S0 β ok a w hcc)

theorem awp_condT {c : Operand} {x y : Code} (hc : ev (lookT t) c = some (.im (.bool true))) (h1 : Awp P N x K t h) : Awp P N (.cond c x y) K t h := awp_cond hc (fun _ => h1) (fun h => by cases h)
theorem awp_condF {c : Operand} {x y : Code} (hc : ev (lookT t) c = some (.im (.bool false))) (h2 : Awp P N y K t h) : Awp P N (.cond c x y) K t h := awp_cond hc (fun h => by cases h) (fun _ => h2)

def blockK (id : Nat) (K : KK) : KK := fun e t h => match e with
  | .exit j => bif Nat.beq j id then K .normal t h else K (.exit j) t h
  | e => K e t h
theorem awp_block {id : Nat} {c : Code} (hc : Awp P N c (blockK id K) t h) : Awp P N (.block id c) K t h := by
  intro w0 ok0 S0 β ok a w hcc
  refine wp_block (wp_mono (hc w0 ok0 S0 β ok a w hcc) ?_)
  rintro e a' w' ⟨x, t', h', β', ok', h1, h2, h3⟩
  cases e <;> simp only [X.of, Option.some.injEq, reduceCtorEq] at h1 <;> subst h1
  · exact ⟨_, t', h', β', ok', rfl, h2, h3⟩
  · rename_i j
    simp only [blockK] at h2
    by_cases hj : j = id
    · subst hj
      simp only [Nat.beq_refl, cond_true] at h2
      simp only [Exit.inBlock, if_true]
      exact ⟨_, t', h', β', ok', rfl, h2, h3⟩
    · rw [beq_no hj] at h2
      simp only [Exit.inBlock, if_neg hj]
      exact ⟨_, t', h', β', ok', rfl, h2, h3⟩
  · exact ⟨_, t', h', β', ok', rfl, h2, h3⟩
theorem awp_scope {c : Code} (hc : Awp P N c K t h) : Awp P N (.scope c) K t h := by
  intro w0 ok0 S0 β ok a w hcc
  refine wp_scope_straight (wp_mono (hc w0 ok0 S0 β ok a w hcc) ?_)
  rintro e a' w' ⟨x, t', h', β', ok', h1, h2, h3⟩
  cases e <;> simp only [X.of, Option.some.injEq, reduceCtorEq] at h1 <;> subst h1 <;> exact ⟨_, t', h', β', ok', rfl, h2, h3⟩

theorem awp_region {id : Nat} (hL : LayOk P L) (hr : AR P L N ops ops.toList (fun _ => K .normal) t h) : Awp P N (.region id ops false) K t h := by
  intro w0 ok0 S0 β ok a w hc
  obtain ⟨es, t', h', hr, hk⟩ := hr
  refine wp_region ?_
  rw [List.range_eq_range']
  exact hr.plain hL 0 rfl hc (fun β' ok' a' w' hc' => ⟨.normal, t', h', β', ok', rfl, hk, hc'⟩)

theorem done_none (masks : List Nat) : Done ops masks (fun j => (Array.replicate ops.size false).getD j false) := by
  have : ∀ j, (Array.replicate ops.size false).getD j false = false := by
    intro j
    simp only [Array.getD_eq_getD_getElem?, Array.getElem?_replicate]
    split <;> rfl
  exact ⟨(fun j hj => by rw [this] at hj; cases hj), (fun j m i hj => by rw [this] at hj; cases hj)⟩

theorem awp_draw {id : Nat} (hL : LayOk P L) (hm : P.follows .mixedOrders = true) (masks : List Nat) (hst : statOk ops masks = true) (hr : AR P L N ops ops.toList (fun es t h => pairsOk ops 0 (ops.toList.zip es) masks = true ∧ K .normal t h) t h) : Awp P N (.region id ops true) K t h := by
  intro w0 ok0 S0 β ok a w hc
  obtain ⟨es, t', h', hr, hp, hk⟩ := hr
  refine wp_region_any hm ?_
  have hS := done_none (ops := ops) masks
  have hnone : ∀ j, (Array.replicate ops.size false).getD j false = false := by
    intro j
    simp only [Array.getD_eq_getD_getElem?, Array.getElem?_replicate]
    split <;> rfl
  refine hr.drawn hL hst hp (fun β' ok' a' w' hc' => ⟨.normal, t', h', β', ok', rfl, hk, hc'⟩) ops.size (Array.replicate ops.size false) (by simp) (by simp) hS (β := β) (ok := ok) ?_
  have e1 : appT (fun j => (Array.replicate ops.size false).getD j false) 0 (ops.toList.zip es) (lookT t) = lookT t := by
    funext x
    exact appT_none (fun i o e _ hh => by rw [hnone] at hh; cases hh)
  have e2 : appH (fun j => (Array.replicate ops.size false).getD j false) 0 (ops.toList.zip es) (lookH h) = lookH h := by
    funext x
    exact appH_none (fun i o e _ hh => by rw [hnone] at hh; cases hh)
  rw [e1, e2]
  exact hc.drew _

/-- .. with the masks reckoned -/
theorem awp_drawn {id : Nat} (hL : LayOk P L) (hm : P.follows .mixedOrders = true) (hst : statOk ops (masksGo [] ops.toList) = true) (hr : AR P L N ops ops.toList (fun es t h => pairsOk ops 0 (ops.toList.zip es) (masksGo [] ops.toList) = true ∧ K .normal t h) t h) : Awp P N (.region id ops true) K t h := awp_draw hL hm _ hst hr

/-- fewer claims -/
def Sub (t : TL) (h : HL) (t' : TL) (h' : HL) : Prop := (∀ i d, lookT t' i = some d → lookT t i = some d) ∧ (∀ i o, lookH h' i = some o → lookH h i = some o)
theorem awp_sub {c : Code} (hs : Sub t h t' h') (hc : Awp P N c K t' h') : Awp P N c K t h :=
  fun w0 ok0 S0 β ok a w hcc => hc w0 ok0 S0 β ok a w (hcc.weaken hs.1 hs.2)

theorem Sub.refl (t : TL) (h : HL) : Sub t h t h := ⟨fun _ _ h => h, fun _ _ h => h⟩
theorem sub_of {t : TL} {h : HL} {t' : List (Nat × D)} {h' : List (Nat × O)} (h1 : ∀ p ∈ t', lookT t p.1 = some p.2) (h2 : ∀ p ∈ h', lookH h p.1 = some p.2) :
    Sub t h (t'.map fun p => (p.1, some p.2)) (h'.map fun p => (p.1, some p.2)) := by
  constructor
  · intro i d hd
    have := lookT_mem hd
    simp only [List.mem_map] at this
    obtain ⟨p, hp, he⟩ := this
    simp only [Prod.mk.injEq, Option.some.injEq] at he
    obtain ⟨rfl, rfl⟩ := he
    exact h1 p hp
  · intro i d hd
    have := lookH_mem hd
    simp only [List.mem_map] at this
    obtain ⟨p, hp, he⟩ := this
    simp only [Prod.mk.injEq, Option.some.injEq] at he
    obtain ⟨rfl, rfl⟩ := he
    exact h2 p hp

/-- a loop: at its head the claims I x, for some x; each round lowers μ -/
theorem awp_loop {A : Type} {c : Code} (It : A → TL) (Ih : A → HL) (μ : A → Nat) (x0 : A) (h0 : Sub t h (It x0) (Ih x0))
    (round : ∀ x, Awp P N c (fun e t' h' => match e with | .normal => ∃ y, Sub t' h' (It y) (Ih y) ∧ μ y < μ x | e => K e t' h') (It x) (Ih x)) : Awp P N (.loop c) K t h := by
  intro w0 ok0 S0 β ok a w hc
  have key : ∀ n x β ok a w, μ x = n → Conc N w0 ok0 S0 (lookT (It x)) (lookH (Ih x)) β ok a w →
      (Code.loop c).wp P (fun e a' w' => ∃ x t' h' β' ok', X.of e = some x ∧ K x t' h' ∧ Conc N w0 ok0 S0 (lookT t') (lookH h') β' ok' a' w') a w := by
    intro n x β ok a w hn hcc
    let I : Act → World → Nat → Prop := fun a w n => ∃ x β ok, μ x = n ∧ Conc N w0 ok0 S0 (lookT (It x)) (lookH (Ih x)) β ok a w
    have hI : I a w n := ⟨x, β, ok, hn, hcc⟩
    refine wp_loop (fun a w => ∃ n, I a w n) (fun a w => Classical.epsilon fun n => I a w n ∧ ∀ m, I a w m → n ≤ m) ⟨n, hI⟩ ?_
    rintro a w ⟨n, hI⟩
    -- the least measure that fits
    have least : ∀ (a : Act) (w : World), (∃ n, I a w n) → ∃ n, I a w n ∧ ∀ m, I a w m → n ≤ m := by
      rintro a w ⟨n, hn⟩
      induction n using Nat.strongRecOn with
      | _ n ih =>
        by_cases hh : ∃ m, m < n ∧ I a w m
        · obtain ⟨m, hm, hI⟩ := hh; exact ih m hm hI
        · exact ⟨n, hn, fun m hm => by rcases Nat.lt_or_ge m n with h | h; exact absurd ⟨m, h, hm⟩ hh; exact h⟩
    have heps := Classical.epsilon_spec (least a w ⟨n, hI⟩)
    obtain ⟨x, β, ok, hx, hcx⟩ := heps.1
    refine wp_mono (round x w0 ok0 S0 β ok a w hcx) ?_
    rintro e a' w' ⟨xe, t', h', β', ok', h1, h2, h3⟩
    cases e <;> simp only [X.of, Option.some.injEq, reduceCtorEq] at h1 <;> subst h1
    · obtain ⟨y, hs, hlt⟩ := h2
      have hIy : I a' w' (μ y) := ⟨y, β', ok', rfl, h3.weaken hs.1 hs.2⟩
      refine ⟨⟨_, hIy⟩, ?_⟩
      have h4 := Classical.epsilon_spec (least a' w' ⟨_, hIy⟩)
      have h5 := h4.2 _ hIy
      exact Nat.lt_of_le_of_lt h5 (by omega)
    · exact ⟨_, t', h', β', ok', rfl, h2, h3⟩
    · exact ⟨_, t', h', β', ok', rfl, h2, h3⟩
  exact key _ x0 β ok a w rfl (hc.weaken h0.1 h0.2)

/-! ### what a function hands back -/

mutual
/-- what a slot holds, as data: rows are read -/
def resD (h : HL) : D → Option M
  | .im m => some m
  | .agg ds => (resL h ds).map .agg
  | .tup ds => (resL h ds).map .tup
  | .row id n sz => match lookH h id with
    | some (.rw _ sz' cs) => bif Nat.beq sz sz' && Nat.ble (n * sz) cs.length then some (.seq n (cs.take (n * sz))) else none
    | _ => none
  | _ => none
def resL (h : HL) : List D → Option (List M)
  | [] => some []
  | d :: ds => match resD h d, resL h ds with
    | some m, some ms => some (m :: ms)
    | _, _ => none
end

def resV (L : Nat → Option TI) (t : TL) (h : HL) : ResultVar → Option M
  | .tmp k => (lookT t k).bind (resD h)
  | .cell k ty => match lookT t k with
    | some (.ptr id 0) => match lookH h id, L ty with
      | some (.box _ cs), some i => bif aggD i.desc && Nat.beq cs.length i.size then (resL h cs).map .agg else none
      | _, _ => none
    | _ => none
def resVs (L : Nat → Option TI) (t : TL) (h : HL) : List ResultVar → Option (List M)
  | [] => some []
  | r :: rs => match resV L t h r, resVs L t h rs with
    | some m, some ms => some (m :: ms)
    | _, _ => none
/-- one result, or a tuple -/
def tupM : List M → M
  | [m] => m
  | ms => .tup ms

section
variable {w0 w : World} {ok0 : Nat → Prop} {β : Nat → Option Nat} {ok : Nat → Prop} {a : Act}

mutual
theorem resD_rm (hc : Conc N w0 ok0 (fun _ => False) (lookT t) (lookH h) β ok a w) : ∀ (d : D) (m : M) (v : Value), resD h d = some m → RD β ok w d v → RM (fun b => ok0 b ∨ w0.heap.size ≤ b) w m v
  | .im m', m, v, hm, hr => by
    simp only [resD, Option.some.injEq] at hm; subst hm
    simp only [RD] at hr
    exact RM.mono (fun b hb _ => ⟨(hc.okf b hb).imp id (fun h => h.resolve_right id), rfl⟩) _ _ hr
  | .agg ds, m, v, hm, hr => by
    simp only [resD, Option.map_eq_some_iff] at hm
    obtain ⟨ms, h1, rfl⟩ := hm
    simp only [RD] at hr
    obtain ⟨us, rfl, h2⟩ := hr
    simp only [RM]
    exact ⟨us, rfl, resL_rms hc ds ms _ h1 h2⟩
  | .tup ds, m, v, hm, hr => by
    simp only [resD, Option.map_eq_some_iff] at hm
    obtain ⟨ms, h1, rfl⟩ := hm
    simp only [RD] at hr
    obtain ⟨us, rfl, h2⟩ := hr
    simp only [RM]
    exact ⟨us, rfl, resL_rmt hc ds ms _ h1 h2⟩
  | .ptr _ _, m, v, hm, hr => by simp [resD] at hm
  | .ep _, m, v, hm, hr => by simp [resD] at hm
  | .fn _ _, m, v, hm, hr => by simp [resD] at hm
  | .iface _ _, m, v, hm, hr => by simp [resD] at hm
  | .row id n sz, m, v, hm, hr => by
    simp only [resD] at hm
    cases hh : lookH h id with
    | none => rw [hh] at hm; simp at hm
    | some o =>
      rw [hh] at hm
      cases o with
      | box t cs => simp at hm
      | it s p => simp at hm
      | rw e sz' cs =>
        simp only [] at hm
        cases hb : (Nat.beq sz sz' && Nat.ble (n * sz) cs.length) with
        | false => rw [hb] at hm; simp at hm
        | true =>
          rw [hb] at hm
          simp only [cond_true, Option.some.injEq] at hm
          subst hm
          simp only [Bool.and_eq_true] at hb
          have h1 := Nat.eq_of_beq_eq_true hb.1
          have h2 := Nat.le_of_ble_eq_true hb.2
          subst h1
          simp only [RD] at hr
          simp only [RM]
          rcases hr with ⟨rfl, rfl⟩ | ⟨b, cap, hbb, rfl, hnc, hcm, us, e', hus, hsz⟩
          · exact ⟨none, 0, rfl, Nat.le_refl _, by unfold maxLen; omega, by simp, by simp, by simp⟩
          · obtain ⟨us', cap', g1, g2, g3, g4, g5⟩ := rd_rw hc hh hbb
            refine ⟨_, cap, rfl, hnc, hcm, by rintro rfl; simp, fun _ => ⟨b, 0, rfl, .inr ?_⟩, ?_⟩
            · rcases hc.low id _ b hh hbb with h | h
              · exact h
              · exact h.elim
            · intro b' off' hh'
              simp only [Option.some.injEq, Addr.mk.injEq, and_true] at hh'
              obtain ⟨rfl, rfl⟩ := hh'
              have g6 : RMs ok w (cs.take (n * sz)) (us'.toList.take (n * sz)) := by
                have := g5.take (n * sz)
                rwa [List.take_take, show min (n * sz) cs.length = n * sz by omega] at this
              have g7 : RMs (fun b => ok0 b ∨ w0.heap.size ≤ b) w (cs.take (n * sz)) (us'.toList.take (n * sz)) := RMs.mono (fun b hb _ => ⟨(hc.okf b hb).imp (fun h => h) (fun h => h.resolve_right fun h => h), rfl⟩) _ _ g6
              have h8 : (cs.take (n * sz)).length = n * sz := by rw [List.length_take]; omega
              refine RMs.rmc (ms := cs.take (n * sz)) (off := 0) g1 (k := us'.size) (by rw [h8]; omega) ?_
              rw [List.drop_zero, h8, List.take_take, show min (n * sz) us'.size = n * sz by omega]
              exact g7
theorem resL_rms (hc : Conc N w0 ok0 (fun _ => False) (lookT t) (lookH h) β ok a w) : ∀ (ds : List D) (ms : List M) (vs : List Value), resL h ds = some ms → RDs β ok w ds vs → RMs (fun b => ok0 b ∨ w0.heap.size ≤ b) w ms vs
  | [], ms, vs, hm, hr => by
    simp only [resL, Option.some.injEq] at hm; subst hm
    simp only [RDs] at hr; subst hr; simp [RMs]
  | d :: ds, ms, vs, hm, hr => by
    simp only [resL] at hm
    cases h1 : resD h d with
    | none => rw [h1] at hm; simp at hm
    | some m =>
      cases h2 : resL h ds with
      | none => rw [h1, h2] at hm; simp at hm
      | some ms' =>
        rw [h1, h2] at hm
        simp only [Option.some.injEq] at hm; subst hm
        simp only [RDs] at hr
        obtain ⟨u, us, rfl, h3, h4, h5⟩ := hr
        simp only [RMs]
        exact ⟨u, us, rfl, h3, resD_rm hc d m u h1 h4, resL_rms hc ds ms' us h2 h5⟩
theorem resL_rmt (hc : Conc N w0 ok0 (fun _ => False) (lookT t) (lookH h) β ok a w) : ∀ (ds : List D) (ms : List M) (vs : List Value), resL h ds = some ms → RDt β ok w ds vs → RMt (fun b => ok0 b ∨ w0.heap.size ≤ b) w ms vs
  | [], ms, vs, hm, hr => by
    simp only [resL, Option.some.injEq] at hm; subst hm
    simp only [RDt] at hr; subst hr; simp [RMt]
  | d :: ds, ms, vs, hm, hr => by
    simp only [resL] at hm
    cases h1 : resD h d with
    | none => rw [h1] at hm; simp at hm
    | some m =>
      cases h2 : resL h ds with
      | none => rw [h1, h2] at hm; simp at hm
      | some ms' =>
        rw [h1, h2] at hm
        simp only [Option.some.injEq] at hm; subst hm
        simp only [RDt] at hr
        obtain ⟨u, us, rfl, h4, h5⟩ := hr
        simp only [RMt]
        exact ⟨u, us, rfl, resD_rm hc d m u h1 h4, resL_rmt hc ds ms' us h2 h5⟩
end

def resRun (P : Program) (a : Act) : ResultVar → Sem Value
  | .tmp t => pure (a.tmps.getD t undef)
  | .cell k t => do loadVar t (← asAddr (a.tmps.getD k undef))

theorem resV_run (hL : LayOk P L) (hc : Conc N w0 ok0 (fun _ => False) (lookT t) (lookH h) β ok a w) {r : ResultVar} {m : M} (hm : resV L t h r = some m) :
    ∃ v, (resRun P a r).run P w = .ok v w ∧ RM (fun b => ok0 b ∨ w0.heap.size ≤ b) w m v := by
  cases r with
  | tmp k =>
    simp only [resV, Option.bind_eq_some_iff] at hm
    obtain ⟨d, h1, h2⟩ := hm
    exact ⟨_, rfl, resD_rm hc d m _ h2 (hc.tmp k d h1)⟩
  | cell k ty =>
    simp only [resV] at hm
    split at hm
    · rename_i id hk
      split at hm
      · rename_i tb cs i hh hi
        cases hb : (aggD i.desc && Nat.beq cs.length i.size) with
        | false => rw [hb] at hm; simp at hm
        | true =>
          rw [hb] at hm
          simp only [cond_true, Option.map_eq_some_iff] at hm
          obtain ⟨ms, h1, rfl⟩ := hm
          simp only [Bool.and_eq_true] at hb
          have h2 := Nat.eq_of_beq_eq_true hb.2
          have h3 := hc.tmp k _ hk
          simp only [RD] at h3
          obtain ⟨b, hbb, hv⟩ := h3
          obtain ⟨us, g1, g2⟩ := rd_box hc hh hbb
          refine ⟨.agg us, ?_, ?_⟩
          · have hlen : cs.length = us.size := by simpa using g2.length
            have hcell : ∀ j u, us.toList[j]? = some u → w.cell? ⟨b, 0 + j, none⟩ = some u := by
              intro j u hj
              rw [Nat.zero_add, cell_get g1, ← Array.getElem?_toList]; exact hj
            have := run_loadVarA (w := w) hL hi hb.1 (vs := us.toList) (by simp; omega) hcell
            simp only [resRun, hv, asAddr, Sem.run_bind, Sem.run_pure, Result.andThen_ok, this]
            
          · simp only [RM]
            exact ⟨us, rfl, resL_rms hc cs ms _ h1 g2⟩
      · cases hm
    · cases hm

theorem resVs_run (hL : LayOk P L) (hc : Conc N w0 ok0 (fun _ => False) (lookT t) (lookH h) β ok a w) : ∀ {rs : List ResultVar} {ms : List M}, resVs L t h rs = some ms →
    ∃ vs, (rs.mapM (resRun P a)).run P w = .ok vs w ∧ RMt (fun b => ok0 b ∨ w0.heap.size ≤ b) w ms vs
  | [], ms, hm => by
    simp only [resVs, Option.some.injEq] at hm; subst hm
    exact ⟨[], by simp [List.mapM_nil], by simp [RMt]⟩
  | r :: rs, ms, hm => by
    simp only [resVs] at hm
    cases h1 : resV L t h r with
    | none => rw [h1] at hm; simp at hm
    | some m =>
      cases h2 : resVs L t h rs with
      | none => rw [h1, h2] at hm; simp at hm
      | some ms' =>
        rw [h1, h2] at hm
        simp only [Option.some.injEq] at hm; subst hm
        obtain ⟨v, g1, g2⟩ := resV_run hL hc h1
        obtain ⟨vs, g3, g4⟩ := resVs_run hL hc h2
        refine ⟨v :: vs, ?_, by simp only [RMt]; exact ⟨v, vs, rfl, g2, g4⟩⟩
        haveI := sem_lawful
        rw [List.mapM_cons]
        simp only [Sem.run_bind, g1, Result.andThen_ok, g3, Sem.run_pure]

theorem RMt.length {ok : Nat → Prop} {w : World} : ∀ {ms : List M} {vs : List Value}, RMt ok w ms vs → ms.length = vs.length
  | [], vs, h => by simp only [RMt] at h; subst h; rfl
  | m :: ms, vs, h => by
    simp only [RMt] at h
    obtain ⟨u, us, rfl, _, h3⟩ := h
    simp [RMt.length h3]

theorem results_run (hL : LayOk P L) (hc : Conc N w0 ok0 (fun _ => False) (lookT t) (lookH h) β ok a w) {fn : Func} {ms : List M} (hm : resVs L t h fn.results.toList = some ms) :
    ∃ v, (results fn a.tmps).run P w = .ok v w ∧ RM (fun b => ok0 b ∨ w0.heap.size ≤ b) w (tupM ms) v := by
  obtain ⟨vs, h1, h2⟩ := resVs_run hL hc hm
  have hf : results fn a.tmps = (do let vs ← fn.results.mapM (resRun P a); pure (if h : vs.size = 1 then vs[0] else .tuple vs)) := by
    unfold results
    congr 1
  haveI := sem_lawful
  rw [hf]
  rw [Array.mapM_eq_mapM_toList, map_eq_pure_bind]
  have hl := h2.length
  match ms, vs, h2, hl with
  | [m], [v], h2, _ =>
    simp only [RMt] at h2
    obtain ⟨u, us, h3, h4, rfl⟩ := h2
    simp only [List.cons.injEq] at h3
    obtain ⟨rfl, _⟩ := h3
    refine ⟨v, ?_, h4⟩
    simp only [Sem.run_bind, h1, Result.andThen_ok, Sem.run_pure]
    simp
  | [], [], h2, _ =>
    refine ⟨.tuple #[], ?_, by simp only [tupM, RM]; exact ⟨#[], rfl, h2⟩⟩
    simp only [Sem.run_bind, h1, Result.andThen_ok, Sem.run_pure]
    simp
  | m1 :: m2 :: ms, v1 :: v2 :: vs, h2, _ =>
    refine ⟨.tuple (v1 :: v2 :: vs).toArray, ?_, by simp only [tupM, RM]; exact ⟨_, rfl, by simpa using h2⟩⟩
    simp only [Sem.run_bind, h1, Result.andThen_ok, Sem.run_pure]
    simp

/-- a function's slots at its start -/
def iniT : Nat → List M → TL
  | _, [] => []
  | k, m :: ms => (k, some (.im m)) :: iniT (k + 1) ms

theorem iniT_look : ∀ {ms : List M} {k i : Nat} {d : D}, lookT (iniT k ms) i = some d → ∃ m, d = .im m ∧ k ≤ i ∧ ms[i - k]? = some m
  | [], k, i, d, h => by simp [iniT, lookT] at h
  | m :: ms, k, i, d, h => by
    simp only [iniT, lookT] at h
    cases hb : Nat.beq k i with
    | true =>
      rw [hb] at h
      have := Nat.eq_of_beq_eq_true hb
      subst this
      simp at h; subst h
      exact ⟨m, rfl, Nat.le_refl _, by simp⟩
    | false =>
      rw [hb] at h
      obtain ⟨m', h1, h2, h3⟩ := iniT_look (by simpa using h)
      refine ⟨m', h1, by omega, ?_⟩
      rw [show i - k = (i - (k + 1)) + 1 by omega]
      simpa using h3

/-- a function by its body -/
theorem ret_of (hL : LayOk P L) {f : FuncId} {fn : Func} {c : Code} {ms : List M} {m : M} (hf : P.funcs[f]? = some fn) (hb : fn.body = some c) (hN : fn.ntmps = N) (hml0 : Nat.ble ms.length N = true)
    (hbody : Awp P N c (fun x t h => match x with | .exit _ => False | _ => ∃ rs, resVs L t h fn.results.toList = some rs ∧ tupM rs = m) (iniT 0 ms) []) : Ret P f ms m := by
  have hml := Nat.le_of_ble_eq_true hml0
  intro ok w vs hvs
  refine calls_of_wp hf hb ?_
  have hlen := hvs.length
  have hs : Stays ok (fun b => ok b ∧ b < w.heap.size) w w := fun b h1 h2 => ⟨⟨h1, h2⟩, rfl⟩
  have hvs' := RMt.mono hs _ _ hvs
  have hc : Conc N w ok (fun _ => False) (lookT (iniT 0 ms)) (lookH []) (fun _ => none) (fun b => ok b ∧ b < w.heap.size) { tmps := vs.toArray ++ Array.replicate (fn.ntmps - vs.toArray.size) undef, defers := [] } w := by
    refine ⟨rfl, ?_, ?_, ?_, ?_, ?_, fun b hb => hb.2, fun b hb => .inl hb.1, ?_, Keep.refl _ _⟩
    · simp; omega
    · intro i d hd
      obtain ⟨m', rfl, _, h2⟩ := iniT_look hd
      rw [Nat.sub_zero] at h2
      obtain ⟨u, g1, g2⟩ := hvs'.get h2
      simp only [RD]
      have hi : i < vs.length := (List.getElem?_eq_some_iff.1 g1).1
      have : (vs.toArray ++ Array.replicate (fn.ntmps - vs.toArray.size) undef).getD i undef = u := by
        rw [Array.getD_eq_getD_getElem?, Array.getElem?_append_left (by simpa using hi)]
        simp [g1]
      rw [this]
      exact g2
    · intro i o h; simp [lookH] at h
    · intro i j o o' b h; simp [lookH] at h
    · intro b _ i o h; simp [lookH] at h
    · intro i o b h; simp [lookH] at h
  refine wp_mono (hbody w ok (fun _ => False) _ _ _ w hc) ?_
  rintro e a' w' ⟨x, t', h', β', ok', h1, h2, h3⟩
  have fin : ∀ rs, resVs L t' h' fn.results.toList = some rs → tupM rs = m → a'.defers = [] ∧ ∃ v, (results fn a'.tmps).run P w' = .ok v w' ∧ (∃ v', Ending.returned v = .returned v' ∧ RM (fun b => ok b ∨ w.heap.size ≤ b) w' m v' ∧ Below w.heap.size w w') := by
    rintro rs hrs rfl
    obtain ⟨v, g1, g2⟩ := results_run hL h3 hrs
    exact ⟨h3.defers, v, g1, v, rfl, g2, h3.keep.below⟩
  cases e <;> simp only [X.of, Option.some.injEq, reduceCtorEq] at h1 <;> subst h1
  · obtain ⟨rs, hrs, hm⟩ := h2
    exact fin rs hrs hm
  · exact h2.elim
  · obtain ⟨rs, hrs, hm⟩ := h2
    exact fin rs hrs hm
end
end
end Fw
