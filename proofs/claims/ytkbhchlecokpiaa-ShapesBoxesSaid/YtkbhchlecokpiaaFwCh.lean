/- A program logic over data: functions that are given boxes and closures, whatever these hold. -/
import Derived.Test.YtkbhchlecokpiaaFwCg
namespace Fw
open Go Go.RowKit
set_option linter.unusedVariables false
set_option linter.unusedSimpArgs false
set_option linter.unusedSectionVars false
/-- boxes: the object's name, its type, its cells (which may name boxes) -/
abbrev Bd := List (Nat × TypeId × List D)
def iniBd (bl : Nat → Nat) : Bd → HL
  | [] => []
  | (i, t, cs) :: l => (i, some (.bx (bl i) t cs)) :: iniBd bl l
theorem iniBd_look {bl : Nat → Nat} : ∀ {bs : Bd} {i : Nat} {o : O}, lookH (iniBd bl bs) i = some o → ∃ t cs, (i, t, cs) ∈ bs ∧ o = .bx (bl i) t cs
  | [], i, o, h => by simp [iniBd, lookH] at h
  | (j, t, cs) :: l, i, o, h => by
    simp only [iniBd, lookH] at h
    cases hb : Nat.beq j i with
    | true =>
      rw [hb] at h
      have := Nat.eq_of_beq_eq_true hb
      subst this
      simp at h; subst h
      exact ⟨t, cs, by simp, rfl⟩
    | false =>
      rw [hb] at h
      obtain ⟨t', cs', h1, h2⟩ := iniBd_look (by simpa using h)
      exact ⟨t', cs', by simp [h1], h2⟩
def memB (is : List Nat) (i : Nat) : Bool := match is with
  | [] => false
  | j :: l => Nat.beq j i || memB l i
theorem memB_mem : ∀ {is : List Nat} {i : Nat}, memB is i = true → i ∈ is
  | [], i, h => by simp [memB] at h
  | j :: l, i, h => by
    simp only [memB, Bool.or_eq_true] at h
    rcases h with h | h
    · rw [Nat.eq_of_beq_eq_true h]; simp
    · simp [memB_mem h]
mutual
/-- what a slot holds names these boxes alone -/
def D.inB (is : List Nat) : D → Bool
  | .im _ => true
  | .agg ds => dinB is ds
  | .tup ds => dinB is ds
  | .ptr id _ => memB is id
  | .ep _ => true
  | .row _ _ _ => false
  | .fn _ caps => dinB is caps
  | .iface _ d => d.inB is
def dinB (is : List Nat) : List D → Bool
  | [] => true
  | d :: ds => d.inB is && dinB is ds
end
mutual
theorem inB_refs {is : List Nat} : ∀ (d : D), d.inB is = true → ∀ i ∈ d.refs, i ∈ is
  | .im _, h, i, hi => by simp [D.refs] at hi
  | .agg ds, h, i, hi => dinB_refs ds (by simpa only [D.inB] using h) i (by simpa only [D.refs] using hi)
  | .tup ds, h, i, hi => dinB_refs ds (by simpa only [D.inB] using h) i (by simpa only [D.refs] using hi)
  | .ptr id _, h, i, hi => by
    simp only [D.refs, List.mem_singleton] at hi
    subst hi
    exact memB_mem (by simpa only [D.inB] using h)
  | .ep _, h, i, hi => by simp [D.refs] at hi
  | .row _ _ _, h, i, hi => by simp [D.inB] at h
  | .fn _ caps, h, i, hi => dinB_refs caps (by simpa only [D.inB] using h) i (by simpa only [D.refs] using hi)
  | .iface _ d, h, i, hi => inB_refs d (by simpa only [D.inB] using h) i (by simpa only [D.refs] using hi)
theorem dinB_refs {is : List Nat} : ∀ (ds : List D), dinB is ds = true → ∀ i ∈ drefs ds, i ∈ is
  | [], h, i, hi => by simp [drefs] at hi
  | d :: ds, h, i, hi => by
    simp only [dinB, Bool.and_eq_true] at h
    simp only [drefs, List.mem_append] at hi
    rcases hi with hi | hi
    · exact inB_refs d h.1 i hi
    · exact dinB_refs ds h.2 i hi
end
/-- what a cell holds at a function's end -/
def resDD (is : List Nat) (h : HL) (d : D) : Option D := bif d.inB is then some d else (resD h d).map .im
def resDDs (is : List Nat) (h : HL) : List D → Option (List D)
  | [] => some []
  | d :: ds => match resDD is h d, resDDs is h ds with
    | some d', some ds' => some (d' :: ds')
    | _, _ => none
def EndD (is : List Nat) (h : HL) (bl : Nat → Nat) : Bd → Prop
  | [] => True
  | (i, t, cs) :: l => (∃ ds, lookH h i = some (.bx (bl i) t ds) ∧ resDDs is h ds = some cs) ∧ EndD is h bl l
theorem EndD.get {is : List Nat} {h : HL} {bl : Nat → Nat} : ∀ {bs : Bd}, EndD is h bl bs → ∀ {i t cs}, (i, t, cs) ∈ bs → ∃ ds, lookH h i = some (.bx (bl i) t ds) ∧ resDDs is h ds = some cs
  | [], _, i, t, cs, hm => by cases hm
  | (j, t', cs') :: l, hb, i, t, cs, hm => by
    rcases List.mem_cons.1 hm with h | h
    · cases h; exact hb.1
    · exact hb.2.get h
/-- boxes in memory -/
def InD (β : Nat → Option Nat) (ok : Nat → Prop) (w : World) (bs : Bd) : Prop := ∀ i t cs, (i, t, cs) ∈ bs → ∃ b us, β i = some b ∧ w.heap[b]? = some (.cells us t (0, 0)) ∧ RDs β ok w cs us.toList
/-- the blocks of boxes -/
def OfD (β : Nat → Option Nat) (bs : Bd) (b : Nat) : Prop := ∃ i t cs, (i, t, cs) ∈ bs ∧ β i = some b
/-- called with data, boxes and closures, it hands back data, and changes these boxes alone -/
def RetD (P : Program) (f : FuncId) (ds : List D) (bs : Bd) (m : M) (bs' : Bd) : Prop := ∀ (β : Nat → Option Nat) (ok : Nat → Prop) (w : World) (vs : List Value), RDt β ok w ds vs → InD β ok w bs →
  (∀ b, ok b → ¬ OfD β bs b) → (∀ i t cs j t' cs' b, (i, t, cs) ∈ bs → (j, t', cs') ∈ bs → β i = some b → β j = some b → i = j) →
  Calls P f vs.toArray w fun e w' => ∃ v, e = .returned v ∧ RM (fun b => ok b ∨ w.heap.size ≤ b) w' m v ∧ InD β (fun b => ok b ∨ w.heap.size ≤ b) w' bs' ∧ Keep (OfD β bs) w w'
section
variable {P : Program} {L : Nat → Option TI} {N : Nat} {w0 w w' : World} {ok0 S0 : Nat → Prop} {t : TL} {h : HL} {β β0 : Nat → Option Nat} {ok X : Nat → Prop} {a : Act}
theorem resDD_rd (hc : Conc N w0 ok0 S0 (lookT t) (lookH h) β ok a w) (hX : ∀ b, ok b → X b) (hR : ∀ i e sz cs b, lookH h i = some (.rw e sz cs) → β i = some b → X b) {is : List Nat} (hβ : ∀ i ∈ is, ∀ b, β i = some b → β0 i = some b) {d d' : D} {u : Value} (he : resDD is h d = some d') (hr : RD β ok w d u) : RD β0 X w d' u := by
  unfold resDD at he
  cases hb : d.inB is with
  | true =>
    rw [hb] at he
    simp only [cond_true, Option.some.injEq] at he; subst he
    exact RD.mono (fun b hb _ => ⟨hX b hb, rfl⟩) d u ⟨fun i b hi h => hβ i (inB_refs d hb i hi) b h, fun i b us e hi h1 h2 => ⟨us, e, h2, rfl⟩⟩ hr
  | false =>
    rw [hb] at he
    simp only [cond_false, Option.map_eq_some_iff] at he
    obtain ⟨m, h1, rfl⟩ := he
    simp only [RD]
    exact resD_rmX hc hX hR d m u h1 hr
theorem resDDs_rds (hc : Conc N w0 ok0 S0 (lookT t) (lookH h) β ok a w) (hX : ∀ b, ok b → X b) (hR : ∀ i e sz cs b, lookH h i = some (.rw e sz cs) → β i = some b → X b) {is : List Nat} (hβ : ∀ i ∈ is, ∀ b, β i = some b → β0 i = some b) : ∀ {ds ds' : List D} {us : List Value}, resDDs is h ds = some ds' → RDs β ok w ds us → RDs β0 X w ds' us
  | [], ds', us, he, hr => by
    simp only [resDDs, Option.some.injEq] at he; subst he
    simpa only [RDs] using hr
  | d :: ds, ds', us, he, hr => by
    simp only [resDDs] at he
    cases h1 : resDD is h d with
    | none => rw [h1] at he; simp at he
    | some d1 =>
      cases h2 : resDDs is h ds with
      | none => rw [h1, h2] at he; simp at he
      | some ds1 =>
        rw [h1, h2] at he
        simp only [Option.some.injEq] at he; subst he
        simp only [RDs] at hr ⊢
        obtain ⟨v, vs, rfl, g1, g2, g3⟩ := hr
        exact ⟨v, vs, rfl, g1, resDD_rd hc hX hR hβ h1 g2, resDDs_rds hc hX hR hβ h2 g3⟩
/-- a function with boxes and closures, by its body -/
theorem retD_of (hL : LayOk P L) {f : FuncId} {fn : Func} {c : Code} {ds : List D} {bs bs' : Bd} {m : M} (hf : P.funcs[f]? = some fn) (hb : fn.body = some c) (hN : fn.ntmps = N) (hml0 : Nat.ble ds.length N = true) (hids : bs'.map (·.1) = bs.map (·.1))
    (hbody : ∀ bl : Nat → Nat, Awp P N c (fun x t h => match x with | .exit _ => False | _ => (∃ rs, resVs L t h fn.results.toList = some rs ∧ tupM rs = m) ∧ EndD (bs.map (·.1)) h bl bs') (iniD 0 ds) (iniBd bl bs)) : RetD P f ds bs m bs' := by
  have hml := Nat.le_of_ble_eq_true hml0
  intro β ok w vs hvs hbs hokb hinj
  refine calls_of_wp hf hb ?_
  have hlen := hvs.length
  have hs : Stays ok (fun b => ok b ∧ b < w.heap.size) w w := fun b h1 h2 => ⟨⟨h1, h2⟩, rfl⟩
  have hvs' := RDt.mono hs _ _ (Names.refl β w _) hvs
  have hbl : ∀ i t cs, (i, t, cs) ∈ bs → β i = some ((β i).getD 0) := by
    intro i t cs hm
    obtain ⟨b, us, h1, _⟩ := hbs i t cs hm
    rw [h1]; rfl
  have hc : Conc N w ok (OfD β bs) (lookT (iniD 0 ds)) (lookH (iniBd (fun i => (β i).getD 0) bs)) β (fun b => ok b ∧ b < w.heap.size) { tmps := vs.toArray ++ Array.replicate (fn.ntmps - vs.toArray.size) undef, defers := [] } w := by
    refine ⟨rfl, ?_, ?_, ?_, ?_, ?_, fun b hb => hb.2, fun b hb => .inl hb.1, ?_, Keep.refl _ _⟩
    · simp; omega
    · intro i d hd
      obtain ⟨_, h2⟩ := iniD_look hd
      rw [Nat.sub_zero] at h2
      obtain ⟨u, g1, g2⟩ := hvs'.get h2
      have hi : i < vs.length := (List.getElem?_eq_some_iff.1 g1).1
      have : (vs.toArray ++ Array.replicate (fn.ntmps - vs.toArray.size) undef).getD i undef = u := by
        rw [Array.getD_eq_getD_getElem?, Array.getElem?_append_left (by simpa using hi)]
        simp [g1]
      rw [this]
      exact g2
    · intro i o h
      obtain ⟨t, cs, h1, rfl⟩ := iniBd_look h
      obtain ⟨b, us, g1, g2, g3⟩ := hbs i t cs h1
      simp only [RO]
      have hb' : (β i).getD 0 = b := by rw [g1]; rfl
      rw [hb']
      exact ⟨g1, us, g2, RDs.mono hs _ _ (Names.refl β w _) g3⟩
    · intro i j o o' b h h' h1 h2
      obtain ⟨t, cs, g1, rfl⟩ := iniBd_look h
      obtain ⟨t', cs', g1', rfl⟩ := iniBd_look h'
      exact hinj i t cs j t' cs' b g1 g1' h1 h2
    · intro b hb i o h h1
      obtain ⟨t, cs, g1, rfl⟩ := iniBd_look h
      exact hokb b hb.1 ⟨i, t, cs, g1, h1⟩
    · intro i o b h h1
      obtain ⟨t, cs, g1, rfl⟩ := iniBd_look h
      exact .inr ⟨i, t, cs, g1, h1⟩
  refine wp_mono (hbody _ w ok (OfD β bs) _ _ _ w hc) ?_
  rintro e a' w' ⟨x, t', h', β', ok', h1, h2, h3⟩
  have fin : ((∃ rs, resVs L t' h' fn.results.toList = some rs ∧ tupM rs = m) ∧ EndD (bs.map (·.1)) h' (fun i => (β i).getD 0) bs') → a'.defers = [] ∧ ∃ v, (results fn a'.tmps).run P w' = .ok v w' ∧ (∃ v', Ending.returned v = .returned v' ∧ RM (fun b => ok b ∨ w.heap.size ≤ b) w' m v' ∧ InD β (fun b => ok b ∨ w.heap.size ≤ b) w' bs' ∧ Keep (OfD β bs) w w') := by
    rintro ⟨⟨rs, hrs, rfl⟩, hend⟩
    have hatB : ∀ i ∈ bs.map (·.1), β' i = some ((β i).getD 0) ∧ β i = some ((β i).getD 0) ∧ ∃ t ds, lookH h' i = some (.bx ((β i).getD 0) t ds) := by
      intro i hi
      have hi' := hi
      rw [← hids] at hi'
      obtain ⟨⟨i', t', cs'⟩, hm', rfl⟩ := List.mem_map.1 hi'
      obtain ⟨⟨i2, t2, cs2⟩, hm2, he2⟩ := List.mem_map.1 hi
      obtain ⟨ds, g1, _⟩ := hend.get hm'
      have g2 := h3.obj _ _ g1
      simp only [RO] at g2
      simp only at he2
      subst he2
      exact ⟨g2.1, hbl _ _ _ hm2, t', ds, g1⟩
    have hown : ∀ b, OfD β bs b → ∃ i t ds, lookH h' i = some (.bx b t ds) ∧ β' i = some b := by
      rintro b ⟨i, t, cs, hm, hb⟩
      obtain ⟨g1, g2, t2, ds, g3⟩ := hatB i (List.mem_map.2 ⟨_, hm, rfl⟩)
      have hb' : (β i).getD 0 = b := by rw [hb]; rfl
      rw [hb'] at g1 g3
      exact ⟨i, t2, ds, g3, g1⟩
    have hX : ∀ b, ok' b → ok b ∨ w.heap.size ≤ b := by
      intro b hb
      rcases h3.okf b hb with h | h | h
      · exact .inl h
      · exact .inr h
      · obtain ⟨i, t, ds, g1, g2⟩ := hown b h
        exact absurd g2 (h3.okd b hb i _ g1)
    have hR : ∀ i e sz cs b, lookH h' i = some (.rw e sz cs) → β' i = some b → ok b ∨ w.heap.size ≤ b := by
      intro i e sz cs b hh hb
      rcases h3.low i _ b hh hb with h | h
      · exact .inr h
      · obtain ⟨j, t, ds, g1, g2⟩ := hown b h
        have := h3.inj i j _ _ b hh g1 hb g2
        subst this
        rw [hh] at g1; cases g1
    have hβ : ∀ i ∈ bs.map (·.1), ∀ b, β' i = some b → β i = some b := by
      intro i hi b hb
      obtain ⟨g1, g2, _⟩ := hatB i hi
      rw [g1] at hb
      rw [g2, hb]
    obtain ⟨v, g1, g2⟩ := results_runX hL h3 hX hR hrs
    refine ⟨h3.defers, v, g1, v, rfl, g2, ?_, h3.keep⟩
    intro i t cs hm
    obtain ⟨ds, k1, k2⟩ := hend.get hm
    have k3 := h3.obj _ _ k1
    simp only [RO] at k3
    obtain ⟨_, us, k4, k5⟩ := k3
    have hi : i ∈ bs.map (·.1) := by rw [← hids]; exact List.mem_map.2 ⟨_, hm, rfl⟩
    exact ⟨_, us, (hatB i hi).2.1, k4, resDDs_rds h3 hX hR hβ k2 k5⟩
  cases e <;> simp only [X.of, Option.some.injEq, reduceCtorEq] at h1 <;> subst h1
  · exact fin h2
  · exact h2.elim
  · exact fin h2
end
/-- the shape of boxes: names, types, how many cells -/
def shB (bs : Bd) : List (Nat × TypeId × Nat) := bs.map fun p => (p.1, p.2.1, p.2.2.length)
theorem shB_mem {bs bs' : Bd} (h : shB bs' = shB bs) {i : Nat} {t : TypeId} {cs : List D} (hm : (i, t, cs) ∈ bs') : ∃ cs0, (i, t, cs0) ∈ bs ∧ cs0.length = cs.length := by
  have : (i, t, cs.length) ∈ shB bs' := List.mem_map.2 ⟨_, hm, rfl⟩
  rw [h] at this
  obtain ⟨⟨i', t', cs'⟩, h1, h2⟩ := List.mem_map.1 this
  simp only [Prod.mk.injEq] at h2
  obtain ⟨rfl, rfl, h3⟩ := h2
  exact ⟨cs', h1, h3⟩
section
variable {P : Program} {L : Nat → Option TI} {N : Nat} {w0 w w' : World} {ok0 S0 : Nat → Prop} {T : Nat → Option D} {H : Nat → Option O} {β : Nat → Option Nat} {ok : Nat → Prop} {a : Act}
def hsB (k : Nat → Option Nat) (bs : Bd) : List (Nat × Option O) := bs.map fun p => (p.1, some (mkO (k p.1) p.2.1 p.2.2))
theorem hsB_look {k : Nat → Option Nat} : ∀ {bs : Bd} {i : Nat} {o : O}, chH H (hsB k bs) i = some o → (∃ t cs, (i, t, cs) ∈ bs ∧ o = mkO (k i) t cs) ∨ ((∀ t cs, (i, t, cs) ∉ bs) ∧ H i = some o)
  | [], i, o, h => .inr ⟨by simp, h⟩
  | (j, t, cs) :: l, i, o, h => by
    simp only [hsB, List.map_cons, chH] at h
    by_cases he : j = i
    · rw [if_pos he] at h
      subst he
      simp only [Option.some.injEq] at h
      exact .inl ⟨t, cs, by simp, h.symm⟩
    · rw [if_neg he] at h
      rcases hsB_look (bs := l) h with ⟨t', cs', h1, h2⟩ | ⟨h1, h2⟩
      · exact .inl ⟨t', cs', by simp [h1], h2⟩
      · refine .inr ⟨fun t' cs' hm => ?_, h2⟩
        rcases List.mem_cons.1 hm with hm | hm
        · cases hm; exact he rfl
        · exact h1 _ _ hm
/-- the claims behind a call that changes boxes -/
theorem Conc.callD (hc : Conc N w0 ok0 S0 T H β ok a w) (dst : Option Nat) (v : Value) (m : M) (hd : ∀ d, dst = some d → d < N) {k : Nat → Option Nat} {bs bs' : Bd} (h0 : ∀ i t cs, (i, t, cs) ∈ bs → H i = some (mkO (k i) t cs)) (hsh : shB bs' = shB bs)
    (hkeep : Keep (OfD β bs) w w') (hin : InD β (fun b => ok b ∨ w.heap.size ≤ b) w' bs') (hm : RM (fun b => ok b ∨ w.heap.size ≤ b) w' m v) :
    Conc N w0 ok0 S0 (putT T dst (some (.im m))) (chH H (hsB k bs')) β (fun b => (ok b ∨ w.heap.size ≤ b) ∧ b < w'.heap.size) (a.put dst v) w' := by
  have hlive : ∀ i o', chH H (hsB k bs') i = some o' → ∃ o'', H i = some o'' := by
    intro i o' h
    rcases hsB_look h with ⟨t, cs, h1, rfl⟩ | ⟨h1, h2⟩
    · obtain ⟨cs0, g1, _⟩ := shB_mem hsh h1
      exact ⟨_, h0 _ _ _ g1⟩
    · exact ⟨o', h2⟩
  have hof : ∀ x, OfD β bs x → ∃ i o, H i = some o ∧ β i = some x := by
    rintro x ⟨i, t, cs, h1, h2⟩
    exact ⟨i, _, h0 _ _ _ h1, h2⟩
  have hst : ∀ x, x < w.heap.size → ¬ OfD β bs x → w'.heap[x]? = w.heap[x]? := fun x hx hne => hkeep.block x hx hne
  have hs : Stays ok (fun b => (ok b ∨ w.heap.size ≤ b) ∧ b < w'.heap.size) w w' := fun x hx hlt => ⟨⟨.inl hx, Nat.lt_of_lt_of_le hlt hkeep.size⟩, hst x hlt (by
    intro ho
    obtain ⟨i, o, g1, g2⟩ := hof x ho
    exact hc.okd x hx i o g1 g2)⟩
  have hsw : Stays (fun b => ok b ∨ w.heap.size ≤ b) (fun b => (ok b ∨ w.heap.size ≤ b) ∧ b < w'.heap.size) w' w' := fun x hx hlt => ⟨⟨hx, hlt⟩, rfl⟩
  have hn : ∀ is, Names β β w w' is := fun is => ⟨fun _ _ _ h => h, fun i x vs e hi hx hh => by
    by_cases he : OfD β bs x
    · obtain ⟨j, t, cs, h1, h2⟩ := he
      obtain ⟨b1, us1, g1, g2, g3, g4⟩ := ro_mk (hc.obj j _ (h0 _ _ _ h1))
      rw [h2] at g1; cases g1
      rw [g3] at hh; cases hh
      have hmem := List.mem_map (f := fun p : Nat × TypeId × List D => (p.1, p.2.1, p.2.2.length)).2 ⟨_, h1, rfl⟩
      rw [show bs.map (fun p : Nat × TypeId × List D => (p.1, p.2.1, p.2.2.length)) = shB bs' from hsh.symm] at hmem
      obtain ⟨⟨j', t', cs'⟩, k1, k2⟩ := List.mem_map.1 hmem
      simp only [Prod.mk.injEq] at k2
      obtain ⟨rfl, rfl, k3⟩ := k2
      obtain ⟨b2, us2, q1, q2, q3⟩ := hin _ _ _ k1
      rw [h2] at q1; cases q1
      refine ⟨us2, _, q2, ?_⟩
      have l1 := q3.length
      have l2 := g4.length
      simp only [Array.length_toList] at l1 l2
      omega
    · exact ⟨vs, e, by rw [hst x (heap_lt hh) he]; exact hh, rfl⟩⟩
  refine hc.step dst v _ hd hs (fun i d h => hn _) ?_ ?_ ?_ ?_ (fun x hx => hx.2) ?_ ?_ ?_
  · intro d h
    simp only [Option.some.injEq] at h; subst h
    simp only [RD]
    exact RM.mono hsw _ _ hm
  · intro i o' h
    rcases hsB_look h with ⟨t, cs, h1, rfl⟩ | ⟨h1, h2⟩
    · obtain ⟨cs0, g1, _⟩ := shB_mem hsh h1
      obtain ⟨b1, us1, g2, g3, g4, g5⟩ := ro_mk (hc.obj i _ (h0 _ _ _ g1))
      obtain ⟨b2, us2, q1, q2, q3⟩ := hin _ _ _ h1
      rw [g2] at q1; cases q1
      exact mk_ro g2 g3 q2 (RDs.mono hsw _ _ (Names.refl β w' _) q3)
    · refine RO.mono hs (hn _) rfl (fun x hx => hst x (RO.block (hc.obj i o' h2) hx) ?_) (hc.obj i o' h2)
      rintro ⟨j, t, cs, k1, k2⟩
      have := hc.inj i j _ _ x h2 (h0 _ _ _ k1) hx k2
      subst this
      have hmem : (i, t, cs.length) ∈ shB bs' := by rw [hsh]; exact List.mem_map.2 ⟨_, k1, rfl⟩
      obtain ⟨⟨j', t', cs'⟩, k3, k4⟩ := List.mem_map.1 hmem
      simp only [Prod.mk.injEq] at k4
      obtain ⟨rfl, rfl, _⟩ := k4
      exact h1 _ _ k3
  · intro i j o1 o2 x h1 h2 h3 h4
    obtain ⟨p1, q1⟩ := hlive i o1 h1
    obtain ⟨p2, q2⟩ := hlive j o2 h2
    exact hc.inj i j p1 p2 x q1 q2 h3 h4
  · intro x hx i o' h he
    obtain ⟨p, hp⟩ := hlive i o' h
    rcases hx.1 with h1 | h1
    · exact hc.okd x h1 i p hp he
    · have := RO.block (hc.obj i p hp) he
      omega
  · intro x hx
    rcases hx.1 with h1 | h1
    · exact hc.okf x h1
    · exact .inr (.inl (Nat.le_trans hc.keep.size h1))
  · intro i o' x h hx
    obtain ⟨p, hp⟩ := hlive i o' h
    exact hc.low i p x hp hx
  · refine ⟨hkeep.os.trans hc.keep.os, hkeep.tape.trans hc.keep.tape, hkeep.output.trans hc.keep.output, Nat.le_trans hc.keep.size hkeep.size, fun x hx hS => ?_⟩
    rw [hst x (Nat.lt_of_lt_of_le hx hc.keep.size) ?_]
    · exact hc.keep.block x hx hS
    · intro ho
      obtain ⟨i, o, g1, g2⟩ := hof x ho
      rcases hc.low i o x g1 g2 with h1 | h1
      · omega
      · exact hS h1
theorem RDt.app : ∀ {ds es : List D} {vs us : List Value}, RDt β ok w ds vs → RDt β ok w es us → RDt β ok w (ds ++ es) (vs ++ us)
  | [], es, vs, us, h, h' => by
    simp only [RDt] at h; subst h
    exact h'
  | d :: ds, es, vs, us, h, h' => by
    simp only [RDt] at h
    obtain ⟨u, us', rfl, h1, h2⟩ := h
    simp only [List.cons_append, RDt]
    exact ⟨u, us' ++ us, rfl, h1, RDt.app h2 h'⟩
/-- what a slot's function is, and what it captured -/
def cloD : D → Option (FuncId × List D)
  | .im (.fn f) => some (f, [])
  | .fn f caps => some (f, caps)
  | _ => none
theorem cloD_rd {fx : D} {f : FuncId} {caps : List D} {v : Value} (h : cloD fx = some (f, caps)) (hr : RD β ok w fx v) : ∃ cv : Array Value, v = .func (.func f) #[] cv ∧ RDt β ok w caps cv.toList := by
  unfold cloD at h
  split at h
  · simp only [Option.some.injEq, Prod.mk.injEq] at h
    obtain ⟨rfl, rfl⟩ := h
    simp only [RD, RM] at hr
    exact ⟨#[], hr, by simp [RDt]⟩
  · simp only [Option.some.injEq, Prod.mk.injEq] at h
    obtain ⟨rfl, rfl⟩ := h
    simp only [RD] at hr
    exact hr
  · cases h
/-- a call of a function with boxes, or of a closure -/
theorem sem_callD {x : Operand} {args : Array Operand} {ats : Array TypeId} {f : FuncId} {fx : D} {ds caps : List D} {m : M} {k : Nat → Option Nat} {bs bs' : Bd} {dst : Option Nat} {ty : TypeId} (hfx : cloD fx = some (f, caps)) (hp : Plain P f) (hr : RetD P f (ds ++ caps) bs m bs') (hsh : shB bs' = shB bs) :
    SemD P L (.call { callee := .value x, args := args, argTypes := ats }) dst ty (fx :: ds) (bs.map fun p => (p.1, mkO (k p.1) p.2.1 p.2.2)) ⟨some (.im m), hsB k bs', [], bs.map (·.1)⟩ := by
  intro N w0 ok0 S0 T H β ok a w o Q hL hc hN ho hdst hty hx hg hfr
  have hall := evL_rd hc hx
  have hops : (Op.call { callee := .value x, args := args, argTypes := ats }).operands.toList = x :: args.toList := by simp [Op.operands, Call.operands]
  rw [hops] at hall
  simp only [List.map_cons, RDt] at hall
  obtain ⟨u, us, h1, h2, h4⟩ := hall
  simp only [List.cons.injEq] at h1
  obtain ⟨rfl, h1⟩ := h1
  obtain ⟨cv, h2, hcv⟩ := cloD_rd hfx h2
  have h0 : ∀ i t cs, (i, t, cs) ∈ bs → H i = some (mkO (k i) t cs) := fun i t cs hm => hg (i, mkO (k i) t cs) (List.mem_map.2 ⟨_, hm, rfl⟩)
  obtain ⟨fn, p1, p2, p3⟩ := hp
  have hrun : (execOp a.eval o).run P w = .ok (.enter f (args.map a.eval ++ cv)) w := by
    simp only [execOp, ho, resolve, h2, Deferred.ofValue, Sem.run_bind, Sem.run_pure, Result.andThen_ok, invoke, callFunc, program, Sem.run, p1, p2, p3, Bool.false_eq_true, if_false]
    simp
  unfold Oper.wp
  rw [hrun]
  rw [Oper.upon_enter]
  have hargs : (args.map a.eval ++ cv) = (us ++ cv.toList).toArray := by
    apply Array.ext'
    rw [← h1]
    simp
  rw [hargs]
  refine (hr β ok w (us ++ cv.toList) (h4.app hcv) ?_ ?_ ?_).mono ?_
  · intro i t cs hm
    obtain ⟨b, us, g1, _, g2, g3⟩ := ro_mk (hc.obj i _ (h0 i t cs hm))
    exact ⟨b, us, g1, g2, g3⟩
  · rintro x hx ⟨i, t', c, hm, he⟩
    exact hc.okd x hx i _ (h0 _ _ _ hm) he
  · intro i t1 c1 j t2 c2 x hm1 hm2 e1 e2
    exact hc.inj i j _ _ x (h0 _ _ _ hm1) (h0 _ _ _ hm2) e1 e2
  · rintro e w' ⟨v, rfl, q1, q2, q3⟩
    simp only []
    exact ⟨β, _, hc.callD o.dst v m hN h0 hsh q3 q2 q1⟩
end
/-- callee and arguments, of what slots hold -/
def evC (ρ : Operand → Option D) (x : Operand) (args : List Operand) : Option (FuncId × List D × List D × D) := match ρ x, evL ρ args with
  | some fx, some ds => match cloD fx with
    | some (f, caps) => some (f, ds, caps, fx)
    | none => none
  | _, _ => none
theorem evC_ok {ρ : Operand → Option D} {x : Operand} {args : List Operand} {f : FuncId} {ds caps : List D} {fx : D} (h : evC ρ x args = some (f, ds, caps, fx)) : evL ρ (x :: args) = some (fx :: ds) ∧ cloD fx = some (f, caps) := by
  unfold evC at h
  split at h
  · rename_i fx' ds' h1 h2
    split at h
    · rename_i f' caps' h3
      simp only [Option.some.injEq, Prod.mk.injEq] at h
      obtain ⟨rfl, rfl, rfl, rfl⟩ := h
      exact ⟨by simp only [evL, h1, h2], h3⟩
    · cases h
  · cases h
/-- the block of a box, where it is known -/
def kOf : Option O → Option Nat
  | some (.bx b _ _) => some b
  | _ => none
def normO : O → Option O
  | .box t cs => (normL cs).map (.box t)
  | .bx b t cs => (normL cs).map (.bx b t)
  | o => some o
theorem normO_eq {o o' : O} (h : normO o = some o') : o = o' := by
  cases o with
  | box t cs =>
    simp only [normO, Option.map_eq_some_iff] at h
    obtain ⟨l, h1, rfl⟩ := h
    rw [normL_eq h1]
  | bx b t cs =>
    simp only [normO, Option.map_eq_some_iff] at h
    obtain ⟨l, h1, rfl⟩ := h
    rw [normL_eq h1]
  | rw e sz cs => simpa [normO] using h
  | it s p => simpa [normO] using h
def normH : List (Nat × Option O) → Option HL
  | [] => some []
  | (i, some o) :: l => match normO o, normH l with
    | some o', some l' => some ((i, some o') :: l')
    | _, _ => none
  | (i, none) :: l => match normH l with
    | some l' => some ((i, none) :: l')
    | none => none
theorem normH_eq : ∀ {l l' : List (Nat × Option O)}, normH l = some l' → l = l'
  | [], l', h => by simpa [normH] using h
  | (i, some o) :: l, l', h => by
    simp only [normH] at h
    cases h1 : normO o with
    | none => rw [h1] at h; simp at h
    | some o1 =>
      cases h2 : normH l with
      | none => rw [h1, h2] at h; simp at h
      | some l1 =>
        rw [h1, h2] at h
        simp only [Option.some.injEq] at h
        rw [← h, normO_eq h1, normH_eq h2]
  | (i, none) :: l, l', h => by
    simp only [normH] at h
    cases h2 : normH l with
    | none => rw [h2] at h; simp at h
    | some l1 =>
      rw [h2] at h
      simp only [Option.some.injEq] at h
      rw [← h, normH_eq h2]
section
variable {P : Program} {L : Nat → Option TI} {N : Nat} {ops : Array Oper} {t : TL} {h : HL}
/-- a call of a function with boxes, or of a closure, by its contract -/
theorem cld {k : Nat} {ty : TypeId} {pos : String} {af : Array Edge} {g : Option (Nat × Bool)} {rest : List Oper} {K : List Eff → TL → HL → Prop} {x : Operand} {args : Array Operand} {ats : Array TypeId} {f : FuncId} {dsA ds caps : List D} {fx : D} {m : M} {bs bs' : Bd} {hs' : HL}
    (h2 : Plain P f) (h4 : RetD P f dsA bs m bs') (hK : AR P L N ops rest (fun es => K (⟨some (.im m), hs', [], bs.map (·.1)⟩ :: es)) ((k, some (.im m)) :: t) (hs' ++ h))
    (h1 : evC (ev (lookT t)) x args.toList = some (f, ds, caps, fx) := by exact rfl) (hA : dsA = ds ++ caps := by exact rfl)
    (h3 : (bs.map fun p => lookH h p.1) = bs.map fun p => some (mkO (kOf (lookH h p.1)) p.2.1 p.2.2) := by exact rfl)
    (hl : shB bs' = shB bs := by exact rfl) (h5 : normH (hsB (fun i => kOf (lookH h i)) bs') = some hs' := by exact rfl)
    (hw : wantF (lookT t) ops g = some true := by exact rfl) (hd : Nat.blt k N = true := by exact rfl) :
    AR P L N ops (⟨some k, .call { callee := .value x, args := args, argTypes := ats }, ty, pos, af, g⟩ :: rest) K t h := by
  obtain rfl := normH_eq h5
  subst hA
  obtain ⟨e1, e2⟩ := evC_ok h1
  refine ar_step (o := ⟨some k, .call { callee := .value x, args := args, argTypes := ats }, ty, pos, af, g⟩) (wantF_ok hw) (.sem (bs.map fun p => (p.1, mkO (kOf (lookH h p.1)) p.2.1 p.2.2)) (by simpa [Op.operands, Call.operands] using e1) ?_ ?_ (sem_callD (k := fun i => kOf (lookH h i)) e2 h2 h4 hl)) hd rfl hK
  · intro p hp
    obtain ⟨q, hq, rfl⟩ := List.mem_map.1 hp
    have := List.map_inj_left.1 h3 q hq
    exact this
  · intro p hp
    obtain ⟨q, hq, rfl⟩ := List.mem_map.1 hp
    exact List.mem_map.2 ⟨q, hq, rfl⟩
end
end Fw
