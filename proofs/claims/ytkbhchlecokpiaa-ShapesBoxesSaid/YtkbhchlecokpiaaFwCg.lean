/- Functions that change boxes they are given. -/
import Derived.Test.YtkbhchlecokpiaaFwCf
set_option linter.unusedVariables false
set_option linter.unusedSimpArgs false
namespace Fw
open Go Go.RowKit
set_option linter.unusedVariables false
set_option linter.unusedSimpArgs false
section
variable {P : Program} {L : Nat → Option TI} {N : Nat} {t : TL} {h : HL} {w0 w : World} {ok0 S0 X : Nat → Prop} {β : Nat → Option Nat} {ok : Nat → Prop} {a : Act}

mutual
theorem resD_rmX (hc : Conc N w0 ok0 S0 (lookT t) (lookH h) β ok a w) (hX : ∀ b, ok b → X b) (hR : ∀ i e sz cs b, lookH h i = some (.rw e sz cs) → β i = some b → X b) : ∀ (d : D) (m : M) (v : Value), resD h d = some m → RD β ok w d v → RM X w m v
  | .im m', m, v, hm, hr => by
    simp only [resD, Option.some.injEq] at hm; subst hm
    simp only [RD] at hr
    exact RM.mono (fun b hb _ => ⟨hX b hb, rfl⟩) _ _ hr
  | .agg ds, m, v, hm, hr => by
    simp only [resD, Option.map_eq_some_iff] at hm
    obtain ⟨ms, h1, rfl⟩ := hm
    simp only [RD] at hr
    obtain ⟨us, rfl, h2⟩ := hr
    simp only [RM]
    exact ⟨us, rfl, resL_rmsX hc hX hR ds ms _ h1 h2⟩
  | .tup ds, m, v, hm, hr => by
    simp only [resD, Option.map_eq_some_iff] at hm
    obtain ⟨ms, h1, rfl⟩ := hm
    simp only [RD] at hr
    obtain ⟨us, rfl, h2⟩ := hr
    simp only [RM]
    exact ⟨us, rfl, resL_rmtX hc hX hR ds ms _ h1 h2⟩
  | .ptr _ _, m, v, hm, hr => by simp [resD] at hm
  | .ep _, m, v, hm, hr => by simp [resD] at hm
  | .fn _ _, m, v, hm, hr => by simp [resD] at hm
  | .iface _ _, m, v, hm, hr => by simp [resD] at hm
  | .row id n sz, m, v, hm, hr => by
    simp only [resD] at hm
    cases hh : lookH h id with
    | none => rw [hh] at hm; simp at hm
    | some o =>
      rw [hh] at hm
      cases o with
      | box t cs => simp at hm
      | it s p => simp at hm
      | bx b t cs => simp at hm
      | rw e sz' cs =>
        simp only [] at hm
        cases hb : (Nat.beq sz sz' && Nat.ble (n * sz) cs.length) with
        | false => rw [hb] at hm; simp at hm
        | true =>
          rw [hb] at hm
          simp only [cond_true, Option.some.injEq] at hm
          subst hm
          simp only [Bool.and_eq_true] at hb
          have h1 := Nat.eq_of_beq_eq_true hb.1
          have h2 := Nat.le_of_ble_eq_true hb.2
          subst h1
          simp only [RD] at hr
          simp only [RM]
          rcases hr with ⟨rfl, rfl⟩ | ⟨b, cap, hbb, rfl, hnc, hcm, us, e', hus, hsz⟩
          · exact ⟨none, 0, rfl, Nat.le_refl _, by unfold maxLen; omega, by simp, by simp, by simp⟩
          · obtain ⟨us', cap', g1, g2, g3, g4, g5⟩ := rd_rw hc hh hbb
            refine ⟨_, cap, rfl, hnc, hcm, by rintro rfl; simp, fun _ => ⟨b, 0, rfl, ?_⟩, ?_⟩
            · exact hR id _ _ _ b hh hbb
            · intro b' off' hh'
              simp only [Option.some.injEq, Addr.mk.injEq, and_true] at hh'
              obtain ⟨rfl, rfl⟩ := hh'
              have g6 : RMs ok w (cs.take (n * sz)) (us'.toList.take (n * sz)) := by
                have := g5.take (n * sz)
                rwa [List.take_take, show min (n * sz) cs.length = n * sz by omega] at this
              have g7 : RMs X w (cs.take (n * sz)) (us'.toList.take (n * sz)) := RMs.mono (fun b hb _ => ⟨hX b hb, rfl⟩) _ _ g6
              have h8 : (cs.take (n * sz)).length = n * sz := by rw [List.length_take]; omega
              refine RMs.rmc (ms := cs.take (n * sz)) (off := 0) g1 (k := us'.size) (by rw [h8]; omega) ?_
              rw [List.drop_zero, h8, List.take_take, show min (n * sz) us'.size = n * sz by omega]
              exact g7
theorem resL_rmsX (hc : Conc N w0 ok0 S0 (lookT t) (lookH h) β ok a w) (hX : ∀ b, ok b → X b) (hR : ∀ i e sz cs b, lookH h i = some (.rw e sz cs) → β i = some b → X b) : ∀ (ds : List D) (ms : List M) (vs : List Value), resL h ds = some ms → RDs β ok w ds vs → RMs X w ms vs
  | [], ms, vs, hm, hr => by
    simp only [resL, Option.some.injEq] at hm; subst hm
    simp only [RDs] at hr; subst hr; simp [RMs]
  | d :: ds, ms, vs, hm, hr => by
    simp only [resL] at hm
    cases h1 : resD h d with
    | none => rw [h1] at hm; simp at hm
    | some m =>
      cases h2 : resL h ds with
      | none => rw [h1, h2] at hm; simp at hm
      | some ms' =>
        rw [h1, h2] at hm
        simp only [Option.some.injEq] at hm; subst hm
        simp only [RDs] at hr
        obtain ⟨u, us, rfl, h3, h4, h5⟩ := hr
        simp only [RMs]
        exact ⟨u, us, rfl, h3, resD_rmX hc hX hR d m u h1 h4, resL_rmsX hc hX hR ds ms' us h2 h5⟩
theorem resL_rmtX (hc : Conc N w0 ok0 S0 (lookT t) (lookH h) β ok a w) (hX : ∀ b, ok b → X b) (hR : ∀ i e sz cs b, lookH h i = some (.rw e sz cs) → β i = some b → X b) : ∀ (ds : List D) (ms : List M) (vs : List Value), resL h ds = some ms → RDt β ok w ds vs → RMt X w ms vs
  | [], ms, vs, hm, hr => by
    simp only [resL, Option.some.injEq] at hm; subst hm
    simp only [RDt] at hr; subst hr; simp [RMt]
  | d :: ds, ms, vs, hm, hr => by
    simp only [resL] at hm
    cases h1 : resD h d with
    | none => rw [h1] at hm; simp at hm
    | some m =>
      cases h2 : resL h ds with
      | none => rw [h1, h2] at hm; simp at hm
      | some ms' =>
        rw [h1, h2] at hm
        simp only [Option.some.injEq] at hm; subst hm
        simp only [RDt] at hr
        obtain ⟨u, us, rfl, h4, h5⟩ := hr
        simp only [RMt]
        exact ⟨u, us, rfl, resD_rmX hc hX hR d m u h1 h4, resL_rmtX hc hX hR ds ms' us h2 h5⟩
end

theorem resV_runX (hL : LayOk P L) (hc : Conc N w0 ok0 S0 (lookT t) (lookH h) β ok a w) (hX : ∀ b, ok b → X b) (hR : ∀ i e sz cs b, lookH h i = some (.rw e sz cs) → β i = some b → X b) {r : ResultVar} {m : M} (hm : resV L t h r = some m) :
    ∃ v, (resRun P a r).run P w = .ok v w ∧ RM X w m v := by
  cases r with
  | tmp k =>
    simp only [resV, Option.bind_eq_some_iff] at hm
    obtain ⟨d, h1, h2⟩ := hm
    exact ⟨_, rfl, resD_rmX hc hX hR d m _ h2 (hc.tmp k d h1)⟩
  | cell k ty =>
    simp only [resV] at hm
    split at hm
    · rename_i id hk
      split at hm
      · rename_i tb cs i hh hi
        cases hb : (aggD i.desc && Nat.beq cs.length i.size) with
        | false => rw [hb] at hm; simp at hm
        | true =>
          rw [hb] at hm
          simp only [cond_true, Option.map_eq_some_iff] at hm
          obtain ⟨ms, h1, rfl⟩ := hm
          simp only [Bool.and_eq_true] at hb
          have h2 := Nat.eq_of_beq_eq_true hb.2
          have h3 := hc.tmp k _ hk
          simp only [RD] at h3
          obtain ⟨b, hbb, hv⟩ := h3
          obtain ⟨us, g1, g2⟩ := rd_box hc hh hbb
          refine ⟨.agg us, ?_, ?_⟩
          · have hlen : cs.length = us.size := by simpa using g2.length
            have hcell : ∀ j u, us.toList[j]? = some u → w.cell? ⟨b, 0 + j, none⟩ = some u := by
              intro j u hj
              rw [Nat.zero_add, cell_get g1, ← Array.getElem?_toList]; exact hj
            have := run_loadVarA (w := w) hL hi hb.1 (vs := us.toList) (by simp; omega) hcell
            simp only [resRun, hv, asAddr, Sem.run_bind, Sem.run_pure, Result.andThen_ok, this]
            
          · simp only [RM]
            exact ⟨us, rfl, resL_rmsX hc hX hR cs ms _ h1 g2⟩
      · cases hm
    · cases hm

theorem resVs_runX (hL : LayOk P L) (hc : Conc N w0 ok0 S0 (lookT t) (lookH h) β ok a w) (hX : ∀ b, ok b → X b) (hR : ∀ i e sz cs b, lookH h i = some (.rw e sz cs) → β i = some b → X b) : ∀ {rs : List ResultVar} {ms : List M}, resVs L t h rs = some ms →
    ∃ vs, (rs.mapM (resRun P a)).run P w = .ok vs w ∧ RMt X w ms vs
  | [], ms, hm => by
    simp only [resVs, Option.some.injEq] at hm; subst hm
    exact ⟨[], by simp [List.mapM_nil], by simp [RMt]⟩
  | r :: rs, ms, hm => by
    simp only [resVs] at hm
    cases h1 : resV L t h r with
    | none => rw [h1] at hm; simp at hm
    | some m =>
      cases h2 : resVs L t h rs with
      | none => rw [h1, h2] at hm; simp at hm
      | some ms' =>
        rw [h1, h2] at hm
        simp only [Option.some.injEq] at hm; subst hm
        obtain ⟨v, g1, g2⟩ := resV_runX hL hc hX hR h1
        obtain ⟨vs, g3, g4⟩ := resVs_runX hL hc hX hR h2
        refine ⟨v :: vs, ?_, by simp only [RMt]; exact ⟨v, vs, rfl, g2, g4⟩⟩
        haveI := sem_lawful
        rw [List.mapM_cons]
        simp only [Sem.run_bind, g1, Result.andThen_ok, g3, Sem.run_pure]

theorem results_runX (hL : LayOk P L) (hc : Conc N w0 ok0 S0 (lookT t) (lookH h) β ok a w) (hX : ∀ b, ok b → X b) (hR : ∀ i e sz cs b, lookH h i = some (.rw e sz cs) → β i = some b → X b) {fn : Func} {ms : List M} (hm : resVs L t h fn.results.toList = some ms) :
    ∃ v, (results fn a.tmps).run P w = .ok v w ∧ RM X w (tupM ms) v := by
  obtain ⟨vs, h1, h2⟩ := resVs_runX hL hc hX hR hm
  have hf : results fn a.tmps = (do let vs ← fn.results.mapM (resRun P a); pure (if h : vs.size = 1 then vs[0] else .tuple vs)) := by
    unfold results
    congr 1
  haveI := sem_lawful
  rw [hf]
  rw [Array.mapM_eq_mapM_toList, map_eq_pure_bind]
  have hl := h2.length
  match ms, vs, h2, hl with
  | [m], [v], h2, _ =>
    simp only [RMt] at h2
    obtain ⟨u, us, h3, h4, rfl⟩ := h2
    simp only [List.cons.injEq] at h3
    obtain ⟨rfl, _⟩ := h3
    refine ⟨v, ?_, h4⟩
    simp only [Sem.run_bind, h1, Result.andThen_ok, Sem.run_pure]
    simp
  | [], [], h2, _ =>
    refine ⟨.tuple #[], ?_, by simp only [tupM, RM]; exact ⟨#[], rfl, h2⟩⟩
    simp only [Sem.run_bind, h1, Result.andThen_ok, Sem.run_pure]
    simp
  | m1 :: m2 :: ms, v1 :: v2 :: vs, h2, _ =>
    refine ⟨.tuple (v1 :: v2 :: vs).toArray, ?_, by simp only [tupM, RM]; exact ⟨_, rfl, by simpa using h2⟩⟩
    simp only [Sem.run_bind, h1, Result.andThen_ok, Sem.run_pure]
    simp


/-- boxes that a function is given: the object's name, its type, its cells -/
abbrev Bs := List (Nat × TypeId × List M)
/-- a function's slots at its start -/
def iniD : Nat → List D → TL
  | _, [] => []
  | k, d :: ds => (k, some d) :: iniD (k + 1) ds
theorem iniD_look : ∀ {ms : List D} {k i : Nat} {d : D}, lookT (iniD k ms) i = some d → k ≤ i ∧ ms[i - k]? = some d
  | [], k, i, d, h => by simp [iniD, lookT] at h
  | m :: ms, k, i, d, h => by
    simp only [iniD, lookT] at h
    cases hb : Nat.beq k i with
    | true =>
      rw [hb] at h
      have := Nat.eq_of_beq_eq_true hb
      subst this
      simp at h; subst h
      exact ⟨Nat.le_refl _, by simp⟩
    | false =>
      rw [hb] at h
      obtain ⟨h1, h2⟩ := iniD_look (by simpa using h)
      refine ⟨by omega, ?_⟩
      rw [show i - k = (i - (k + 1)) + 1 by omega]
      simpa using h2
/-- its objects at its start -/
def iniB (bl : Nat → Nat) : Bs → HL
  | [] => []
  | (i, t, cs) :: l => (i, some (.bx (bl i) t (cs.map .im))) :: iniB bl l
theorem iniB_look {bl : Nat → Nat} : ∀ {bs : Bs} {i : Nat} {o : O}, lookH (iniB bl bs) i = some o → ∃ t cs, (i, t, cs) ∈ bs ∧ o = .bx (bl i) t (cs.map .im)
  | [], i, o, h => by simp [iniB, lookH] at h
  | (j, t, cs) :: l, i, o, h => by
    simp only [iniB, lookH] at h
    cases hb : Nat.beq j i with
    | true =>
      rw [hb] at h
      have := Nat.eq_of_beq_eq_true hb
      subst this
      simp at h; subst h
      exact ⟨t, cs, by simp, rfl⟩
    | false =>
      rw [hb] at h
      obtain ⟨t', cs', h1, h2⟩ := iniB_look (by simpa using h)
      exact ⟨t', cs', by simp [h1], h2⟩
/-- its objects at its end -/
def EndB (h : HL) (bl : Nat → Nat) : Bs → Prop
  | [] => True
  | (i, t, cs) :: l => (∃ ds, lookH h i = some (.bx (bl i) t ds) ∧ resL h ds = some cs) ∧ EndB h bl l
theorem EndB.get {h : HL} {bl : Nat → Nat} : ∀ {bs : Bs}, EndB h bl bs → ∀ {i t cs}, (i, t, cs) ∈ bs → ∃ ds, lookH h i = some (.bx (bl i) t ds) ∧ resL h ds = some cs
  | [], _, i, t, cs, hm => by cases hm
  | (j, t', cs') :: l, hb, i, t, cs, hm => by
    rcases List.mem_cons.1 hm with h | h
    · cases h; exact hb.1
    · exact hb.2.get h

/-- boxes in memory -/
def InB (β : Nat → Option Nat) (ok : Nat → Prop) (w : World) (bs : Bs) : Prop := ∀ i t cs, (i, t, cs) ∈ bs → ∃ b us, β i = some b ∧ w.heap[b]? = some (.cells us t (0, 0)) ∧ RMs ok w cs us.toList
/-- the blocks of boxes -/
def OfB (β : Nat → Option Nat) (bs : Bs) (b : Nat) : Prop := ∃ i t cs, (i, t, cs) ∈ bs ∧ β i = some b

/-- called with data and boxes, it hands back data, and changes these boxes alone -/
def RetB (P : Program) (f : FuncId) (ds : List D) (bs : Bs) (m : M) (bs' : Bs) : Prop := ∀ (β : Nat → Option Nat) (ok : Nat → Prop) (w : World) (vs : List Value), RDt β ok w ds vs → InB β ok w bs →
  (∀ b, ok b → ¬ OfB β bs b) → (∀ i t cs j t' cs' b, (i, t, cs) ∈ bs → (j, t', cs') ∈ bs → β i = some b → β j = some b → i = j) →
  Calls P f vs.toArray w fun e w' => ∃ v, e = .returned v ∧ RM (fun b => ok b ∨ w.heap.size ≤ b) w' m v ∧ InB β (fun b => ok b ∨ w.heap.size ≤ b) w' bs' ∧ Keep (OfB β bs) w w'

theorem RMs.ims {β : Nat → Option Nat} {ok : Nat → Prop} {w : World} : ∀ {ms : List M} {vs : List Value}, RMs ok w ms vs → RDs β ok w (ms.map .im) vs
  | [], vs, h => by simpa only [RMs, List.map_nil, RDs] using h
  | m :: ms, vs, h => by
    simp only [RMs] at h
    obtain ⟨u, us, h1, h2, h3, h4⟩ := h
    simp only [List.map_cons, RDs, RD]
    exact ⟨u, us, h1, h2, h3, h4.ims⟩
theorem drefs_ims : ∀ (ms : List M), drefs (ms.map .im) = []
  | [] => rfl
  | m :: ms => by simp [drefs, D.refs, drefs_ims ms]
theorem RDt.length {β : Nat → Option Nat} {ok : Nat → Prop} {w : World} : ∀ {ms : List D} {vs : List Value}, RDt β ok w ms vs → ms.length = vs.length
  | [], vs, h => by simp only [RDt] at h; subst h; rfl
  | m :: ms, vs, h => by
    simp only [RDt] at h
    obtain ⟨u, us, rfl, _, h3⟩ := h
    simp [h3.length]

/-- a function with boxes, by its body -/
theorem retB_of (hL : LayOk P L) {f : FuncId} {fn : Func} {c : Code} {ds : List D} {bs bs' : Bs} {m : M} (hf : P.funcs[f]? = some fn) (hb : fn.body = some c) (hN : fn.ntmps = N) (hml0 : Nat.ble ds.length N = true) (hids : bs'.map (·.1) = bs.map (·.1))
    (hbody : ∀ bl : Nat → Nat, Awp P N c (fun x t h => match x with | .exit _ => False | _ => (∃ rs, resVs L t h fn.results.toList = some rs ∧ tupM rs = m) ∧ EndB h bl bs') (iniD 0 ds) (iniB bl bs)) : RetB P f ds bs m bs' := by
  have hml := Nat.le_of_ble_eq_true hml0
  intro β ok w vs hvs hbs hokb hinj
  refine calls_of_wp hf hb ?_
  have hlen := hvs.length
  have hs : Stays ok (fun b => ok b ∧ b < w.heap.size) w w := fun b h1 h2 => ⟨⟨h1, h2⟩, rfl⟩
  have hvs' := RDt.mono hs _ _ (Names.refl β w _) hvs
  have hbl : ∀ i t cs, (i, t, cs) ∈ bs → β i = some ((β i).getD 0) := by
    intro i t cs hm
    obtain ⟨b, us, h1, _⟩ := hbs i t cs hm
    rw [h1]; rfl
  have hc : Conc N w ok (OfB β bs) (lookT (iniD 0 ds)) (lookH (iniB (fun i => (β i).getD 0) bs)) β (fun b => ok b ∧ b < w.heap.size) { tmps := vs.toArray ++ Array.replicate (fn.ntmps - vs.toArray.size) undef, defers := [] } w := by
    refine ⟨rfl, ?_, ?_, ?_, ?_, ?_, fun b hb => hb.2, fun b hb => .inl hb.1, ?_, Keep.refl _ _⟩
    · simp; omega
    · intro i d hd
      obtain ⟨_, h2⟩ := iniD_look hd
      rw [Nat.sub_zero] at h2
      obtain ⟨u, g1, g2⟩ := hvs'.get h2
      have hi : i < vs.length := (List.getElem?_eq_some_iff.1 g1).1
      have : (vs.toArray ++ Array.replicate (fn.ntmps - vs.toArray.size) undef).getD i undef = u := by
        rw [Array.getD_eq_getD_getElem?, Array.getElem?_append_left (by simpa using hi)]
        simp [g1]
      rw [this]
      exact g2
    · intro i o h
      obtain ⟨t, cs, h1, rfl⟩ := iniB_look h
      obtain ⟨b, us, g1, g2, g3⟩ := hbs i t cs h1
      simp only [RO]
      have hb' : (β i).getD 0 = b := by rw [g1]; rfl
      rw [hb']
      exact ⟨g1, us, g2, (RMs.mono hs _ _ g3).ims⟩
    · intro i j o o' b h h' h1 h2
      obtain ⟨t, cs, g1, rfl⟩ := iniB_look h
      obtain ⟨t', cs', g1', rfl⟩ := iniB_look h'
      exact hinj i t cs j t' cs' b g1 g1' h1 h2
    · intro b hb i o h h1
      obtain ⟨t, cs, g1, rfl⟩ := iniB_look h
      exact hokb b hb.1 ⟨i, t, cs, g1, h1⟩
    · intro i o b h h1
      obtain ⟨t, cs, g1, rfl⟩ := iniB_look h
      exact .inr ⟨i, t, cs, g1, h1⟩
  refine wp_mono (hbody _ w ok (OfB β bs) _ _ _ w hc) ?_
  rintro e a' w' ⟨x, t', h', β', ok', h1, h2, h3⟩
  have fin : ((∃ rs, resVs L t' h' fn.results.toList = some rs ∧ tupM rs = m) ∧ EndB h' (fun i => (β i).getD 0) bs') → a'.defers = [] ∧ ∃ v, (results fn a'.tmps).run P w' = .ok v w' ∧ (∃ v', Ending.returned v = .returned v' ∧ RM (fun b => ok b ∨ w.heap.size ≤ b) w' m v' ∧ InB β (fun b => ok b ∨ w.heap.size ≤ b) w' bs' ∧ Keep (OfB β bs) w w') := by
    rintro ⟨⟨rs, hrs, rfl⟩, hend⟩
    have hown : ∀ b, OfB β bs b → ∃ i t ds, lookH h' i = some (.bx b t ds) ∧ β' i = some b := by
      rintro b ⟨i, t, cs, hm, hb⟩
      have hi : i ∈ bs'.map (·.1) := by rw [hids]; exact List.mem_map.2 ⟨_, hm, rfl⟩
      obtain ⟨⟨i', t', cs'⟩, hm', rfl⟩ := List.mem_map.1 hi
      obtain ⟨ds, g1, _⟩ := hend.get hm'
      have g2 := h3.obj _ _ g1
      simp only [RO] at g2
      have hb' : (β i').getD 0 = b := by rw [hb]; rfl
      rw [hb'] at g1 g2
      exact ⟨i', t', ds, g1, g2.1⟩
    have hX : ∀ b, ok' b → ok b ∨ w.heap.size ≤ b := by
      intro b hb
      rcases h3.okf b hb with h | h | h
      · exact .inl h
      · exact .inr h
      · obtain ⟨i, t, ds, g1, g2⟩ := hown b h
        exact absurd g2 (h3.okd b hb i _ g1)
    have hR : ∀ i e sz cs b, lookH h' i = some (.rw e sz cs) → β' i = some b → ok b ∨ w.heap.size ≤ b := by
      intro i e sz cs b hh hb
      rcases h3.low i _ b hh hb with h | h
      · exact .inr h
      · obtain ⟨j, t, ds, g1, g2⟩ := hown b h
        have := h3.inj i j _ _ b hh g1 hb g2
        subst this
        rw [hh] at g1; cases g1
    obtain ⟨v, g1, g2⟩ := results_runX hL h3 hX hR hrs
    refine ⟨h3.defers, v, g1, v, rfl, g2, ?_, h3.keep⟩
    intro i t cs hm
    obtain ⟨ds, k1, k2⟩ := hend.get hm
    have k3 := h3.obj _ _ k1
    simp only [RO] at k3
    obtain ⟨_, us, k4, k5⟩ := k3
    have hi : i ∈ bs.map (·.1) := by rw [← hids]; exact List.mem_map.2 ⟨_, hm, rfl⟩
    obtain ⟨⟨i', t', cs'⟩, hm', rfl⟩ := List.mem_map.1 hi
    exact ⟨_, us, hbl _ _ _ hm', k4, resL_rmsX h3 hX hR ds cs _ k2 k5⟩
  cases e <;> simp only [X.of, Option.some.injEq, reduceCtorEq] at h1 <;> subst h1
  · exact fin h2
  · exact h2.elim
  · exact fin h2
end

/-- a method with a pointer receiver: its cells, ahead and behind -/
abbrev RetP (P : Program) (f : FuncId) (t : TypeId) (cs : List M) (ms : List M) (m : M) (cs' : List M) : Prop := RetB P f (.ptr 0 0 :: ms.map .im) [(0, t, cs)] m [(0, t, cs')]

/-- a box, at a known block or not -/
def mkO (k : Option Nat) (t : TypeId) (cs : List D) : O := match k with
  | none => .box t cs
  | some b => .bx b t cs
section
variable {P : Program} {L : Nat → Option TI} {N : Nat} {w0 w w' : World} {ok0 S0 : Nat → Prop} {T : Nat → Option D} {H : Nat → Option O} {β : Nat → Option Nat} {ok : Nat → Prop} {a : Act}
theorem ro_mk {k : Option Nat} {id : Nat} {t : TypeId} {cs : List D} (h : RO β ok w id (mkO k t cs)) : ∃ b us, β id = some b ∧ (∀ b', k = some b' → b' = b) ∧ w.heap[b]? = some (.cells us t (0, 0)) ∧ RDs β ok w cs us.toList := by
  cases k with
  | none =>
    simp only [mkO, RO] at h
    obtain ⟨b, us, h1, h2, h3⟩ := h
    exact ⟨b, us, h1, (fun b' h => by cases h), h2, h3⟩
  | some b =>
    simp only [mkO, RO] at h
    obtain ⟨h1, us, h2, h3⟩ := h
    exact ⟨b, us, h1, (fun b' h => by cases h; rfl), h2, h3⟩
theorem mk_ro {k : Option Nat} {id b : Nat} {us : Array Value} {t : TypeId} {cs : List D} (h1 : β id = some b) (hk : ∀ b', k = some b' → b' = b) (h2 : w.heap[b]? = some (.cells us t (0, 0))) (h3 : RDs β ok w cs us.toList) : RO β ok w id (mkO k t cs) := by
  cases k with
  | none => simp only [mkO, RO]; exact ⟨b, us, h1, h2, h3⟩
  | some b' =>
    obtain rfl := hk b' rfl
    simp only [mkO, RO]; exact ⟨h1, us, h2, h3⟩
theorem RDs.unims : ∀ {ms : List M} {vs : List Value}, RDs β ok w (ms.map .im) vs → RMs ok w ms vs
  | [], vs, h => by simpa only [RMs, List.map_nil, RDs] using h
  | m :: ms, vs, h => by
    simp only [List.map_cons, RDs, RD] at h
    obtain ⟨u, us, h1, h2, h3, h4⟩ := h
    simp only [RMs]
    exact ⟨u, us, h1, h2, h3, h4.unims⟩
theorem RDt.ims {β' : Nat → Option Nat} : ∀ {ms : List M} {vs : List Value}, RDt β ok w (ms.map .im) vs → RDt β' ok w (ms.map .im) vs
  | [], vs, h => by simpa only [List.map_nil, RDt] using h
  | m :: ms, vs, h => by
    simp only [List.map_cons, RDt, RD] at h
    obtain ⟨u, us, h1, h3, h4⟩ := h
    simp only [List.map_cons, RDt, RD]
    exact ⟨u, us, h1, h3, h4.ims⟩

/-- the claims behind a call that changes one box -/
theorem Conc.callP (hc : Conc N w0 ok0 S0 T H β ok a w) (dst : Option Nat) (v : Value) (m : M) (hd : ∀ d, dst = some d → d < N) {k : Option Nat} {id b : Nat} {t : TypeId} {cs cs' : List M} (h0 : H id = some (mkO k t (cs.map .im))) (hb : β id = some b)
    (hkeep : Keep (fun x => x = b) w w') (hl : cs'.length = cs.length) {us' : Array Value} (hus' : w'.heap[b]? = some (.cells us' t (0, 0))) (hcs' : RMs (fun b => ok b ∨ w.heap.size ≤ b) w' cs' us'.toList) (hm : RM (fun b => ok b ∨ w.heap.size ≤ b) w' m v) :
    Conc N w0 ok0 S0 (putT T dst (some (.im m))) (chH H [(id, some (mkO k t (cs'.map .im)))]) β (fun b => (ok b ∨ w.heap.size ≤ b) ∧ b < w'.heap.size) (a.put dst v) w' := by
  obtain ⟨b2, us, g1, g2, g3, g4⟩ := ro_mk (hc.obj id _ h0)
  rw [hb] at g1; cases g1
  have hblt := heap_lt g3
  have hsz : us'.size = us.size := by
    have h1 := hcs'.length
    have h2 := g4.length
    simp at h1 h2
    omega
  have hcase : ∀ i o', chH H [(id, some (mkO k t (cs'.map .im)))] i = some o' → (i = id ∧ o' = mkO k t (cs'.map .im)) ∨ (i ≠ id ∧ H i = some o') := by
    intro i o' h
    simp only [chH] at h
    by_cases he : id = i
    · rw [if_pos he] at h
      exact .inl ⟨he.symm, by simpa using h.symm⟩
    · rw [if_neg he] at h
      exact .inr ⟨fun h => he h.symm, h⟩
  have hlive : ∀ i o', chH H [(id, some (mkO k t (cs'.map .im)))] i = some o' → ∃ o'', H i = some o'' := by
    intro i o' h
    rcases hcase i o' h with ⟨rfl, rfl⟩ | ⟨h1, h2⟩
    · exact ⟨_, h0⟩
    · exact ⟨o', h2⟩
  have hst : ∀ x, x < w.heap.size → x ≠ b → w'.heap[x]? = w.heap[x]? := fun x hx hne => hkeep.block x hx hne
  have hs : Stays ok (fun b => (ok b ∨ w.heap.size ≤ b) ∧ b < w'.heap.size) w w' := fun x hx hlt => ⟨⟨.inl hx, Nat.lt_of_lt_of_le hlt hkeep.size⟩, hst x hlt (by rintro rfl; exact hc.okd x hx id _ h0 hb)⟩
  have hsw : Stays (fun b => ok b ∨ w.heap.size ≤ b) (fun b => (ok b ∨ w.heap.size ≤ b) ∧ b < w'.heap.size) w' w' := fun x hx hlt => ⟨⟨hx, hlt⟩, rfl⟩
  have hn : ∀ is, Names β β w w' is := fun is => ⟨fun _ _ _ h => h, fun i x vs e hi hx hh => by
    by_cases he : x = b
    · subst he
      rw [g3] at hh; cases hh
      exact ⟨us', _, hus', hsz⟩
    · exact ⟨vs, e, by rw [hst x (heap_lt hh) he]; exact hh, rfl⟩⟩
  refine hc.step dst v _ hd hs (fun i d h => hn _) ?_ ?_ ?_ ?_ (fun x hx => hx.2) ?_ ?_ ?_
  · intro d h
    simp only [Option.some.injEq] at h; subst h
    simp only [RD]
    exact RM.mono hsw _ _ hm
  · intro i o' h
    rcases hcase i o' h with ⟨rfl, rfl⟩ | ⟨h1, h2⟩
    · exact mk_ro hb g2 hus' (RMs.mono hsw _ _ hcs').ims
    · exact RO.mono hs (hn _) rfl (fun x hx => hst x (RO.block (hc.obj i o' h2) hx) (by rintro rfl; exact h1 (hc.inj i id o' _ _ h2 h0 hx hb))) (hc.obj i o' h2)
  · intro i j o1 o2 x h1 h2 h3 h4
    obtain ⟨p1, q1⟩ := hlive i o1 h1
    obtain ⟨p2, q2⟩ := hlive j o2 h2
    exact hc.inj i j p1 p2 x q1 q2 h3 h4
  · intro x hx i o' h he
    obtain ⟨p, hp⟩ := hlive i o' h
    rcases hx.1 with h1 | h1
    · exact hc.okd x h1 i p hp he
    · have := RO.block (hc.obj i p hp) he
      omega
  · intro x hx
    rcases hx.1 with h1 | h1
    · exact hc.okf x h1
    · exact .inr (.inl (Nat.le_trans hc.keep.size h1))
  · intro i o' x h hx
    obtain ⟨p, hp⟩ := hlive i o' h
    exact hc.low i p x hp hx
  · refine ⟨hkeep.os.trans hc.keep.os, hkeep.tape.trans hc.keep.tape, hkeep.output.trans hc.keep.output, Nat.le_trans hc.keep.size hkeep.size, fun x hx hS => ?_⟩
    rw [hst x (Nat.lt_of_lt_of_le hx hc.keep.size) ?_]
    · exact hc.keep.block x hx hS
    · rintro rfl
      rcases hc.low id _ x h0 hb with h1 | h1
      · omega
      · exact hS h1

/-- a call of a method with a pointer receiver -/
theorem sem_callP {x : Operand} {args : Array Operand} {ats : Array TypeId} {f : FuncId} {ms : List M} {m : M} {k : Option Nat} {id : Nat} {t : TypeId} {cs cs' : List M} {dst : Option Nat} {ty : TypeId} (hp : Plain P f) (hr : RetP P f t cs ms m cs') (hl : cs'.length = cs.length) :
    SemD P L (.call { callee := .value x, args := args, argTypes := ats }) dst ty (.im (.fn f) :: .ptr id 0 :: ms.map .im) [(id, mkO k t (cs.map .im))] ⟨some (.im m), [(id, some (mkO k t (cs'.map .im)))], [], [id]⟩ := by
  intro N w0 ok0 S0 T H β ok a w o Q hL hc hN ho hdst hty hx hg hfr
  have hall := evL_rd hc hx
  have hops : (Op.call { callee := .value x, args := args, argTypes := ats }).operands.toList = x :: args.toList := by simp [Op.operands, Call.operands]
  rw [hops] at hall
  simp only [List.map_cons, RDt, RD, RM] at hall
  obtain ⟨u, us, h1, h2, u2, us2, h3, ⟨b, hb, hv⟩, h4⟩ := hall
  simp only [List.cons.injEq] at h1
  obtain ⟨rfl, h1⟩ := h1
  have hH : H id = some (mkO k t (cs.map .im)) := hg (id, mkO k t (cs.map .im)) (by simp)
  obtain ⟨b2, us0, g1, g2, g3, g4⟩ := ro_mk (hc.obj id _ hH)
  rw [hb] at g1; cases g1
  obtain ⟨fn, p1, p2, p3⟩ := hp
  have hrun : (execOp a.eval o).run P w = .ok (.enter f (args.map a.eval)) w := by
    simp only [execOp, ho, resolve, h2, Deferred.ofValue, Sem.run_bind, Sem.run_pure, Result.andThen_ok, invoke, callFunc, program, Sem.run, p1, p2, p3, Bool.false_eq_true, if_false]
    simp
  unfold Oper.wp
  rw [hrun]
  rw [Oper.upon_enter]
  have hargs : (args.map a.eval) = (u2 :: us2).toArray := by
    apply Array.ext'
    rw [← h3, ← h1]
    simp
  rw [hargs]
  have hβ : ∀ i c, (if i = 0 then some b else none : Option Nat) = some c → c = b := by
    intro i c h
    split at h
    · cases h; rfl
    · cases h
  refine (hr (fun i => if i = 0 then some b else none) ok w (u2 :: us2) ?_ ?_ ?_ ?_).mono ?_
  · simp only [RDt, RD]
    exact ⟨u2, us2, rfl, ⟨b, rfl, hv⟩, h4.ims⟩
  · intro i t' c hm
    simp only [List.mem_singleton, Prod.mk.injEq] at hm
    obtain ⟨rfl, rfl, rfl⟩ := hm
    exact ⟨b, us0, rfl, g3, g4.unims⟩
  · rintro x hx ⟨i, t', c, hm, he⟩
    have := hβ i x he
    subst this
    exact hc.okd x hx id _ hH hb
  · intro i t1 c1 j t2 c2 x hm1 hm2 _ _
    simp only [List.mem_singleton, Prod.mk.injEq] at hm1 hm2
    rw [hm1.1, hm2.1]
  · rintro e w' ⟨v, rfl, q1, q2, q3⟩
    simp only []
    obtain ⟨b3, us3, r1, r2, r3⟩ := q2 0 t cs' (by simp)
    have := hβ 0 b3 r1
    subst this
    refine ⟨β, _, hc.callP o.dst v m hN hH hb ⟨q3.os, q3.tape, q3.output, q3.size, fun x hx hne => q3.block x hx ?_⟩ hl r2 r3 q1⟩
    rintro ⟨i, t', c, hm, he⟩
    exact hne (hβ i x he)
end

section
variable {P : Program} {L : Nat → Option TI} {N : Nat} {ops : Array Oper} {t : TL} {h : HL}
/-- a call of a method with a pointer receiver, by its contract: the box is the caller's own -/
theorem clp {k : Nat} {ty : TypeId} {pos : String} {af : Array Edge} {g : Option (Nat × Bool)} {rest : List Oper} {K : List Eff → TL → HL → Prop} {x : Operand} {args : Array Operand} {ats : Array TypeId} {f : Nat} {ms : List M} {m : M} {id : Nat} {t0 : TypeId} {cs cs' : List M} {ds' : List D}
    (h2 : Plain P f) (h4 : RetP P f t0 cs ms m cs') (hK : AR P L N ops rest (fun es => K (⟨some (.im m), [(id, some (.box t0 ds'))], [], [id]⟩ :: es)) ((k, some (.im m)) :: t) ((id, some (.box t0 ds')) :: h))
    (h1 : evL (ev (lookT t)) (x :: args.toList) = some (.im (.fn f) :: .ptr id 0 :: ms.map .im) := by exact rfl) (h3 : lookH h id = some (.box t0 (cs.map .im)) := by exact rfl) (hl : cs'.length = cs.length := by exact rfl) (h5 : normL (cs'.map D.im) = some ds' := by exact rfl)
    (hw : wantF (lookT t) ops g = some true := by exact rfl) (hd : Nat.blt k N = true := by exact rfl) :
    AR P L N ops (⟨some k, .call { callee := .value x, args := args, argTypes := ats }, ty, pos, af, g⟩ :: rest) K t h := by
  obtain rfl := normL_eq h5
  refine ar_step (o := ⟨some k, .call { callee := .value x, args := args, argTypes := ats }, ty, pos, af, g⟩) (wantF_ok hw) (.sem [(id, .box t0 (cs.map .im))] (by simpa [Op.operands, Call.operands] using h1) (by simpa using h3) (by simp) (sem_callP (k := none) h2 h4 hl)) hd rfl hK
/-- the same; the box is at a known block -/
theorem clq {k : Nat} {ty : TypeId} {pos : String} {af : Array Edge} {g : Option (Nat × Bool)} {rest : List Oper} {K : List Eff → TL → HL → Prop} {x : Operand} {args : Array Operand} {ats : Array TypeId} {f : Nat} {ms : List M} {m : M} {id b : Nat} {t0 : TypeId} {cs cs' : List M} {ds' : List D}
    (h2 : Plain P f) (h4 : RetP P f t0 cs ms m cs') (hK : AR P L N ops rest (fun es => K (⟨some (.im m), [(id, some (.bx b t0 ds'))], [], [id]⟩ :: es)) ((k, some (.im m)) :: t) ((id, some (.bx b t0 ds')) :: h))
    (h1 : evL (ev (lookT t)) (x :: args.toList) = some (.im (.fn f) :: .ptr id 0 :: ms.map .im) := by exact rfl) (h3 : lookH h id = some (.bx b t0 (cs.map .im)) := by exact rfl) (hl : cs'.length = cs.length := by exact rfl) (h5 : normL (cs'.map D.im) = some ds' := by exact rfl)
    (hw : wantF (lookT t) ops g = some true := by exact rfl) (hd : Nat.blt k N = true := by exact rfl) :
    AR P L N ops (⟨some k, .call { callee := .value x, args := args, argTypes := ats }, ty, pos, af, g⟩ :: rest) K t h := by
  obtain rfl := normL_eq h5
  refine ar_step (o := ⟨some k, .call { callee := .value x, args := args, argTypes := ats }, ty, pos, af, g⟩) (wantF_ok hw) (.sem [(id, .bx b t0 (cs.map .im))] (by simpa [Op.operands, Call.operands] using h1) (by simpa using h3) (by simp) (sem_callP (k := some b) h2 h4 hl)) hd rfl hK
end
end Fw

