/- Functions that hand back a row of their own making: the caller may let it grow. -/
import Derived.Test.YtkbhchlecokpiaaFwCi
namespace Fw
open Go Go.RowKit
set_option linter.unusedVariables false
set_option linter.unusedSimpArgs false
set_option linter.unusedSectionVars false
/-- called with data it hands back a new row, named by nothing else -/
def RetR (P : Program) (f : FuncId) (ms : List M) (e : TypeId) (sz n : Nat) (cs : List M) : Prop := ∀ (ok : Nat → Prop) (w : World) (vs : List Value), RMt ok w ms vs →
  Calls P f vs.toArray w fun r w' => ∃ b cap us, r = .returned (.slice (some ⟨b, 0, none⟩) n cap) ∧ w.heap.size ≤ b ∧ n ≤ cap ∧ cap ≤ maxLen ∧ w'.heap[b]? = some (.cells us e (0, 0)) ∧ us.size = cap * sz ∧ cs.length ≤ us.size ∧
    RMs (fun x => (ok x ∨ w.heap.size ≤ x) ∧ x ≠ b) w' cs (us.toList.take cs.length) ∧ Below w.heap.size w w'
section
variable {P : Program} {L : Nat → Option TI} {N : Nat}
theorem retR_of (hL : LayOk P L) {f : FuncId} {fn : Func} {c : Code} {ms : List M} {e : TypeId} {sz n : Nat} {cs : List M} {k : Nat} (hf : P.funcs[f]? = some fn) (hb : fn.body = some c) (hN : fn.ntmps = N) (hml0 : Nat.ble ms.length N = true) (hres : fn.results.toList = [.tmp k]) (hn0 : 0 < n)
    (hbody : Awp P N c (fun x t h => match x with | .exit _ => False | _ => ∃ id, lookT t k = some (.row id n sz) ∧ lookH h id = some (.rw e sz cs)) (iniT 0 ms) []) : RetR P f ms e sz n cs := by
  have hml := Nat.le_of_ble_eq_true hml0
  intro ok w vs hvs
  refine calls_of_wp hf hb ?_
  have hlen := hvs.length
  have hs : Stays ok (fun b => ok b ∧ b < w.heap.size) w w := fun b h1 h2 => ⟨⟨h1, h2⟩, rfl⟩
  have hvs' := RMt.mono hs _ _ hvs
  have hc : Conc N w ok (fun _ => False) (lookT (iniT 0 ms)) (lookH []) (fun _ => none) (fun b => ok b ∧ b < w.heap.size) { tmps := vs.toArray ++ Array.replicate (fn.ntmps - vs.toArray.size) undef, defers := [] } w := by
    refine ⟨rfl, ?_, ?_, ?_, ?_, ?_, fun b hb => hb.2, fun b hb => .inl hb.1, ?_, Keep.refl _ _⟩
    · simp; omega
    · intro i d hd
      obtain ⟨m', rfl, _, h2⟩ := iniT_look hd
      rw [Nat.sub_zero] at h2
      obtain ⟨u, g1, g2⟩ := hvs'.get h2
      simp only [RD]
      have hi : i < vs.length := (List.getElem?_eq_some_iff.1 g1).1
      have : (vs.toArray ++ Array.replicate (fn.ntmps - vs.toArray.size) undef).getD i undef = u := by
        rw [Array.getD_eq_getD_getElem?, Array.getElem?_append_left (by simpa using hi)]
        simp [g1]
      rw [this]
      exact g2
    · intro i o h; simp [lookH] at h
    · intro i j o o' b h; simp [lookH] at h
    · intro b _ i o h; simp [lookH] at h
    · intro i o b h; simp [lookH] at h
  refine wp_mono (hbody w ok (fun _ => False) _ _ _ w hc) ?_
  rintro e0 a' w' ⟨x, t', h', β', ok', h1, h2, h3⟩
  have fin : (∃ id, lookT t' k = some (.row id n sz) ∧ lookH h' id = some (.rw e sz cs)) → a'.defers = [] ∧ ∃ v, (results fn a'.tmps).run P w' = .ok v w' ∧ (∃ b cap us, Ending.returned v = .returned (.slice (some ⟨b, 0, none⟩) n cap) ∧ w.heap.size ≤ b ∧ n ≤ cap ∧ cap ≤ maxLen ∧ w'.heap[b]? = some (.cells us e (0, 0)) ∧ us.size = cap * sz ∧ cs.length ≤ us.size ∧
      RMs (fun x => (ok x ∨ w.heap.size ≤ x) ∧ x ≠ b) w' cs (us.toList.take cs.length) ∧ Below w.heap.size w w') := by
    rintro ⟨id, g1, g2⟩
    have hr := h3.tmp k _ g1
    have ho := h3.obj id _ g2
    simp only [RD] at hr
    simp only [RO] at ho
    rcases hr with ⟨_, hz⟩ | ⟨b, cap, k1, k2, k3, k4, us0, e1, k5, k6⟩
    · omega
    rcases ho with ⟨q1, _⟩ | ⟨b', us, cap', q1, q2, q3, q4, q5, q6⟩
    · rw [q1] at k1; cases k1
    rw [k1] at q1; cases q1
    rw [k5] at q2
    simp only [Option.some.injEq, Obj.cells.injEq] at q2
    obtain ⟨rfl, rfl, _⟩ := q2
    refine ⟨h3.defers, _, ?_, b, cap, us0, congrArg _ k2, ?_, k3, k4, k5, k6, q5, ?_, h3.keep.below⟩
    · haveI := sem_lawful
      have hf : results fn a'.tmps = (do let vs ← fn.results.mapM (resRun P a'); pure (if h : vs.size = 1 then vs[0] else .tuple vs)) := by
        unfold results
        congr 1
      rw [hf, Array.mapM_eq_mapM_toList, map_eq_pure_bind, hres]
      have : (List.mapM (resRun P a') [ResultVar.tmp k]).run P w' = .ok [a'.tmps.getD k undef] w' := by
        rw [List.mapM_cons]
        simp only [resRun, Sem.run_bind, Sem.run_pure, Result.andThen_ok, List.mapM_nil]
      simp only [Sem.run_bind, this, Result.andThen_ok, Sem.run_pure]
      simp
    · rcases h3.low id _ b g2 k1 with h | h
      · exact h
      · exact h.elim
    · exact RMs.mono (fun x hx _ => ⟨⟨by
        rcases h3.okf x hx with h | h | h
        · exact .inl h
        · exact .inr h
        · exact h.elim, by rintro rfl; exact h3.okd x hx id _ g2 k1⟩, rfl⟩) _ _ q6
  cases e0 <;> simp only [X.of, Option.some.injEq, reduceCtorEq] at h1 <;> subst h1
  · exact fin h2
  · exact h2.elim
  · exact fin h2
end
section
variable {P : Program} {L : Nat → Option TI}
/-- a call that hands back a new row -/
theorem sem_callR {x : Operand} {args : Array Operand} {ats : Array TypeId} {f : FuncId} {ms : List M} {e : TypeId} {sz n : Nat} {cs : List M} {id : Nat} {ty : TypeId} (hp : Plain P f) (hr : RetR P f ms e sz n cs) :
    SemD P L (.call { callee := .value x, args := args, argTypes := ats }) (some id) ty (.im (.fn f) :: ms.map .im) [] ⟨some (.row id n sz), [(id, some (.rw e sz cs))], [id], []⟩ := by
  intro N w0 ok0 S0 T H β ok a w o Q hL hc hN ho hdst hty hx hg hfr
  have hall := evL_rd hc hx
  have hops : (Op.call { callee := .value x, args := args, argTypes := ats }).operands.toList = x :: args.toList := by simp [Op.operands, Call.operands]
  rw [hops] at hall
  simp only [List.map_cons, RDt, RD, RM] at hall
  obtain ⟨u, us1, h1, h2, h4⟩ := hall
  simp only [List.cons.injEq] at h1
  obtain ⟨rfl, h1⟩ := h1
  obtain ⟨fn, p1, p2, p3⟩ := hp
  have hrun : (execOp a.eval o).run P w = .ok (.enter f (args.map a.eval)) w := by
    simp only [execOp, ho, resolve, h2, Deferred.ofValue, Sem.run_bind, Sem.run_pure, Result.andThen_ok, invoke, callFunc, program, Sem.run, p1, p2, p3, Bool.false_eq_true, if_false]
    simp
  unfold Oper.wp
  rw [hrun]
  rw [Oper.upon_enter]
  have hargs : (args.map a.eval) = us1.toArray := by
    apply Array.ext'
    rw [← h1]
    simp
  rw [hargs]
  refine (hr ok w us1 (RDt.unims h4)).mono ?_
  rintro r w' ⟨b, cap, us, rfl, g1, g2, g3, g4, g5, g6, g7, bel⟩
  simp only []
  have hkeep := Keep.of_below bel
  have hf := hfr id (by simp)
  have hst : ∀ x, x < w.heap.size → w'.heap[x]? = w.heap[x]? := fun x hx => hkeep.block x hx (fun h => h)
  have hs : Stays ok (fun x => ((ok x ∨ w.heap.size ≤ x) ∧ x ≠ b) ∧ x < w'.heap.size) w w' := fun x hx hlt => ⟨⟨⟨.inl hx, by omega⟩, Nat.lt_of_lt_of_le hlt hkeep.size⟩, hst x hlt⟩
  have hsw : Stays (fun x => (ok x ∨ w.heap.size ≤ x) ∧ x ≠ b) (fun x => ((ok x ∨ w.heap.size ≤ x) ∧ x ≠ b) ∧ x < w'.heap.size) w' w' := fun x hx hlt => ⟨⟨hx, hlt⟩, rfl⟩
  have hne : ∀ i, i ≠ id → updβ β id (some b) i = β i := fun i h => by unfold updβ; rw [if_neg h]
  have hid : updβ β id (some b) id = some b := by unfold updβ; rw [if_pos rfl]
  have hnm : ∀ is, id ∉ is → Names β (updβ β id (some b)) w w' is := fun is hi => ⟨fun i x him hx => by rw [hne i (by rintro rfl; exact hi him)]; exact hx, fun i x vs e' _ hx hh => ⟨vs, e', by rw [hst x (heap_lt hh)]; exact hh, rfl⟩⟩
  have hcase : ∀ i o', chH H [(id, some (.rw e sz cs))] i = some o' → (i = id ∧ o' = .rw e sz cs) ∨ (i ≠ id ∧ H i = some o') := by
    intro i o' h
    simp only [chH] at h
    by_cases he : id = i
    · rw [if_pos he] at h
      exact .inl ⟨he.symm, by simpa using h.symm⟩
    · rw [if_neg he] at h
      exact .inr ⟨fun h => he h.symm, h⟩
  refine ⟨updβ β id (some b), fun x => ((ok x ∨ w.heap.size ≤ x) ∧ x ≠ b) ∧ x < w'.heap.size, ?_⟩
  refine hc.step o.dst (.slice (some ⟨b, 0, none⟩) n cap) (some (.row id n sz)) hN hs (fun i d h => hnm _ (hf.1 i d h)) ?_ ?_ ?_ ?_ (fun x hx => hx.2) ?_ ?_ ?_
  · intro d h
    simp only [Option.some.injEq] at h; subst h
    simp only [RD]
    exact .inr ⟨b, cap, hid, rfl, g2, g3, us, e, g4, g5⟩
  · intro i o' h
    rcases hcase i o' h with ⟨rfl, rfl⟩ | ⟨k1, k2⟩
    · simp only [RO]
      exact .inr ⟨b, us, cap, hid, g4, g5, g3, g6, RMs.mono hsw _ _ g7⟩
    · exact RO.mono hs (hnm _ (hf.2 i o' k2).2) (hne i k1) (fun x hx => hst x (RO.block (hc.obj i o' k2) hx)) (hc.obj i o' k2)
  · intro i j o1 o2 x k1 k2 k3 k4
    rcases hcase i o1 k1 with ⟨rfl, rfl⟩ | ⟨q1, q2⟩ <;> rcases hcase j o2 k2 with ⟨rfl, rfl⟩ | ⟨r1, r2⟩
    · rfl
    · rw [hid] at k3; rw [hne j r1] at k4; cases k3
      have := RO.block (hc.obj j o2 r2) k4
      omega
    · rw [hid] at k4; rw [hne i q1] at k3; cases k4
      have := RO.block (hc.obj i o1 q2) k3
      omega
    · rw [hne i q1] at k3; rw [hne j r1] at k4
      exact hc.inj i j o1 o2 x q2 r2 k3 k4
  · intro x hx i o' h
    rcases hcase i o' h with ⟨rfl, rfl⟩ | ⟨k1, k2⟩
    · rw [hid]
      intro he; cases he
      exact hx.1.2 rfl
    · rw [hne i k1]
      intro he
      rcases hx.1.1 with q | q
      · exact hc.okd x q i o' k2 he
      · have := RO.block (hc.obj i o' k2) he
        omega
  · intro x hx
    rcases hx.1.1 with q | q
    · exact hc.okf x q
    · exact .inr (.inl (Nat.le_trans hc.keep.size q))
  · intro i o' x h hx
    rcases hcase i o' h with ⟨rfl, rfl⟩ | ⟨k1, k2⟩
    · rw [hid] at hx; cases hx
      exact .inl (Nat.le_trans hc.keep.size g1)
    · rw [hne i k1] at hx; exact hc.low i o' x k2 hx
  · exact ⟨hkeep.os.trans hc.keep.os, hkeep.tape.trans hc.keep.tape, hkeep.output.trans hc.keep.output, Nat.le_trans hc.keep.size hkeep.size, fun x hx hS => by
      rw [hst x (Nat.lt_of_lt_of_le hx hc.keep.size)]
      exact hc.keep.block x hx hS⟩
end
section
variable {P : Program} {L : Nat → Option TI} {N : Nat} {ops : Array Oper} {t : TL} {h : HL}
/-- a call that hands back a new row, by its contract -/
theorem clr {k : Nat} {ty : TypeId} {pos : String} {af : Array Edge} {g : Option (Nat × Bool)} {rest : List Oper} {K : List Eff → TL → HL → Prop} {x : Operand} {args : Array Operand} {ats : Array TypeId} {f : FuncId} {ms : List M} {e : TypeId} {sz n : Nat} {cs : List M}
    (h2 : Plain P f) (h4 : RetR P f ms e sz n cs) (hK : AR P L N ops rest (fun es => K (⟨some (.row k n sz), [(k, some (.rw e sz cs))], [k], []⟩ :: es)) ((k, some (.row k n sz)) :: t) ((k, some (.rw e sz cs)) :: h))
    (h1 : evL (ev (lookT t)) (x :: args.toList) = some (.im (.fn f) :: ms.map .im) := by exact rfl)
    (hw : wantF (lookT t) ops g = some true := by exact rfl) (hd : Nat.blt k N = true := by exact rfl) (hf : (freshT k t && freshH k h) = true := by exact rfl) :
    AR P L N ops (⟨some k, .call { callee := .value x, args := args, argTypes := ats }, ty, pos, af, g⟩ :: rest) K t h :=
  ar_step (o := ⟨some k, .call { callee := .value x, args := args, argTypes := ats }, ty, pos, af, g⟩) (wantF_ok hw) (.sem [] (by simpa [Op.operands, Call.operands] using h1) (by simp) (by simp) (sem_callR h2 h4)) hd (by simpa [freshAll] using hf) hK
end
end Fw
