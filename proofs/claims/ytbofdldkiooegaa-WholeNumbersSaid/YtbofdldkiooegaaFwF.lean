/- A program logic over data: each operation's step holds in the model. -/
import Derived.Test.YtbofdldkiooegaaFwE
namespace Fw
open Go Go.RowKit
set_option linter.unusedVariables false
set_option linter.unusedSimpArgs false
set_option linter.unusedSectionVars false

theorem splice_take {α : Type} {us vs : List α} {off n : Nat} (h : off + vs.length ≤ n) (hn : n ≤ us.length) : (splice us off vs).take n = splice (us.take n) off vs := by
  unfold splice
  have hl : (us.take off ++ vs).length = off + vs.length := by simp; omega
  rw [List.take_append, List.take_of_length_le (by omega), hl, List.take_take, show min off n = off by omega, List.drop_take]

def After (N : Nat) (w0 : World) (ok0 S0 : Nat → Prop) (T : Nat → Option D) (H : Nat → Option O) (o : Oper) (e : Eff) (a' : Act) (w' : World) : Prop :=
  ∃ β' ok', Conc N w0 ok0 S0 (putT T o.dst e.r) (chH H e.ch) β' ok' a' w'

section
variable {P : Program} {L : Nat → Option TI} {N : Nat} {w0 : World} {ok0 S0 : Nat → Prop} {T : Nat → Option D} {H : Nat → Option O} {β : Nat → Option Nat} {ok : Nat → Prop} {a : Act} {w w' : World}
  {o : Oper} {Q : Exit → Act → World → Prop} {K : Act → World → Prop}

theorem wp_val {v : Value} (h : (execOp a.eval o).run P w = .ok (.value v) w') (hk : K (a.put o.dst v) w') : o.wp P a w K Q := by
  unfold Oper.wp; rw [h]; exact hk
theorem wp_unit (h : (execOp a.eval o).run P w = .ok .skip w') (hk : K (a.put o.dst undef) w') : o.wp P a w K Q := by
  unfold Oper.wp; rw [h]; exact hk

theorem ev_rd (hc : Conc N w0 ok0 S0 T H β ok a w) {x : Operand} {d : D} (h : ev T x = some d) : RD β ok w d (a.eval x) := by
  cases x with
  | tmp t => exact hc.tmp t d h
  | global g => simp [ev] at h
  | func f => simp only [ev, Option.some.injEq] at h; subst h; simp only [RD, RM]; rfl
  | const v =>
    simp only [ev] at h
    unfold constD at h
    split at h <;> simp only [Option.some.injEq, reduceCtorEq] at h <;> subst h <;> simp only [RD, RM, Act.eval]
    
theorem evL_rd (hc : Conc N w0 ok0 S0 T H β ok a w) : ∀ {xs : List Operand} {ds : List D}, evL (ev T) xs = some ds → RDt β ok w ds (xs.map a.eval)
  | [], ds, h => by simp only [evL, Option.some.injEq] at h; subst h; simp [RDt]
  | x :: xs, ds, h => by
    simp only [evL] at h
    cases hx : ev T x with
    | none => rw [hx] at h; simp at h
    | some d =>
      cases hxs : evL (ev T) xs with
      | none => rw [hx, hxs] at h; simp at h
      | some ds' =>
        rw [hx, hxs] at h
        simp only [Option.some.injEq] at h; subst h
        simp only [List.map_cons, RDt]
        exact ⟨_, _, rfl, ev_rd hc hx, evL_rd hc hxs⟩
theorem go_val (hc : Conc N w0 ok0 S0 T H β ok a w) (hN : ∀ d, o.dst = some d → d < N) {v : Value} {d : D} {e : Eff} (he : e.ch = []) (her : e.r = some d) (hrun : (execOp a.eval o).run P w = .ok (.value v) w) (hd : RD β ok w d v) :
    o.wp P a w (After N w0 ok0 S0 T H o e) Q := by
  refine wp_val hrun ⟨β, ok, ?_⟩
  rw [he, her]
  exact hc.put o.dst v (some d) hN (fun d' h => by cases h; exact hd)

theorem rd_int (hc : Conc N w0 ok0 S0 T H β ok a w) {x : Operand} {k : IntKind} {n : Int} (h : ev T x = some (.im (.int k n))) : a.eval x = .int k n := by
  have := ev_rd hc h; simpa only [RD, RM] using this
theorem rd_bool (hc : Conc N w0 ok0 S0 T H β ok a w) {x : Operand} {n : Bool} (h : ev T x = some (.im (.bool n))) : a.eval x = .bool n := by
  have := ev_rd hc h; simpa only [RD, RM] using this
theorem rd_str (hc : Conc N w0 ok0 S0 T H β ok a w) {x : Operand} {n : List UInt8} (h : ev T x = some (.im (.str n))) : a.eval x = .string ⟨n.toArray⟩ := by
  have := ev_rd hc h; simpa only [RD, RM] using this
theorem rd_nil (hc : Conc N w0 ok0 S0 T H β ok a w) {x : Operand} (h : ev T x = some (.im .nil)) : a.eval x = .slice none 0 0 := by
  have := ev_rd hc h; simpa only [RD, RM] using this
theorem rd_ptr (hc : Conc N w0 ok0 S0 T H β ok a w) {x : Operand} {id off : Nat} (h : ev T x = some (.ptr id off)) : ∃ b, β id = some b ∧ a.eval x = .pointer (some ⟨b, off, none⟩) := by
  have := ev_rd hc h; simpa only [RD] using this
theorem rd_ep (hc : Conc N w0 ok0 S0 T H β ok a w) {x : Operand} {cs : List M} (h : ev T x = some (.ep cs)) : ∃ b off, a.eval x = .pointer (some ⟨b, off, none⟩) ∧ ok b ∧ b < w.heap.size ∧ RMc ok w b off cs := by
  have := ev_rd hc h; simpa only [RD] using this
theorem rd_box (hc : Conc N w0 ok0 S0 T H β ok a w) {id : Nat} {t : TypeId} {cs : List D} {b : Nat} (h : H id = some (.box t cs)) (hb : β id = some b) : ∃ us, w.heap[b]? = some (.cells us t (0, 0)) ∧ RDs β ok w cs us.toList := by
  have := hc.obj id _ h
  simp only [RO] at this
  obtain ⟨b', us, h1, h2, h3⟩ := this
  rw [hb] at h1; cases h1
  exact ⟨us, h2, h3⟩
theorem rd_rw (hc : Conc N w0 ok0 S0 T H β ok a w) {id : Nat} {e sz : Nat} {cs : List M} {b : Nat} (h : H id = some (.rw e sz cs)) (hb : β id = some b) :
    ∃ us cap, w.heap[b]? = some (.cells us e (0, 0)) ∧ us.size = cap * sz ∧ cap ≤ maxLen ∧ cs.length ≤ us.size ∧ RMs ok w cs (us.toList.take cs.length) := by
  have := hc.obj id _ h
  simp only [RO] at this
  rcases this with ⟨h1, _⟩ | ⟨b', us, cap, h1, h2, h3, h4, h5, h6⟩
  · rw [hb] at h1; cases h1
  · rw [hb] at h1; cases h1
    exact ⟨us, cap, h2, h3, h4, h5, h6⟩

mutual
theorem rdM_rm (hc : Conc N w0 ok0 S0 T H β ok a w) : ∀ (d : D) {m : M} {l : List Nat} {v : Value}, rdM H d = some (m, l) → RD β ok w d v → RM (fun b => ok b ∨ ∃ i o, i ∈ l ∧ H i = some o ∧ β i = some b) w m v
  | .im m', m, l, v, h, hr => by
    simp only [rdM, Option.some.injEq, Prod.mk.injEq] at h
    obtain ⟨rfl, rfl⟩ := h
    simp only [RD] at hr
    exact RM.mono (fun b hb _ => ⟨.inl hb, rfl⟩) _ _ hr
  | .agg ds, m, l, v, h, hr => by
    simp only [rdM] at h
    cases h1 : rdL H ds with
    | none => rw [h1] at h; simp at h
    | some p =>
      obtain ⟨ms, l'⟩ := p
      rw [h1] at h
      simp only [Option.some.injEq, Prod.mk.injEq] at h
      obtain ⟨rfl, rfl⟩ := h
      simp only [RD] at hr
      obtain ⟨us, rfl, h2⟩ := hr
      simp only [RM]
      exact ⟨us, rfl, rdL_rms hc ds h1 h2⟩
  | .tup ds, m, l, v, h, hr => by
    simp only [rdM] at h
    cases h1 : rdL H ds with
    | none => rw [h1] at h; simp at h
    | some p =>
      obtain ⟨ms, l'⟩ := p
      rw [h1] at h
      simp only [Option.some.injEq, Prod.mk.injEq] at h
      obtain ⟨rfl, rfl⟩ := h
      simp only [RD] at hr
      obtain ⟨us, rfl, h2⟩ := hr
      simp only [RM]
      exact ⟨us, rfl, rdL_rmt hc ds h1 h2⟩
  | .row id n sz, m, l, v, h, hr => by
    simp only [rdM] at h
    cases h1 : H id with
    | none => rw [h1] at h; simp at h
    | some o =>
      rw [h1] at h
      cases o with
      | rw e sz' cs =>
        simp only [] at h
        cases hb : (Nat.beq sz sz' && Nat.ble (n * sz) cs.length) with
        | false => rw [hb] at h; simp at h
        | true =>
          rw [hb] at h
          simp only [cond_true, Option.some.injEq, Prod.mk.injEq] at h
          obtain ⟨rfl, rfl⟩ := h
          simp only [Bool.and_eq_true] at hb
          have e1 := Nat.eq_of_beq_eq_true hb.1
          have e2 := Nat.le_of_ble_eq_true hb.2
          subst e1
          simp only [RD] at hr
          simp only [RM]
          rcases hr with ⟨rfl, rfl⟩ | ⟨b, cap, hbb, rfl, hnc, hcm, us, e', hus, hsz⟩
          · exact ⟨none, 0, rfl, Nat.le_refl _, by unfold maxLen; omega, by simp, by simp, by simp⟩
          · obtain ⟨us', cap', g1, g2, g3, g4, g5⟩ := rd_rw hc h1 hbb
            refine ⟨_, cap, rfl, hnc, hcm, by rintro rfl; simp, fun _ => ⟨b, 0, rfl, .inr ⟨id, _, by simp, h1, hbb⟩⟩, ?_⟩
            intro b' off' hh'
            simp only [Option.some.injEq, Addr.mk.injEq, and_true] at hh'
            obtain ⟨rfl, rfl⟩ := hh'
            have g6 : RMs ok w (cs.take (n * sz)) (us'.toList.take (n * sz)) := by
              have := g5.take (n * sz)
              rwa [List.take_take, show min (n * sz) cs.length = n * sz by omega] at this
            have h8 : (cs.take (n * sz)).length = n * sz := by rw [List.length_take]; omega
            refine RMs.rmc (ms := cs.take (n * sz)) (off := 0) g1 (k := us'.size) (by rw [h8]; omega) ?_
            rw [List.drop_zero, h8, List.take_take, show min (n * sz) us'.size = n * sz by omega]
            exact RMs.mono (fun b hb _ => ⟨.inl hb, rfl⟩) _ _ g6
      | _ => simp at h
  | .ptr _ _, m, l, v, h, hr => by simp [rdM] at h
  | .ep _, m, l, v, h, hr => by simp [rdM] at h
  | .fn _ _, m, l, v, h, hr => by simp [rdM] at h
  | .iface _ _, m, l, v, h, hr => by simp [rdM] at h
theorem rdL_rms (hc : Conc N w0 ok0 S0 T H β ok a w) : ∀ (ds : List D) {ms : List M} {l : List Nat} {vs : List Value}, rdL H ds = some (ms, l) → RDs β ok w ds vs → RMs (fun b => ok b ∨ ∃ i o, i ∈ l ∧ H i = some o ∧ β i = some b) w ms vs
  | [], ms, l, vs, h, hr => by
    simp only [rdL, Option.some.injEq, Prod.mk.injEq] at h
    obtain ⟨rfl, rfl⟩ := h
    simp only [RDs] at hr; subst hr; simp [RMs]
  | d :: ds, ms, l, vs, h, hr => by
    simp only [rdL] at h
    cases h1 : rdM H d with
    | none => rw [h1] at h; simp at h
    | some p =>
      cases h2 : rdL H ds with
      | none => rw [h1, h2] at h; simp at h
      | some q =>
        obtain ⟨m, l1⟩ := p
        obtain ⟨ms', l2⟩ := q
        rw [h1, h2] at h
        simp only [Option.some.injEq, Prod.mk.injEq] at h
        obtain ⟨rfl, rfl⟩ := h
        simp only [RDs] at hr
        obtain ⟨u, us, rfl, h3, h4, h5⟩ := hr
        simp only [RMs]
        refine ⟨u, us, rfl, h3, RM.mono (fun b hb _ => ⟨?_, rfl⟩) _ _ (rdM_rm hc d h1 h4), RMs.mono (fun b hb _ => ⟨?_, rfl⟩) _ _ (rdL_rms hc ds h2 h5)⟩
        · rcases hb with hb | ⟨i, o, hi, hh⟩
          · exact .inl hb
          · exact .inr ⟨i, o, List.mem_append_left _ hi, hh⟩
        · rcases hb with hb | ⟨i, o, hi, hh⟩
          · exact .inl hb
          · exact .inr ⟨i, o, List.mem_append_right _ hi, hh⟩
theorem rdL_rmt (hc : Conc N w0 ok0 S0 T H β ok a w) : ∀ (ds : List D) {ms : List M} {l : List Nat} {vs : List Value}, rdL H ds = some (ms, l) → RDt β ok w ds vs → RMt (fun b => ok b ∨ ∃ i o, i ∈ l ∧ H i = some o ∧ β i = some b) w ms vs
  | [], ms, l, vs, h, hr => by
    simp only [rdL, Option.some.injEq, Prod.mk.injEq] at h
    obtain ⟨rfl, rfl⟩ := h
    simp only [RDt] at hr; subst hr; simp [RMt]
  | d :: ds, ms, l, vs, h, hr => by
    simp only [rdL] at h
    cases h1 : rdM H d with
    | none => rw [h1] at h; simp at h
    | some p =>
      cases h2 : rdL H ds with
      | none => rw [h1, h2] at h; simp at h
      | some q =>
        obtain ⟨m, l1⟩ := p
        obtain ⟨ms', l2⟩ := q
        rw [h1, h2] at h
        simp only [Option.some.injEq, Prod.mk.injEq] at h
        obtain ⟨rfl, rfl⟩ := h
        simp only [RDt] at hr
        obtain ⟨u, us, rfl, h4, h5⟩ := hr
        simp only [RMt]
        refine ⟨u, us, rfl, RM.mono (fun b hb _ => ⟨?_, rfl⟩) _ _ (rdM_rm hc d h1 h4), RMt.mono (fun b hb _ => ⟨?_, rfl⟩) _ _ (rdL_rmt hc ds h2 h5)⟩
        · rcases hb with hb | ⟨i, o, hi, hh⟩
          · exact .inl hb
          · exact .inr ⟨i, o, List.mem_append_left _ hi, hh⟩
        · rcases hb with hb | ⟨i, o, hi, hh⟩
          · exact .inl hb
          · exact .inr ⟨i, o, List.mem_append_right _ hi, hh⟩
end
theorem evM_rm (hc : Conc N w0 ok0 S0 T H β ok a w) : ∀ {xs : List Operand} {ms : List M} {l : List Nat}, evM (ev T) H xs = some (ms, l) → RMt (fun b => ok b ∨ ∃ i o, i ∈ l ∧ H i = some o ∧ β i = some b) w ms (xs.map a.eval)
  | [], ms, l, h => by
    simp only [evM, Option.some.injEq, Prod.mk.injEq] at h
    obtain ⟨rfl, rfl⟩ := h
    simp [RMt]
  | x :: xs, ms, l, h => by
    simp only [evM] at h
    cases h0 : ev T x with
    | none => rw [h0] at h; simp at h
    | some d =>
      rw [h0] at h
      simp only [] at h
      cases h1 : rdM H d with
      | none => rw [h1] at h; simp at h
      | some p =>
        cases h2 : evM (ev T) H xs with
        | none => rw [h1, h2] at h; simp at h
        | some q =>
          obtain ⟨m, l1⟩ := p
          obtain ⟨ms', l2⟩ := q
          rw [h1, h2] at h
          simp only [Option.some.injEq, Prod.mk.injEq] at h
          obtain ⟨rfl, rfl⟩ := h
          simp only [List.map_cons, RMt]
          refine ⟨_, _, rfl, RM.mono (fun b hb _ => ⟨?_, rfl⟩) _ _ (rdM_rm hc d h1 (ev_rd hc h0)), RMt.mono (fun b hb _ => ⟨?_, rfl⟩) _ _ (evM_rm hc h2)⟩
          · rcases hb with hb | ⟨i, o, hi, hh⟩
            · exact .inl hb
            · exact .inr ⟨i, o, List.mem_append_left _ hi, hh⟩
          · rcases hb with hb | ⟨i, o, hi, hh⟩
            · exact .inl hb
            · exact .inr ⟨i, o, List.mem_append_right _ hi, hh⟩


section
variable (hL : LayOk P L) (hc : Conc N w0 ok0 S0 T H β ok a w) (hN : ∀ d, o.dst = some d → d < N)
include hL hc hN

theorem s_move {x : Operand} {d : D} (ho : o.op = .move x ∨ o.op = .assign x) (h : ev T x = some d) : o.wp P a w (After N w0 ok0 S0 T H o (val d)) Q :=
  go_val hc hN rfl rfl (v := a.eval x) (by rcases ho with ho | ho <;> (simp only [execOp, ho]; rfl)) (ev_rd hc h)
theorem s_pick {c x y : Operand} {b : Bool} {d : D} (ho : o.op = .pick c x y) (h : ev T c = some (.im (.bool b))) (h' : ev T (bif b then x else y) = some d) : o.wp P a w (After N w0 ok0 S0 T H o (val d)) Q := by
  refine go_val hc hN rfl rfl (v := a.eval (bif b then x else y)) ?_ (ev_rd hc h')
  simp only [execOp, ho, rd_bool hc h, asBool, Sem.run_bind, Sem.run_pure, Result.andThen_ok]
  cases b <;> rfl
theorem s_alloc {t id : Nat} {i : TI} (ho : o.op = .alloc t) (hdst : o.dst = some id) (h : L t = some i) (hf : Fresh T H id) :
    o.wp P a w (After N w0 ok0 S0 T H o ⟨some (.ptr id 0), [(id, some (.box t ((mcells i.mz).map .im)))], [id], []⟩) Q := by
  obtain ⟨_, _, h3, h4, _⟩ := hL t i h
  refine wp_val (v := .pointer (some ⟨w.heap.size, 0, none⟩)) (w' := w.alloc (.cells i.zero.cells t)) ?_ ⟨updβ β id (some w.heap.size), ok, ?_⟩
  · simp only [execOp, ho, Instr.alloc, newVar, Sem.run_bind, run_zero hL h, run_newRow, Result.andThen_ok, Sem.run_pure]
  · refine hc.new o.dst _ _ hN id _ _ hf ?_ ?_
    · simp only [RO]
      refine ⟨w.heap.size, i.zero.cells, by simp [updβ], push_new w _, ?_⟩
      have h5 := RM.cells h4 (h3 (w.alloc (.cells i.zero.cells t)))
      exact RMs.rds (RMs.mono (ok := fun _ => False) (w := w.alloc (.cells i.zero.cells t)) (fun _ hf _ => hf.elim) _ _ h5)
    · intro d hd
      simp only [Option.some.injEq] at hd; subst hd
      simp only [RD]
      exact ⟨w.heap.size, by simp [updβ], rfl⟩
theorem s_box {t id : Nat} {x : Operand} {d : D} (ho : o.op = .box t x) (hdst : o.dst = some id) (h : ev T x = some d) (hw : whole d = true) (hf : Fresh T H id) :
    o.wp P a w (After N w0 ok0 S0 T H o ⟨some (.ptr id 0), [(id, some (.box t (dcells d)))], [id], []⟩) Q := by
  have hx := ev_rd hc h
  have hfd : id ∉ d.refs := by
    cases x with
    | tmp k => exact hf.1 k d h
    | global g => simp [ev] at h
    | func f => simp only [ev, Option.some.injEq] at h; subst h; simp [D.refs]
    | const v =>
      simp only [ev] at h
      unfold constD at h
      split at h <;> simp only [Option.some.injEq, reduceCtorEq] at h <;> subst h <;> simp [D.refs]
  refine wp_val (v := .pointer (some ⟨w.heap.size, 0, none⟩)) (w' := w.alloc (.cells (a.eval x).cells t)) ?_ ⟨updβ β id (some w.heap.size), ok, ?_⟩
  · simp only [execOp, ho, Instr.box, newVar, Sem.run_bind, run_newRow, Result.andThen_ok, Sem.run_pure]
  · refine hc.new o.dst _ _ hN id _ _ hf ?_ ?_
    · simp only [RO]
      refine ⟨w.heap.size, (a.eval x).cells, by simp [updβ], push_new w _, ?_⟩
      exact RD.cells hw (RD.mono (Stays.alloc ok w _) d _ (Names.alloc _ hfd (fun b us e h => heap_lt h)) hx)
    · intro d hd
      simp only [Option.some.injEq] at hd; subst hd
      simp only [RD]
      exact ⟨w.heap.size, by simp [updβ], rfl⟩
theorem s_loadB {t id off tb : Nat} {p : Operand} {cs : List D} {i : TI} {d : D} {e : Eff} (ho : o.op = .load t p) (h : ev T p = some (.ptr id off)) (hg : H id = some (.box tb cs)) (hi : L t = some i) (ha : aggD i.desc = false) (hd : cs[off]? = some d) (he : e.ch = []) (her : e.r = some d) :
    o.wp P a w (After N w0 ok0 S0 T H o e) Q := by
  obtain ⟨b, hb, hp⟩ := rd_ptr hc h
  obtain ⟨us, h1, h2⟩ := rd_box hc hg hb
  obtain ⟨u, h3, h4, h5⟩ := h2.get hd
  refine go_val hc hN he her (v := u) ?_ h5
  have hcell : w.cell? ⟨b, off, none⟩ = some u := by rw [cell_get h1, ← Array.getElem?_toList, h3]
  simp only [execOp, ho, Instr.loadAt, Instr.sureAddr, hp, Sem.run_bind, Sem.run_pure, Result.andThen_ok, run_loadVar1 hL hi ha hcell]
theorem s_loadBA {t id off tb : Nat} {p : Operand} {cs : List D} {i : TI} {e : Eff} (ho : o.op = .load t p) (h : ev T p = some (.ptr id off)) (hg : H id = some (.box tb cs)) (hi : L t = some i) (ha : aggD i.desc = true) (hl : off + i.size ≤ cs.length)
    (he : e.ch = []) (her : e.r = some (mkAgg ((cs.drop off).take i.size))) : o.wp P a w (After N w0 ok0 S0 T H o e) Q := by
  obtain ⟨b, hb, hp⟩ := rd_ptr hc h
  obtain ⟨us, h1, h2⟩ := rd_box hc hg hb
  have hlen : cs.length = us.size := by simpa using h2.length
  have h3 := (h2.drop off).take i.size
  refine go_val hc hN he her (v := .agg ((us.toList.drop off).take i.size).toArray) ?_ (mkAgg_rd (by simpa using h3))
  have hcell : ∀ j u, ((us.toList.drop off).take i.size)[j]? = some u → w.cell? ⟨b, off + j, none⟩ = some u := by
    intro j u hj
    rw [cell_get h1, ← Array.getElem?_toList]
    rw [List.getElem?_take] at hj
    split at hj
    · rwa [List.getElem?_drop] at hj
    · cases hj
  simp only [execOp, ho, Instr.loadAt, Instr.sureAddr, hp, Sem.run_bind, Sem.run_pure, Result.andThen_ok, run_loadVarA hL hi ha (by simp; omega) hcell]
theorem s_loadR {t id off et sz : Nat} {p : Operand} {cs : List M} {i : TI} {m : M} {e : Eff} (ho : o.op = .load t p) (h : ev T p = some (.ptr id off)) (hg : H id = some (.rw et sz cs)) (hi : L t = some i) (ha : aggD i.desc = false) (hd : cs[off]? = some m) (he : e.ch = []) (her : e.r = some (.im m)) :
    o.wp P a w (After N w0 ok0 S0 T H o e) Q := by
  obtain ⟨b, hb, hp⟩ := rd_ptr hc h
  obtain ⟨us, cap, h1, _, _, hlen, h2⟩ := rd_rw hc hg hb
  obtain ⟨u, h3, h4, h5⟩ := h2.get hd
  refine go_val hc hN he her (v := u) ?_ (by simpa only [RD] using h5)
  have hcell : w.cell? ⟨b, off, none⟩ = some u := by
    rw [cell_get h1, ← Array.getElem?_toList]
    rw [List.getElem?_take] at h3
    split at h3
    · exact h3
    · cases h3
  simp only [execOp, ho, Instr.loadAt, Instr.sureAddr, hp, Sem.run_bind, Sem.run_pure, Result.andThen_ok, run_loadVar1 hL hi ha hcell]
theorem s_loadRA {t id off et sz : Nat} {p : Operand} {cs : List M} {i : TI} {e : Eff} (ho : o.op = .load t p) (h : ev T p = some (.ptr id off)) (hg : H id = some (.rw et sz cs)) (hi : L t = some i) (ha : aggD i.desc = true) (hl : off + i.size ≤ cs.length)
    (he : e.ch = []) (her : e.r = some (.im (.agg ((cs.drop off).take i.size)))) : o.wp P a w (After N w0 ok0 S0 T H o e) Q := by
  obtain ⟨b, hb, hp⟩ := rd_ptr hc h
  obtain ⟨us, cap, h1, _, _, hlen, h2⟩ := rd_rw hc hg hb
  have h3 := (h2.drop off).take i.size
  have e1 : ((us.toList.take cs.length).drop off).take i.size = (us.toList.drop off).take i.size := by
    rw [List.drop_take, List.take_take, show min i.size (cs.length - off) = i.size by omega]
  rw [e1] at h3
  refine go_val hc hN he her (v := .agg ((us.toList.drop off).take i.size).toArray) ?_ (by simp only [RD, RM]; exact ⟨_, rfl, by simpa using h3⟩)
  have hcell : ∀ j u, ((us.toList.drop off).take i.size)[j]? = some u → w.cell? ⟨b, off + j, none⟩ = some u := by
    intro j u hj
    rw [cell_get h1, ← Array.getElem?_toList]
    rw [List.getElem?_take] at hj
    split at hj
    · rwa [List.getElem?_drop] at hj
    · cases hj
  simp only [execOp, ho, Instr.loadAt, Instr.sureAddr, hp, Sem.run_bind, Sem.run_pure, Result.andThen_ok, run_loadVarA hL hi ha (by simp; omega) hcell]
theorem s_loadE {t : Nat} {p : Operand} {cs : List M} {i : TI} {m : M} (ho : o.op = .load t p) (h : ev T p = some (.ep cs)) (hi : L t = some i) (ha : aggD i.desc = false) (hd : cs[0]? = some m) :
    o.wp P a w (After N w0 ok0 S0 T H o (val (.im m))) Q := by
  obtain ⟨b, off, hp, _, _, h2⟩ := rd_ep hc h
  obtain ⟨u, h3, h4, h5⟩ := h2.get hd
  rw [Nat.add_zero] at h3
  refine go_val hc hN rfl rfl (v := u) ?_ (by simpa only [RD] using h5)
  simp only [execOp, ho, Instr.loadAt, Instr.sureAddr, hp, Sem.run_bind, Sem.run_pure, Result.andThen_ok, run_loadVar1 hL hi ha h3]
theorem s_loadEA {t : Nat} {p : Operand} {cs : List M} {i : TI} (ho : o.op = .load t p) (h : ev T p = some (.ep cs)) (hi : L t = some i) (ha : aggD i.desc = true) (hl : i.size ≤ cs.length) :
    o.wp P a w (After N w0 ok0 S0 T H o (val (.im (.agg (cs.take i.size))))) Q := by
  obtain ⟨b, off, hp, _, _, h2⟩ := rd_ep hc h
  obtain ⟨vs, g1, g2, g3⟩ := (h2.take i.size).vals
  refine go_val hc hN rfl rfl (v := .agg vs.toArray) ?_ (by simp only [RD, RM]; exact ⟨_, rfl, by simpa using g3⟩)
  simp only [execOp, ho, Instr.loadAt, Instr.sureAddr, hp, Sem.run_bind, Sem.run_pure, Result.andThen_ok, run_loadVarA hL hi ha (by rw [g1]; simp; omega) g2]

theorem run_storeVar {t b off : Nat} {i : TI} {v : Value} {us : Array Value} {e : TypeId} (hi : L t = some i) (hb : w.heap[b]? = some (.cells us e (0, 0))) (hs : v.cells.size = i.size) (hl : off + i.size ≤ us.size) (h1 : ∀ u ∈ v.cells.toList, u.oneCell' = true) :
    ∃ w', (storeVar t ⟨b, off, none⟩ v).run P w = .ok () w' ∧ Turned b w w' ∧ w'.heap[b]? = some (.cells (splice us.toList off v.cells.toList).toArray e (0, 0)) := by
  obtain ⟨w', g1, g2, g3⟩ := run_storeCells (P := P) v.cells.toList w us off 0 hb (by simp [hs]; omega) h1
  rw [Nat.add_zero] at g3
  refine ⟨w', ?_, g2, g3⟩
  simp only [storeVar, Sem.run_bind, run_sizeOf hL hi, Result.andThen_ok, hs, ne_eq, not_true, if_false]
  exact g1
theorem s_storeB {t id off tb : Nat} {p x : Operand} {d : D} {cs : List D} {i : TI} (ho : o.op = .store t p x) (h : ev T p = some (.ptr id off)) (hx : ev T x = some d) (hw : whole d = true) (hg : H id = some (.box tb cs)) (hi : L t = some i) (hs : (dcells d).length = i.size) (hl : off + i.size ≤ cs.length) :
    o.wp P a w (After N w0 ok0 S0 T H o ⟨none, [(id, some (.box tb (splice cs off (dcells d))))], [], [id]⟩) Q := by
  obtain ⟨b, hb, hp⟩ := rd_ptr hc h
  obtain ⟨us, h1, h2⟩ := rd_box hc hg hb
  have hlen : cs.length = us.size := by simpa using h2.length
  have hv := ev_rd hc hx
  have hcs := RD.cells hw hv
  obtain ⟨w', g1, g2, g3⟩ := run_storeVar hL hc hN (o := o) (off := off) (v := a.eval x) hi h1 (by rw [RD.cells_len hw hv, hs]) (by omega) hcs.one
  have hst : Stays ok ok w w' := fun b' hb' _ => ⟨hb', g2.block b' (by rintro rfl; exact hc.okd b' hb' id _ hg hb)⟩
  refine wp_unit (w' := w') ?_ ⟨β, ok, ?_⟩
  · simp only [execOp, ho, Instr.storeAt, Instr.sureAddr, hp, Sem.run_bind, Sem.run_pure, Result.andThen_ok, g1]
  · refine hc.turn o.dst undef none hN id _ _ b hg hb g2 ?_ (fun d h => by cases h)
    simp only [RO]
    refine ⟨b, _, hb, g3, ?_⟩
    simpa using (RDs.mono hst _ _ (g2.names _) (h2.splice hcs))
theorem s_storeR {t id off et sz : Nat} {p x : Operand} {d : D} {m : M} {cs : List M} {i : TI} (ho : o.op = .store t p x) (h : ev T p = some (.ptr id off)) (hx : ev T x = some d) (hm : toM d = some m) (hw : mwhole m = true) (hg : H id = some (.rw et sz cs)) (hi : L t = some i) (hs : (mcells m).length = i.size) (hl : off + i.size ≤ cs.length) (h0 : 0 < cs.length) :
    o.wp P a w (After N w0 ok0 S0 T H o ⟨none, [(id, some (.rw et sz (splice cs off (mcells m))))], [], [id]⟩) Q := by
  obtain ⟨b, hb, hp⟩ := rd_ptr hc h
  obtain ⟨us, cap, h1, hsz, hcap, hlen, h2⟩ := rd_rw hc hg hb
  have hv := toM_rm hm (ev_rd hc hx)
  have hcs := RM.cells hw hv
  have hsize := RM.cells_len hw hv
  obtain ⟨w', g1, g2, g3⟩ := run_storeVar hL hc hN (o := o) (off := off) (v := a.eval x) hi h1 (by rw [hsize, hs]) (by omega) hcs.one
  have hst : Stays ok ok w w' := fun b' hb' _ => ⟨hb', g2.block b' (by rintro rfl; exact hc.okd b' hb' id _ hg hb)⟩
  have hul : (splice us.toList off (a.eval x).cells.toList).length = us.size := by rw [splice_length]; simp; simp; omega
  refine wp_unit (w' := w') ?_ ⟨β, ok, ?_⟩
  · simp only [execOp, ho, Instr.storeAt, Instr.sureAddr, hp, Sem.run_bind, Sem.run_pure, Result.andThen_ok, g1]
  · refine hc.turn o.dst undef none hN id _ _ b hg hb g2 ?_ (fun d h => by cases h)
    simp only [RO]
    have hcl : (splice cs off (mcells m)).length = cs.length := by rw [splice_length]; omega
    refine .inr ⟨b, _, cap, hb, g3, by simp only [List.size_toArray]; omega, hcap, by simp only [List.size_toArray]; omega, ?_⟩
    have e1 : (splice us.toList off (a.eval x).cells.toList).take cs.length = splice (us.toList.take cs.length) off (a.eval x).cells.toList :=
      splice_take (by simp only [Array.length_toList]; omega) (by simp only [Array.length_toList]; omega)
    rw [hcl]
    simp only [List.toList_toArray] at *
    rw [e1]
    exact RMs.mono hst _ _ (h2.splice hcs)
end
end
end Fw
