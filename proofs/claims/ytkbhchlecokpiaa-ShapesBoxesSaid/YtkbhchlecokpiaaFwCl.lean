/- A slice of literals that hold rows: the rows become data. -/
import Derived.Test.YtkbhchlecokpiaaFwCk
namespace Fw
open Go Go.RowKit
set_option linter.unusedVariables false
set_option linter.unusedSimpArgs false
set_option linter.unusedSectionVars false
def allB (is : List Nat) : List Nat → Bool
  | [] => true
  | i :: l => memB is i && allB is l
theorem allB_mem {is : List Nat} : ∀ {l : List Nat}, allB is l = true → ∀ i ∈ l, i ∈ is
  | [], _, i, h => by cases h
  | j :: l, hb, i, h => by
    simp only [allB, Bool.and_eq_true] at hb
    rcases List.mem_cons.1 h with rfl | h
    · exact memB_mem hb.1
    · exact allB_mem hb.2 i h
/-- what slots hold, as data; these rows become data -/
def frzρ (ρ : Operand → Option D) (g : Nat → Option O) (ids : List Nat) (x : Operand) : Option D := match (ρ x).bind (rdM g) with
  | some (m, l) => bif allB ids l then some (.im m) else none
  | none => none
theorem evL_same {ρ ρ' : Operand → Option D} : ∀ {xs : List Operand} {ds : List D}, evL ρ xs = some ds → evL ρ' xs = some ds → ∀ x ∈ xs, ρ x = ρ' x
  | [], _, _, _, x, hx => by cases hx
  | y :: ys, ds, h, h', x, hx => by
    simp only [evL] at h h'
    cases e1 : ρ y with
    | none => rw [e1] at h; simp at h
    | some d =>
      cases e2 : ρ' y with
      | none => rw [e2] at h'; simp at h'
      | some d' =>
        rw [e1] at h; rw [e2] at h'
        cases f1 : evL ρ ys with
        | none => rw [f1] at h; simp at h
        | some l =>
          cases f2 : evL ρ' ys with
          | none => rw [f2] at h'; simp at h'
          | some l' =>
            rw [f1] at h; rw [f2] at h'
            simp only [Option.some.injEq] at h h'
            rw [← h] at h'
            simp only [List.cons.injEq] at h'
            obtain ⟨rfl, rfl⟩ := h'
            rcases List.mem_cons.1 hx with rfl | hx
            · rw [e1, e2]
            · exact evL_same f1 f2 x hx
def ogOf (g : Nat → Option O) (ids : List Nat) : List (Nat × O) := ids.filterMap fun i => (g i).map (i, ·)
theorem sem_buildSliceZ {P : Program} {L : Nat → Option TI} {t len id : Nat} {parts : Array (Nat × Operand)} {ty : TypeId} {i : TI} {e : Nat} {ei : TI} {cs : List M} {ρ0 : Operand → Option D} {g0 : Nat → Option O} {ids : List Nat} {ds : List D} (hi : L t = some i) (hf : i.desc = .slice e) (hei : L e = some ei) (h0 : 0 < ei.size) (hl : len * ei.size ≤ 16777216)
    (hds : evL ρ0 (Op.buildSlice t len parts).operands.toList = some ds) (hids : ∀ j ∈ ids, (g0 j).isSome = true)
    (hcs0 : fillM (frzρ ρ0 g0 ids) (fun k => some (k * ei.size, ei.size)) (List.replicate len (mcells ei.mz)).flatten parts.toList = some cs) :
    SemD P L (.buildSlice t len parts) (some id) ty ds (ogOf g0 ids) ⟨some (.row id len ei.size), (id, some (.rw e ei.size cs)) :: ids.map (fun i => (i, none)), [id], ids⟩ := by
  intro N w0 ok0 S0 T H β ok a w o Q hL hc hN ho hdst hty hx hg hfr
  have hH : ∀ j ∈ ids, H j = g0 j := by
    intro j hj
    have h1 := hids j hj
    cases h2 : g0 j with
    | none => rw [h2] at h1; simp at h1
    | some ob => exact hg (j, ob) (List.mem_filterMap.2 ⟨j, hj, by rw [h2]; rfl⟩)
  have hρ : ∀ x ∈ (Op.buildSlice t len parts).operands.toList, ev T x = ρ0 x := evL_same hx hds
  have hfz : ∀ x ∈ (Op.buildSlice t len parts).operands.toList, ∀ d, frzρ ρ0 g0 ids x = some d → frzρ (ev T) H ids x = some d := by
    intro x hxm d hd
    unfold frzρ at hd ⊢
    rw [hρ x hxm]
    cases h1 : ρ0 x with
    | none => rw [h1] at hd; simp at hd
    | some d0 =>
      rw [h1] at hd
      simp only [Option.bind_some] at hd ⊢
      cases h2 : rdM g0 d0 with
      | none => rw [h2] at hd; simp at hd
      | some r =>
        obtain ⟨m, l⟩ := r
        rw [h2] at hd
        dsimp only at hd
        cases h3 : allB ids l with
        | false => rw [h3] at hd; simp at hd
        | true =>
          rw [h3] at hd
          rw [rdM_congr d0 h2 (fun j hj => hH j (allB_mem h3 j hj))]
          dsimp only
          rw [h3]
          exact hd
  let ok2 : Nat → Prop := fun b => ok b ∨ ∃ i o, i ∈ ids ∧ H i = some o ∧ β i = some b
  let ρ2 : Operand → Option D := frzρ (ev T) H ids
  have hfill : ∀ (ps : List (Nat × Operand)) (c c' : List M), (∀ p ∈ ps, p.2 ∈ (Op.buildSlice t len parts).operands.toList) → fillM (frzρ ρ0 g0 ids) (fun k => some (k * ei.size, ei.size)) c ps = some c' → fillM ρ2 (fun k => some (k * ei.size, ei.size)) c ps = some c' := by
    intro ps
    induction ps with
    | nil => intro c c' _ h; exact h
    | cons p ps ih =>
      intro c c' hm h
      obtain ⟨j, x⟩ := p
      simp only [fillM] at h ⊢
      cases h1 : frzρ ρ0 g0 ids x with
      | none => rw [h1] at h; simp at h
      | some d =>
        have h2 : ρ2 x = some d := hfz x (hm (j, x) (by simp)) d h1
        rw [h1] at h
        rw [h2]
        simp only [Option.bind_some] at h ⊢
        cases h3 : toM d with
        | none => rw [h3] at h; simp at h
        | some m =>
          rw [h3] at h
          dsimp only at h ⊢
          cases h4 : (mwhole m && Nat.beq (mcells m).length ei.size && Nat.ble (j * ei.size + ei.size) c.length) with
          | false => rw [h4] at h; simp at h
          | true =>
            rw [h4] at h
            simp only [cond_true] at h ⊢
            exact ih _ _ (fun p hp => hm p (by simp [hp])) h
  have hcs := hfill parts.toList _ cs (fun p hp => by simp only [Op.operands, Array.toList_map, List.mem_map]; exact ⟨p, hp, rfl⟩) hcs0
  have hev : ∀ x d, ρ2 x = some d → RD β ok2 w d (a.eval x) := by
    intro x d hd
    change frzρ (ev T) H ids x = some d at hd
    unfold frzρ at hd
    cases h1 : ev T x with
    | none => rw [h1] at hd; simp at hd
    | some d0 =>
      rw [h1] at hd
      simp only [Option.bind_some] at hd
      cases h2 : rdM H d0 with
      | none => rw [h2] at hd; simp at hd
      | some r =>
        obtain ⟨m, l⟩ := r
        rw [h2] at hd
        dsimp only at hd
        cases h3 : allB ids l with
        | false => rw [h3] at hd; simp at hd
        | true =>
          rw [h3] at hd
          simp only [cond_true, Option.some.injEq] at hd; subst hd
          simp only [RD]
          refine RM.mono (fun b hb _ => ⟨?_, rfl⟩) _ _ (rdM_rm hc d0 h2 (ev_rd hc h1))
          rcases hb with hb | ⟨j, ob, q1, q2, q3⟩
          · exact .inl hb
          · exact .inr ⟨j, ob, allB_mem h3 j q1, q2, q3⟩
  have hz2 := hc.freeze ids
  have hfr1 := hfr id (by simp)
  have hfr2 : Fresh T (chH H (ids.map fun i => (i, none))) id := by
    refine ⟨hfr1.1, fun i o h => ?_⟩
    have : ∀ (l : List Nat) i o, chH H (l.map fun i => (i, none)) i = some o → H i = some o := by
      intro l
      induction l with
      | nil => intro i o h; exact h
      | cons j l ih =>
        intro i o h
        simp only [List.map_cons, chH] at h
        split at h
        · cases h
        · exact ih i o h
    exact hfr1.2 i o (this ids i o h)
  obtain ⟨_, _, h3, h4, h5⟩ := hL e ei hei
  have hz : RMs ok2 w (mcells ei.mz) ei.zero.cells.toList := RMs.mono (ok := fun _ => False) (w := w) (fun _ hf _ => hf.elim) _ _ (RM.cells h4 (h3 w))
  have hzl : (mcells ei.mz).length = ei.size := by rw [← h5, RM.cells_len h4 (h3 w)]
  have hrep : ∀ n, RMs ok2 w (List.replicate n (mcells ei.mz)).flatten (List.replicate n ei.zero.cells.toList).flatten := by
    intro n
    induction n with
    | zero => simp [RMs]
    | succ n ih => simp only [List.replicate_succ, List.flatten_cons]; exact hz.append ih
  have hcells : ((if len * ei.size = 0 then #[] else (Array.range (len * ei.size)).map fun x => ei.zero.cells[x % ei.zero.cells.size]!) : Array Value).toList = (List.replicate len ei.zero.cells.toList).flatten := by
    by_cases hz0 : len * ei.size = 0
    · rw [if_pos hz0]
      have : len = 0 := by rcases Nat.eq_zero_or_pos len with h | h; exact h; have := Nat.mul_pos h h0; omega
      subst this; simp
    · rw [if_neg hz0]
      apply List.ext_getElem
      · have : ∀ n, (List.replicate n ei.zero.cells.toList).flatten.length = n * ei.size := by
          intro n; induction n with
          | zero => simp
          | succ n ih => simp only [List.replicate_succ, List.flatten_cons, List.length_append, ih]; simp [h5, Nat.add_mul]; omega
        rw [this]; simp
      · intro j hj1 hj2
        simp only [Array.toList_map, List.getElem_map]
        have key : ∀ n j (hj : j < (List.replicate n ei.zero.cells.toList).flatten.length), (List.replicate n ei.zero.cells.toList).flatten[j] = ei.zero.cells[j % ei.zero.cells.size]! := by
          intro n
          induction n with
          | zero => intro j hj; simp at hj
          | succ n ih =>
            intro j hj
            simp only [List.replicate_succ, List.flatten_cons] at hj ⊢
            rcases Nat.lt_or_ge j ei.zero.cells.size with hlt | hge
            · rw [List.getElem_append_left (by simpa using hlt), Nat.mod_eq_of_lt hlt, getElem!_pos ei.zero.cells j hlt]; simp
            · rw [List.getElem_append_right (by simpa using hge)]
              simp only [Array.length_toList]
              rw [ih, Nat.mod_eq_sub_mod hge]
        rw [key len j hj2]
        simp
  obtain ⟨us', g1, g2⟩ := fillM_run (w := w) (β := β) (ok := ok2) (er := a.eval) hev (pl' := fun k => some (k * ei.size, ei.size)) (fun _ _ h => h) parts.toList _ cs ((if len * ei.size = 0 then #[] else (Array.range (len * ei.size)).map fun x => ei.zero.cells[x % ei.zero.cells.size]!) : Array Value) hcs (by rw [hcells]; exact hrep len)
  have husz : us'.size = len * ei.size := by
    have := g2.length
    have hlen : ∀ (ps : List (Nat × Operand)) (c c' : List M), fillM ρ2 (fun k => some (k * ei.size, ei.size)) c ps = some c' → c'.length = c.length := by
      intro ps
      induction ps with
      | nil => intro c c' h; simp only [fillM, Option.some.injEq] at h; subst h; rfl
      | cons p ps ih =>
        intro c c' h
        obtain ⟨j, x⟩ := p
        simp only [fillM] at h
        cases hx : (ρ2 x).bind toM with
        | none => rw [hx] at h; simp at h
        | some d =>
          rw [hx] at h
          simp only [] at h
          cases hb : (mwhole d && Nat.beq (mcells d).length ei.size && Nat.ble (j * ei.size + ei.size) c.length) with
          | false => rw [hb] at h; simp at h
          | true =>
            rw [hb] at h
            simp only [Bool.and_eq_true] at hb
            have h2' := Nat.eq_of_beq_eq_true hb.1.2
            have h3' := Nat.le_of_ble_eq_true hb.2
            rw [ih _ _ (by simpa using h), splice_length (by omega)]
    have h6 := hlen _ _ _ hcs
    have : ∀ n, (List.replicate n (mcells ei.mz)).flatten.length = n * ei.size := by
      intro n; induction n with
      | zero => simp
      | succ n ih => simp only [List.replicate_succ, List.flatten_cons, List.length_append, ih]; simp [hzl, Nat.add_mul]; omega
    rw [this] at h6
    simp at *; omega
  refine wp_val (v := .slice (some ⟨w.heap.size, 0, none⟩) len len) (w' := w.alloc (.cells us' e)) ?_ ⟨updβ β id (some w.heap.size), ok2, ?_⟩
  · simp only [execOp, ho, Instr.buildSlice, Sem.run_bind, run_und hL hi, hf, run_sizeOf hL hei, Sem.run_pure, Result.andThen_ok]
    rw [if_neg (by omega)]
    by_cases hz0 : len * ei.size = 0
    · rw [if_pos hz0] at g1 ⊢
      simp only [Sem.run_pure, Result.andThen_ok, hz0]
      simp only [Array.toList_map]
      simp only [show Array.range 0 = #[] from rfl, Array.map_empty, g1, run_newRow, Sem.run_bind, Result.andThen_ok, Sem.run_pure]
    · rw [if_neg hz0] at g1 ⊢
      simp only [Sem.run_bind, run_zero hL hei, Sem.run_pure, Result.andThen_ok, Array.toList_map, g1, run_newRow]
  · refine hz2.new o.dst _ _ hN id _ _ hfr2 ?_ ?_
    · simp only [RO]
      refine .inr ⟨w.heap.size, us', len, by simp [updβ], push_new w _, husz, ?_, ?_, ?_⟩
      · unfold maxLen
        have : len * 1 ≤ len * ei.size := Nat.mul_le_mul_left _ h0
        omega
      · have := g2.length; simp at this; omega
      · rw [g2.length, List.take_length]
        exact RMs.mono (Stays.alloc ok2 w _) _ _ g2
    · intro d hd
      simp only [Option.some.injEq] at hd; subst hd
      simp only [RD]
      refine .inr ⟨w.heap.size, len, by simp [updβ], rfl, Nat.le_refl _, ?_, us', e, push_new w _, husz⟩
      unfold maxLen
      have : len * 1 ≤ len * ei.size := Nat.mul_le_mul_left _ h0
      omega

section
variable {P : Program} {L : Nat → Option TI} {N : Nat} {ops : Array Oper} {rest : List Oper} {K : List Eff → TL → HL → Prop} {t : TL} {h : HL} {k : Nat} {ty : TypeId} {pos : String} {af : Array Edge} {g : Option (Nat × Bool)}
/-- a slice of literals that hold these rows -/
theorem ar_buildZ (ids : List Nat) {T len parts e ei sz cs} {ds : List D} {og : List (Nat × O)}
    (hK : AR P L N ops rest (fun es => K (⟨some (.row k len sz), (k, some (.rw e sz cs)) :: ids.map (fun i => (i, none)), [k], ids⟩ :: es)) ((k, some (.row k len sz)) :: t) ((k, some (.rw e sz cs)) :: (ids.map (fun i => (i, none)) ++ h)))
    (hw : wantF (lookT t) ops g = some true := by exact rfl) (hd : Nat.blt k N = true := by exact rfl) (h1 : sliceElem L T = some (e, ei) := by exact rfl) (h4 : ei.size = sz := by exact rfl) (h5 : (Nat.ble 1 sz && Nat.ble (len * sz) 16777216) = true := by exact rfl)
    (hds : evL (ev (lookT t)) (Op.buildSlice T len parts).operands.toList = some ds := by exact rfl) (hids : (ids.all fun j => (lookH h j).isSome) = true := by exact rfl) (hog : ogOf (lookH h) ids = og := by exact rfl)
    (h6 : fillM (frzρ (ev (lookT t)) (lookH h) ids) (fun k => some (k * sz, sz)) (List.replicate len (mcells ei.mz)).flatten parts.toList = some cs := by exact rfl) (hf : (freshT k t && freshH k h) = true := by exact rfl) :
    AR P L N ops (⟨some k, .buildSlice T len parts, ty, pos, af, g⟩ :: rest) K t h := by
  subst h4 hog
  simp only [Bool.and_eq_true] at h5
  obtain ⟨i, q1, q2, q3⟩ := sliceElem_ok h1
  refine ar_step (o := ⟨some k, .buildSlice T len parts, ty, pos, af, g⟩) (wantF_ok hw) (.sem (ogOf (lookH h) ids) hds ?_ ?_ (sem_buildSliceZ q1 q2 q3 (Nat.le_of_ble_eq_true h5.1) (Nat.le_of_ble_eq_true h5.2) hds (fun j hj => List.all_eq_true.1 hids j hj) h6)) hd (by simpa [freshAll] using hf) hK
  · intro p hp
    obtain ⟨j, hj, he⟩ := List.mem_filterMap.1 hp
    cases h2 : lookH h j with
    | none => rw [h2] at he; simp at he
    | some ob => rw [h2] at he; simp only [Option.map_some, Option.some.injEq] at he; subst he; exact h2
  · intro p hp
    obtain ⟨j, hj, he⟩ := List.mem_filterMap.1 hp
    cases h2 : lookH h j with
    | none => rw [h2] at he; simp at he
    | some ob => rw [h2] at he; simp only [Option.map_some, Option.some.injEq] at he; subst he; exact hj
end
end Fw
