/- A program logic over data: each operation's step holds in the model: lemmas on runs. -/
import Derived.Test.YtbofdldkiooegaaFwD
namespace Fw
open Go Go.RowKit
set_option linter.unusedVariables false
set_option linter.unusedSimpArgs false

theorem sem_lawful : LawfulMonad Sem := LawfulMonad.mk' (m := Sem)
  (id_map := fun x => by
    show Sem.bind x Sem.pure = x
    induction x with
    | pure a => rfl
    | load m a k ih => simp only [Sem.bind]; congr; funext v; exact ih v
    | store m a v k ih => simp only [Sem.bind]; congr
    | new o k ih => simp only [Sem.bind]; congr; funext v; exact ih v
    | shape r k ih => simp only [Sem.bind]; congr; funext v; exact ih v
    | freeze a n k ih => simp only [Sem.bind]; congr
    | frozen a k ih => simp only [Sem.bind]; congr; funext v; exact ih v
    | getObj r k ih => simp only [Sem.bind]; congr; funext v; exact ih v
    | setObj r o k ih => simp only [Sem.bind]; congr
    | choose q k ih => simp only [Sem.bind]; congr; funext v; exact ih v
    | sys c k ih => simp only [Sem.bind]; congr; funext v; exact ih v
    | program k ih => simp only [Sem.bind]; congr; funext v; exact ih v
    | mark m k ih => simp only [Sem.bind]; congr
    | halt h => rfl)
  (pure_bind := fun _ _ => rfl)
  (bind_assoc := fun x f g => by
    show Sem.bind (Sem.bind x f) g = Sem.bind x fun y => Sem.bind (f y) g
    induction x with
    | pure a => rfl
    | load m a k ih => simp only [Sem.bind]; congr; funext v; exact ih v
    | store m a v k ih => simp only [Sem.bind]; congr
    | new o k ih => simp only [Sem.bind]; congr; funext v; exact ih v
    | shape r k ih => simp only [Sem.bind]; congr; funext v; exact ih v
    | freeze a n k ih => simp only [Sem.bind]; congr
    | frozen a k ih => simp only [Sem.bind]; congr; funext v; exact ih v
    | getObj r k ih => simp only [Sem.bind]; congr; funext v; exact ih v
    | setObj r o k ih => simp only [Sem.bind]; congr
    | choose q k ih => simp only [Sem.bind]; congr; funext v; exact ih v
    | sys c k ih => simp only [Sem.bind]; congr; funext v; exact ih v
    | program k ih => simp only [Sem.bind]; congr; funext v; exact ih v
    | mark m k ih => simp only [Sem.bind]; congr
    | halt h => rfl)

section
variable {P : Program} {L : Nat → Option TI} {w : World}

theorem run_sizeOf (hL : LayOk P L) {t : Nat} {i : TI} (h : L t = some i) : (Go.sizeOf t).run P w = .ok i.size w := by
  obtain ⟨_, ⟨inf, h1, h2, _⟩, _⟩ := hL t i h
  simp [Go.sizeOf, typeInfo, h1, h2]
theorem run_isAgg (hL : LayOk P L) {t : Nat} {i : TI} (h : L t = some i) : (isAgg t).run P w = .ok (aggD i.desc) w := by
  obtain ⟨h1, _⟩ := hL t i h
  simp only [isAgg, Sem.run_bind, run_underlying h1, Result.andThen_ok]
  cases i.desc <;> rfl
theorem run_zero (hL : LayOk P L) {t : Nat} {i : TI} (h : L t = some i) : (zeroValue t).run P w = .ok i.zero w := by
  obtain ⟨_, ⟨inf, h1, _, _, h2⟩, _⟩ := hL t i h
  simp [zeroValue, typeInfo, h1, h2]
theorem run_newRow (e : TypeId) (us : Array Value) : (newRow e us).run P w = .ok ⟨w.heap.size, 0, none⟩ (w.alloc (.cells us e)) := by
  rfl
theorem run_und (hL : LayOk P L) {t : Nat} {i : TI} (h : L t = some i) : (underlying t).run P w = .ok i.desc w := run_underlying (hL t i h).1 w

theorem run_loadVar1 (hL : LayOk P L) {t : Nat} {i : TI} (h : L t = some i) (ha : aggD i.desc = false) {a : Addr} {u : Value} (hc : w.cell? a = some u) : (loadVar t a).run P w = .ok u w := by
  simp only [loadVar, Sem.run_bind, run_isAgg hL h, Result.andThen_ok, ha]
  simp [load, Sem.run, hc]
theorem run_loadVarA (hL : LayOk P L) {t : Nat} {i : TI} (h : L t = some i) (ha : aggD i.desc = true) {b off : Nat} {vs : List Value} (hl : vs.length = i.size) (hc : ∀ j u, vs[j]? = some u → w.cell? ⟨b, off + j, none⟩ = some u) :
    (loadVar t ⟨b, off, none⟩).run P w = .ok (.agg vs.toArray) w := by
  simp only [loadVar, Sem.run_bind, run_isAgg hL h, Result.andThen_ok, ha, if_true, run_sizeOf hL h, run_loadCells hl hc]
  simp

theorem splice_cons {α : Type} {us : List α} {off : Nat} {v : α} {vs : List α} (h : off < us.length) : splice (us.set off v) (off + 1) vs = splice us off (v :: vs) := by
  unfold splice
  apply List.ext_getElem?
  intro j
  simp only [List.length_cons]
  rcases Nat.lt_trichotomy j off with g | g | g
  · rw [List.append_assoc, List.append_assoc, List.getElem?_append_left (by simp; omega), List.getElem?_append_left (by simp; omega)]
    rw [List.getElem?_take_of_lt (by omega), List.getElem?_take_of_lt (by omega), List.getElem?_set_ne (by omega)]
  · subst g
    rw [List.append_assoc, List.append_assoc, List.getElem?_append_left (by simp; omega)]
    rw [List.getElem?_take_of_lt (by omega), List.getElem?_append_right (by simp; omega)]
    simp [List.length_take, show min j us.length = j by omega]
    rw [List.getElem?_eq_getElem (by simp; omega)]
    simp
  · rcases Nat.lt_or_ge j (off + 1 + vs.length) with g2 | g2
    · rw [List.getElem?_append_left (by simp; omega), List.getElem?_append_right (by simp; omega), List.getElem?_append_left (by simp; omega), List.getElem?_append_right (by simp; omega)]
      simp only [List.length_take, List.length_set]
      rw [show min (off + 1) us.length = off + 1 by omega, show min off us.length = off by omega]
      obtain ⟨q, rfl⟩ : ∃ q, j = off + 1 + q := ⟨j - (off + 1), by omega⟩
      rw [show off + 1 + q - (off + 1) = q by omega, show off + 1 + q - off = q + 1 by omega]
      simp
    · rw [List.getElem?_append_right (by simp; omega), List.getElem?_append_right (by simp; omega)]
      simp only [List.length_append, List.length_take, List.length_set, List.length_cons, List.getElem?_drop]
      rw [show min (off + 1) us.length = off + 1 by omega, show min off us.length = off by omega]
      rw [List.getElem?_set_ne (by omega)]
      congr 1
      omega

theorem fold_splice : ∀ (vs : List Value) (k off : Nat) (us : Array Value), off + k + vs.length ≤ us.size →
    (vs.zipIdx k).foldl (fun cs (x : Value × Nat) => cs.setIfInBounds (off + x.2) x.1) us = (splice us.toList (off + k) vs).toArray
  | [], k, off, us, h => by simp [splice]
  | v :: vs, k, off, us, h => by
    simp only [List.length_cons] at h
    simp only [List.zipIdx_cons, List.foldl_cons]
    rw [fold_splice vs (k + 1) off _ (by simp; omega)]
    simp only [Array.toList_setIfInBounds]
    rw [show off + (k + 1) = off + k + 1 by omega, splice_cons (by simp; omega)]

theorem fill_splice {pl : Nat → Option (Nat × Nat)} {us : Array Value} {i : Nat} {v : Value} {rest : List (Nat × Value)} {off size : Nat} (h : pl i = some (off, size)) (hs : v.cells.size = size) (hl : off + size ≤ us.size) :
    Instr.fill pl us ((i, v) :: rest) = Instr.fill pl (splice us.toList off v.cells.toList).toArray rest := by
  simp only [Instr.fill, h]
  rw [if_neg (by simp [hs]; omega)]
  have := fold_splice v.cells.toList 0 off us (by simp [hs]; omega)
  rw [Nat.add_zero] at this
  rw [← this]
  congr 1
  rw [← Array.foldl_toList, Array.toList_zipIdx]

/-- the places of a struct's fields -/
theorem run_places (hL : LayOk P L) : ∀ (fs : List Field), fs.all (fun (f : Field) => (L f.type).isSome) = true →
    ((fs.mapM fun (f : Field) => do pure (f.offset, ← Go.sizeOf f.type)) : Sem _).run P w = .ok (fs.map fun (f : Field) => (f.offset, ((L f.type).map (·.size)).getD 0)) w
  | [], _ => by simp [List.mapM_nil]
  | f :: fs, h => by
    simp only [List.all_cons, Bool.and_eq_true] at h
    obtain ⟨i, hi⟩ := Option.isSome_iff_exists.1 h.1
    haveI := sem_lawful
    rw [List.mapM_cons]
    simp only [Sem.run_bind, run_sizeOf hL hi, Result.andThen_ok, Sem.run_pure, run_places hL fs h.2]
    simp [hi]

theorem run_placesA (hL : LayOk P L) (fs : Array Field) (h : fs.toList.all (fun (f : Field) => (L f.type).isSome) = true) :
    ((fs.mapM fun (f : Field) => do pure (f.offset, ← Go.sizeOf f.type)) : Sem _).run P w = .ok (fs.map fun (f : Field) => (f.offset, ((L f.type).map (·.size)).getD 0)) w := by
  haveI := sem_lawful
  rw [Array.mapM_eq_mapM_toList, map_eq_pure_bind, Sem.run_bind, run_places hL fs.toList h, Result.andThen_ok]
  simp
  apply Array.ext'
  simp

theorem RM.cells_len {ok : Nat → Prop} {m : M} {v : Value} (hw : mwhole m = true) (h : RM ok w m v) : v.cells.size = (mcells m).length := by
  have := (RM.cells hw h).length; simpa using this.symm
theorem RD.cells_len {β : Nat → Option Nat} {ok : Nat → Prop} {d : D} {v : Value} (hw : whole d = true) (h : RD β ok w d v) : v.cells.size = (dcells d).length := by
  have := (RD.cells hw h).length; simpa using this.symm

theorem fillD_run {β : Nat → Option Nat} {ok : Nat → Prop} {ρ : Operand → Option D} {er : Operand → Value} (he : ∀ x d, ρ x = some d → RD β ok w d (er x)) {pl pl' : Nat → Option (Nat × Nat)} (hp : ∀ i p, pl i = some p → pl' i = some p) :
    ∀ (ps : List (Nat × Operand)) (cs cs' : List D) (us : Array Value), fillD ρ pl cs ps = some cs' → RDs β ok w cs us.toList →
      ∃ us' : Array Value, Instr.fill pl' us (ps.map fun x => (x.1, er x.2)) = some us' ∧ RDs β ok w cs' us'.toList
  | [], cs, cs', us, h, hr => by
    simp only [fillD, Option.some.injEq] at h; subst h
    exact ⟨us, rfl, hr⟩
  | (i, x) :: ps, cs, cs', us, h, hr => by
    simp only [fillD] at h
    cases hpl : pl i with
    | none => rw [hpl] at h; simp at h
    | some p =>
      cases hx : ρ x with
      | none => rw [hpl, hx] at h; simp at h
      | some d =>
        obtain ⟨off, size⟩ := p
        rw [hpl, hx] at h
        simp only [] at h
        cases hb : (whole d && Nat.beq (dcells d).length size && Nat.ble (off + size) cs.length) with
        | false => rw [hb] at h; simp at h
        | true =>
          rw [hb] at h
          simp only [Bool.and_eq_true] at hb
          obtain ⟨⟨h1, h2⟩, h3⟩ := hb
          have h2' := Nat.eq_of_beq_eq_true h2
          have h3' := Nat.le_of_ble_eq_true h3
          have hd := he x d hx
          have hlen : cs.length = us.size := by simpa using hr.length
          obtain ⟨us', g1, g2⟩ := fillD_run he hp ps _ cs' (splice us.toList off (er x).cells.toList).toArray (by simpa using h) (by simpa using hr.splice (RD.cells h1 hd))
          refine ⟨us', ?_, g2⟩
          simp only [List.map_cons]
          rw [fill_splice (hp i _ hpl) (by rw [RD.cells_len h1 hd, h2']) (by omega)]
          exact g1

theorem fillM_run {β : Nat → Option Nat} {ok : Nat → Prop} {ρ : Operand → Option D} {er : Operand → Value} (he : ∀ x d, ρ x = some d → RD β ok w d (er x)) {pl pl' : Nat → Option (Nat × Nat)} (hp : ∀ i p, pl i = some p → pl' i = some p) :
    ∀ (ps : List (Nat × Operand)) (cs cs' : List M) (us : Array Value), fillM ρ pl cs ps = some cs' → RMs ok w cs us.toList →
      ∃ us' : Array Value, Instr.fill pl' us (ps.map fun x => (x.1, er x.2)) = some us' ∧ RMs ok w cs' us'.toList
  | [], cs, cs', us, h, hr => by
    simp only [fillM, Option.some.injEq] at h; subst h
    exact ⟨us, rfl, hr⟩
  | (i, x) :: ps, cs, cs', us, h, hr => by
    simp only [fillM] at h
    cases hpl : pl i with
    | none => rw [hpl] at h; simp at h
    | some p =>
      cases hx : ρ x with
      | none => rw [hpl, hx] at h; simp at h
      | some d0 =>
        cases hm : toM d0 with
        | none => rw [hpl, hx] at h; simp [hm] at h
        | some d =>
          obtain ⟨off, size⟩ := p
          rw [hpl, hx] at h
          simp only [Option.bind_some, hm] at h
          cases hb : (mwhole d && Nat.beq (mcells d).length size && Nat.ble (off + size) cs.length) with
          | false => rw [hb] at h; simp at h
          | true =>
            rw [hb] at h
            simp only [Bool.and_eq_true] at hb
            obtain ⟨⟨h1, h2⟩, h3⟩ := hb
            have h2' := Nat.eq_of_beq_eq_true h2
            have h3' := Nat.le_of_ble_eq_true h3
            have hd := toM_rm hm (he x d0 hx)
            have hlen : cs.length = us.size := by simpa using hr.length
            obtain ⟨us', g1, g2⟩ := fillM_run he hp ps _ cs' (splice us.toList off (er x).cells.toList).toArray (by simpa using h) (by simpa using hr.splice (RM.cells h1 hd))
            refine ⟨us', ?_, g2⟩
            simp only [List.map_cons]
            rw [fill_splice (hp i _ hpl) (by rw [RM.cells_len h1 hd, h2']) (by omega)]
            exact g1

end
end Fw
