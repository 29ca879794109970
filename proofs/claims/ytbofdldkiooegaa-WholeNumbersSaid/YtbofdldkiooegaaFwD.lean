/- A program logic over data: what each operation does with slots and objects. -/
import Derived.Test.YtbofdldkiooegaaFwC
namespace Fw
open Go Go.RowKit
set_option linter.unusedVariables false
set_option linter.unusedSimpArgs false

/-- what is known of a type -/
structure TI where
  desc : TypeDesc
  size : Nat
  bytes : Nat
  zero : Value
  mz : M

def LayOk (P : Program) (L : Nat → Option TI) : Prop := ∀ t i, L t = some i →
  P.underlying t = some i.desc ∧ (∃ inf, P.info? t = some inf ∧ inf.size = i.size ∧ inf.bytes = i.bytes ∧ inf.zero = some i.zero) ∧
  (∀ w, RM (fun _ => False) w i.mz i.zero) ∧ mwhole i.mz = true ∧ i.zero.cells.size = i.size

def aggD : TypeDesc → Bool
  | .struct _ => true
  | .array _ _ => true
  | _ => false

def constD : Value → Option D
  | .int k n => some (.im (.int k n))
  | .bool b => some (.im (.bool b))
  | .string s => some (.im (.str s.data.toList))
  | .slice none 0 0 => some (.im .nil)
  | .pointer none => some (.im .nilp)
  | .nilFunc => some (.im .nilf)
  | .nilIface => some (.im .nili)
  | _ => none

def ev (T : Nat → Option D) : Operand → Option D
  | .tmp t => T t
  | .const v => constD v
  | .func f => some (.im (.fn f))
  | .global _ => none

def evL (ρ : Operand → Option D) : List Operand → Option (List D)
  | [] => some []
  | x :: xs => match ρ x, evL ρ xs with
    | some d, some ds => some (d :: ds)
    | _, _ => none

mutual
/-- what a slot holds, as data, and the rows that were read for it -/
def rdM (g : Nat → Option O) : D → Option (M × List Nat)
  | .im m => some (m, [])
  | .agg ds => match rdL g ds with
    | some (ms, l) => some (.agg ms, l)
    | none => none
  | .tup ds => match rdL g ds with
    | some (ms, l) => some (.tup ms, l)
    | none => none
  | .row id n sz => match g id with
    | some (.rw _ sz' cs) => bif Nat.beq sz sz' && Nat.ble (n * sz) cs.length then some (.seq n (cs.take (n * sz)), [id]) else none
    | _ => none
  | _ => none
def rdL (g : Nat → Option O) : List D → Option (List M × List Nat)
  | [] => some ([], [])
  | d :: ds => match rdM g d, rdL g ds with
    | some (m, l), some (ms, l') => some (m :: ms, l ++ l')
    | _, _ => none
end
/-- arguments as data -/
def evM (ρ : Operand → Option D) (g : Nat → Option O) : List Operand → Option (List M × List Nat)
  | [] => some ([], [])
  | x :: xs => match ρ x with
    | some d => match rdM g d, evM ρ g xs with
      | some (m, l), some (ms, l') => some (m :: ms, l ++ l')
      | _, _ => none
    | none => none

/-- what an operation does: its value, objects that turn, new ones, those that it looks at -/
structure Eff where
  r : Option D
  ch : List (Nat × Option O)
  nw : List Nat
  tch : List Nat

def val (d : D) : Eff := ⟨some d, [], [], []⟩

/-- cells are filled, field by field -/
def fillD (ρ : Operand → Option D) (pl : Nat → Option (Nat × Nat)) : List D → List (Nat × Operand) → Option (List D)
  | cs, [] => some cs
  | cs, (i, x) :: rest => match pl i, ρ x with
    | some (off, size), some d => bif whole d && Nat.beq (dcells d).length size && Nat.ble (off + size) cs.length then fillD ρ pl (splice cs off (dcells d)) rest else none
    | _, _ => none
def fillM (ρ : Operand → Option D) (pl : Nat → Option (Nat × Nat)) : List M → List (Nat × Operand) → Option (List M)
  | cs, [] => some cs
  | cs, (i, x) :: rest => match pl i, (ρ x).bind toM with
    | some (off, size), some d => bif mwhole d && Nat.beq (mcells d).length size && Nat.ble (off + size) cs.length then fillM ρ pl (splice cs off (mcells d)) rest else none
    | _, _ => none

def place (L : Nat → Option TI) (fs : Array Field) (i : Nat) : Option (Nat × Nat) := match fs[i]? with
  | some f => (L f.type).map fun k => (f.offset, k.size)
  | none => none

def intOp : BinOp → IntKind → Int → Int → Option M
  | .add, k, a, b => some (.int k (k.wrap (a + b)))
  | .sub, k, a, b => some (.int k (k.wrap (a - b)))
  | .mul, k, a, b => some (.int k (k.wrap (a * b)))
  | .eql, _, a, b => some (.bool (a == b))
  | .neq, _, a, b => some (.bool (a != b))
  | .lss, _, a, b => some (.bool (decide (a < b)))
  | .leq, _, a, b => some (.bool (decide (a ≤ b)))
  | .gtr, _, a, b => some (.bool (decide (a > b)))
  | .geq, _, a, b => some (.bool (decide (a ≥ b)))
  | _, _, _, _ => none
def divOp : BinOp → IntKind → Int → Int → Option M
  | .quo, k, a, b => some (.int k (k.wrap (a.tdiv b)))
  | .rem, k, a, b => some (.int k (a.tmod b))
  | _, _, _, _ => none
def strOp : BinOp → List UInt8 → List UInt8 → Option M
  | .eql, a, b => some (.bool (a == b))
  | .neq, a, b => some (.bool (!(a == b)))
  | .lss, a, b => some (.bool (Op.bytesLess a b))
  | _, _, _ => none
def boolOp : BinOp → Bool → Bool → Option M
  | .eql, a, b => some (.bool (a == b))
  | .neq, a, b => some (.bool (!(a == b)))
  | _, _, _ => none

/-- called with data, it hands back data, and only makes new things -/
def Ret (P : Program) (f : FuncId) (ms : List M) (m : M) : Prop := ∀ (ok : Nat → Prop) (w : World) (vs : List Value), RMt ok w ms vs →
  Calls P f vs.toArray w fun e w' => ∃ v, e = .returned v ∧ RM (fun b => ok b ∨ w.heap.size ≤ b) w' m v ∧ Below w.heap.size w w'

/-- called with data it ends in no fault of the model's own -/
def Plain (P : Program) (f : FuncId) : Prop := ∃ fn, P.funcs[f]? = some fn ∧ (fn.name == "runtime.NumGoroutine") = false ∧ fn.body.isNone = false

/-- the elements of a slice that is appended, as data -/
inductive News (g : Nat → Option O) : D → Nat → List M → List Nat → Prop
  | nil : News g (.im .nil) 0 [] []
  | seq {n : Nat} {cs : List M} : News g (.im (.seq n cs)) n cs []
  | row {id n sz : Nat} {e : TypeId} {cs : List M} (h : g id = some (.rw e sz cs)) (hl : n * sz ≤ cs.length) : News g (.row id n sz) n (cs.take (n * sz)) [id]

section
variable {P : Program} {L : Nat → Option TI} {ρ ρ' : Operand → Option D} {g g' : Nat → Option O}

theorem evL_congr : ∀ {xs : List Operand}, (∀ x ∈ xs, ρ' x = ρ x) → evL ρ' xs = evL ρ xs
  | [], _ => rfl
  | x :: xs, h => by simp only [evL]; rw [h x (by simp), evL_congr (fun y hy => h y (by simp [hy]))]
mutual
theorem rdM_congr : ∀ (d : D) {m : M} {l : List Nat}, rdM g d = some (m, l) → (∀ i ∈ l, g' i = g i) → rdM g' d = some (m, l)
  | .im m', m, l, h, hg => by simpa only [rdM] using h
  | .agg ds, m, l, h, hg => by
    simp only [rdM] at h ⊢
    cases h1 : rdL g ds with
    | none => rw [h1] at h; simp at h
    | some p =>
      obtain ⟨ms, l'⟩ := p
      rw [h1] at h
      simp only [Option.some.injEq, Prod.mk.injEq] at h
      obtain ⟨rfl, rfl⟩ := h
      rw [rdL_congr ds h1 hg]
  | .tup ds, m, l, h, hg => by
    simp only [rdM] at h ⊢
    cases h1 : rdL g ds with
    | none => rw [h1] at h; simp at h
    | some p =>
      obtain ⟨ms, l'⟩ := p
      rw [h1] at h
      simp only [Option.some.injEq, Prod.mk.injEq] at h
      obtain ⟨rfl, rfl⟩ := h
      rw [rdL_congr ds h1 hg]
  | .row id n sz, m, l, h, hg => by
    simp only [rdM] at h ⊢
    cases h1 : g id with
    | none => rw [h1] at h; simp at h
    | some o =>
      rw [h1] at h
      cases o with
      | rw e sz' cs =>
        simp only [] at h
        cases hb : (Nat.beq sz sz' && Nat.ble (n * sz) cs.length) with
        | false => rw [hb] at h; simp at h
        | true =>
          rw [hb] at h
          simp only [cond_true, Option.some.injEq, Prod.mk.injEq] at h
          obtain ⟨rfl, rfl⟩ := h
          rw [hg id (by simp), h1]
          simp only [hb, cond_true]
      | _ => simp at h
  | .ptr _ _, m, l, h, hg => by simp [rdM] at h
  | .ep _, m, l, h, hg => by simp [rdM] at h
  | .fn _ _, m, l, h, hg => by simp [rdM] at h
  | .iface _ _, m, l, h, hg => by simp [rdM] at h
theorem rdL_congr : ∀ (ds : List D) {ms : List M} {l : List Nat}, rdL g ds = some (ms, l) → (∀ i ∈ l, g' i = g i) → rdL g' ds = some (ms, l)
  | [], ms, l, h, hg => by simpa only [rdL] using h
  | d :: ds, ms, l, h, hg => by
    simp only [rdL] at h ⊢
    cases h1 : rdM g d with
    | none => rw [h1] at h; simp at h
    | some p =>
      cases h2 : rdL g ds with
      | none => rw [h1, h2] at h; simp at h
      | some q =>
        obtain ⟨m, l1⟩ := p
        obtain ⟨ms', l2⟩ := q
        rw [h1, h2] at h
        simp only [Option.some.injEq, Prod.mk.injEq] at h
        obtain ⟨rfl, rfl⟩ := h
        rw [rdM_congr d h1 (fun i hi => hg i (by simp [hi])), rdL_congr ds h2 (fun i hi => hg i (by simp [hi]))]
end
theorem evM_congr : ∀ {xs : List Operand} {ms : List M} {l : List Nat}, evM ρ g xs = some (ms, l) → (∀ x ∈ xs, ρ' x = ρ x) → (∀ i ∈ l, g' i = g i) → evM ρ' g' xs = some (ms, l)
  | [], ms, l, h, _, _ => h
  | x :: xs, ms, l, h, hx, hg => by
    simp only [evM] at h ⊢
    rw [hx x (by simp)]
    cases h0 : ρ x with
    | none => rw [h0] at h; simp at h
    | some d =>
      rw [h0] at h
      simp only [] at h ⊢
      cases h1 : rdM g d with
      | none => rw [h1] at h; simp at h
      | some p =>
        cases h2 : evM ρ g xs with
        | none => rw [h1, h2] at h; simp at h
        | some q =>
          obtain ⟨m, l1⟩ := p
          obtain ⟨ms', l2⟩ := q
          rw [h1, h2] at h
          simp only [Option.some.injEq, Prod.mk.injEq] at h
          obtain ⟨rfl, rfl⟩ := h
          rw [rdM_congr d h1 (fun i hi => hg i (by simp [hi])), evM_congr h2 (fun y hy => hx y (by simp [hy])) (fun i hi => hg i (by simp [hi]))]
theorem fillD_congr {pl : Nat → Option (Nat × Nat)} : ∀ {ps : List (Nat × Operand)} {cs : List D}, (∀ x ∈ ps, ρ' x.2 = ρ x.2) → fillD ρ' pl cs ps = fillD ρ pl cs ps
  | [], cs, _ => rfl
  | (i, x) :: ps, cs, h => by
    simp only [fillD]
    rw [h (i, x) (by simp)]
    cases pl i <;> cases ρ x <;> try rfl
    rename_i p d
    obtain ⟨o, z⟩ := p
    simp only []
    rw [fillD_congr (fun y hy => h y (by simp [hy]))]
theorem fillM_congr {pl : Nat → Option (Nat × Nat)} : ∀ {ps : List (Nat × Operand)} {cs : List M}, (∀ x ∈ ps, ρ' x.2 = ρ x.2) → fillM ρ' pl cs ps = fillM ρ pl cs ps
  | [], cs, _ => rfl
  | (i, x) :: ps, cs, h => by
    simp only [fillM]
    rw [h (i, x) (by simp)]
    cases pl i <;> cases (ρ x).bind toM <;> try rfl
    rename_i p d
    obtain ⟨o, z⟩ := p
    simp only []
    rw [fillM_congr (fun y hy => h y (by simp [hy]))]
theorem News.congr {d : D} {n : Nat} {ms : List M} {js : List Nat} (h : News g d n ms js) (hg : ∀ j ∈ js, g' j = g j) : News g' d n ms js := by
  cases h with
  | nil => exact .nil
  | seq => exact .seq
  | row h hl => exact .row (by rw [hg _ (by simp)]; exact h) hl

end
end Fw
