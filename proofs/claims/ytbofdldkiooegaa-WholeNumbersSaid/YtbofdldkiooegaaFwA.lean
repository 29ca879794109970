/- A program logic over data: what slots and memory hold, and how that reads in the model's worlds. No program in sight. -/
import Derived.WalkKit
import Derived.Below
import Derived.Laws.OwnMore
import Derived.Laws.Rows
import Derived.Maps.AppendAt
import Derived.Lib.Hide
import Derived.Orders
namespace Fw
open Go Go.RowKit
set_option linter.unusedVariables false
set_option linter.unusedSimpArgs false

/-- data: what never changes once it is made -/
inductive M where
  | int (k : IntKind) (n : Int)
  | bool (b : Bool)
  | str (s : List UInt8)
  | nil
  | seq (n : Nat) (cs : List M)
  | agg (cs : List M)
  | tup (cs : List M)
  | fn (f : FuncId)
  | nilp
  | nilf
  | nili
  | iface (t : TypeId) (m : M)

mutual
/-- a value reads as data, in blocks that are 'ok' -/
def RM (ok : Nat → Prop) (w : World) : M → Value → Prop
  | .int k n, v => v = .int k n
  | .bool b, v => v = .bool b
  | .str s, v => v = .string ⟨s.toArray⟩
  | .nil, v => v = .slice none 0 0
  | .seq n cs, v => ∃ a cap, v = .slice a n cap ∧ n ≤ cap ∧ cap ≤ maxLen ∧ (n = 0 → cs = []) ∧ (cs ≠ [] → ∃ b off, a = some ⟨b, off, none⟩ ∧ ok b) ∧ (∀ b off, a = some ⟨b, off, none⟩ → RMc ok w b off cs)
  | .agg cs, v => ∃ us, v = .agg us ∧ RMs ok w cs us.toList
  | .tup cs, v => ∃ us, v = .tuple us ∧ RMt ok w cs us.toList
  | .fn f, v => v = .func (.func f) #[] #[]
  | .nilp, v => v = .pointer none
  | .nilf, v => v = .nilFunc
  | .nili, v => v = .nilIface
  | .iface t m, v => ∃ u, v = .iface t u ∧ RM ok w m u
/-- the cells from an address on -/
def RMc (ok : Nat → Prop) (w : World) (b off : Nat) : List M → Prop
  | [] => True
  | m :: ms => (∃ u, w.cell? ⟨b, off, none⟩ = some u ∧ u.oneCell' = true ∧ RM ok w m u) ∧ RMc ok w b (off + 1) ms
/-- values of one cell -/
def RMs (ok : Nat → Prop) (w : World) : List M → List Value → Prop
  | [], vs => vs = []
  | m :: ms, vs => ∃ u us, vs = u :: us ∧ u.oneCell' = true ∧ RM ok w m u ∧ RMs ok w ms us
/-- values, whatever they are -/
def RMt (ok : Nat → Prop) (w : World) : List M → List Value → Prop
  | [], vs => vs = []
  | m :: ms, vs => ∃ u us, vs = u :: us ∧ RM ok w m u ∧ RMt ok w ms us
end

/-- what a slot holds -/
inductive D where
  | im (m : M)
  | agg (ds : List D)
  | tup (ds : List D)
  | ptr (id off : Nat)
  | ep (cs : List M)
  | row (id n sz : Nat)
  | fn (f : FuncId) (caps : List D)
  | iface (t : TypeId) (d : D)

/-- objects of a frame -/
inductive O where
  | box (t : TypeId) (cs : List D)
  | rw (e : TypeId) (sz : Nat) (cs : List M)
  | it (s : List UInt8) (pos : Nat)

mutual
def RD (β : Nat → Option Nat) (ok : Nat → Prop) (w : World) : D → Value → Prop
  | .im m, v => RM ok w m v
  | .agg ds, v => ∃ us, v = .agg us ∧ RDs β ok w ds us.toList
  | .tup ds, v => ∃ us, v = .tuple us ∧ RDt β ok w ds us.toList
  | .ptr id off, v => ∃ b, β id = some b ∧ v = .pointer (some ⟨b, off, none⟩)
  | .ep cs, v => ∃ b off, v = .pointer (some ⟨b, off, none⟩) ∧ ok b ∧ b < w.heap.size ∧ RMc ok w b off cs
  | .row id n sz, v => (v = .slice none 0 0 ∧ n = 0) ∨ ∃ b cap, β id = some b ∧ v = .slice (some ⟨b, 0, none⟩) n cap ∧ n ≤ cap ∧ cap ≤ maxLen ∧ ∃ us e, w.heap[b]? = some (.cells us e (0, 0)) ∧ us.size = cap * sz
  | .fn f caps, v => ∃ us, v = .func (.func f) #[] us ∧ RDt β ok w caps us.toList
  | .iface t d, v => ∃ u, v = .iface t u ∧ RD β ok w d u
def RDs (β : Nat → Option Nat) (ok : Nat → Prop) (w : World) : List D → List Value → Prop
  | [], vs => vs = []
  | d :: ds, vs => ∃ u us, vs = u :: us ∧ u.oneCell' = true ∧ RD β ok w d u ∧ RDs β ok w ds us
def RDt (β : Nat → Option Nat) (ok : Nat → Prop) (w : World) : List D → List Value → Prop
  | [], vs => vs = []
  | d :: ds, vs => ∃ u us, vs = u :: us ∧ RD β ok w d u ∧ RDt β ok w ds us
end

def RO (β : Nat → Option Nat) (ok : Nat → Prop) (w : World) (id : Nat) : O → Prop
  | .box t cs => ∃ b us, β id = some b ∧ w.heap[b]? = some (.cells us t (0, 0)) ∧ RDs β ok w cs us.toList
  | .rw e sz cs => (β id = none ∧ cs = []) ∨ ∃ b us cap, β id = some b ∧ w.heap[b]? = some (.cells us e (0, 0)) ∧ us.size = cap * sz ∧ cap ≤ maxLen ∧ cs.length ≤ us.size ∧ RMs ok w cs (us.toList.take cs.length)
  | .it s pos => ∃ b, β id = some b ∧ w.heap[b]? = some (.stringIter ⟨s.toArray⟩ pos)

/-! ### what stays when the world goes on -/

theorem cell_block {w : World} {b off : Nat} {u : Value} (h : w.cell? ⟨b, off, none⟩ = some u) : b < w.heap.size :=
  World.block_lt_of_cell? w _ h

/-- every block that is 'ok' stays, and is 'ok' behind -/
def Stays (ok ok' : Nat → Prop) (w w' : World) : Prop := ∀ b, ok b → b < w.heap.size → ok' b ∧ w'.heap[b]? = w.heap[b]?

theorem Stays.refl (ok : Nat → Prop) (w : World) : Stays ok ok w w := fun _ h _ => ⟨h, rfl⟩

mutual
theorem RM.mono {ok ok' : Nat → Prop} {w w' : World} (hs : Stays ok ok' w w') : ∀ (m : M) (v : Value), RM ok w m v → RM ok' w' m v
  | .int k n, v, h => by simpa only [RM] using h
  | .bool b, v, h => by simpa only [RM] using h
  | .str s, v, h => by simpa only [RM] using h
  | .nil, v, h => by simpa only [RM] using h
  | .seq n cs, v, h => by
    simp only [RM] at h ⊢
    obtain ⟨a, cap, rfl, h1, h2, h3, h4, h5⟩ := h
    by_cases hc : cs = []
    · subst hc
      exact ⟨a, cap, rfl, h1, h2, h3, fun h => absurd rfl h, fun _ _ _ => by simp only [RMc]⟩
    · obtain ⟨b, off, ha, hb⟩ := h4 hc
      have hr := h5 b off ha
      have hlt : b < w.heap.size := by
        match cs, hc, hr with
        | m :: ms, _, hr =>
          simp only [RMc] at hr
          obtain ⟨⟨u, hu, _⟩, _⟩ := hr
          exact cell_block hu
      obtain ⟨ho, hh⟩ := hs b hb hlt
      refine ⟨a, cap, rfl, h1, h2, h3, fun _ => ⟨b, off, ha, ho⟩, fun b' off' ha' => ?_⟩
      rw [ha] at ha'
      simp only [Option.some.injEq, Addr.mk.injEq, and_true] at ha'
      obtain ⟨rfl, rfl⟩ := ha'
      exact RMc.mono hs hb cs off hr
  | .agg cs, v, h => by
    simp only [RM] at h ⊢
    obtain ⟨us, rfl, h1⟩ := h
    exact ⟨us, rfl, RMs.mono hs cs _ h1⟩
  | .tup cs, v, h => by
    simp only [RM] at h ⊢
    obtain ⟨us, rfl, h1⟩ := h
    exact ⟨us, rfl, RMt.mono hs cs _ h1⟩
  | .fn f, v, h => by simpa only [RM] using h
  | .nilp, v, h => by simpa only [RM] using h
  | .nilf, v, h => by simpa only [RM] using h
  | .nili, v, h => by simpa only [RM] using h
  | .iface t m, v, h => by
    simp only [RM] at h ⊢
    obtain ⟨u, rfl, h1⟩ := h
    exact ⟨u, rfl, RM.mono hs m u h1⟩
theorem RMc.mono {ok ok' : Nat → Prop} {w w' : World} (hs : Stays ok ok' w w') {b : Nat} (hb : ok b) : ∀ (ms : List M) (off : Nat), RMc ok w b off ms → RMc ok' w' b off ms
  | [], off, h => by simp only [RMc]
  | m :: ms, off, h => by
    simp only [RMc] at h ⊢
    obtain ⟨⟨u, h1, h2, h3⟩, h4⟩ := h
    refine ⟨⟨u, ?_, h2, RM.mono hs m u h3⟩, RMc.mono hs hb ms (off + 1) h4⟩
    rw [World.cell?_of_block (w := w) (hs b hb (cell_block h1)).2]
    exact h1
theorem RMs.mono {ok ok' : Nat → Prop} {w w' : World} (hs : Stays ok ok' w w') : ∀ (ms : List M) (vs : List Value), RMs ok w ms vs → RMs ok' w' ms vs
  | [], vs, h => by simpa only [RMs] using h
  | m :: ms, vs, h => by
    simp only [RMs] at h ⊢
    obtain ⟨u, us, rfl, h1, h2, h3⟩ := h
    exact ⟨u, us, rfl, h1, RM.mono hs m u h2, RMs.mono hs ms us h3⟩
theorem RMt.mono {ok ok' : Nat → Prop} {w w' : World} (hs : Stays ok ok' w w') : ∀ (ms : List M) (vs : List Value), RMt ok w ms vs → RMt ok' w' ms vs
  | [], vs, h => by simpa only [RMt] using h
  | m :: ms, vs, h => by
    simp only [RMt] at h ⊢
    obtain ⟨u, us, rfl, h1, h2⟩ := h
    exact ⟨u, us, rfl, RM.mono hs m u h1, RMt.mono hs ms us h2⟩
end

/-- names of objects keep their blocks; a row's block keeps its size -/
structure Names (β β' : Nat → Option Nat) (w w' : World) (is : List Nat) : Prop where
  same : ∀ i b, i ∈ is → β i = some b → β' i = some b
  rows : ∀ i b us e, i ∈ is → β i = some b → w.heap[b]? = some (.cells us e (0, 0)) → ∃ us' e', w'.heap[b]? = some (.cells us' e' (0, 0)) ∧ us'.size = us.size

mutual
/-- the objects that are named in what a slot holds -/
def D.refs : D → List Nat
  | .im _ => []
  | .agg ds => drefs ds
  | .tup ds => drefs ds
  | .ptr id _ => [id]
  | .ep _ => []
  | .row id _ _ => [id]
  | .fn _ caps => drefs caps
  | .iface _ d => d.refs
def drefs : List D → List Nat
  | [] => []
  | d :: ds => d.refs ++ drefs ds
end

def O.refs : O → List Nat
  | .box _ cs => drefs cs
  | .rw _ _ _ => []
  | .it _ _ => []

theorem Names.sub {β β' : Nat → Option Nat} {w w' : World} {is js : List Nat} (h : Names β β' w w' is) (hj : ∀ j, j ∈ js → j ∈ is) : Names β β' w w' js :=
  ⟨fun i b hi => h.same i b (hj i hi), fun i b us e hi => h.rows i b us e (hj i hi)⟩

mutual
theorem RD.mono {β β' : Nat → Option Nat} {ok ok' : Nat → Prop} {w w' : World} (hs : Stays ok ok' w w') : ∀ (d : D) (v : Value), Names β β' w w' d.refs → RD β ok w d v → RD β' ok' w' d v
  | .im m, v, hn, h => by simp only [RD] at h ⊢; exact RM.mono hs m v h
  | .agg ds, v, hn, h => by
    simp only [RD] at h ⊢
    obtain ⟨us, rfl, h1⟩ := h
    exact ⟨us, rfl, RDs.mono hs ds _ (by simpa only [D.refs] using hn) h1⟩
  | .tup ds, v, hn, h => by
    simp only [RD] at h ⊢
    obtain ⟨us, rfl, h1⟩ := h
    exact ⟨us, rfl, RDt.mono hs ds _ (by simpa only [D.refs] using hn) h1⟩
  | .ptr id off, v, hn, h => by
    simp only [RD] at h ⊢
    obtain ⟨b, h1, h2⟩ := h
    exact ⟨b, hn.same id b (by simp [D.refs]) h1, h2⟩
  | .ep cs, v, hn, h => by
    simp only [RD] at h ⊢
    obtain ⟨b, off, rfl, hb, hlt, hr⟩ := h
    obtain ⟨ho, hh⟩ := hs b hb hlt
    refine ⟨b, off, rfl, ho, ?_, RMc.mono hs hb _ _ hr⟩
    have h1 : b < w'.heap.size ∨ w'.heap.size ≤ b := by omega
    rcases h1 with h1 | h1
    · exact h1
    · rw [Array.getElem?_eq_none h1, Array.getElem?_eq_getElem hlt] at hh
      simp at hh
  | .row id n sz, v, hn, h => by
    simp only [RD] at h ⊢
    rcases h with h | ⟨b, cap, h1, h2, h3, h4, us, e, h5, h6⟩
    · exact .inl h
    · obtain ⟨us', e', h7, h8⟩ := hn.rows id b us e (by simp [D.refs]) h1 h5
      exact .inr ⟨b, cap, hn.same id b (by simp [D.refs]) h1, h2, h3, h4, us', e', h7, by rw [h8, h6]⟩
  | .fn f caps, v, hn, h => by
    simp only [RD] at h ⊢
    obtain ⟨us, rfl, h1⟩ := h
    exact ⟨us, rfl, RDt.mono hs caps _ (by simpa only [D.refs] using hn) h1⟩
  | .iface t d, v, hn, h => by
    simp only [RD] at h ⊢
    obtain ⟨u, rfl, h1⟩ := h
    exact ⟨u, rfl, RD.mono hs d u (by simpa only [D.refs] using hn) h1⟩
theorem RDs.mono {β β' : Nat → Option Nat} {ok ok' : Nat → Prop} {w w' : World} (hs : Stays ok ok' w w') : ∀ (ds : List D) (vs : List Value), Names β β' w w' (drefs ds) → RDs β ok w ds vs → RDs β' ok' w' ds vs
  | [], vs, hn, h => by simpa only [RDs] using h
  | d :: ds, vs, hn, h => by
    simp only [RDs] at h ⊢
    obtain ⟨u, us, rfl, h1, h2, h3⟩ := h
    exact ⟨u, us, rfl, h1, RD.mono hs d u (hn.sub (by simp only [drefs, List.mem_append]; exact fun _ h => .inl h)) h2, RDs.mono hs ds us (hn.sub (by simp only [drefs, List.mem_append]; exact fun _ h => .inr h)) h3⟩
theorem RDt.mono {β β' : Nat → Option Nat} {ok ok' : Nat → Prop} {w w' : World} (hs : Stays ok ok' w w') : ∀ (ds : List D) (vs : List Value), Names β β' w w' (drefs ds) → RDt β ok w ds vs → RDt β' ok' w' ds vs
  | [], vs, hn, h => by simpa only [RDt] using h
  | d :: ds, vs, hn, h => by
    simp only [RDt] at h ⊢
    obtain ⟨u, us, rfl, h1, h2⟩ := h
    exact ⟨u, us, rfl, RD.mono hs d u (hn.sub (by simp only [drefs, List.mem_append]; exact fun _ h => .inl h)) h1, RDt.mono hs ds us (hn.sub (by simp only [drefs, List.mem_append]; exact fun _ h => .inr h)) h2⟩
end

end Fw
