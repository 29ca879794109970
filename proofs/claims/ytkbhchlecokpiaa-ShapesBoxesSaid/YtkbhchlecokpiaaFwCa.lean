/- A program logic over data: what slots and memory hold, and how that reads in the model's worlds. No program in sight. -/
import Derived.WalkKit
import Derived.Below
import Derived.Laws.OwnMore
import Derived.Laws.Rows
import Derived.Maps.AppendAt
import Derived.Lib.Hide
import Derived.Orders
set_option linter.unusedVariables false
set_option linter.unusedSimpArgs false
/-! ## FwA: A program logic over data: what slots and memory hold, and how that reads in the model's worlds. No program in sight. -/
namespace Fw
open Go Go.RowKit
set_option linter.unusedVariables false
set_option linter.unusedSimpArgs false

/-- data: what never changes once it is made -/
inductive M where
  | int (k : IntKind) (n : Int)
  | bool (b : Bool)
  | str (s : List UInt8)
  | nil
  | seq (n : Nat) (cs : List M)
  | agg (cs : List M)
  | tup (cs : List M)
  | fn (f : FuncId)
  | nilp
  | nilf
  | nili
  | iface (t : TypeId) (m : M)

mutual
/-- a value reads as data, in blocks that are 'ok' -/
def RM (ok : Nat → Prop) (w : World) : M → Value → Prop
  | .int k n, v => v = .int k n
  | .bool b, v => v = .bool b
  | .str s, v => v = .string ⟨s.toArray⟩
  | .nil, v => v = .slice none 0 0
  | .seq n cs, v => ∃ a cap, v = .slice a n cap ∧ n ≤ cap ∧ cap ≤ maxLen ∧ (n = 0 → cs = []) ∧ (cs ≠ [] → ∃ b off, a = some ⟨b, off, none⟩ ∧ ok b) ∧ (∀ b off, a = some ⟨b, off, none⟩ → RMc ok w b off cs)
  | .agg cs, v => ∃ us, v = .agg us ∧ RMs ok w cs us.toList
  | .tup cs, v => ∃ us, v = .tuple us ∧ RMt ok w cs us.toList
  | .fn f, v => v = .func (.func f) #[] #[]
  | .nilp, v => v = .pointer none
  | .nilf, v => v = .nilFunc
  | .nili, v => v = .nilIface
  | .iface t m, v => ∃ u, v = .iface t u ∧ RM ok w m u
/-- the cells from an address on -/
def RMc (ok : Nat → Prop) (w : World) (b off : Nat) : List M → Prop
  | [] => True
  | m :: ms => (∃ u, w.cell? ⟨b, off, none⟩ = some u ∧ u.oneCell' = true ∧ RM ok w m u) ∧ RMc ok w b (off + 1) ms
/-- values of one cell -/
def RMs (ok : Nat → Prop) (w : World) : List M → List Value → Prop
  | [], vs => vs = []
  | m :: ms, vs => ∃ u us, vs = u :: us ∧ u.oneCell' = true ∧ RM ok w m u ∧ RMs ok w ms us
/-- values, whatever they are -/
def RMt (ok : Nat → Prop) (w : World) : List M → List Value → Prop
  | [], vs => vs = []
  | m :: ms, vs => ∃ u us, vs = u :: us ∧ RM ok w m u ∧ RMt ok w ms us
end

/-- what a slot holds -/
inductive D where
  | im (m : M)
  | agg (ds : List D)
  | tup (ds : List D)
  | ptr (id off : Nat)
  | ep (cs : List M)
  | row (id n sz : Nat)
  | fn (f : FuncId) (caps : List D)
  | iface (t : TypeId) (d : D)

/-- objects of a frame -/
inductive O where
  | box (t : TypeId) (cs : List D)
  | rw (e : TypeId) (sz : Nat) (cs : List M)
  | it (s : List UInt8) (pos : Nat)
  | bx (b : Nat) (t : TypeId) (cs : List D)

mutual
def RD (β : Nat → Option Nat) (ok : Nat → Prop) (w : World) : D → Value → Prop
  | .im m, v => RM ok w m v
  | .agg ds, v => ∃ us, v = .agg us ∧ RDs β ok w ds us.toList
  | .tup ds, v => ∃ us, v = .tuple us ∧ RDt β ok w ds us.toList
  | .ptr id off, v => ∃ b, β id = some b ∧ v = .pointer (some ⟨b, off, none⟩)
  | .ep cs, v => ∃ b off, v = .pointer (some ⟨b, off, none⟩) ∧ ok b ∧ b < w.heap.size ∧ RMc ok w b off cs
  | .row id n sz, v => (v = .slice none 0 0 ∧ n = 0) ∨ ∃ b cap, β id = some b ∧ v = .slice (some ⟨b, 0, none⟩) n cap ∧ n ≤ cap ∧ cap ≤ maxLen ∧ ∃ us e, w.heap[b]? = some (.cells us e (0, 0)) ∧ us.size = cap * sz
  | .fn f caps, v => ∃ us, v = .func (.func f) #[] us ∧ RDt β ok w caps us.toList
  | .iface t d, v => ∃ u, v = .iface t u ∧ RD β ok w d u
def RDs (β : Nat → Option Nat) (ok : Nat → Prop) (w : World) : List D → List Value → Prop
  | [], vs => vs = []
  | d :: ds, vs => ∃ u us, vs = u :: us ∧ u.oneCell' = true ∧ RD β ok w d u ∧ RDs β ok w ds us
def RDt (β : Nat → Option Nat) (ok : Nat → Prop) (w : World) : List D → List Value → Prop
  | [], vs => vs = []
  | d :: ds, vs => ∃ u us, vs = u :: us ∧ RD β ok w d u ∧ RDt β ok w ds us
end

def RO (β : Nat → Option Nat) (ok : Nat → Prop) (w : World) (id : Nat) : O → Prop
  | .box t cs => ∃ b us, β id = some b ∧ w.heap[b]? = some (.cells us t (0, 0)) ∧ RDs β ok w cs us.toList
  | .rw e sz cs => (β id = none ∧ cs = []) ∨ ∃ b us cap, β id = some b ∧ w.heap[b]? = some (.cells us e (0, 0)) ∧ us.size = cap * sz ∧ cap ≤ maxLen ∧ cs.length ≤ us.size ∧ RMs ok w cs (us.toList.take cs.length)
  | .it s pos => ∃ b, β id = some b ∧ w.heap[b]? = some (.stringIter ⟨s.toArray⟩ pos)
  | .bx b t cs => β id = some b ∧ ∃ us, w.heap[b]? = some (.cells us t (0, 0)) ∧ RDs β ok w cs us.toList

/-! ### what stays when the world goes on -/

theorem cell_block {w : World} {b off : Nat} {u : Value} (h : w.cell? ⟨b, off, none⟩ = some u) : b < w.heap.size :=
  World.block_lt_of_cell? w _ h

/-- every block that is 'ok' stays, and is 'ok' behind -/
def Stays (ok ok' : Nat → Prop) (w w' : World) : Prop := ∀ b, ok b → b < w.heap.size → ok' b ∧ w'.heap[b]? = w.heap[b]?

theorem Stays.refl (ok : Nat → Prop) (w : World) : Stays ok ok w w := fun _ h _ => ⟨h, rfl⟩

mutual
theorem RM.mono {ok ok' : Nat → Prop} {w w' : World} (hs : Stays ok ok' w w') : ∀ (m : M) (v : Value), RM ok w m v → RM ok' w' m v
  | .int k n, v, h => by simpa only [RM] using h
  | .bool b, v, h => by simpa only [RM] using h
  | .str s, v, h => by simpa only [RM] using h
  | .nil, v, h => by simpa only [RM] using h
  | .seq n cs, v, h => by
    simp only [RM] at h ⊢
    obtain ⟨a, cap, rfl, h1, h2, h3, h4, h5⟩ := h
    by_cases hc : cs = []
    · subst hc
      exact ⟨a, cap, rfl, h1, h2, h3, fun h => absurd rfl h, fun _ _ _ => by simp only [RMc]⟩
    · obtain ⟨b, off, ha, hb⟩ := h4 hc
      have hr := h5 b off ha
      have hlt : b < w.heap.size := by
        match cs, hc, hr with
        | m :: ms, _, hr =>
          simp only [RMc] at hr
          obtain ⟨⟨u, hu, _⟩, _⟩ := hr
          exact cell_block hu
      obtain ⟨ho, hh⟩ := hs b hb hlt
      refine ⟨a, cap, rfl, h1, h2, h3, fun _ => ⟨b, off, ha, ho⟩, fun b' off' ha' => ?_⟩
      rw [ha] at ha'
      simp only [Option.some.injEq, Addr.mk.injEq, and_true] at ha'
      obtain ⟨rfl, rfl⟩ := ha'
      exact RMc.mono hs hb cs off hr
  | .agg cs, v, h => by
    simp only [RM] at h ⊢
    obtain ⟨us, rfl, h1⟩ := h
    exact ⟨us, rfl, RMs.mono hs cs _ h1⟩
  | .tup cs, v, h => by
    simp only [RM] at h ⊢
    obtain ⟨us, rfl, h1⟩ := h
    exact ⟨us, rfl, RMt.mono hs cs _ h1⟩
  | .fn f, v, h => by simpa only [RM] using h
  | .nilp, v, h => by simpa only [RM] using h
  | .nilf, v, h => by simpa only [RM] using h
  | .nili, v, h => by simpa only [RM] using h
  | .iface t m, v, h => by
    simp only [RM] at h ⊢
    obtain ⟨u, rfl, h1⟩ := h
    exact ⟨u, rfl, RM.mono hs m u h1⟩
theorem RMc.mono {ok ok' : Nat → Prop} {w w' : World} (hs : Stays ok ok' w w') {b : Nat} (hb : ok b) : ∀ (ms : List M) (off : Nat), RMc ok w b off ms → RMc ok' w' b off ms
  | [], off, h => by simp only [RMc]
  | m :: ms, off, h => by
    simp only [RMc] at h ⊢
    obtain ⟨⟨u, h1, h2, h3⟩, h4⟩ := h
    refine ⟨⟨u, ?_, h2, RM.mono hs m u h3⟩, RMc.mono hs hb ms (off + 1) h4⟩
    rw [World.cell?_of_block (w := w) (hs b hb (cell_block h1)).2]
    exact h1
theorem RMs.mono {ok ok' : Nat → Prop} {w w' : World} (hs : Stays ok ok' w w') : ∀ (ms : List M) (vs : List Value), RMs ok w ms vs → RMs ok' w' ms vs
  | [], vs, h => by simpa only [RMs] using h
  | m :: ms, vs, h => by
    simp only [RMs] at h ⊢
    obtain ⟨u, us, rfl, h1, h2, h3⟩ := h
    exact ⟨u, us, rfl, h1, RM.mono hs m u h2, RMs.mono hs ms us h3⟩
theorem RMt.mono {ok ok' : Nat → Prop} {w w' : World} (hs : Stays ok ok' w w') : ∀ (ms : List M) (vs : List Value), RMt ok w ms vs → RMt ok' w' ms vs
  | [], vs, h => by simpa only [RMt] using h
  | m :: ms, vs, h => by
    simp only [RMt] at h ⊢
    obtain ⟨u, us, rfl, h1, h2⟩ := h
    exact ⟨u, us, rfl, RM.mono hs m u h1, RMt.mono hs ms us h2⟩
end

/-- names of objects keep their blocks; a row's block keeps its size -/
structure Names (β β' : Nat → Option Nat) (w w' : World) (is : List Nat) : Prop where
  same : ∀ i b, i ∈ is → β i = some b → β' i = some b
  rows : ∀ i b us e, i ∈ is → β i = some b → w.heap[b]? = some (.cells us e (0, 0)) → ∃ us' e', w'.heap[b]? = some (.cells us' e' (0, 0)) ∧ us'.size = us.size

mutual
/-- the objects that are named in what a slot holds -/
def D.refs : D → List Nat
  | .im _ => []
  | .agg ds => drefs ds
  | .tup ds => drefs ds
  | .ptr id _ => [id]
  | .ep _ => []
  | .row id _ _ => [id]
  | .fn _ caps => drefs caps
  | .iface _ d => d.refs
def drefs : List D → List Nat
  | [] => []
  | d :: ds => d.refs ++ drefs ds
end

def O.refs : O → List Nat
  | .box _ cs => drefs cs
  | .rw _ _ _ => []
  | .it _ _ => []
  | .bx _ _ cs => drefs cs

theorem Names.sub {β β' : Nat → Option Nat} {w w' : World} {is js : List Nat} (h : Names β β' w w' is) (hj : ∀ j, j ∈ js → j ∈ is) : Names β β' w w' js :=
  ⟨fun i b hi => h.same i b (hj i hi), fun i b us e hi => h.rows i b us e (hj i hi)⟩

mutual
theorem RD.mono {β β' : Nat → Option Nat} {ok ok' : Nat → Prop} {w w' : World} (hs : Stays ok ok' w w') : ∀ (d : D) (v : Value), Names β β' w w' d.refs → RD β ok w d v → RD β' ok' w' d v
  | .im m, v, hn, h => by simp only [RD] at h ⊢; exact RM.mono hs m v h
  | .agg ds, v, hn, h => by
    simp only [RD] at h ⊢
    obtain ⟨us, rfl, h1⟩ := h
    exact ⟨us, rfl, RDs.mono hs ds _ (by simpa only [D.refs] using hn) h1⟩
  | .tup ds, v, hn, h => by
    simp only [RD] at h ⊢
    obtain ⟨us, rfl, h1⟩ := h
    exact ⟨us, rfl, RDt.mono hs ds _ (by simpa only [D.refs] using hn) h1⟩
  | .ptr id off, v, hn, h => by
    simp only [RD] at h ⊢
    obtain ⟨b, h1, h2⟩ := h
    exact ⟨b, hn.same id b (by simp [D.refs]) h1, h2⟩
  | .ep cs, v, hn, h => by
    simp only [RD] at h ⊢
    obtain ⟨b, off, rfl, hb, hlt, hr⟩ := h
    obtain ⟨ho, hh⟩ := hs b hb hlt
    refine ⟨b, off, rfl, ho, ?_, RMc.mono hs hb _ _ hr⟩
    have h1 : b < w'.heap.size ∨ w'.heap.size ≤ b := by omega
    rcases h1 with h1 | h1
    · exact h1
    · rw [Array.getElem?_eq_none h1, Array.getElem?_eq_getElem hlt] at hh
      simp at hh
  | .row id n sz, v, hn, h => by
    simp only [RD] at h ⊢
    rcases h with h | ⟨b, cap, h1, h2, h3, h4, us, e, h5, h6⟩
    · exact .inl h
    · obtain ⟨us', e', h7, h8⟩ := hn.rows id b us e (by simp [D.refs]) h1 h5
      exact .inr ⟨b, cap, hn.same id b (by simp [D.refs]) h1, h2, h3, h4, us', e', h7, by rw [h8, h6]⟩
  | .fn f caps, v, hn, h => by
    simp only [RD] at h ⊢
    obtain ⟨us, rfl, h1⟩ := h
    exact ⟨us, rfl, RDt.mono hs caps _ (by simpa only [D.refs] using hn) h1⟩
  | .iface t d, v, hn, h => by
    simp only [RD] at h ⊢
    obtain ⟨u, rfl, h1⟩ := h
    exact ⟨u, rfl, RD.mono hs d u (by simpa only [D.refs] using hn) h1⟩
theorem RDs.mono {β β' : Nat → Option Nat} {ok ok' : Nat → Prop} {w w' : World} (hs : Stays ok ok' w w') : ∀ (ds : List D) (vs : List Value), Names β β' w w' (drefs ds) → RDs β ok w ds vs → RDs β' ok' w' ds vs
  | [], vs, hn, h => by simpa only [RDs] using h
  | d :: ds, vs, hn, h => by
    simp only [RDs] at h ⊢
    obtain ⟨u, us, rfl, h1, h2, h3⟩ := h
    exact ⟨u, us, rfl, h1, RD.mono hs d u (hn.sub (by simp only [drefs, List.mem_append]; exact fun _ h => .inl h)) h2, RDs.mono hs ds us (hn.sub (by simp only [drefs, List.mem_append]; exact fun _ h => .inr h)) h3⟩
theorem RDt.mono {β β' : Nat → Option Nat} {ok ok' : Nat → Prop} {w w' : World} (hs : Stays ok ok' w w') : ∀ (ds : List D) (vs : List Value), Names β β' w w' (drefs ds) → RDt β ok w ds vs → RDt β' ok' w' ds vs
  | [], vs, hn, h => by simpa only [RDt] using h
  | d :: ds, vs, hn, h => by
    simp only [RDt] at h ⊢
    obtain ⟨u, us, rfl, h1, h2⟩ := h
    exact ⟨u, us, rfl, RD.mono hs d u (hn.sub (by simp only [drefs, List.mem_append]; exact fun _ h => .inl h)) h1, RDt.mono hs ds us (hn.sub (by simp only [drefs, List.mem_append]; exact fun _ h => .inr h)) h2⟩
end

end Fw

/-! ## FwB: A program logic over data: states, how a state reads in a world, and how both go on together. No program in sight. -/
namespace Fw
open Go Go.RowKit
set_option linter.unusedVariables false
set_option linter.unusedSimpArgs false

/-- outside the blocks S nothing that was there has turned -/
structure Keep (S : Nat → Prop) (w w' : World) : Prop where
  os : w'.os = w.os
  tape : w'.tape = w.tape
  output : w'.output = w.output
  size : w.heap.size ≤ w'.heap.size
  block : ∀ k, k < w.heap.size → ¬ S k → w'.heap[k]? = w.heap[k]?

theorem Keep.refl (S : Nat → Prop) (w : World) : Keep S w w := ⟨rfl, rfl, rfl, Nat.le_refl _, fun _ _ _ => rfl⟩
theorem Keep.below {w w' : World} (h : Keep (fun _ => False) w w') : Below w.heap.size w w' := ⟨h.os, h.tape, h.output, h.size, fun k hk => h.block k hk id⟩
theorem Keep.of_below {w w' : World} (h : Below w.heap.size w w') : Keep (fun _ => False) w w' := ⟨h.os, h.tape, h.output, h.size, fun k hk _ => h.block k hk⟩

/-- slots and objects, and the world that they read in -/
structure Conc (N : Nat) (w0 : World) (ok0 S0 : Nat → Prop) (T : Nat → Option D) (H : Nat → Option O) (β : Nat → Option Nat) (ok : Nat → Prop) (a : Act) (w : World) : Prop where
  defers : a.defers = []
  size : a.tmps.size = N
  tmp : ∀ i d, T i = some d → RD β ok w d (a.tmps.getD i undef)
  obj : ∀ i o, H i = some o → RO β ok w i o
  inj : ∀ i j o o' b, H i = some o → H j = some o' → β i = some b → β j = some b → i = j
  okd : ∀ b, ok b → ∀ i o, H i = some o → β i ≠ some b
  okl : ∀ b, ok b → b < w.heap.size
  okf : ∀ b, ok b → ok0 b ∨ w0.heap.size ≤ b ∨ S0 b
  low : ∀ i o b, H i = some o → β i = some b → w0.heap.size ≤ b ∨ S0 b
  keep : Keep S0 w0 w

def putT (T : Nat → Option D) (dst : Option Nat) (r : Option D) : Nat → Option D := fun i => if dst = some i then r else T i
def chH (H : Nat → Option O) : List (Nat × Option O) → Nat → Option O
  | [], i => H i
  | (j, o) :: l, i => if j = i then o else chH H l i

theorem getD_put (a : Act) (dst : Option Nat) (v : Value) (i : Nat) (hd : ∀ d, dst = some d → d < a.tmps.size) :
    (a.put dst v).tmps.getD i undef = if dst = some i then v else a.tmps.getD i undef := by
  cases dst with
  | none => simp [Act.put]
  | some d =>
    have := hd d rfl
    by_cases h : d = i
    · subst h; simp [Act.put, Array.getD, this]
    · have h' : ¬ (some d = some i) := by simpa using h
      simp only [Act.put, if_neg h']
      simp [Array.getD_eq_getD_getElem?, Array.getElem?_setIfInBounds, h]

theorem put_size (a : Act) (dst : Option Nat) (v : Value) : (a.put dst v).tmps.size = a.tmps.size := by
  cases dst <;> simp [Act.put]
theorem put_defers (a : Act) (dst : Option Nat) (v : Value) : (a.put dst v).defers = a.defers := by
  cases dst <;> simp [Act.put]

section
variable {N : Nat} {w0 : World} {ok0 S0 : Nat → Prop} {T : Nat → Option D} {H H' : Nat → Option O} {β β' : Nat → Option Nat} {ok ok' : Nat → Prop} {a : Act} {w w' : World}

/-- the general step -/
theorem Conc.step (hc : Conc N w0 ok0 S0 T H β ok a w) (dst : Option Nat) (v : Value) (r : Option D) (hd : ∀ d, dst = some d → d < N)
    (hs : Stays ok ok' w w') (hn : ∀ i d, T i = some d → Names β β' w w' d.refs) (hr : ∀ d, r = some d → RD β' ok' w' d v)
    (ho : ∀ i o, H' i = some o → RO β' ok' w' i o) (hinj : ∀ i j o o' b, H' i = some o → H' j = some o' → β' i = some b → β' j = some b → i = j)
    (hokd : ∀ b, ok' b → ∀ i o, H' i = some o → β' i ≠ some b) (hokl : ∀ b, ok' b → b < w'.heap.size) (hokf : ∀ b, ok' b → ok0 b ∨ w0.heap.size ≤ b ∨ S0 b)
    (hlow : ∀ i o b, H' i = some o → β' i = some b → w0.heap.size ≤ b ∨ S0 b) (hkeep : Keep S0 w0 w') :
    Conc N w0 ok0 S0 (putT T dst r) H' β' ok' (a.put dst v) w' where
  defers := by rw [put_defers]; exact hc.defers
  size := by rw [put_size]; exact hc.size
  tmp := by
    intro i d h
    rw [getD_put a dst v i (by rw [hc.size]; exact hd)]
    unfold putT at h
    split
    · rename_i he
      rw [if_pos he] at h
      exact hr d h
    · rename_i he
      rw [if_neg he] at h
      exact RD.mono hs d _ (hn i d h) (hc.tmp i d h)
  obj := ho
  inj := hinj
  okd := hokd
  okl := hokl
  okf := hokf
  low := hlow
  keep := hkeep

theorem Names.refl (β : Nat → Option Nat) (w : World) (is : List Nat) : Names β β w w is := ⟨fun _ _ _ h => h, fun i b us e _ _ h => ⟨us, e, h, rfl⟩⟩

/-- a value that touches nothing -/
theorem Conc.put (hc : Conc N w0 ok0 S0 T H β ok a w) (dst : Option Nat) (v : Value) (r : Option D) (hd : ∀ d, dst = some d → d < N) (hr : ∀ d, r = some d → RD β ok w d v) :
    Conc N w0 ok0 S0 (putT T dst r) H β ok (a.put dst v) w :=
  hc.step dst v r hd (Stays.refl ok w) (fun _ _ _ => Names.refl _ _ _) hr hc.obj hc.inj hc.okd hc.okl hc.okf hc.low hc.keep

/-- weaker claims -/
theorem Conc.weaken {T' : Nat → Option D} (hc : Conc N w0 ok0 S0 T H β ok a w) (hT : ∀ i d, T' i = some d → T i = some d) (hH : ∀ i o, H' i = some o → H i = some o) :
    Conc N w0 ok0 S0 T' H' β ok a w where
  defers := hc.defers
  size := hc.size
  tmp := fun i d h => hc.tmp i d (hT i d h)
  obj := fun i o h => hc.obj i o (hH i o h)
  inj := fun i j o o' b h h' => hc.inj i j o o' b (hH i o h) (hH j o' h')
  okd := fun b hb i o h => hc.okd b hb i o (hH i o h)
  okl := hc.okl
  okf := hc.okf
  low := fun i o b h => hc.low i o b (hH i o h)
  keep := hc.keep

theorem RO.block {id : Nat} {o : O} {b : Nat} (h : RO β ok w id o) (hb : β id = some b) : b < w.heap.size := by
  have key : ∀ x, w.heap[b]? = some x → b < w.heap.size := fun x hx => by
    rcases Nat.lt_or_ge b w.heap.size with h | h
    · exact h
    · rw [Array.getElem?_eq_none h] at hx; cases hx
  cases o with
  | box t cs =>
    simp only [RO] at h
    obtain ⟨b', us, h1, h2, _⟩ := h
    rw [hb] at h1; cases h1
    exact key _ h2
  | rw e sz cs =>
    simp only [RO] at h
    rcases h with ⟨h1, _⟩ | ⟨b', us, cap, h1, h2, _⟩
    · rw [hb] at h1; cases h1
    · rw [hb] at h1; cases h1
      exact key _ h2
  | it s pos =>
    simp only [RO] at h
    obtain ⟨b', h1, h2⟩ := h
    rw [hb] at h1; cases h1
    exact key _ h2
  | bx b2 t cs =>
    simp only [RO] at h
    obtain ⟨h1, us, h2, _⟩ := h
    rw [hb] at h1; cases h1
    exact key _ h2

/-- an object that nothing has touched -/
theorem RO.mono (hs : Stays ok ok' w w') {id : Nat} {o : O} (hn : Names β β' w w' o.refs) (hid : β' id = β id) (hb : ∀ b, β id = some b → w'.heap[b]? = w.heap[b]?) (h : RO β ok w id o) : RO β' ok' w' id o := by
  cases o with
  | box t cs =>
    simp only [RO] at h ⊢
    obtain ⟨b, us, h1, h2, h3⟩ := h
    exact ⟨b, us, hid.trans h1, (hb b h1).trans h2, RDs.mono hs cs _ (by simpa only [O.refs] using hn) h3⟩
  | rw e sz cs =>
    simp only [RO] at h ⊢
    rcases h with ⟨h1, h2⟩ | ⟨b, us, cap, h1, h2, h3, h4, h5, h6⟩
    · exact .inl ⟨hid.trans h1, h2⟩
    · exact .inr ⟨b, us, cap, hid.trans h1, (hb b h1).trans h2, h3, h4, h5, RMs.mono hs cs _ h6⟩
  | it s pos =>
    simp only [RO] at h ⊢
    obtain ⟨b, h1, h2⟩ := h
    exact ⟨b, hid.trans h1, (hb b h1).trans h2⟩
  | bx b2 t cs =>
    simp only [RO] at h ⊢
    obtain ⟨h1, us, h2, h3⟩ := h
    exact ⟨hid.trans h1, us, (hb b2 h1).trans h2, RDs.mono hs cs _ (by simpa only [O.refs] using hn) h3⟩

/-- nobody names it -/
def Fresh (T : Nat → Option D) (H : Nat → Option O) (id : Nat) : Prop := (∀ i d, T i = some d → id ∉ d.refs) ∧ (∀ i o, H i = some o → i ≠ id ∧ id ∉ o.refs)

def updβ (β : Nat → Option Nat) (id : Nat) (b : Option Nat) : Nat → Option Nat := fun i => if i = id then b else β i

theorem push_get (w : World) (x : Obj) (k : Nat) (hk : k < w.heap.size) : (w.alloc x).heap[k]? = w.heap[k]? := Below.heap_alloc w x k hk
theorem push_new (w : World) (x : Obj) : (w.alloc x).heap[w.heap.size]? = some x := heap_alloc_new w x

theorem Names.alloc {is : List Nat} {id : Nat} (x : Obj) (hid : id ∉ is) (hlt : ∀ b us e, w.heap[b]? = some (.cells us e (0, 0)) → b < w.heap.size) : Names β (updβ β id (some w.heap.size)) w (w.alloc x) is where
  same := fun i b hi hb => by
    unfold updβ
    rw [if_neg (by rintro rfl; exact hid hi)]; exact hb
  rows := fun i b us e hi hb h => ⟨us, e, by rw [push_get w x b (hlt b us e h)]; exact h, rfl⟩

theorem heap_lt {w : World} {b : Nat} {x : Obj} (h : w.heap[b]? = some x) : b < w.heap.size := by
  rcases Nat.lt_or_ge b w.heap.size with h1 | h1
  · exact h1
  · rw [Array.getElem?_eq_none h1] at h; cases h

theorem Stays.alloc (ok : Nat → Prop) (w : World) (x : Obj) : Stays ok ok w (w.alloc x) := fun b h hb => ⟨h, push_get w x b hb⟩
theorem Keep.alloc {S : Nat → Prop} (h : Keep S w0 w) (x : Obj) : Keep S w0 (w.alloc x) where
  os := h.os
  tape := h.tape
  output := h.output
  size := Nat.le_trans h.size (by simp)
  block := fun k hk hS => by rw [push_get w x k (Nat.lt_of_lt_of_le hk h.size)]; exact h.block k hk hS

/-- a new object -/
theorem Conc.new (hc : Conc N w0 ok0 S0 T H β ok a w) (dst : Option Nat) (v : Value) (r : Option D) (hd : ∀ d, dst = some d → d < N) (id : Nat) (o : O) (x : Obj) (hf : Fresh T H id)
    (ho : RO (updβ β id (some w.heap.size)) ok (w.alloc x) id o) (hr : ∀ d, r = some d → RD (updβ β id (some w.heap.size)) ok (w.alloc x) d v) :
    Conc N w0 ok0 S0 (putT T dst r) (chH H [(id, some o)]) (updβ β id (some w.heap.size)) ok (a.put dst v) (w.alloc x) := by
  have hne : ∀ i, i ≠ id → updβ β id (some w.heap.size) i = β i := fun i h => by unfold updβ; rw [if_neg h]
  have hid : updβ β id (some w.heap.size) id = some w.heap.size := by unfold updβ; rw [if_pos rfl]
  have hcase : ∀ i o', chH H [(id, some o)] i = some o' → (i = id ∧ o' = o) ∨ (i ≠ id ∧ H i = some o') := by
    intro i o' h
    simp only [chH] at h
    by_cases he : id = i
    · rw [if_pos he] at h
      exact .inl ⟨he.symm, by simpa using h.symm⟩
    · rw [if_neg he] at h
      exact .inr ⟨fun h => he h.symm, h⟩
  refine hc.step dst v r hd (Stays.alloc ok w x) (fun i d h => Names.alloc x (hf.1 i d h) (fun b us e h => heap_lt h)) hr ?_ ?_ ?_ ?_ hc.okf ?_ (hc.keep.alloc x)
  · intro i o' h
    rcases hcase i o' h with ⟨rfl, rfl⟩ | ⟨h1, h2⟩
    · exact ho
    · exact RO.mono (Stays.alloc ok w x) (Names.alloc x (hf.2 i o' h2).2 (fun b us e h => heap_lt h)) (hne i h1) (fun b hb => push_get w x b (RO.block (hc.obj i o' h2) hb)) (hc.obj i o' h2)
  · intro i j o1 o2 b h1 h2 h3 h4
    rcases hcase i o1 h1 with ⟨rfl, rfl⟩ | ⟨g1, g2⟩ <;> rcases hcase j o2 h2 with ⟨rfl, rfl⟩ | ⟨k1, k2⟩
    · rfl
    · rw [hid] at h3; rw [hne j k1] at h4; cases h3
      have := RO.block (hc.obj j o2 k2) h4
      omega
    · rw [hid] at h4; rw [hne i g1] at h3; cases h4
      have := RO.block (hc.obj i o1 g2) h3
      omega
    · rw [hne i g1] at h3; rw [hne j k1] at h4
      exact hc.inj i j o1 o2 b g2 k2 h3 h4
  · intro b hb i o' h
    rcases hcase i o' h with ⟨rfl, rfl⟩ | ⟨h1, h2⟩
    · rw [hid]
      have := hc.okl b hb
      intro he; cases he; omega
    · rw [hne i h1]; exact hc.okd b hb i o' h2
  · intro b hb
    have := hc.okl b hb
    simp; omega
  · intro i o' b h hb
    rcases hcase i o' h with ⟨rfl, rfl⟩ | ⟨h1, h2⟩
    · rw [hid] at hb; cases hb
      exact .inl hc.keep.size
    · rw [hne i h1] at hb; exact hc.low i o' b h2 hb

/-- one block of an object's turned, no row's size -/
structure Turned (b : Nat) (w w' : World) : Prop where
  os : w'.os = w.os
  tape : w'.tape = w.tape
  output : w'.output = w.output
  size : w'.heap.size = w.heap.size
  block : ∀ k, k ≠ b → w'.heap[k]? = w.heap[k]?
  rows : ∀ us e, w.heap[b]? = some (.cells us e (0, 0)) → ∃ us' e', w'.heap[b]? = some (.cells us' e' (0, 0)) ∧ us'.size = us.size

theorem Turned.names {b : Nat} (h : Turned b w w') (is : List Nat) : Names β β w w' is where
  same := fun _ _ _ h => h
  rows := fun i b' us e hi hb hh => by
    by_cases he : b' = b
    · subst he; exact h.rows us e hh
    · exact ⟨us, e, by rw [h.block b' he]; exact hh, rfl⟩

/-- an object turned in place -/
theorem Conc.turn (hc : Conc N w0 ok0 S0 T H β ok a w) (dst : Option Nat) (v : Value) (r : Option D) (hd : ∀ d, dst = some d → d < N) (id : Nat) (o0 o : O) (b : Nat) (h0 : H id = some o0) (hb : β id = some b)
    (ht : Turned b w w') (ho : RO β ok w' id o) (hr : ∀ d, r = some d → RD β ok w' d v) :
    Conc N w0 ok0 S0 (putT T dst r) (chH H [(id, some o)]) β ok (a.put dst v) w' := by
  have hcase : ∀ i o', chH H [(id, some o)] i = some o' → (i = id ∧ o' = o) ∨ (i ≠ id ∧ H i = some o') := by
    intro i o' h
    simp only [chH] at h
    by_cases he : id = i
    · rw [if_pos he] at h
      exact .inl ⟨he.symm, by simpa using h.symm⟩
    · rw [if_neg he] at h
      exact .inr ⟨fun h => he h.symm, h⟩
  have hlive : ∀ i o', chH H [(id, some o)] i = some o' → ∃ o'', H i = some o'' := by
    intro i o' h
    rcases hcase i o' h with ⟨rfl, rfl⟩ | ⟨h1, h2⟩
    · exact ⟨o0, h0⟩
    · exact ⟨o', h2⟩
  have hs : Stays ok ok w w' := fun b' hb' _ => ⟨hb', ht.block b' (by rintro rfl; exact hc.okd b' hb' id o0 h0 hb)⟩
  refine hc.step dst v r hd hs (fun i d h => ht.names _) hr ?_ ?_ ?_ ?_ hc.okf ?_ ?_
  · intro i o' h
    rcases hcase i o' h with ⟨rfl, rfl⟩ | ⟨h1, h2⟩
    · exact ho
    · exact RO.mono hs (ht.names _) rfl (fun b' hb' => ht.block b' (by rintro rfl; exact h1 (hc.inj i id o' o0 b' h2 h0 hb' hb))) (hc.obj i o' h2)
  · intro i j o1 o2 b' h1 h2 h3 h4
    obtain ⟨p, hp⟩ := hlive i o1 h1
    obtain ⟨q, hq⟩ := hlive j o2 h2
    exact hc.inj i j p q b' hp hq h3 h4
  · intro b' hb' i o' h
    obtain ⟨p, hp⟩ := hlive i o' h
    exact hc.okd b' hb' i p hp
  · intro b' hb'
    rw [ht.size]; exact hc.okl b' hb'
  · intro i o' b' h hb'
    obtain ⟨p, hp⟩ := hlive i o' h
    exact hc.low i p b' hp hb'
  · refine ⟨ht.os.trans hc.keep.os, ht.tape.trans hc.keep.tape, ht.output.trans hc.keep.output, by rw [ht.size]; exact hc.keep.size, fun k hk hS => ?_⟩
    rw [ht.block k ?_]
    · exact hc.keep.block k hk hS
    · rintro rfl
      rcases hc.low id o0 k h0 hb with h1 | h1
      · omega
      · exact hS h1

/-- a call that only makes new things -/
theorem Conc.call (hc : Conc N w0 ok0 S0 T H β ok a w) (dst : Option Nat) (v : Value) (r : Option D) (hd : ∀ d, dst = some d → d < N) (hb : Below w.heap.size w w')
    (hr : ∀ d, r = some d → RD β (fun b => (ok b ∨ w.heap.size ≤ b) ∧ b < w'.heap.size) w' d v) :
    Conc N w0 ok0 S0 (putT T dst r) H β (fun b => (ok b ∨ w.heap.size ≤ b) ∧ b < w'.heap.size) (a.put dst v) w' := by
  have hs : Stays ok (fun b => (ok b ∨ w.heap.size ≤ b) ∧ b < w'.heap.size) w w' := fun b' hb' hlt => ⟨⟨.inl hb', Nat.lt_of_lt_of_le hlt hb.size⟩, hb.block b' hlt⟩
  have hn : ∀ is, Names β β w w' is := fun is => ⟨fun _ _ _ h => h, fun i b' us e hi hb' hh => ⟨us, e, by rw [hb.block b' (heap_lt hh)]; exact hh, rfl⟩⟩
  refine hc.step dst v r hd hs (fun i d h => hn _) hr ?_ hc.inj ?_ (fun b' hb' => hb'.2) ?_ hc.low ?_
  · intro i o' h
    exact RO.mono hs (hn _) rfl (fun b' hb' => hb.block b' (RO.block (hc.obj i o' h) hb')) (hc.obj i o' h)
  · intro b' hb' i o' h he
    rcases hb'.1 with h1 | h1
    · exact hc.okd b' h1 i o' h he
    · have := RO.block (hc.obj i o' h) he
      omega
  · intro b' hb'
    rcases hb'.1 with h1 | h1
    · exact hc.okf b' h1
    · exact .inr (.inl (Nat.le_trans hc.keep.size h1))
  · refine ⟨hb.os.trans hc.keep.os, hb.tape.trans hc.keep.tape, hb.output.trans hc.keep.output, Nat.le_trans hc.keep.size hb.size, fun k hk hS => ?_⟩
    rw [hb.block k (Nat.lt_of_lt_of_le hk hc.keep.size)]
    exact hc.keep.block k hk hS

/-- objects that nobody writes any more are data from now on -/
theorem Conc.freeze (hc : Conc N w0 ok0 S0 T H β ok a w) (ids : List Nat) : Conc N w0 ok0 S0 T (chH H (ids.map fun i => (i, none))) β (fun b => ok b ∨ ∃ i o, i ∈ ids ∧ H i = some o ∧ β i = some b) a w := by
  have hs : Stays ok (fun b => ok b ∨ ∃ i o, i ∈ ids ∧ H i = some o ∧ β i = some b) w w := fun b hb _ => ⟨.inl hb, rfl⟩
  have hn : ∀ is, Names β β w w is := fun is => ⟨fun _ _ _ h => h, fun i b us e _ _ h => ⟨us, e, h, rfl⟩⟩
  have hcase : ∀ (l : List Nat) i o, chH H (l.map fun i => (i, none)) i = some o → i ∉ l ∧ H i = some o := by
    intro l
    induction l with
    | nil => intro i o h; exact ⟨by simp, h⟩
    | cons j l ih =>
      intro i o h
      simp only [List.map_cons, chH] at h
      by_cases hj : j = i
      · rw [if_pos hj] at h; cases h
      · rw [if_neg hj] at h
        have := ih i o h
        exact ⟨by simp only [List.mem_cons, not_or]; exact ⟨fun he => hj he.symm, this.1⟩, this.2⟩
  refine { defers := hc.defers, size := hc.size, tmp := fun i d h => RD.mono hs d _ (hn _) (hc.tmp i d h), obj := fun i o h => RO.mono hs (hn _) rfl (fun _ _ => rfl) (hc.obj i o (hcase _ i o h).2), inj := fun i j o o' b h h' => hc.inj i j o o' b (hcase _ i o h).2 (hcase _ j o' h').2, okd := ?_, okl := ?_, okf := ?_, low := fun i o b h => hc.low i o b (hcase _ i o h).2, keep := hc.keep }
  · rintro b (hb | ⟨j, o', hj, hH, hb⟩) i o h he
    · exact hc.okd b hb i o (hcase _ i o h).2 he
    · have := hc.inj i j o o' b (hcase _ i o h).2 hH he hb
      subst this
      exact (hcase _ i o h).1 hj
  · rintro b (hb | ⟨j, o', hj, hH, hb⟩)
    · exact hc.okl b hb
    · exact RO.block (hc.obj j o' hH) hb
  · rintro b (hb | ⟨j, o', hj, hH, hb⟩)
    · exact hc.okf b hb
    · rcases hc.low j o' b hH hb with h | h
      · exact .inr (.inl h)
      · exact .inr (.inr h)

/-- a draw alone -/
theorem Conc.drew (hc : Conc N w0 ok0 S0 T H β ok a w) (n : Nat) : Conc N w0 ok0 S0 T H β ok a { w with drawn := n } := by
  have hs : Stays ok ok w { w with drawn := n } := fun _ h _ => ⟨h, rfl⟩
  have hn : ∀ is, Names β β w { w with drawn := n } is := fun is => ⟨fun _ _ _ h => h, fun i b us e _ _ h => ⟨us, e, h, rfl⟩⟩
  exact { defers := hc.defers, size := hc.size, tmp := fun i d h => RD.mono hs d _ (hn _) (hc.tmp i d h), obj := fun i o h => RO.mono hs (hn _) rfl (fun _ _ => rfl) (hc.obj i o h), inj := hc.inj, okd := hc.okd, okl := hc.okl, okf := hc.okf, low := hc.low, keep := ⟨hc.keep.os, hc.keep.tape, hc.keep.output, hc.keep.size, hc.keep.block⟩ }

end
end Fw

/-! ## FwC: A program logic over data: lists of cells; loads and stores of several cells. No program in sight. -/
namespace Fw
open Go Go.RowKit
set_option linter.unusedVariables false
set_option linter.unusedSimpArgs false

section
variable {β : Nat → Option Nat} {ok : Nat → Prop} {w w' : World}

theorem RMs.length : ∀ {ms : List M} {vs : List Value}, RMs ok w ms vs → ms.length = vs.length
  | [], vs, h => by simp only [RMs] at h; subst h; rfl
  | m :: ms, vs, h => by
    simp only [RMs] at h
    obtain ⟨u, us, rfl, _, _, h3⟩ := h
    simp [RMs.length h3]
theorem RDs.length : ∀ {ds : List D} {vs : List Value}, RDs β ok w ds vs → ds.length = vs.length
  | [], vs, h => by simp only [RDs] at h; subst h; rfl
  | m :: ms, vs, h => by
    simp only [RDs] at h
    obtain ⟨u, us, rfl, _, _, h3⟩ := h
    simp [RDs.length h3]

theorem RMs.drop : ∀ {ms : List M} {vs : List Value} (n : Nat), RMs ok w ms vs → RMs ok w (ms.drop n) (vs.drop n)
  | ms, vs, 0, h => by simpa using h
  | [], vs, n + 1, h => by simp only [RMs] at h; subst h; simp [RMs]
  | m :: ms, vs, n + 1, h => by
    simp only [RMs] at h
    obtain ⟨u, us, rfl, _, _, h3⟩ := h
    simpa using RMs.drop n h3
theorem RDs.drop : ∀ {ms : List D} {vs : List Value} (n : Nat), RDs β ok w ms vs → RDs β ok w (ms.drop n) (vs.drop n)
  | ms, vs, 0, h => by simpa using h
  | [], vs, n + 1, h => by simp only [RDs] at h; subst h; simp [RDs]
  | m :: ms, vs, n + 1, h => by
    simp only [RDs] at h
    obtain ⟨u, us, rfl, _, _, h3⟩ := h
    simpa using RDs.drop n h3
theorem RMs.take : ∀ {ms : List M} {vs : List Value} (n : Nat), RMs ok w ms vs → RMs ok w (ms.take n) (vs.take n)
  | ms, vs, 0, h => by simp [RMs]
  | [], vs, n + 1, h => by simp only [RMs] at h; subst h; simp [RMs]
  | m :: ms, vs, n + 1, h => by
    simp only [RMs] at h
    obtain ⟨u, us, rfl, h1, h2, h3⟩ := h
    simp only [List.take_succ_cons, RMs]
    exact ⟨u, us.take n, rfl, h1, h2, RMs.take n h3⟩
theorem RDs.take : ∀ {ms : List D} {vs : List Value} (n : Nat), RDs β ok w ms vs → RDs β ok w (ms.take n) (vs.take n)
  | ms, vs, 0, h => by simp [RDs]
  | [], vs, n + 1, h => by simp only [RDs] at h; subst h; simp [RDs]
  | m :: ms, vs, n + 1, h => by
    simp only [RDs] at h
    obtain ⟨u, us, rfl, h1, h2, h3⟩ := h
    simp only [List.take_succ_cons, RDs]
    exact ⟨u, us.take n, rfl, h1, h2, RDs.take n h3⟩
theorem RMs.append : ∀ {ms : List M} {vs : List Value} {ms' : List M} {vs' : List Value}, RMs ok w ms vs → RMs ok w ms' vs' → RMs ok w (ms ++ ms') (vs ++ vs')
  | [], vs, ms', vs', h, h' => by simp only [RMs] at h; subst h; simpa using h'
  | m :: ms, vs, ms', vs', h, h' => by
    simp only [RMs] at h
    obtain ⟨u, us, rfl, h1, h2, h3⟩ := h
    simp only [List.cons_append, RMs]
    exact ⟨u, us ++ vs', rfl, h1, h2, RMs.append h3 h'⟩
theorem RDs.append : ∀ {ms : List D} {vs : List Value} {ms' : List D} {vs' : List Value}, RDs β ok w ms vs → RDs β ok w ms' vs' → RDs β ok w (ms ++ ms') (vs ++ vs')
  | [], vs, ms', vs', h, h' => by simp only [RDs] at h; subst h; simpa using h'
  | m :: ms, vs, ms', vs', h, h' => by
    simp only [RDs] at h
    obtain ⟨u, us, rfl, h1, h2, h3⟩ := h
    simp only [List.cons_append, RDs]
    exact ⟨u, us ++ vs', rfl, h1, h2, RDs.append h3 h'⟩
theorem RMs.get : ∀ {ms : List M} {vs : List Value} {i : Nat} {m : M}, RMs ok w ms vs → ms[i]? = some m → ∃ u, vs[i]? = some u ∧ u.oneCell' = true ∧ RM ok w m u
  | [], vs, i, m, h, hi => by simp at hi
  | x :: ms, vs, 0, m, h, hi => by
    simp only [RMs] at h
    obtain ⟨u, us, rfl, h1, h2, h3⟩ := h
    simp at hi; subst hi
    exact ⟨u, rfl, h1, h2⟩
  | x :: ms, vs, i + 1, m, h, hi => by
    simp only [RMs] at h
    obtain ⟨u, us, rfl, h1, h2, h3⟩ := h
    simp at hi
    simpa using RMs.get h3 hi
theorem RDs.get : ∀ {ms : List D} {vs : List Value} {i : Nat} {m : D}, RDs β ok w ms vs → ms[i]? = some m → ∃ u, vs[i]? = some u ∧ u.oneCell' = true ∧ RD β ok w m u
  | [], vs, i, m, h, hi => by simp at hi
  | x :: ms, vs, 0, m, h, hi => by
    simp only [RDs] at h
    obtain ⟨u, us, rfl, h1, h2, h3⟩ := h
    simp at hi; subst hi
    exact ⟨u, rfl, h1, h2⟩
  | x :: ms, vs, i + 1, m, h, hi => by
    simp only [RDs] at h
    obtain ⟨u, us, rfl, h1, h2, h3⟩ := h
    simp at hi
    simpa using RDs.get h3 hi
theorem RDs.one : ∀ {ms : List D} {vs : List Value}, RDs β ok w ms vs → ∀ u ∈ vs, u.oneCell' = true
  | [], vs, h => by simp only [RDs] at h; subst h; simp
  | m :: ms, vs, h => by
    simp only [RDs] at h
    obtain ⟨u, us, rfl, h1, _, h3⟩ := h
    intro x hx
    rcases List.mem_cons.1 hx with rfl | hx
    · exact h1
    · exact RDs.one h3 x hx
theorem RMs.one : ∀ {ms : List M} {vs : List Value}, RMs ok w ms vs → ∀ u ∈ vs, u.oneCell' = true
  | [], vs, h => by simp only [RMs] at h; subst h; simp
  | m :: ms, vs, h => by
    simp only [RMs] at h
    obtain ⟨u, us, rfl, h1, _, h3⟩ := h
    intro x hx
    rcases List.mem_cons.1 hx with rfl | hx
    · exact h1
    · exact RMs.one h3 x hx

/-- data as slots -/
theorem RMs.rds : ∀ {ms : List M} {vs : List Value}, RMs ok w ms vs → RDs β ok w (ms.map .im) vs
  | [], vs, h => by simp only [RMs] at h; subst h; simp [RDs]
  | m :: ms, vs, h => by
    simp only [RMs] at h
    obtain ⟨u, us, rfl, h1, h2, h3⟩ := h
    simp only [List.map_cons, RDs]
    exact ⟨u, us, rfl, h1, by simpa only [RD] using h2, RMs.rds h3⟩

def imL : List D → Option (List M)
  | [] => some []
  | .im m :: ds => (imL ds).map (m :: ·)
  | _ => none
def toM : D → Option M
  | .im m => some m
  | .agg ds => (imL ds).map .agg
  | .tup ds => (imL ds).map .tup
  | _ => none
theorem imL_rms : ∀ {ds : List D} {ms : List M} {vs : List Value}, imL ds = some ms → RDs β ok w ds vs → RMs ok w ms vs
  | [], ms, vs, h, hr => by
    simp only [imL, Option.some.injEq] at h; subst h
    simp only [RDs] at hr; subst hr; simp [RMs]
  | .im m :: ds, ms, vs, h, hr => by
    simp only [imL, Option.map_eq_some_iff] at h
    obtain ⟨ms', h1, rfl⟩ := h
    simp only [RDs] at hr
    obtain ⟨u, us, rfl, h2, h3, h4⟩ := hr
    simp only [RMs]
    exact ⟨u, us, rfl, h2, by simpa only [RD] using h3, imL_rms h1 h4⟩
  | .agg _ :: _, _, _, h, _ => by simp [imL] at h
  | .tup _ :: _, _, _, h, _ => by simp [imL] at h
  | .ptr _ _ :: _, _, _, h, _ => by simp [imL] at h
  | .ep _ :: _, _, _, h, _ => by simp [imL] at h
  | .row _ _ _ :: _, _, _, h, _ => by simp [imL] at h
  | .fn _ _ :: _, _, _, h, _ => by simp [imL] at h
  | .iface _ _ :: _, _, _, h, _ => by simp [imL] at h
theorem imL_rmt : ∀ {ds : List D} {ms : List M} {vs : List Value}, imL ds = some ms → RDt β ok w ds vs → RMt ok w ms vs
  | [], ms, vs, h, hr => by
    simp only [imL, Option.some.injEq] at h; subst h
    simp only [RDt] at hr; subst hr; simp [RMt]
  | .im m :: ds, ms, vs, h, hr => by
    simp only [imL, Option.map_eq_some_iff] at h
    obtain ⟨ms', h1, rfl⟩ := h
    simp only [RDt] at hr
    obtain ⟨u, us, rfl, h3, h4⟩ := hr
    simp only [RMt]
    exact ⟨u, us, rfl, by simpa only [RD] using h3, imL_rmt h1 h4⟩
  | .agg _ :: _, _, _, h, _ => by simp [imL] at h
  | .tup _ :: _, _, _, h, _ => by simp [imL] at h
  | .ptr _ _ :: _, _, _, h, _ => by simp [imL] at h
  | .ep _ :: _, _, _, h, _ => by simp [imL] at h
  | .row _ _ _ :: _, _, _, h, _ => by simp [imL] at h
  | .fn _ _ :: _, _, _, h, _ => by simp [imL] at h
  | .iface _ _ :: _, _, _, h, _ => by simp [imL] at h
theorem toM_rm {d : D} {m : M} {v : Value} (h : toM d = some m) (hr : RD β ok w d v) : RM ok w m v := by
  cases d with
  | im m' => simp only [toM, Option.some.injEq] at h; subst h; simpa only [RD] using hr
  | agg ds =>
    simp only [toM, Option.map_eq_some_iff] at h
    obtain ⟨ms, h1, rfl⟩ := h
    simp only [RD] at hr
    obtain ⟨us, rfl, h2⟩ := hr
    simp only [RM]
    exact ⟨us, rfl, imL_rms h1 h2⟩
  | tup ds =>
    simp only [toM, Option.map_eq_some_iff] at h
    obtain ⟨ms, h1, rfl⟩ := h
    simp only [RD] at hr
    obtain ⟨us, rfl, h2⟩ := hr
    simp only [RM]
    exact ⟨us, rfl, imL_rmt h1 h2⟩
  | _ => simp [toM] at h

/-- a struct of cells: data where all are -/
def mkAgg (ds : List D) : D := match imL ds with
  | some ms => .im (.agg ms)
  | none => .agg ds
theorem mkAgg_rd {ds : List D} {us : Array Value} (h : RDs β ok w ds us.toList) : RD β ok w (mkAgg ds) (.agg us) := by
  unfold mkAgg
  cases he : imL ds with
  | some ms =>
    simp only [RD, RM]
    exact ⟨us, rfl, imL_rms he h⟩
  | none =>
    simp only [RD]
    exact ⟨us, rfl, h⟩

/-- the cells of what a slot holds -/
def mcells : M → List M
  | .agg cs => cs
  | m => [m]
def dcells : D → List D
  | .agg ds => ds
  | .im (.agg ms) => ms.map .im
  | d => [d]
def whole : D → Bool
  | .tup _ => false
  | .im (.tup _) => false
  | _ => true
def mwhole : M → Bool
  | .tup _ => false
  | _ => true

theorem RM.cells {m : M} {v : Value} (hw : mwhole m = true) (h : RM ok w m v) : RMs ok w (mcells m) v.cells.toList := by
  have one : ∀ (v : Value), v.oneCell' = true → v.cells = #[v] := fun v hv => by cases v <;> first | rfl | simp [Value.oneCell'] at hv
  have fin : ∀ (m : M) (v : Value), v.oneCell' = true → RM ok w m v → RMs ok w [m] v.cells.toList := fun m v hv h => by
    rw [one v hv]; simp only [RMs]; exact ⟨v, [], rfl, hv, h, rfl⟩
  cases m with
  | agg cs =>
    simp only [RM] at h
    obtain ⟨us, rfl, h1⟩ := h
    simpa only [mcells, Value.cells] using h1
  | tup cs => simp [mwhole] at hw
  | int k n => refine fin _ _ ?_ h; simp only [RM] at h; subst h; rfl
  | bool b => refine fin _ _ ?_ h; simp only [RM] at h; subst h; rfl
  | str b => refine fin _ _ ?_ h; simp only [RM] at h; subst h; rfl
  | nil => refine fin _ _ ?_ h; simp only [RM] at h; subst h; rfl
  | seq n cs => refine fin _ _ ?_ h; simp only [RM] at h; obtain ⟨a, cap, rfl, _⟩ := h; rfl
  | fn f => refine fin _ _ ?_ h; simp only [RM] at h; subst h; rfl
  | nilp => refine fin _ _ ?_ h; simp only [RM] at h; subst h; rfl
  | nilf => refine fin _ _ ?_ h; simp only [RM] at h; subst h; rfl
  | nili => refine fin _ _ ?_ h; simp only [RM] at h; subst h; rfl
  | iface t m => refine fin _ _ ?_ h; simp only [RM] at h; obtain ⟨u, rfl, _⟩ := h; rfl

theorem RD.cells {d : D} {v : Value} (hw : whole d = true) (h : RD β ok w d v) : RDs β ok w (dcells d) v.cells.toList := by
  have one : ∀ (v : Value), v.oneCell' = true → v.cells = #[v] := fun v hv => by cases v <;> first | rfl | simp [Value.oneCell'] at hv
  have fin : ∀ (d : D) (v : Value), v.oneCell' = true → RD β ok w d v → RDs β ok w [d] v.cells.toList := fun m v hv h => by
    rw [one v hv]; simp only [RDs]; exact ⟨v, [], rfl, hv, h, rfl⟩
  cases d with
  | im m =>
    simp only [RD] at h
    have hm : mwhole m = true := by cases m <;> simp_all [whole, mwhole]
    have := RMs.rds (β := β) (RM.cells hm h)
    cases m <;> simpa only [dcells, mcells, List.map_cons, List.map_nil] using this
  | agg ds =>
    simp only [RD] at h
    obtain ⟨us, rfl, h1⟩ := h
    simpa only [dcells, Value.cells] using h1
  | tup ds => simp [whole] at hw
  | ptr id off => refine fin _ _ ?_ h; simp only [RD] at h; obtain ⟨b, _, rfl⟩ := h; rfl
  | ep cs => refine fin _ _ ?_ h; simp only [RD] at h; obtain ⟨b, off, rfl, _⟩ := h; rfl
  | row id n sz => refine fin _ _ ?_ h; simp only [RD] at h; rcases h with ⟨rfl, _⟩ | ⟨b, cap, _, rfl, _⟩ <;> rfl
  | fn f caps => refine fin _ _ ?_ h; simp only [RD] at h; obtain ⟨us, rfl, _⟩ := h; rfl
  | iface t d => refine fin _ _ ?_ h; simp only [RD] at h; obtain ⟨u, rfl, _⟩ := h; rfl

/-! ### cells in memory -/

theorem add_off (b off i : Nat) : ({ block := b, off := off, spot := none } : Addr).add i = ⟨b, off + i, none⟩ := by
  unfold Addr.add
  split
  · rename_i h; subst h; rfl
  · rfl

theorem cell_get {b : Nat} {us : Array Value} {e : TypeId} {fr : Nat × Nat} (h : w.heap[b]? = some (.cells us e fr)) (i : Nat) : w.cell? ⟨b, i, none⟩ = us[i]? := cell_of_row w b i us e fr h

theorem RMc.drop : ∀ {ms : List M} {b off : Nat} (n : Nat), RMc ok w b off ms → RMc ok w b (off + n) (ms.drop n)
  | ms, b, off, 0, h => by simpa using h
  | [], b, off, n + 1, h => by simp [RMc]
  | m :: ms, b, off, n + 1, h => by
    simp only [RMc] at h
    have := RMc.drop (b := b) n h.2
    rw [show off + (n + 1) = off + 1 + n by omega]
    simpa using this
theorem RMc.get : ∀ {ms : List M} {b off i : Nat} {m : M}, RMc ok w b off ms → ms[i]? = some m → ∃ u, w.cell? ⟨b, off + i, none⟩ = some u ∧ u.oneCell' = true ∧ RM ok w m u
  | [], b, off, i, m, h, hi => by simp at hi
  | x :: ms, b, off, 0, m, h, hi => by
    simp only [RMc] at h
    simp at hi; subst hi
    simpa using h.1
  | x :: ms, b, off, i + 1, m, h, hi => by
    simp only [RMc] at h
    simp at hi
    have := RMc.get (b := b) h.2 hi
    rwa [show off + 1 + i = off + (i + 1) by omega] at this
theorem RMc.take : ∀ {ms : List M} {b off : Nat} (n : Nat), RMc ok w b off ms → RMc ok w b off (ms.take n)
  | ms, b, off, 0, h => by simp [RMc]
  | [], b, off, n + 1, h => by simp [RMc]
  | m :: ms, b, off, n + 1, h => by
    simp only [RMc] at h
    simp only [List.take_succ_cons, RMc]
    exact ⟨h.1, RMc.take n h.2⟩
/-- the cells of a row that is known -/
theorem RMs.rmc {b : Nat} {us : Array Value} {e : TypeId} {fr : Nat × Nat} (h : w.heap[b]? = some (.cells us e fr)) : ∀ {ms : List M} {off : Nat} {k : Nat}, ms.length ≤ k → RMs ok w ms ((us.toList.drop off).take k |>.take ms.length) → RMc ok w b off ms
  | [], off, k, hk, hr => by simp [RMc]
  | m :: ms, off, k, hk, hr => by
    simp only [RMs] at hr
    obtain ⟨u, vs, h1, h2, h3, h4⟩ := hr
    simp at hk
    have hlen : off < us.size := by
      rcases Nat.lt_or_ge off us.size with g | g
      · exact g
      · rw [List.drop_eq_nil_of_le (by simpa using g)] at h1; simp at h1
    have hd : us.toList.drop off = us[off] :: us.toList.drop (off + 1) := by
      rw [List.drop_eq_getElem_cons (by simpa using hlen)]; simp
    rw [hd] at h1
    obtain ⟨k', rfl⟩ : ∃ k', k = k' + 1 := ⟨k - 1, by omega⟩
    simp only [List.take_succ_cons, List.length_cons, List.cons.injEq] at h1
    simp only [RMc]
    refine ⟨⟨u, ?_, h2, h3⟩, RMs.rmc h (k := k') (by omega) ?_⟩
    · rw [cell_get h, Array.getElem?_eq_getElem hlen, h1.1]
    · rw [h1.2]; exact h4

theorem run_loadCellsFrom {P : Program} (b off : Nat) : ∀ (n i : Nat) (vs : List Value) (acc : Array Value), vs.length = n → (∀ j u, vs[j]? = some u → w.cell? ⟨b, off + i + j, none⟩ = some u) →
    (loadCellsFrom ⟨b, off, none⟩ i n acc).run P w = .ok (acc ++ vs.toArray) w
  | 0, i, vs, acc, hl, hc => by
    have : vs = [] := List.eq_nil_of_length_eq_zero hl
    subst this
    simp [loadCellsFrom]
  | n + 1, i, vs, acc, hl, hc => by
    match vs, hl with
    | u :: vs, hl =>
      have h0 := hc 0 u rfl
      rw [Nat.add_zero] at h0
      have ih := run_loadCellsFrom (P := P) b off n (i + 1) vs (acc.push u) (by simpa using hl) (fun j x hx => by
        have := hc (j + 1) x (by simpa using hx)
        rwa [show off + i + (j + 1) = off + (i + 1) + j by omega] at this)
      simp only [loadCellsFrom, load, Sem.run_bind, Sem.run, add_off, h0, Result.andThen_ok, ih]
      simp
theorem run_loadCells {P : Program} {b off : Nat} {vs : List Value} {n : Nat} (hl : vs.length = n) (hc : ∀ j u, vs[j]? = some u → w.cell? ⟨b, off + j, none⟩ = some u) :
    (loadCells ⟨b, off, none⟩ n).run P w = .ok vs.toArray w := by
  unfold loadCells
  rw [run_loadCellsFrom b off n 0 vs #[] hl (by simpa using hc)]
  simp

theorem RMc.vals : ∀ {ms : List M} {b off : Nat}, RMc ok w b off ms → ∃ vs : List Value, vs.length = ms.length ∧ (∀ j u, vs[j]? = some u → w.cell? ⟨b, off + j, none⟩ = some u) ∧ RMs ok w ms vs
  | [], b, off, h => ⟨[], rfl, by simp, by simp [RMs]⟩
  | m :: ms, b, off, h => by
    simp only [RMc] at h
    obtain ⟨⟨u, h1, h2, h3⟩, h4⟩ := h
    obtain ⟨vs, g1, g2, g3⟩ := RMc.vals h4
    refine ⟨u :: vs, by simp [g1], ?_, by simp only [RMs]; exact ⟨u, vs, rfl, h2, h3, g3⟩⟩
    intro j x hx
    cases j with
    | zero => simp at hx; subst hx; simpa using h1
    | succ j =>
      simp at hx
      have := g2 j x hx
      rwa [show off + 1 + j = off + (j + 1) by omega] at this

/-- several cells of one block are written -/
def spliceV (us : List Value) (off : Nat) (vs : List Value) : List Value := us.take off ++ vs ++ us.drop (off + vs.length)
def splice {α : Type} (us : List α) (off : Nat) (vs : List α) : List α := us.take off ++ vs ++ us.drop (off + vs.length)

theorem RDs.splice {ds es : List D} {us vs : List Value} {off : Nat} (h : RDs β ok w ds us) (h' : RDs β ok w es vs) : RDs β ok w (splice ds off es) (splice us off vs) := by
  unfold Fw.splice
  rw [h'.length]
  exact ((h.take off).append h').append (h.drop _)
theorem RMs.splice {ds es : List M} {us vs : List Value} {off : Nat} (h : RMs ok w ds us) (h' : RMs ok w es vs) : RMs ok w (splice ds off es) (splice us off vs) := by
  unfold Fw.splice
  rw [h'.length]
  exact ((h.take off).append h').append (h.drop _)

theorem splice_length {α : Type} {us : List α} {off : Nat} {vs : List α} (h : off + vs.length ≤ us.length) : (splice us off vs).length = us.length := by
  unfold splice; simp; omega

theorem run_storeCells {P : Program} {b : Nat} {e : TypeId} : ∀ (vs : List Value) (w : World) (us : Array Value) (off i : Nat), w.heap[b]? = some (.cells us e (0, 0)) → off + i + vs.length ≤ us.size → (∀ v ∈ vs, v.oneCell' = true) →
    ∃ w', (storeCells ⟨b, off, none⟩ vs i).run P w = .ok () w' ∧ Turned b w w' ∧ w'.heap[b]? = some (.cells (splice us.toList (off + i) vs).toArray e (0, 0))
  | [], w, us, off, i, hb, hl, ho => by
    refine ⟨w, by simp [storeCells], ⟨rfl, rfl, rfl, rfl, fun _ _ => rfl, fun us e h => ⟨us, e, h, rfl⟩⟩, ?_⟩
    rw [hb]; simp [splice]
  | v :: vs, w, us, off, i, hb, hl, ho => by
    simp only [List.length_cons] at hl
    have hv := ho v (by simp)
    have hcell : w.cell? ⟨b, off + i, none⟩ = some us[off + i] := by rw [cell_get hb, Array.getElem?_eq_getElem (by omega)]
    have hfz : w.frozen? ⟨b, off + i, none⟩ = false := by simp [World.frozen?, hb]
    have hset : (w.setCell ⟨b, off + i, none⟩ v).heap[b]? = some (.cells (us.setIfInBounds (off + i) v) e (0, 0)) := by
      simp [World.setCell, Array.getElem?_modify, hb]
    obtain ⟨w', h1, h2, h3⟩ := run_storeCells (P := P) (b := b) (e := e) vs (w.setCell ⟨b, off + i, none⟩ v) (us.setIfInBounds (off + i) v) off (i + 1) hset (by simp; omega) (fun x hx => ho x (by simp [hx]))
    refine ⟨w', ?_, ?_, ?_⟩
    · simp only [storeCells, Sem.run_bind, add_off, run_store P w _ v _ hv, hcell, hfz, Result.andThen_ok]
      simpa using h1
    · have hn : ∀ k, k ≠ b → (w.setCell ⟨b, off + i, none⟩ v).heap[k]? = w.heap[k]? := fun k hk => Below.heap_setCell w ⟨b, off + i, none⟩ v k hk
      refine ⟨h2.os, h2.tape, h2.output, by rw [h2.size]; simp [World.setCell], fun k hk => (h2.block k hk).trans (hn k hk), fun us0 e0 h0 => ?_⟩
      rw [hb] at h0
      simp only [Option.some.injEq, Obj.cells.injEq] at h0
      obtain ⟨rfl, rfl, _⟩ := h0
      refine ⟨_, _, h3, ?_⟩
      simp only [List.size_toArray]
      rw [splice_length (by simp; omega)]; simp
    · rw [h3]
      congr 2
      unfold splice
      refine congrArg List.toArray ?_
      apply List.ext_getElem?
      intro j
      simp only [Array.toList_setIfInBounds, List.length_cons]
      rcases Nat.lt_trichotomy j (off + i) with g | g | g
      · rw [List.getElem?_append_left (by simp; omega), List.getElem?_append_left (by simp; omega), List.getElem?_append_left (by simp; omega), List.getElem?_append_left (by simp; omega)]
        rw [List.getElem?_take_of_lt (by omega), List.getElem?_take_of_lt (by omega), List.getElem?_set_ne (by omega)]
      · subst g
        rw [List.getElem?_append_left (by simp; omega), List.getElem?_append_left (by simp; omega), List.getElem?_append_left (by simp; omega)]
        rw [List.getElem?_take_of_lt (by omega), List.getElem?_append_right (by simp; omega)]
        simp [List.length_take, show min (off + i) us.size = off + i by omega]
        rw [List.getElem?_eq_getElem (by simp; omega)]
        simp
      · rcases Nat.lt_or_ge j (off + i + 1 + vs.length) with g2 | g2
        · rw [List.getElem?_append_left (by simp; omega), List.getElem?_append_right (by simp; omega), List.getElem?_append_left (by simp; omega), List.getElem?_append_right (by simp; omega)]
          simp only [List.length_take, List.length_set, Array.length_toList]
          rw [show min (off + (i + 1)) us.size = off + i + 1 by omega, show min (off + i) us.size = off + i by omega]
          obtain ⟨q, rfl⟩ : ∃ q, j = off + i + 1 + q := ⟨j - (off + i + 1), by omega⟩
          rw [show off + i + 1 + q - (off + i + 1) = q by omega, show off + i + 1 + q - (off + i) = q + 1 by omega]
          simp
        · rw [List.getElem?_append_right (by simp; omega), List.getElem?_append_right (by simp; omega)]
          simp only [List.length_append, List.length_take, List.length_set, Array.length_toList, List.length_cons, List.getElem?_drop]
          rw [show min (off + (i + 1)) us.size = off + i + 1 by omega, show min (off + i) us.size = off + i by omega]
          rw [List.getElem?_set_ne (by omega)]
          congr 1
          omega

end
end Fw

/-! ## FwD: A program logic over data: what each operation does with slots and objects. -/
namespace Fw
open Go Go.RowKit
set_option linter.unusedVariables false
set_option linter.unusedSimpArgs false

/-- what is known of a type -/
structure TI where
  desc : TypeDesc
  size : Nat
  bytes : Nat
  zero : Value
  mz : M

def LayOk (P : Program) (L : Nat → Option TI) : Prop := ∀ t i, L t = some i →
  P.underlying t = some i.desc ∧ (∃ inf, P.info? t = some inf ∧ inf.size = i.size ∧ inf.bytes = i.bytes ∧ inf.zero = some i.zero) ∧
  (∀ w, RM (fun _ => False) w i.mz i.zero) ∧ mwhole i.mz = true ∧ i.zero.cells.size = i.size

def aggD : TypeDesc → Bool
  | .struct _ => true
  | .array _ _ => true
  | _ => false

def constD : Value → Option D
  | .int k n => some (.im (.int k n))
  | .bool b => some (.im (.bool b))
  | .string s => some (.im (.str s.data.toList))
  | .slice none 0 0 => some (.im .nil)
  | .pointer none => some (.im .nilp)
  | .nilFunc => some (.im .nilf)
  | .nilIface => some (.im .nili)
  | _ => none

def ev (T : Nat → Option D) : Operand → Option D
  | .tmp t => T t
  | .const v => constD v
  | .func f => some (.im (.fn f))
  | .global _ => none

def evL (ρ : Operand → Option D) : List Operand → Option (List D)
  | [] => some []
  | x :: xs => match ρ x, evL ρ xs with
    | some d, some ds => some (d :: ds)
    | _, _ => none

mutual
/-- what a slot holds, as data, and the rows that were read for it -/
def rdM (g : Nat → Option O) : D → Option (M × List Nat)
  | .im m => some (m, [])
  | .agg ds => match rdL g ds with
    | some (ms, l) => some (.agg ms, l)
    | none => none
  | .tup ds => match rdL g ds with
    | some (ms, l) => some (.tup ms, l)
    | none => none
  | .row id n sz => match g id with
    | some (.rw _ sz' cs) => bif Nat.beq sz sz' && Nat.ble (n * sz) cs.length then some (.seq n (cs.take (n * sz)), [id]) else none
    | _ => none
  | _ => none
def rdL (g : Nat → Option O) : List D → Option (List M × List Nat)
  | [] => some ([], [])
  | d :: ds => match rdM g d, rdL g ds with
    | some (m, l), some (ms, l') => some (m :: ms, l ++ l')
    | _, _ => none
end
/-- arguments as data -/
def evM (ρ : Operand → Option D) (g : Nat → Option O) : List Operand → Option (List M × List Nat)
  | [] => some ([], [])
  | x :: xs => match ρ x with
    | some d => match rdM g d, evM ρ g xs with
      | some (m, l), some (ms, l') => some (m :: ms, l ++ l')
      | _, _ => none
    | none => none

/-- what an operation does: its value, objects that turn, new ones, those that it looks at -/
structure Eff where
  r : Option D
  ch : List (Nat × Option O)
  nw : List Nat
  tch : List Nat

def val (d : D) : Eff := ⟨some d, [], [], []⟩

/-- cells are filled, field by field -/
def fillD (ρ : Operand → Option D) (pl : Nat → Option (Nat × Nat)) : List D → List (Nat × Operand) → Option (List D)
  | cs, [] => some cs
  | cs, (i, x) :: rest => match pl i, ρ x with
    | some (off, size), some d => bif whole d && Nat.beq (dcells d).length size && Nat.ble (off + size) cs.length then fillD ρ pl (splice cs off (dcells d)) rest else none
    | _, _ => none
def fillM (ρ : Operand → Option D) (pl : Nat → Option (Nat × Nat)) : List M → List (Nat × Operand) → Option (List M)
  | cs, [] => some cs
  | cs, (i, x) :: rest => match pl i, (ρ x).bind toM with
    | some (off, size), some d => bif mwhole d && Nat.beq (mcells d).length size && Nat.ble (off + size) cs.length then fillM ρ pl (splice cs off (mcells d)) rest else none
    | _, _ => none

def place (L : Nat → Option TI) (fs : Array Field) (i : Nat) : Option (Nat × Nat) := match fs[i]? with
  | some f => (L f.type).map fun k => (f.offset, k.size)
  | none => none

def intOp : BinOp → IntKind → Int → Int → Option M
  | .add, k, a, b => some (.int k (k.wrap (a + b)))
  | .sub, k, a, b => some (.int k (k.wrap (a - b)))
  | .mul, k, a, b => some (.int k (k.wrap (a * b)))
  | .eql, _, a, b => some (.bool (a == b))
  | .neq, _, a, b => some (.bool (a != b))
  | .lss, _, a, b => some (.bool (decide (a < b)))
  | .leq, _, a, b => some (.bool (decide (a ≤ b)))
  | .gtr, _, a, b => some (.bool (decide (a > b)))
  | .geq, _, a, b => some (.bool (decide (a ≥ b)))
  | _, _, _, _ => none
def divOp : BinOp → IntKind → Int → Int → Option M
  | .quo, k, a, b => some (.int k (k.wrap (a.tdiv b)))
  | .rem, k, a, b => some (.int k (a.tmod b))
  | _, _, _, _ => none
def strOp : BinOp → List UInt8 → List UInt8 → Option M
  | .eql, a, b => some (.bool (a == b))
  | .neq, a, b => some (.bool (!(a == b)))
  | .lss, a, b => some (.bool (Op.bytesLess a b))
  | _, _, _ => none
def boolOp : BinOp → Bool → Bool → Option M
  | .eql, a, b => some (.bool (a == b))
  | .neq, a, b => some (.bool (!(a == b)))
  | _, _, _ => none

/-- called with data, it hands back data, and only makes new things -/
def Ret (P : Program) (f : FuncId) (ms : List M) (m : M) : Prop := ∀ (ok : Nat → Prop) (w : World) (vs : List Value), RMt ok w ms vs →
  Calls P f vs.toArray w fun e w' => ∃ v, e = .returned v ∧ RM (fun b => ok b ∨ w.heap.size ≤ b) w' m v ∧ Below w.heap.size w w'

/-- called with data it ends in no fault of the model's own -/
def Plain (P : Program) (f : FuncId) : Prop := ∃ fn, P.funcs[f]? = some fn ∧ (fn.name == "runtime.NumGoroutine") = false ∧ fn.body.isNone = false

/-- the elements of a slice that is appended, as data -/
inductive News (g : Nat → Option O) : D → Nat → List M → List Nat → Prop
  | nil : News g (.im .nil) 0 [] []
  | seq {n : Nat} {cs : List M} : News g (.im (.seq n cs)) n cs []
  | row {id n sz : Nat} {e : TypeId} {cs : List M} (h : g id = some (.rw e sz cs)) (hl : n * sz ≤ cs.length) : News g (.row id n sz) n (cs.take (n * sz)) [id]

section
variable {P : Program} {L : Nat → Option TI} {ρ ρ' : Operand → Option D} {g g' : Nat → Option O}

theorem evL_congr : ∀ {xs : List Operand}, (∀ x ∈ xs, ρ' x = ρ x) → evL ρ' xs = evL ρ xs
  | [], _ => rfl
  | x :: xs, h => by simp only [evL]; rw [h x (by simp), evL_congr (fun y hy => h y (by simp [hy]))]
mutual
theorem rdM_congr : ∀ (d : D) {m : M} {l : List Nat}, rdM g d = some (m, l) → (∀ i ∈ l, g' i = g i) → rdM g' d = some (m, l)
  | .im m', m, l, h, hg => by simpa only [rdM] using h
  | .agg ds, m, l, h, hg => by
    simp only [rdM] at h ⊢
    cases h1 : rdL g ds with
    | none => rw [h1] at h; simp at h
    | some p =>
      obtain ⟨ms, l'⟩ := p
      rw [h1] at h
      simp only [Option.some.injEq, Prod.mk.injEq] at h
      obtain ⟨rfl, rfl⟩ := h
      rw [rdL_congr ds h1 hg]
  | .tup ds, m, l, h, hg => by
    simp only [rdM] at h ⊢
    cases h1 : rdL g ds with
    | none => rw [h1] at h; simp at h
    | some p =>
      obtain ⟨ms, l'⟩ := p
      rw [h1] at h
      simp only [Option.some.injEq, Prod.mk.injEq] at h
      obtain ⟨rfl, rfl⟩ := h
      rw [rdL_congr ds h1 hg]
  | .row id n sz, m, l, h, hg => by
    simp only [rdM] at h ⊢
    cases h1 : g id with
    | none => rw [h1] at h; simp at h
    | some o =>
      rw [h1] at h
      cases o with
      | rw e sz' cs =>
        simp only [] at h
        cases hb : (Nat.beq sz sz' && Nat.ble (n * sz) cs.length) with
        | false => rw [hb] at h; simp at h
        | true =>
          rw [hb] at h
          simp only [cond_true, Option.some.injEq, Prod.mk.injEq] at h
          obtain ⟨rfl, rfl⟩ := h
          rw [hg id (by simp), h1]
          simp only [hb, cond_true]
      | _ => simp at h
  | .ptr _ _, m, l, h, hg => by simp [rdM] at h
  | .ep _, m, l, h, hg => by simp [rdM] at h
  | .fn _ _, m, l, h, hg => by simp [rdM] at h
  | .iface _ _, m, l, h, hg => by simp [rdM] at h
theorem rdL_congr : ∀ (ds : List D) {ms : List M} {l : List Nat}, rdL g ds = some (ms, l) → (∀ i ∈ l, g' i = g i) → rdL g' ds = some (ms, l)
  | [], ms, l, h, hg => by simpa only [rdL] using h
  | d :: ds, ms, l, h, hg => by
    simp only [rdL] at h ⊢
    cases h1 : rdM g d with
    | none => rw [h1] at h; simp at h
    | some p =>
      cases h2 : rdL g ds with
      | none => rw [h1, h2] at h; simp at h
      | some q =>
        obtain ⟨m, l1⟩ := p
        obtain ⟨ms', l2⟩ := q
        rw [h1, h2] at h
        simp only [Option.some.injEq, Prod.mk.injEq] at h
        obtain ⟨rfl, rfl⟩ := h
        rw [rdM_congr d h1 (fun i hi => hg i (by simp [hi])), rdL_congr ds h2 (fun i hi => hg i (by simp [hi]))]
end
theorem evM_congr : ∀ {xs : List Operand} {ms : List M} {l : List Nat}, evM ρ g xs = some (ms, l) → (∀ x ∈ xs, ρ' x = ρ x) → (∀ i ∈ l, g' i = g i) → evM ρ' g' xs = some (ms, l)
  | [], ms, l, h, _, _ => h
  | x :: xs, ms, l, h, hx, hg => by
    simp only [evM] at h ⊢
    rw [hx x (by simp)]
    cases h0 : ρ x with
    | none => rw [h0] at h; simp at h
    | some d =>
      rw [h0] at h
      simp only [] at h ⊢
      cases h1 : rdM g d with
      | none => rw [h1] at h; simp at h
      | some p =>
        cases h2 : evM ρ g xs with
        | none => rw [h1, h2] at h; simp at h
        | some q =>
          obtain ⟨m, l1⟩ := p
          obtain ⟨ms', l2⟩ := q
          rw [h1, h2] at h
          simp only [Option.some.injEq, Prod.mk.injEq] at h
          obtain ⟨rfl, rfl⟩ := h
          rw [rdM_congr d h1 (fun i hi => hg i (by simp [hi])), evM_congr h2 (fun y hy => hx y (by simp [hy])) (fun i hi => hg i (by simp [hi]))]
theorem fillD_congr {pl : Nat → Option (Nat × Nat)} : ∀ {ps : List (Nat × Operand)} {cs : List D}, (∀ x ∈ ps, ρ' x.2 = ρ x.2) → fillD ρ' pl cs ps = fillD ρ pl cs ps
  | [], cs, _ => rfl
  | (i, x) :: ps, cs, h => by
    simp only [fillD]
    rw [h (i, x) (by simp)]
    cases pl i <;> cases ρ x <;> try rfl
    rename_i p d
    obtain ⟨o, z⟩ := p
    simp only []
    rw [fillD_congr (fun y hy => h y (by simp [hy]))]
theorem fillM_congr {pl : Nat → Option (Nat × Nat)} : ∀ {ps : List (Nat × Operand)} {cs : List M}, (∀ x ∈ ps, ρ' x.2 = ρ x.2) → fillM ρ' pl cs ps = fillM ρ pl cs ps
  | [], cs, _ => rfl
  | (i, x) :: ps, cs, h => by
    simp only [fillM]
    rw [h (i, x) (by simp)]
    cases pl i <;> cases (ρ x).bind toM <;> try rfl
    rename_i p d
    obtain ⟨o, z⟩ := p
    simp only []
    rw [fillM_congr (fun y hy => h y (by simp [hy]))]
theorem News.congr {d : D} {n : Nat} {ms : List M} {js : List Nat} (h : News g d n ms js) (hg : ∀ j ∈ js, g' j = g j) : News g' d n ms js := by
  cases h with
  | nil => exact .nil
  | seq => exact .seq
  | row h hl => exact .row (by rw [hg _ (by simp)]; exact h) hl

end
end Fw

/-! ## FwE: A program logic over data: each operation's step holds in the model: lemmas on runs. -/
namespace Fw
open Go Go.RowKit
set_option linter.unusedVariables false
set_option linter.unusedSimpArgs false

theorem sem_lawful : LawfulMonad Sem := LawfulMonad.mk' (m := Sem)
  (id_map := fun x => by
    show Sem.bind x Sem.pure = x
    induction x with
    | pure a => rfl
    | load m a k ih => simp only [Sem.bind]; congr; funext v; exact ih v
    | store m a v k ih => simp only [Sem.bind]; congr
    | new o k ih => simp only [Sem.bind]; congr; funext v; exact ih v
    | shape r k ih => simp only [Sem.bind]; congr; funext v; exact ih v
    | freeze a n k ih => simp only [Sem.bind]; congr
    | frozen a k ih => simp only [Sem.bind]; congr; funext v; exact ih v
    | getObj r k ih => simp only [Sem.bind]; congr; funext v; exact ih v
    | setObj r o k ih => simp only [Sem.bind]; congr
    | choose q k ih => simp only [Sem.bind]; congr; funext v; exact ih v
    | sys c k ih => simp only [Sem.bind]; congr; funext v; exact ih v
    | program k ih => simp only [Sem.bind]; congr; funext v; exact ih v
    | mark m k ih => simp only [Sem.bind]; congr
    | halt h => rfl)
  (pure_bind := fun _ _ => rfl)
  (bind_assoc := fun x f g => by
    show Sem.bind (Sem.bind x f) g = Sem.bind x fun y => Sem.bind (f y) g
    induction x with
    | pure a => rfl
    | load m a k ih => simp only [Sem.bind]; congr; funext v; exact ih v
    | store m a v k ih => simp only [Sem.bind]; congr
    | new o k ih => simp only [Sem.bind]; congr; funext v; exact ih v
    | shape r k ih => simp only [Sem.bind]; congr; funext v; exact ih v
    | freeze a n k ih => simp only [Sem.bind]; congr
    | frozen a k ih => simp only [Sem.bind]; congr; funext v; exact ih v
    | getObj r k ih => simp only [Sem.bind]; congr; funext v; exact ih v
    | setObj r o k ih => simp only [Sem.bind]; congr
    | choose q k ih => simp only [Sem.bind]; congr; funext v; exact ih v
    | sys c k ih => simp only [Sem.bind]; congr; funext v; exact ih v
    | program k ih => simp only [Sem.bind]; congr; funext v; exact ih v
    | mark m k ih => simp only [Sem.bind]; congr
    | halt h => rfl)

section
variable {P : Program} {L : Nat → Option TI} {w : World}

theorem run_sizeOf (hL : LayOk P L) {t : Nat} {i : TI} (h : L t = some i) : (Go.sizeOf t).run P w = .ok i.size w := by
  obtain ⟨_, ⟨inf, h1, h2, _⟩, _⟩ := hL t i h
  simp [Go.sizeOf, typeInfo, h1, h2]
theorem run_isAgg (hL : LayOk P L) {t : Nat} {i : TI} (h : L t = some i) : (isAgg t).run P w = .ok (aggD i.desc) w := by
  obtain ⟨h1, _⟩ := hL t i h
  simp only [isAgg, Sem.run_bind, run_underlying h1, Result.andThen_ok]
  cases i.desc <;> rfl
theorem run_zero (hL : LayOk P L) {t : Nat} {i : TI} (h : L t = some i) : (zeroValue t).run P w = .ok i.zero w := by
  obtain ⟨_, ⟨inf, h1, _, _, h2⟩, _⟩ := hL t i h
  simp [zeroValue, typeInfo, h1, h2]
theorem run_newRow (e : TypeId) (us : Array Value) : (newRow e us).run P w = .ok ⟨w.heap.size, 0, none⟩ (w.alloc (.cells us e)) := by
  rfl
theorem run_und (hL : LayOk P L) {t : Nat} {i : TI} (h : L t = some i) : (underlying t).run P w = .ok i.desc w := run_underlying (hL t i h).1 w

theorem run_loadVar1 (hL : LayOk P L) {t : Nat} {i : TI} (h : L t = some i) (ha : aggD i.desc = false) {a : Addr} {u : Value} (hc : w.cell? a = some u) : (loadVar t a).run P w = .ok u w := by
  simp only [loadVar, Sem.run_bind, run_isAgg hL h, Result.andThen_ok, ha]
  simp [load, Sem.run, hc]
theorem run_loadVarA (hL : LayOk P L) {t : Nat} {i : TI} (h : L t = some i) (ha : aggD i.desc = true) {b off : Nat} {vs : List Value} (hl : vs.length = i.size) (hc : ∀ j u, vs[j]? = some u → w.cell? ⟨b, off + j, none⟩ = some u) :
    (loadVar t ⟨b, off, none⟩).run P w = .ok (.agg vs.toArray) w := by
  simp only [loadVar, Sem.run_bind, run_isAgg hL h, Result.andThen_ok, ha, if_true, run_sizeOf hL h, run_loadCells hl hc]
  simp

theorem splice_cons {α : Type} {us : List α} {off : Nat} {v : α} {vs : List α} (h : off < us.length) : splice (us.set off v) (off + 1) vs = splice us off (v :: vs) := by
  unfold splice
  apply List.ext_getElem?
  intro j
  simp only [List.length_cons]
  rcases Nat.lt_trichotomy j off with g | g | g
  · rw [List.append_assoc, List.append_assoc, List.getElem?_append_left (by simp; omega), List.getElem?_append_left (by simp; omega)]
    rw [List.getElem?_take_of_lt (by omega), List.getElem?_take_of_lt (by omega), List.getElem?_set_ne (by omega)]
  · subst g
    rw [List.append_assoc, List.append_assoc, List.getElem?_append_left (by simp; omega)]
    rw [List.getElem?_take_of_lt (by omega), List.getElem?_append_right (by simp; omega)]
    simp [List.length_take, show min j us.length = j by omega]
    rw [List.getElem?_eq_getElem (by simp; omega)]
    simp
  · rcases Nat.lt_or_ge j (off + 1 + vs.length) with g2 | g2
    · rw [List.getElem?_append_left (by simp; omega), List.getElem?_append_right (by simp; omega), List.getElem?_append_left (by simp; omega), List.getElem?_append_right (by simp; omega)]
      simp only [List.length_take, List.length_set]
      rw [show min (off + 1) us.length = off + 1 by omega, show min off us.length = off by omega]
      obtain ⟨q, rfl⟩ : ∃ q, j = off + 1 + q := ⟨j - (off + 1), by omega⟩
      rw [show off + 1 + q - (off + 1) = q by omega, show off + 1 + q - off = q + 1 by omega]
      simp
    · rw [List.getElem?_append_right (by simp; omega), List.getElem?_append_right (by simp; omega)]
      simp only [List.length_append, List.length_take, List.length_set, List.length_cons, List.getElem?_drop]
      rw [show min (off + 1) us.length = off + 1 by omega, show min off us.length = off by omega]
      rw [List.getElem?_set_ne (by omega)]
      congr 1
      omega

theorem fold_splice : ∀ (vs : List Value) (k off : Nat) (us : Array Value), off + k + vs.length ≤ us.size →
    (vs.zipIdx k).foldl (fun cs (x : Value × Nat) => cs.setIfInBounds (off + x.2) x.1) us = (splice us.toList (off + k) vs).toArray
  | [], k, off, us, h => by simp [splice]
  | v :: vs, k, off, us, h => by
    simp only [List.length_cons] at h
    simp only [List.zipIdx_cons, List.foldl_cons]
    rw [fold_splice vs (k + 1) off _ (by simp; omega)]
    simp only [Array.toList_setIfInBounds]
    rw [show off + (k + 1) = off + k + 1 by omega, splice_cons (by simp; omega)]

theorem fill_splice {pl : Nat → Option (Nat × Nat)} {us : Array Value} {i : Nat} {v : Value} {rest : List (Nat × Value)} {off size : Nat} (h : pl i = some (off, size)) (hs : v.cells.size = size) (hl : off + size ≤ us.size) :
    Instr.fill pl us ((i, v) :: rest) = Instr.fill pl (splice us.toList off v.cells.toList).toArray rest := by
  simp only [Instr.fill, h]
  rw [if_neg (by simp [hs]; omega)]
  have := fold_splice v.cells.toList 0 off us (by simp [hs]; omega)
  rw [Nat.add_zero] at this
  rw [← this]
  congr 1
  rw [← Array.foldl_toList, Array.toList_zipIdx]

/-- the places of a struct's fields -/
theorem run_places (hL : LayOk P L) : ∀ (fs : List Field), fs.all (fun (f : Field) => (L f.type).isSome) = true →
    ((fs.mapM fun (f : Field) => do pure (f.offset, ← Go.sizeOf f.type)) : Sem _).run P w = .ok (fs.map fun (f : Field) => (f.offset, ((L f.type).map (·.size)).getD 0)) w
  | [], _ => by simp [List.mapM_nil]
  | f :: fs, h => by
    simp only [List.all_cons, Bool.and_eq_true] at h
    obtain ⟨i, hi⟩ := Option.isSome_iff_exists.1 h.1
    haveI := sem_lawful
    rw [List.mapM_cons]
    simp only [Sem.run_bind, run_sizeOf hL hi, Result.andThen_ok, Sem.run_pure, run_places hL fs h.2]
    simp [hi]

theorem run_placesA (hL : LayOk P L) (fs : Array Field) (h : fs.toList.all (fun (f : Field) => (L f.type).isSome) = true) :
    ((fs.mapM fun (f : Field) => do pure (f.offset, ← Go.sizeOf f.type)) : Sem _).run P w = .ok (fs.map fun (f : Field) => (f.offset, ((L f.type).map (·.size)).getD 0)) w := by
  haveI := sem_lawful
  rw [Array.mapM_eq_mapM_toList, map_eq_pure_bind, Sem.run_bind, run_places hL fs.toList h, Result.andThen_ok]
  simp
  apply Array.ext'
  simp

theorem RM.cells_len {ok : Nat → Prop} {m : M} {v : Value} (hw : mwhole m = true) (h : RM ok w m v) : v.cells.size = (mcells m).length := by
  have := (RM.cells hw h).length; simpa using this.symm
theorem RD.cells_len {β : Nat → Option Nat} {ok : Nat → Prop} {d : D} {v : Value} (hw : whole d = true) (h : RD β ok w d v) : v.cells.size = (dcells d).length := by
  have := (RD.cells hw h).length; simpa using this.symm

theorem fillD_run {β : Nat → Option Nat} {ok : Nat → Prop} {ρ : Operand → Option D} {er : Operand → Value} (he : ∀ x d, ρ x = some d → RD β ok w d (er x)) {pl pl' : Nat → Option (Nat × Nat)} (hp : ∀ i p, pl i = some p → pl' i = some p) :
    ∀ (ps : List (Nat × Operand)) (cs cs' : List D) (us : Array Value), fillD ρ pl cs ps = some cs' → RDs β ok w cs us.toList →
      ∃ us' : Array Value, Instr.fill pl' us (ps.map fun x => (x.1, er x.2)) = some us' ∧ RDs β ok w cs' us'.toList
  | [], cs, cs', us, h, hr => by
    simp only [fillD, Option.some.injEq] at h; subst h
    exact ⟨us, rfl, hr⟩
  | (i, x) :: ps, cs, cs', us, h, hr => by
    simp only [fillD] at h
    cases hpl : pl i with
    | none => rw [hpl] at h; simp at h
    | some p =>
      cases hx : ρ x with
      | none => rw [hpl, hx] at h; simp at h
      | some d =>
        obtain ⟨off, size⟩ := p
        rw [hpl, hx] at h
        simp only [] at h
        cases hb : (whole d && Nat.beq (dcells d).length size && Nat.ble (off + size) cs.length) with
        | false => rw [hb] at h; simp at h
        | true =>
          rw [hb] at h
          simp only [Bool.and_eq_true] at hb
          obtain ⟨⟨h1, h2⟩, h3⟩ := hb
          have h2' := Nat.eq_of_beq_eq_true h2
          have h3' := Nat.le_of_ble_eq_true h3
          have hd := he x d hx
          have hlen : cs.length = us.size := by simpa using hr.length
          obtain ⟨us', g1, g2⟩ := fillD_run he hp ps _ cs' (splice us.toList off (er x).cells.toList).toArray (by simpa using h) (by simpa using hr.splice (RD.cells h1 hd))
          refine ⟨us', ?_, g2⟩
          simp only [List.map_cons]
          rw [fill_splice (hp i _ hpl) (by rw [RD.cells_len h1 hd, h2']) (by omega)]
          exact g1

theorem fillM_run {β : Nat → Option Nat} {ok : Nat → Prop} {ρ : Operand → Option D} {er : Operand → Value} (he : ∀ x d, ρ x = some d → RD β ok w d (er x)) {pl pl' : Nat → Option (Nat × Nat)} (hp : ∀ i p, pl i = some p → pl' i = some p) :
    ∀ (ps : List (Nat × Operand)) (cs cs' : List M) (us : Array Value), fillM ρ pl cs ps = some cs' → RMs ok w cs us.toList →
      ∃ us' : Array Value, Instr.fill pl' us (ps.map fun x => (x.1, er x.2)) = some us' ∧ RMs ok w cs' us'.toList
  | [], cs, cs', us, h, hr => by
    simp only [fillM, Option.some.injEq] at h; subst h
    exact ⟨us, rfl, hr⟩
  | (i, x) :: ps, cs, cs', us, h, hr => by
    simp only [fillM] at h
    cases hpl : pl i with
    | none => rw [hpl] at h; simp at h
    | some p =>
      cases hx : ρ x with
      | none => rw [hpl, hx] at h; simp at h
      | some d0 =>
        cases hm : toM d0 with
        | none => rw [hpl, hx] at h; simp [hm] at h
        | some d =>
          obtain ⟨off, size⟩ := p
          rw [hpl, hx] at h
          simp only [Option.bind_some, hm] at h
          cases hb : (mwhole d && Nat.beq (mcells d).length size && Nat.ble (off + size) cs.length) with
          | false => rw [hb] at h; simp at h
          | true =>
            rw [hb] at h
            simp only [Bool.and_eq_true] at hb
            obtain ⟨⟨h1, h2⟩, h3⟩ := hb
            have h2' := Nat.eq_of_beq_eq_true h2
            have h3' := Nat.le_of_ble_eq_true h3
            have hd := toM_rm hm (he x d0 hx)
            have hlen : cs.length = us.size := by simpa using hr.length
            obtain ⟨us', g1, g2⟩ := fillM_run he hp ps _ cs' (splice us.toList off (er x).cells.toList).toArray (by simpa using h) (by simpa using hr.splice (RM.cells h1 hd))
            refine ⟨us', ?_, g2⟩
            simp only [List.map_cons]
            rw [fill_splice (hp i _ hpl) (by rw [RM.cells_len h1 hd, h2']) (by omega)]
            exact g1

end
end Fw

/-! ## FwF: A program logic over data: each operation's step holds in the model. -/
namespace Fw
open Go Go.RowKit
set_option linter.unusedVariables false
set_option linter.unusedSimpArgs false
set_option linter.unusedSectionVars false

theorem splice_take {α : Type} {us vs : List α} {off n : Nat} (h : off + vs.length ≤ n) (hn : n ≤ us.length) : (splice us off vs).take n = splice (us.take n) off vs := by
  unfold splice
  have hl : (us.take off ++ vs).length = off + vs.length := by simp; omega
  rw [List.take_append, List.take_of_length_le (by omega), hl, List.take_take, show min off n = off by omega, List.drop_take]

def After (N : Nat) (w0 : World) (ok0 S0 : Nat → Prop) (T : Nat → Option D) (H : Nat → Option O) (o : Oper) (e : Eff) (a' : Act) (w' : World) : Prop :=
  ∃ β' ok', Conc N w0 ok0 S0 (putT T o.dst e.r) (chH H e.ch) β' ok' a' w'

section
variable {P : Program} {L : Nat → Option TI} {N : Nat} {w0 : World} {ok0 S0 : Nat → Prop} {T : Nat → Option D} {H : Nat → Option O} {β : Nat → Option Nat} {ok : Nat → Prop} {a : Act} {w w' : World}
  {o : Oper} {Q : Exit → Act → World → Prop} {K : Act → World → Prop}

theorem wp_val {v : Value} (h : (execOp a.eval o).run P w = .ok (.value v) w') (hk : K (a.put o.dst v) w') : o.wp P a w K Q := by
  unfold Oper.wp; rw [h]; exact hk
theorem wp_unit (h : (execOp a.eval o).run P w = .ok .skip w') (hk : K (a.put o.dst undef) w') : o.wp P a w K Q := by
  unfold Oper.wp; rw [h]; exact hk

theorem ev_rd (hc : Conc N w0 ok0 S0 T H β ok a w) {x : Operand} {d : D} (h : ev T x = some d) : RD β ok w d (a.eval x) := by
  cases x with
  | tmp t => exact hc.tmp t d h
  | global g => simp [ev] at h
  | func f => simp only [ev, Option.some.injEq] at h; subst h; simp only [RD, RM]; rfl
  | const v =>
    simp only [ev] at h
    unfold constD at h
    split at h <;> simp only [Option.some.injEq, reduceCtorEq] at h <;> subst h <;> simp only [RD, RM, Act.eval]
    
theorem evL_rd (hc : Conc N w0 ok0 S0 T H β ok a w) : ∀ {xs : List Operand} {ds : List D}, evL (ev T) xs = some ds → RDt β ok w ds (xs.map a.eval)
  | [], ds, h => by simp only [evL, Option.some.injEq] at h; subst h; simp [RDt]
  | x :: xs, ds, h => by
    simp only [evL] at h
    cases hx : ev T x with
    | none => rw [hx] at h; simp at h
    | some d =>
      cases hxs : evL (ev T) xs with
      | none => rw [hx, hxs] at h; simp at h
      | some ds' =>
        rw [hx, hxs] at h
        simp only [Option.some.injEq] at h; subst h
        simp only [List.map_cons, RDt]
        exact ⟨_, _, rfl, ev_rd hc hx, evL_rd hc hxs⟩
theorem go_val (hc : Conc N w0 ok0 S0 T H β ok a w) (hN : ∀ d, o.dst = some d → d < N) {v : Value} {d : D} {e : Eff} (he : e.ch = []) (her : e.r = some d) (hrun : (execOp a.eval o).run P w = .ok (.value v) w) (hd : RD β ok w d v) :
    o.wp P a w (After N w0 ok0 S0 T H o e) Q := by
  refine wp_val hrun ⟨β, ok, ?_⟩
  rw [he, her]
  exact hc.put o.dst v (some d) hN (fun d' h => by cases h; exact hd)

theorem rd_int (hc : Conc N w0 ok0 S0 T H β ok a w) {x : Operand} {k : IntKind} {n : Int} (h : ev T x = some (.im (.int k n))) : a.eval x = .int k n := by
  have := ev_rd hc h; simpa only [RD, RM] using this
theorem rd_bool (hc : Conc N w0 ok0 S0 T H β ok a w) {x : Operand} {n : Bool} (h : ev T x = some (.im (.bool n))) : a.eval x = .bool n := by
  have := ev_rd hc h; simpa only [RD, RM] using this
theorem rd_str (hc : Conc N w0 ok0 S0 T H β ok a w) {x : Operand} {n : List UInt8} (h : ev T x = some (.im (.str n))) : a.eval x = .string ⟨n.toArray⟩ := by
  have := ev_rd hc h; simpa only [RD, RM] using this
theorem rd_nil (hc : Conc N w0 ok0 S0 T H β ok a w) {x : Operand} (h : ev T x = some (.im .nil)) : a.eval x = .slice none 0 0 := by
  have := ev_rd hc h; simpa only [RD, RM] using this
theorem rd_ptr (hc : Conc N w0 ok0 S0 T H β ok a w) {x : Operand} {id off : Nat} (h : ev T x = some (.ptr id off)) : ∃ b, β id = some b ∧ a.eval x = .pointer (some ⟨b, off, none⟩) := by
  have := ev_rd hc h; simpa only [RD] using this
theorem rd_ep (hc : Conc N w0 ok0 S0 T H β ok a w) {x : Operand} {cs : List M} (h : ev T x = some (.ep cs)) : ∃ b off, a.eval x = .pointer (some ⟨b, off, none⟩) ∧ ok b ∧ b < w.heap.size ∧ RMc ok w b off cs := by
  have := ev_rd hc h; simpa only [RD] using this
theorem rd_box (hc : Conc N w0 ok0 S0 T H β ok a w) {id : Nat} {t : TypeId} {cs : List D} {b : Nat} (h : H id = some (.box t cs)) (hb : β id = some b) : ∃ us, w.heap[b]? = some (.cells us t (0, 0)) ∧ RDs β ok w cs us.toList := by
  have := hc.obj id _ h
  simp only [RO] at this
  obtain ⟨b', us, h1, h2, h3⟩ := this
  rw [hb] at h1; cases h1
  exact ⟨us, h2, h3⟩
theorem rd_rw (hc : Conc N w0 ok0 S0 T H β ok a w) {id : Nat} {e sz : Nat} {cs : List M} {b : Nat} (h : H id = some (.rw e sz cs)) (hb : β id = some b) :
    ∃ us cap, w.heap[b]? = some (.cells us e (0, 0)) ∧ us.size = cap * sz ∧ cap ≤ maxLen ∧ cs.length ≤ us.size ∧ RMs ok w cs (us.toList.take cs.length) := by
  have := hc.obj id _ h
  simp only [RO] at this
  rcases this with ⟨h1, _⟩ | ⟨b', us, cap, h1, h2, h3, h4, h5, h6⟩
  · rw [hb] at h1; cases h1
  · rw [hb] at h1; cases h1
    exact ⟨us, cap, h2, h3, h4, h5, h6⟩

mutual
theorem rdM_rm (hc : Conc N w0 ok0 S0 T H β ok a w) : ∀ (d : D) {m : M} {l : List Nat} {v : Value}, rdM H d = some (m, l) → RD β ok w d v → RM (fun b => ok b ∨ ∃ i o, i ∈ l ∧ H i = some o ∧ β i = some b) w m v
  | .im m', m, l, v, h, hr => by
    simp only [rdM, Option.some.injEq, Prod.mk.injEq] at h
    obtain ⟨rfl, rfl⟩ := h
    simp only [RD] at hr
    exact RM.mono (fun b hb _ => ⟨.inl hb, rfl⟩) _ _ hr
  | .agg ds, m, l, v, h, hr => by
    simp only [rdM] at h
    cases h1 : rdL H ds with
    | none => rw [h1] at h; simp at h
    | some p =>
      obtain ⟨ms, l'⟩ := p
      rw [h1] at h
      simp only [Option.some.injEq, Prod.mk.injEq] at h
      obtain ⟨rfl, rfl⟩ := h
      simp only [RD] at hr
      obtain ⟨us, rfl, h2⟩ := hr
      simp only [RM]
      exact ⟨us, rfl, rdL_rms hc ds h1 h2⟩
  | .tup ds, m, l, v, h, hr => by
    simp only [rdM] at h
    cases h1 : rdL H ds with
    | none => rw [h1] at h; simp at h
    | some p =>
      obtain ⟨ms, l'⟩ := p
      rw [h1] at h
      simp only [Option.some.injEq, Prod.mk.injEq] at h
      obtain ⟨rfl, rfl⟩ := h
      simp only [RD] at hr
      obtain ⟨us, rfl, h2⟩ := hr
      simp only [RM]
      exact ⟨us, rfl, rdL_rmt hc ds h1 h2⟩
  | .row id n sz, m, l, v, h, hr => by
    simp only [rdM] at h
    cases h1 : H id with
    | none => rw [h1] at h; simp at h
    | some o =>
      rw [h1] at h
      cases o with
      | rw e sz' cs =>
        simp only [] at h
        cases hb : (Nat.beq sz sz' && Nat.ble (n * sz) cs.length) with
        | false => rw [hb] at h; simp at h
        | true =>
          rw [hb] at h
          simp only [cond_true, Option.some.injEq, Prod.mk.injEq] at h
          obtain ⟨rfl, rfl⟩ := h
          simp only [Bool.and_eq_true] at hb
          have e1 := Nat.eq_of_beq_eq_true hb.1
          have e2 := Nat.le_of_ble_eq_true hb.2
          subst e1
          simp only [RD] at hr
          simp only [RM]
          rcases hr with ⟨rfl, rfl⟩ | ⟨b, cap, hbb, rfl, hnc, hcm, us, e', hus, hsz⟩
          · exact ⟨none, 0, rfl, Nat.le_refl _, by unfold maxLen; omega, by simp, by simp, by simp⟩
          · obtain ⟨us', cap', g1, g2, g3, g4, g5⟩ := rd_rw hc h1 hbb
            refine ⟨_, cap, rfl, hnc, hcm, by rintro rfl; simp, fun _ => ⟨b, 0, rfl, .inr ⟨id, _, by simp, h1, hbb⟩⟩, ?_⟩
            intro b' off' hh'
            simp only [Option.some.injEq, Addr.mk.injEq, and_true] at hh'
            obtain ⟨rfl, rfl⟩ := hh'
            have g6 : RMs ok w (cs.take (n * sz)) (us'.toList.take (n * sz)) := by
              have := g5.take (n * sz)
              rwa [List.take_take, show min (n * sz) cs.length = n * sz by omega] at this
            have h8 : (cs.take (n * sz)).length = n * sz := by rw [List.length_take]; omega
            refine RMs.rmc (ms := cs.take (n * sz)) (off := 0) g1 (k := us'.size) (by rw [h8]; omega) ?_
            rw [List.drop_zero, h8, List.take_take, show min (n * sz) us'.size = n * sz by omega]
            exact RMs.mono (fun b hb _ => ⟨.inl hb, rfl⟩) _ _ g6
      | _ => simp at h
  | .ptr _ _, m, l, v, h, hr => by simp [rdM] at h
  | .ep _, m, l, v, h, hr => by simp [rdM] at h
  | .fn _ _, m, l, v, h, hr => by simp [rdM] at h
  | .iface _ _, m, l, v, h, hr => by simp [rdM] at h
theorem rdL_rms (hc : Conc N w0 ok0 S0 T H β ok a w) : ∀ (ds : List D) {ms : List M} {l : List Nat} {vs : List Value}, rdL H ds = some (ms, l) → RDs β ok w ds vs → RMs (fun b => ok b ∨ ∃ i o, i ∈ l ∧ H i = some o ∧ β i = some b) w ms vs
  | [], ms, l, vs, h, hr => by
    simp only [rdL, Option.some.injEq, Prod.mk.injEq] at h
    obtain ⟨rfl, rfl⟩ := h
    simp only [RDs] at hr; subst hr; simp [RMs]
  | d :: ds, ms, l, vs, h, hr => by
    simp only [rdL] at h
    cases h1 : rdM H d with
    | none => rw [h1] at h; simp at h
    | some p =>
      cases h2 : rdL H ds with
      | none => rw [h1, h2] at h; simp at h
      | some q =>
        obtain ⟨m, l1⟩ := p
        obtain ⟨ms', l2⟩ := q
        rw [h1, h2] at h
        simp only [Option.some.injEq, Prod.mk.injEq] at h
        obtain ⟨rfl, rfl⟩ := h
        simp only [RDs] at hr
        obtain ⟨u, us, rfl, h3, h4, h5⟩ := hr
        simp only [RMs]
        refine ⟨u, us, rfl, h3, RM.mono (fun b hb _ => ⟨?_, rfl⟩) _ _ (rdM_rm hc d h1 h4), RMs.mono (fun b hb _ => ⟨?_, rfl⟩) _ _ (rdL_rms hc ds h2 h5)⟩
        · rcases hb with hb | ⟨i, o, hi, hh⟩
          · exact .inl hb
          · exact .inr ⟨i, o, List.mem_append_left _ hi, hh⟩
        · rcases hb with hb | ⟨i, o, hi, hh⟩
          · exact .inl hb
          · exact .inr ⟨i, o, List.mem_append_right _ hi, hh⟩
theorem rdL_rmt (hc : Conc N w0 ok0 S0 T H β ok a w) : ∀ (ds : List D) {ms : List M} {l : List Nat} {vs : List Value}, rdL H ds = some (ms, l) → RDt β ok w ds vs → RMt (fun b => ok b ∨ ∃ i o, i ∈ l ∧ H i = some o ∧ β i = some b) w ms vs
  | [], ms, l, vs, h, hr => by
    simp only [rdL, Option.some.injEq, Prod.mk.injEq] at h
    obtain ⟨rfl, rfl⟩ := h
    simp only [RDt] at hr; subst hr; simp [RMt]
  | d :: ds, ms, l, vs, h, hr => by
    simp only [rdL] at h
    cases h1 : rdM H d with
    | none => rw [h1] at h; simp at h
    | some p =>
      cases h2 : rdL H ds with
      | none => rw [h1, h2] at h; simp at h
      | some q =>
        obtain ⟨m, l1⟩ := p
        obtain ⟨ms', l2⟩ := q
        rw [h1, h2] at h
        simp only [Option.some.injEq, Prod.mk.injEq] at h
        obtain ⟨rfl, rfl⟩ := h
        simp only [RDt] at hr
        obtain ⟨u, us, rfl, h4, h5⟩ := hr
        simp only [RMt]
        refine ⟨u, us, rfl, RM.mono (fun b hb _ => ⟨?_, rfl⟩) _ _ (rdM_rm hc d h1 h4), RMt.mono (fun b hb _ => ⟨?_, rfl⟩) _ _ (rdL_rmt hc ds h2 h5)⟩
        · rcases hb with hb | ⟨i, o, hi, hh⟩
          · exact .inl hb
          · exact .inr ⟨i, o, List.mem_append_left _ hi, hh⟩
        · rcases hb with hb | ⟨i, o, hi, hh⟩
          · exact .inl hb
          · exact .inr ⟨i, o, List.mem_append_right _ hi, hh⟩
end
theorem evM_rm (hc : Conc N w0 ok0 S0 T H β ok a w) : ∀ {xs : List Operand} {ms : List M} {l : List Nat}, evM (ev T) H xs = some (ms, l) → RMt (fun b => ok b ∨ ∃ i o, i ∈ l ∧ H i = some o ∧ β i = some b) w ms (xs.map a.eval)
  | [], ms, l, h => by
    simp only [evM, Option.some.injEq, Prod.mk.injEq] at h
    obtain ⟨rfl, rfl⟩ := h
    simp [RMt]
  | x :: xs, ms, l, h => by
    simp only [evM] at h
    cases h0 : ev T x with
    | none => rw [h0] at h; simp at h
    | some d =>
      rw [h0] at h
      simp only [] at h
      cases h1 : rdM H d with
      | none => rw [h1] at h; simp at h
      | some p =>
        cases h2 : evM (ev T) H xs with
        | none => rw [h1, h2] at h; simp at h
        | some q =>
          obtain ⟨m, l1⟩ := p
          obtain ⟨ms', l2⟩ := q
          rw [h1, h2] at h
          simp only [Option.some.injEq, Prod.mk.injEq] at h
          obtain ⟨rfl, rfl⟩ := h
          simp only [List.map_cons, RMt]
          refine ⟨_, _, rfl, RM.mono (fun b hb _ => ⟨?_, rfl⟩) _ _ (rdM_rm hc d h1 (ev_rd hc h0)), RMt.mono (fun b hb _ => ⟨?_, rfl⟩) _ _ (evM_rm hc h2)⟩
          · rcases hb with hb | ⟨i, o, hi, hh⟩
            · exact .inl hb
            · exact .inr ⟨i, o, List.mem_append_left _ hi, hh⟩
          · rcases hb with hb | ⟨i, o, hi, hh⟩
            · exact .inl hb
            · exact .inr ⟨i, o, List.mem_append_right _ hi, hh⟩


section
variable (hL : LayOk P L) (hc : Conc N w0 ok0 S0 T H β ok a w) (hN : ∀ d, o.dst = some d → d < N)
include hL hc hN

theorem s_move {x : Operand} {d : D} (ho : o.op = .move x ∨ o.op = .assign x) (h : ev T x = some d) : o.wp P a w (After N w0 ok0 S0 T H o (val d)) Q :=
  go_val hc hN rfl rfl (v := a.eval x) (by rcases ho with ho | ho <;> (simp only [execOp, ho]; rfl)) (ev_rd hc h)
theorem s_pick {c x y : Operand} {b : Bool} {d : D} (ho : o.op = .pick c x y) (h : ev T c = some (.im (.bool b))) (h' : ev T (bif b then x else y) = some d) : o.wp P a w (After N w0 ok0 S0 T H o (val d)) Q := by
  refine go_val hc hN rfl rfl (v := a.eval (bif b then x else y)) ?_ (ev_rd hc h')
  simp only [execOp, ho, rd_bool hc h, asBool, Sem.run_bind, Sem.run_pure, Result.andThen_ok]
  cases b <;> rfl
theorem s_alloc {t id : Nat} {i : TI} (ho : o.op = .alloc t) (hdst : o.dst = some id) (h : L t = some i) (hf : Fresh T H id) :
    o.wp P a w (After N w0 ok0 S0 T H o ⟨some (.ptr id 0), [(id, some (.box t ((mcells i.mz).map .im)))], [id], []⟩) Q := by
  obtain ⟨_, _, h3, h4, _⟩ := hL t i h
  refine wp_val (v := .pointer (some ⟨w.heap.size, 0, none⟩)) (w' := w.alloc (.cells i.zero.cells t)) ?_ ⟨updβ β id (some w.heap.size), ok, ?_⟩
  · simp only [execOp, ho, Instr.alloc, newVar, Sem.run_bind, run_zero hL h, run_newRow, Result.andThen_ok, Sem.run_pure]
  · refine hc.new o.dst _ _ hN id _ _ hf ?_ ?_
    · simp only [RO]
      refine ⟨w.heap.size, i.zero.cells, by simp [updβ], push_new w _, ?_⟩
      have h5 := RM.cells h4 (h3 (w.alloc (.cells i.zero.cells t)))
      exact RMs.rds (RMs.mono (ok := fun _ => False) (w := w.alloc (.cells i.zero.cells t)) (fun _ hf _ => hf.elim) _ _ h5)
    · intro d hd
      simp only [Option.some.injEq] at hd; subst hd
      simp only [RD]
      exact ⟨w.heap.size, by simp [updβ], rfl⟩
theorem s_box {t id : Nat} {x : Operand} {d : D} (ho : o.op = .box t x) (hdst : o.dst = some id) (h : ev T x = some d) (hw : whole d = true) (hf : Fresh T H id) :
    o.wp P a w (After N w0 ok0 S0 T H o ⟨some (.ptr id 0), [(id, some (.box t (dcells d)))], [id], []⟩) Q := by
  have hx := ev_rd hc h
  have hfd : id ∉ d.refs := by
    cases x with
    | tmp k => exact hf.1 k d h
    | global g => simp [ev] at h
    | func f => simp only [ev, Option.some.injEq] at h; subst h; simp [D.refs]
    | const v =>
      simp only [ev] at h
      unfold constD at h
      split at h <;> simp only [Option.some.injEq, reduceCtorEq] at h <;> subst h <;> simp [D.refs]
  refine wp_val (v := .pointer (some ⟨w.heap.size, 0, none⟩)) (w' := w.alloc (.cells (a.eval x).cells t)) ?_ ⟨updβ β id (some w.heap.size), ok, ?_⟩
  · simp only [execOp, ho, Instr.box, newVar, Sem.run_bind, run_newRow, Result.andThen_ok, Sem.run_pure]
  · refine hc.new o.dst _ _ hN id _ _ hf ?_ ?_
    · simp only [RO]
      refine ⟨w.heap.size, (a.eval x).cells, by simp [updβ], push_new w _, ?_⟩
      exact RD.cells hw (RD.mono (Stays.alloc ok w _) d _ (Names.alloc _ hfd (fun b us e h => heap_lt h)) hx)
    · intro d hd
      simp only [Option.some.injEq] at hd; subst hd
      simp only [RD]
      exact ⟨w.heap.size, by simp [updβ], rfl⟩
theorem s_loadB {t id off tb : Nat} {p : Operand} {cs : List D} {i : TI} {d : D} {e : Eff} (ho : o.op = .load t p) (h : ev T p = some (.ptr id off)) (hg : H id = some (.box tb cs)) (hi : L t = some i) (ha : aggD i.desc = false) (hd : cs[off]? = some d) (he : e.ch = []) (her : e.r = some d) :
    o.wp P a w (After N w0 ok0 S0 T H o e) Q := by
  obtain ⟨b, hb, hp⟩ := rd_ptr hc h
  obtain ⟨us, h1, h2⟩ := rd_box hc hg hb
  obtain ⟨u, h3, h4, h5⟩ := h2.get hd
  refine go_val hc hN he her (v := u) ?_ h5
  have hcell : w.cell? ⟨b, off, none⟩ = some u := by rw [cell_get h1, ← Array.getElem?_toList, h3]
  simp only [execOp, ho, Instr.loadAt, Instr.sureAddr, hp, Sem.run_bind, Sem.run_pure, Result.andThen_ok, run_loadVar1 hL hi ha hcell]
theorem s_loadBA {t id off tb : Nat} {p : Operand} {cs : List D} {i : TI} {e : Eff} (ho : o.op = .load t p) (h : ev T p = some (.ptr id off)) (hg : H id = some (.box tb cs)) (hi : L t = some i) (ha : aggD i.desc = true) (hl : off + i.size ≤ cs.length)
    (he : e.ch = []) (her : e.r = some (mkAgg ((cs.drop off).take i.size))) : o.wp P a w (After N w0 ok0 S0 T H o e) Q := by
  obtain ⟨b, hb, hp⟩ := rd_ptr hc h
  obtain ⟨us, h1, h2⟩ := rd_box hc hg hb
  have hlen : cs.length = us.size := by simpa using h2.length
  have h3 := (h2.drop off).take i.size
  refine go_val hc hN he her (v := .agg ((us.toList.drop off).take i.size).toArray) ?_ (mkAgg_rd (by simpa using h3))
  have hcell : ∀ j u, ((us.toList.drop off).take i.size)[j]? = some u → w.cell? ⟨b, off + j, none⟩ = some u := by
    intro j u hj
    rw [cell_get h1, ← Array.getElem?_toList]
    rw [List.getElem?_take] at hj
    split at hj
    · rwa [List.getElem?_drop] at hj
    · cases hj
  simp only [execOp, ho, Instr.loadAt, Instr.sureAddr, hp, Sem.run_bind, Sem.run_pure, Result.andThen_ok, run_loadVarA hL hi ha (by simp; omega) hcell]
theorem s_loadR {t id off et sz : Nat} {p : Operand} {cs : List M} {i : TI} {m : M} {e : Eff} (ho : o.op = .load t p) (h : ev T p = some (.ptr id off)) (hg : H id = some (.rw et sz cs)) (hi : L t = some i) (ha : aggD i.desc = false) (hd : cs[off]? = some m) (he : e.ch = []) (her : e.r = some (.im m)) :
    o.wp P a w (After N w0 ok0 S0 T H o e) Q := by
  obtain ⟨b, hb, hp⟩ := rd_ptr hc h
  obtain ⟨us, cap, h1, _, _, hlen, h2⟩ := rd_rw hc hg hb
  obtain ⟨u, h3, h4, h5⟩ := h2.get hd
  refine go_val hc hN he her (v := u) ?_ (by simpa only [RD] using h5)
  have hcell : w.cell? ⟨b, off, none⟩ = some u := by
    rw [cell_get h1, ← Array.getElem?_toList]
    rw [List.getElem?_take] at h3
    split at h3
    · exact h3
    · cases h3
  simp only [execOp, ho, Instr.loadAt, Instr.sureAddr, hp, Sem.run_bind, Sem.run_pure, Result.andThen_ok, run_loadVar1 hL hi ha hcell]
theorem s_loadRA {t id off et sz : Nat} {p : Operand} {cs : List M} {i : TI} {e : Eff} (ho : o.op = .load t p) (h : ev T p = some (.ptr id off)) (hg : H id = some (.rw et sz cs)) (hi : L t = some i) (ha : aggD i.desc = true) (hl : off + i.size ≤ cs.length)
    (he : e.ch = []) (her : e.r = some (.im (.agg ((cs.drop off).take i.size)))) : o.wp P a w (After N w0 ok0 S0 T H o e) Q := by
  obtain ⟨b, hb, hp⟩ := rd_ptr hc h
  obtain ⟨us, cap, h1, _, _, hlen, h2⟩ := rd_rw hc hg hb
  have h3 := (h2.drop off).take i.size
  have e1 : ((us.toList.take cs.length).drop off).take i.size = (us.toList.drop off).take i.size := by
    rw [List.drop_take, List.take_take, show min i.size (cs.length - off) = i.size by omega]
  rw [e1] at h3
  refine go_val hc hN he her (v := .agg ((us.toList.drop off).take i.size).toArray) ?_ (by simp only [RD, RM]; exact ⟨_, rfl, by simpa using h3⟩)
  have hcell : ∀ j u, ((us.toList.drop off).take i.size)[j]? = some u → w.cell? ⟨b, off + j, none⟩ = some u := by
    intro j u hj
    rw [cell_get h1, ← Array.getElem?_toList]
    rw [List.getElem?_take] at hj
    split at hj
    · rwa [List.getElem?_drop] at hj
    · cases hj
  simp only [execOp, ho, Instr.loadAt, Instr.sureAddr, hp, Sem.run_bind, Sem.run_pure, Result.andThen_ok, run_loadVarA hL hi ha (by simp; omega) hcell]
theorem s_loadE {t : Nat} {p : Operand} {cs : List M} {i : TI} {m : M} (ho : o.op = .load t p) (h : ev T p = some (.ep cs)) (hi : L t = some i) (ha : aggD i.desc = false) (hd : cs[0]? = some m) :
    o.wp P a w (After N w0 ok0 S0 T H o (val (.im m))) Q := by
  obtain ⟨b, off, hp, _, _, h2⟩ := rd_ep hc h
  obtain ⟨u, h3, h4, h5⟩ := h2.get hd
  rw [Nat.add_zero] at h3
  refine go_val hc hN rfl rfl (v := u) ?_ (by simpa only [RD] using h5)
  simp only [execOp, ho, Instr.loadAt, Instr.sureAddr, hp, Sem.run_bind, Sem.run_pure, Result.andThen_ok, run_loadVar1 hL hi ha h3]
theorem s_loadEA {t : Nat} {p : Operand} {cs : List M} {i : TI} (ho : o.op = .load t p) (h : ev T p = some (.ep cs)) (hi : L t = some i) (ha : aggD i.desc = true) (hl : i.size ≤ cs.length) :
    o.wp P a w (After N w0 ok0 S0 T H o (val (.im (.agg (cs.take i.size))))) Q := by
  obtain ⟨b, off, hp, _, _, h2⟩ := rd_ep hc h
  obtain ⟨vs, g1, g2, g3⟩ := (h2.take i.size).vals
  refine go_val hc hN rfl rfl (v := .agg vs.toArray) ?_ (by simp only [RD, RM]; exact ⟨_, rfl, by simpa using g3⟩)
  simp only [execOp, ho, Instr.loadAt, Instr.sureAddr, hp, Sem.run_bind, Sem.run_pure, Result.andThen_ok, run_loadVarA hL hi ha (by rw [g1]; simp; omega) g2]

theorem run_storeVar {t b off : Nat} {i : TI} {v : Value} {us : Array Value} {e : TypeId} (hi : L t = some i) (hb : w.heap[b]? = some (.cells us e (0, 0))) (hs : v.cells.size = i.size) (hl : off + i.size ≤ us.size) (h1 : ∀ u ∈ v.cells.toList, u.oneCell' = true) :
    ∃ w', (storeVar t ⟨b, off, none⟩ v).run P w = .ok () w' ∧ Turned b w w' ∧ w'.heap[b]? = some (.cells (splice us.toList off v.cells.toList).toArray e (0, 0)) := by
  obtain ⟨w', g1, g2, g3⟩ := run_storeCells (P := P) v.cells.toList w us off 0 hb (by simp [hs]; omega) h1
  rw [Nat.add_zero] at g3
  refine ⟨w', ?_, g2, g3⟩
  simp only [storeVar, Sem.run_bind, run_sizeOf hL hi, Result.andThen_ok, hs, ne_eq, not_true, if_false]
  exact g1
theorem s_storeB {t id off tb : Nat} {p x : Operand} {d : D} {cs : List D} {i : TI} (ho : o.op = .store t p x) (h : ev T p = some (.ptr id off)) (hx : ev T x = some d) (hw : whole d = true) (hg : H id = some (.box tb cs)) (hi : L t = some i) (hs : (dcells d).length = i.size) (hl : off + i.size ≤ cs.length) :
    o.wp P a w (After N w0 ok0 S0 T H o ⟨none, [(id, some (.box tb (splice cs off (dcells d))))], [], [id]⟩) Q := by
  obtain ⟨b, hb, hp⟩ := rd_ptr hc h
  obtain ⟨us, h1, h2⟩ := rd_box hc hg hb
  have hlen : cs.length = us.size := by simpa using h2.length
  have hv := ev_rd hc hx
  have hcs := RD.cells hw hv
  obtain ⟨w', g1, g2, g3⟩ := run_storeVar hL hc hN (o := o) (off := off) (v := a.eval x) hi h1 (by rw [RD.cells_len hw hv, hs]) (by omega) hcs.one
  have hst : Stays ok ok w w' := fun b' hb' _ => ⟨hb', g2.block b' (by rintro rfl; exact hc.okd b' hb' id _ hg hb)⟩
  refine wp_unit (w' := w') ?_ ⟨β, ok, ?_⟩
  · simp only [execOp, ho, Instr.storeAt, Instr.sureAddr, hp, Sem.run_bind, Sem.run_pure, Result.andThen_ok, g1]
  · refine hc.turn o.dst undef none hN id _ _ b hg hb g2 ?_ (fun d h => by cases h)
    simp only [RO]
    refine ⟨b, _, hb, g3, ?_⟩
    simpa using (RDs.mono hst _ _ (g2.names _) (h2.splice hcs))
theorem s_storeR {t id off et sz : Nat} {p x : Operand} {d : D} {m : M} {cs : List M} {i : TI} (ho : o.op = .store t p x) (h : ev T p = some (.ptr id off)) (hx : ev T x = some d) (hm : toM d = some m) (hw : mwhole m = true) (hg : H id = some (.rw et sz cs)) (hi : L t = some i) (hs : (mcells m).length = i.size) (hl : off + i.size ≤ cs.length) (h0 : 0 < cs.length) :
    o.wp P a w (After N w0 ok0 S0 T H o ⟨none, [(id, some (.rw et sz (splice cs off (mcells m))))], [], [id]⟩) Q := by
  obtain ⟨b, hb, hp⟩ := rd_ptr hc h
  obtain ⟨us, cap, h1, hsz, hcap, hlen, h2⟩ := rd_rw hc hg hb
  have hv := toM_rm hm (ev_rd hc hx)
  have hcs := RM.cells hw hv
  have hsize := RM.cells_len hw hv
  obtain ⟨w', g1, g2, g3⟩ := run_storeVar hL hc hN (o := o) (off := off) (v := a.eval x) hi h1 (by rw [hsize, hs]) (by omega) hcs.one
  have hst : Stays ok ok w w' := fun b' hb' _ => ⟨hb', g2.block b' (by rintro rfl; exact hc.okd b' hb' id _ hg hb)⟩
  have hul : (splice us.toList off (a.eval x).cells.toList).length = us.size := by rw [splice_length]; simp; simp; omega
  refine wp_unit (w' := w') ?_ ⟨β, ok, ?_⟩
  · simp only [execOp, ho, Instr.storeAt, Instr.sureAddr, hp, Sem.run_bind, Sem.run_pure, Result.andThen_ok, g1]
  · refine hc.turn o.dst undef none hN id _ _ b hg hb g2 ?_ (fun d h => by cases h)
    simp only [RO]
    have hcl : (splice cs off (mcells m)).length = cs.length := by rw [splice_length]; omega
    refine .inr ⟨b, _, cap, hb, g3, by simp only [List.size_toArray]; omega, hcap, by simp only [List.size_toArray]; omega, ?_⟩
    have e1 : (splice us.toList off (a.eval x).cells.toList).take cs.length = splice (us.toList.take cs.length) off (a.eval x).cells.toList :=
      splice_take (by simp only [Array.length_toList]; omega) (by simp only [Array.length_toList]; omega)
    rw [hcl]
    simp only [List.toList_toArray] at *
    rw [e1]
    exact RMs.mono hst _ _ (h2.splice hcs)
end
end
end Fw

/-! ## FwS: A program logic over data: the steps of operations. -/
namespace Fw
open Go Go.RowKit
set_option linter.unusedVariables false
set_option linter.unusedSimpArgs false

/-- what an operation does, of the data of its operands and of objects that it looks at, in whatever world -/
def SemD (P : Program) (L : Nat → Option TI) (op : Op) (dst : Option Nat) (ty : TypeId) (ds : List D) (og : List (Nat × O)) (e : Eff) : Prop :=
  ∀ (N : Nat) (w0 : World) (ok0 S0 : Nat → Prop) (T : Nat → Option D) (H : Nat → Option O) (β : Nat → Option Nat) (ok : Nat → Prop) (a : Act) (w : World) (o : Oper) (Q : Exit → Act → World → Prop),
    LayOk P L → Conc N w0 ok0 S0 T H β ok a w → (∀ d, o.dst = some d → d < N) → o.op = op → o.dst = dst → o.type = ty → evL (ev T) op.operands.toList = some ds → (∀ p ∈ og, H p.1 = some p.2) → (∀ id ∈ e.nw, Fresh T H id) →
    o.wp P a w (After N w0 ok0 S0 T H o e) Q

inductive Step (P : Program) (L : Nat → Option TI) (ρ : Operand → Option D) (g : Nat → Option O) : Op → Option Nat → TypeId → Eff → Prop
  | move {x d dst ty} (h : ρ x = some d) : Step P L ρ g (.move x) dst ty (val d)
  | assign {x d dst ty} (h : ρ x = some d) : Step P L ρ g (.assign x) dst ty (val d)
  | pick {c x y b d dst ty} (h : ρ c = some (.im (.bool b))) (h' : ρ (bif b then x else y) = some d) : Step P L ρ g (.pick c x y) dst ty (val d)
  | alloc {t id i ty} (h : L t = some i) : Step P L ρ g (.alloc t) (some id) ty ⟨some (.ptr id 0), [(id, some (.box t ((mcells i.mz).map .im)))], [id], []⟩
  | box {t x d id ty} (h : ρ x = some d) (hw : whole d = true) : Step P L ρ g (.box t x) (some id) ty ⟨some (.ptr id 0), [(id, some (.box t (dcells d)))], [id], []⟩
  | loadB {t p id off tb cs i d dst ty} (h : ρ p = some (.ptr id off)) (hg : g id = some (.box tb cs)) (hi : L t = some i) (ha : aggD i.desc = false) (hd : cs[off]? = some d) : Step P L ρ g (.load t p) dst ty ⟨some d, [], [], [id]⟩
  | loadBA {t p id off tb cs i dst ty} (h : ρ p = some (.ptr id off)) (hg : g id = some (.box tb cs)) (hi : L t = some i) (ha : aggD i.desc = true) (hl : off + i.size ≤ cs.length) : Step P L ρ g (.load t p) dst ty ⟨some (mkAgg ((cs.drop off).take i.size)), [], [], [id]⟩
  | loadR {t p id off e sz cs i m dst ty} (h : ρ p = some (.ptr id off)) (hg : g id = some (.rw e sz cs)) (hi : L t = some i) (ha : aggD i.desc = false) (hd : cs[off]? = some m) : Step P L ρ g (.load t p) dst ty ⟨some (.im m), [], [], [id]⟩
  | loadRA {t p id off e sz cs i dst ty} (h : ρ p = some (.ptr id off)) (hg : g id = some (.rw e sz cs)) (hi : L t = some i) (ha : aggD i.desc = true) (hl : off + i.size ≤ cs.length) (h0 : 0 < cs.length) : Step P L ρ g (.load t p) dst ty ⟨some (.im (.agg ((cs.drop off).take i.size))), [], [], [id]⟩
  | loadE {t p cs i m dst ty} (h : ρ p = some (.ep cs)) (hi : L t = some i) (ha : aggD i.desc = false) (hd : cs[0]? = some m) : Step P L ρ g (.load t p) dst ty (val (.im m))
  | loadEA {t p cs i dst ty} (h : ρ p = some (.ep cs)) (hi : L t = some i) (ha : aggD i.desc = true) (hl : i.size ≤ cs.length) : Step P L ρ g (.load t p) dst ty (val (.im (.agg (cs.take i.size))))
  | storeB {t p x d id off tb cs i dst ty} (h : ρ p = some (.ptr id off)) (hx : ρ x = some d) (hw : whole d = true) (hg : g id = some (.box tb cs)) (hi : L t = some i) (hs : (dcells d).length = i.size) (hl : off + i.size ≤ cs.length) :
      Step P L ρ g (.store t p x) dst ty ⟨none, [(id, some (.box tb (splice cs off (dcells d))))], [], [id]⟩
  | storeR {t p x d m id off e sz cs i dst ty} (h : ρ p = some (.ptr id off)) (hx : ρ x = some d) (hm : toM d = some m) (hw : mwhole m = true) (hg : g id = some (.rw e sz cs)) (hi : L t = some i) (hs : (mcells m).length = i.size) (hl : off + i.size ≤ cs.length) (h0 : 0 < cs.length) :
      Step P L ρ g (.store t p x) dst ty ⟨none, [(id, some (.rw e sz (splice cs off (mcells m))))], [], [id]⟩
  | fieldP {t x k id off i fs f fi dst ty} (h : ρ x = some (.ptr id off)) (hi : L t = some i) (hf : i.desc = .struct fs) (hk : fs[k]? = some f) (hfi : L f.type = some fi) (h0 : fi.size ≠ 0) : Step P L ρ g (.fieldAddr t x k) dst ty (val (.ptr id (off + f.offset)))
  | fieldE {t x k cs i fs f fi dst ty} (h : ρ x = some (.ep cs)) (hi : L t = some i) (hf : i.desc = .struct fs) (hk : fs[k]? = some f) (hfi : L f.type = some fi) (h0 : fi.size ≠ 0) : Step P L ρ g (.fieldAddr t x k) dst ty (val (.ep (cs.drop f.offset)))
  | fieldM {t x k ms i fs f fi m dst ty} (h : ρ x = some (.im (.agg ms))) (hi : L t = some i) (hf : i.desc = .struct fs) (hk : fs[k]? = some f) (hfi : L f.type = some fi) (ha : aggD fi.desc = false) (hm : ms[f.offset]? = some m) : Step P L ρ g (.field t x k) dst ty (val (.im m))
  | fieldMA {t x k ms i fs f fi dst ty} (h : ρ x = some (.im (.agg ms))) (hi : L t = some i) (hf : i.desc = .struct fs) (hk : fs[k]? = some f) (hfi : L f.type = some fi) (ha : aggD fi.desc = true) : Step P L ρ g (.field t x k) dst ty (val (.im (.agg ((ms.drop f.offset).take fi.size))))
  | build {t parts i fs cs dst ty} (hi : L t = some i) (hf : i.desc = .struct fs) (ha : fs.toList.all (fun (f : Field) => (L f.type).isSome) = true) (hc : fillD ρ (place L fs) ((mcells i.mz).map .im) parts.toList = some cs) : Step P L ρ g (.build t parts) dst ty (val (mkAgg cs))
  | buildSlice {t len parts i e ei cs id ty} (hi : L t = some i) (hf : i.desc = .slice e) (hei : L e = some ei) (h0 : 0 < ei.size) (hl : len * ei.size ≤ 16777216)
      (hc : fillM ρ (fun k => some (k * ei.size, ei.size)) (List.replicate len (mcells ei.mz)).flatten parts.toList = some cs) : Step P L ρ g (.buildSlice t len parts) (some id) ty ⟨some (.row id len ei.size), [(id, some (.rw e ei.size cs))], [id], []⟩
  | indexR {t x ix id n sz k j i e ei dst ty} (h : ρ x = some (.row id n sz)) (hx : ρ ix = some (.im (.int k j))) (hi : L t = some i) (hf : i.desc = .slice e) (hei : L e = some ei) (hsz : ei.size = sz) (h0 : 0 ≤ j) (h1 : j < n) : Step P L ρ g (.indexAddr t x ix) dst ty (val (.ptr id (j.toNat * sz)))
  | indexS {t x ix n cs k j i e ei dst ty} (h : ρ x = some (.im (.seq n cs))) (hx : ρ ix = some (.im (.int k j))) (hi : L t = some i) (hf : i.desc = .slice e) (hei : L e = some ei) (h0 : 0 ≤ j) (h1 : j < n) (h2 : j.toNat * ei.size < cs.length) : Step P L ρ g (.indexAddr t x ix) dst ty (val (.ep (cs.drop (j.toNat * ei.size))))
  | indexStr {t x ix s k j i c dst ty} (h : ρ x = some (.im (.str s))) (hx : ρ ix = some (.im (.int k j))) (hi : L t = some i) (hf : i.desc = .string) (h0 : 0 ≤ j) (hc : s[j.toNat]? = some c) : Step P L ρ g (.index t x ix) dst ty (val (.im (.int .u8 c.toNat)))
  | sliceStrLo {t x lo s k l i dst ty} (h : ρ x = some (.im (.str s))) (hlo : ρ lo = some (.im (.int k l))) (hi : L t = some i) (hf : i.desc = .string) (h0 : 0 ≤ l) (h1 : l ≤ s.length) : Step P L ρ g (.slice t x (some lo) none none) dst ty (val (.im (.str (s.drop l.toNat))))
  | sliceStrHi {t x hi' s k h' i dst ty} (h : ρ x = some (.im (.str s))) (hhi : ρ hi' = some (.im (.int k h'))) (hi : L t = some i) (hf : i.desc = .string) (h0 : 0 ≤ h') (h1 : h' ≤ s.length) : Step P L ρ g (.slice t x none (some hi') none) dst ty (val (.im (.str (s.take h'.toNat))))
  | sliceStr {t x lo hi' s k k' l h' i dst ty} (h : ρ x = some (.im (.str s))) (hlo : ρ lo = some (.im (.int k l))) (hhi : ρ hi' = some (.im (.int k' h'))) (hi : L t = some i) (hf : i.desc = .string) (h0 : 0 ≤ l) (h1 : l ≤ h') (h2 : h' ≤ s.length) : Step P L ρ g (.slice t x (some lo) (some hi') none) dst ty (val (.im (.str ((s.drop l.toNat).take (h'.toNat - l.toNat)))))
  | sliceRow {t x hi' id n sz k h' i e dst ty} (h : ρ x = some (.row id n sz)) (hhi : ρ hi' = some (.im (.int k h'))) (hi : L t = some i) (hf : i.desc = .slice e) (hei : (L e).isSome) (h0 : 0 ≤ h') (h1 : h' ≤ n) : Step P L ρ g (.slice t x none (some hi') none) dst ty (val (.row id h'.toNat sz))
  | sliceSeqLo {t x lo n cs k l i e ei dst ty} (h : ρ x = some (.im (.seq n cs))) (hlo : ρ lo = some (.im (.int k l))) (hi : L t = some i) (hf : i.desc = .slice e) (hei : L e = some ei) (h0 : 0 ≤ l) (h1 : l ≤ n) (hcs : cs.length = n * ei.size) : Step P L ρ g (.slice t x (some lo) none none) dst ty (val (.im (.seq (n - l.toNat) (cs.drop (l.toNat * ei.size)))))
  | sliceSeqHi {t x hi' n cs k h' i e ei dst ty} (h : ρ x = some (.im (.seq n cs))) (hhi : ρ hi' = some (.im (.int k h'))) (hi : L t = some i) (hf : i.desc = .slice e) (hei : L e = some ei) (h0 : 0 ≤ h') (h1 : h' ≤ n) : Step P L ρ g (.slice t x none (some hi') none) dst ty (val (.im (.seq h'.toNat (cs.take (h'.toNat * ei.size)))))
  | extractM {x k ms m dst ty} (h : ρ x = some (.im (.tup ms))) (hm : ms[k]? = some m) : Step P L ρ g (.extract x k) dst ty (val (.im m))
  | extractD {x k ds d dst ty} (h : ρ x = some (.tup ds)) (hm : ds[k]? = some d) : Step P L ρ g (.extract x k) dst ty (val d)
  | func {f caps ds dst ty} (h : evL ρ caps.toList = some ds) : Step P L ρ g (.makeFunc (.func f) #[] caps) dst ty (val (.fn f ds))
  | binInt {op t x y t' k a b m dst ty} (h : ρ x = some (.im (.int k a))) (h' : ρ y = some (.im (.int k b))) (hm : intOp op k a b = some m) : Step P L ρ g (.binOp op t x y t') dst ty (val (.im m))
  | binDiv {op t x y t' k a b m dst ty} (h : ρ x = some (.im (.int k a))) (h' : ρ y = some (.im (.int k b))) (hm : divOp op k a b = some m) (h0 : b ≠ 0) : Step P L ρ g (.binOp op t x y t') dst ty (val (.im m))
  | binStr {op t x y t' a b m dst ty} (h : ρ x = some (.im (.str a))) (h' : ρ y = some (.im (.str b))) (hm : strOp op a b = some m) : Step P L ρ g (.binOp op t x y t') dst ty (val (.im m))
  | addStr {t x y t' a b dst ty} (h : ρ x = some (.im (.str a))) (h' : ρ y = some (.im (.str b))) (hl : a.length + b.length ≤ 9223372036854775807) : Step P L ρ g (.binOp .add t x y t') dst ty (val (.im (.str (a ++ b))))
  | binBool {op t x y t' i a b m dst ty} (h : ρ x = some (.im (.bool a))) (h' : ρ y = some (.im (.bool b))) (hi : L t = some i) (hf : i.desc = .bool) (hm : boolOp op a b = some m) : Step P L ρ g (.binOp op t x y t') dst ty (val (.im m))
  | not {t x b dst ty} (h : ρ x = some (.im (.bool b))) : Step P L ρ g (.unOp .not t x) dst ty (val (.im (.bool (!b))))
  | neg {t x k n dst ty} (h : ρ x = some (.im (.int k n))) : Step P L ρ g (.unOp .neg t x) dst ty (val (.im (.int k (k.wrap (0 - n)))))
  | convInt {s t x k0 n is i k dst ty} (h : ρ x = some (.im (.int k0 n))) (hs : L s = some is) (hi : L t = some i) (hf : i.desc = .int k) : Step P L ρ g (.convert s t x) dst ty (val (.im (.int k (k.wrap n))))
  | lenStr {x s t i dst ty} (h : ρ x = some (.im (.str s))) (hi : L t = some i) (hf : i.desc = .string) : Step P L ρ g (.call { callee := .builtin .len, args := #[x], argTypes := #[t] }) dst ty (val (.im (.int .i64 s.length)))
  | lenSeq {x n cs t i e dst ty} (h : ρ x = some (.im (.seq n cs))) (hi : L t = some i) (hf : i.desc = .slice e) : Step P L ρ g (.call { callee := .builtin .len, args := #[x], argTypes := #[t] }) dst ty (val (.im (.int .i64 n)))
  | lenNil {x t i e dst ty} (h : ρ x = some (.im .nil)) (hi : L t = some i) (hf : i.desc = .slice e) : Step P L ρ g (.call { callee := .builtin .len, args := #[x], argTypes := #[t] }) dst ty (val (.im (.int .i64 0)))
  | lenRow {x id n sz t i e dst ty} (h : ρ x = some (.row id n sz)) (hi : L t = some i) (hf : i.desc = .slice e) : Step P L ρ g (.call { callee := .builtin .len, args := #[x], argTypes := #[t] }) dst ty (val (.im (.int .i64 n)))
  | append {x y t i e ei id0 n m c cs news js d id ty} (h : ρ x = some (.row id0 n ei.size)) (hy : ρ y = some d) (hd : News g d m news js) (hg : g id0 = some (.rw c ei.size cs)) (hc : c = e) (hi : L t = some i) (hf : i.desc = .slice e) (hei : L e = some ei) (h0 : 0 < ei.size)
      (hn : n * ei.size ≤ cs.length) (hm : news.length = m * ei.size) (hb : (n + m) * ei.bytes ≤ 140737488355328) (hmx : n + m ≤ 9223372036854775807) (hrs : ∀ id n sz, d = .row id n sz → sz = ei.size) :
      Step P L ρ g (.call { callee := .builtin .append, args := #[x, y], argTypes := #[t, t] }) (some id) ty ⟨some (.row id (n + m) ei.size), [(id, some (.rw e ei.size (cs.take (n * ei.size) ++ news))), (id0, none)], [id], id0 :: js⟩
  | appendNil {x y t i e ei m news js d id ty} (h : ρ x = some (.im .nil)) (hy : ρ y = some d) (hd : News g d m news js) (hi : L t = some i) (hf : i.desc = .slice e) (hei : L e = some ei) (h0 : 0 < ei.size)
      (hm : news.length = m * ei.size) (hb : m * ei.bytes ≤ 140737488355328) (hmx : m ≤ 9223372036854775807) (hrs : ∀ id n sz, d = .row id n sz → sz = ei.size) :
      Step P L ρ g (.call { callee := .builtin .append, args := #[x, y], argTypes := #[t, t] }) (some id) ty ⟨some (.row id m ei.size), [(id, some (.rw e ei.size news))], [id], js⟩
  | call {x args ats f ms ids m dst ty} (h : ρ x = some (.im (.fn f))) (hp : Plain P f) (ha : evM ρ g args.toList = some (ms, ids)) (hr : Ret P f ms m) : Step P L ρ g (.call { callee := .value x, args := args, argTypes := ats }) dst ty ⟨some (.im m), ids.map fun i => (i, none), [], ids⟩
  | nilCheckP {x id off dst ty} (h : ρ x = some (.ptr id off)) : Step P L ρ g (.nilCheck x) dst ty (val (.ptr id off))
  | nilCheckE {x cs dst ty} (h : ρ x = some (.ep cs)) : Step P L ρ g (.nilCheck x) dst ty (val (.ep cs))
  /-- an operation whose step is shown by itself -/
  | sem {op dst ty ds e} (og : List (Nat × O)) (hx : evL ρ op.operands.toList = some ds) (hg : ∀ p ∈ og, g p.1 = some p.2) (ht : ∀ p ∈ og, p.1 ∈ e.tch) (hs : SemD P L op dst ty ds og e) : Step P L ρ g op dst ty e

section
variable {P : Program} {L : Nat → Option TI} {ρ ρ' : Operand → Option D} {g g' : Nat → Option O}

/-- an operation hangs on its operands, and on the objects that it looks at, alone -/
theorem Step.congr {op : Op} {dst : Option Nat} {ty : TypeId} {e : Eff} (h : Step P L ρ g op dst ty e) (hρ : ∀ x ∈ op.operands, ρ' x = ρ x) (hg : ∀ i ∈ e.tch, g' i = g i) : Step P L ρ' g' op dst ty e := by
  have q : ∀ x d, x ∈ op.operands → ρ x = some d → ρ' x = some d := fun x d hx h => by rw [hρ x hx]; exact h
  have r : ∀ i o, i ∈ e.tch → g i = some o → g' i = some o := fun i o hi h => by rw [hg i hi]; exact h
  cases h with
  | move h => exact .move (q _ _ (by simp [Op.operands]) h)
  | assign h => exact .assign (q _ _ (by simp [Op.operands]) h)
  | @pick c x y b d dst ty h h' => exact .pick (q _ _ (by simp [Op.operands]) h) (q _ _ (by cases b <;> simp [Op.operands]) h')
  | alloc h => exact .alloc h
  | box h hw => exact .box (q _ _ (by simp [Op.operands]) h) hw
  | loadB h hb hi ha hd => exact .loadB (q _ _ (by simp [Op.operands]) h) (r _ _ (by simp) hb) hi ha hd
  | loadBA h hb hi ha hd => exact .loadBA (q _ _ (by simp [Op.operands]) h) (r _ _ (by simp) hb) hi ha hd
  | loadR h hb hi ha hd => exact .loadR (q _ _ (by simp [Op.operands]) h) (r _ _ (by simp) hb) hi ha hd
  | loadRA h hb hi ha hd h0 => exact .loadRA (q _ _ (by simp [Op.operands]) h) (r _ _ (by simp) hb) hi ha hd h0
  | loadE h hi ha hd => exact .loadE (q _ _ (by simp [Op.operands]) h) hi ha hd
  | loadEA h hi ha hd => exact .loadEA (q _ _ (by simp [Op.operands]) h) hi ha hd
  | storeB h hx hw hb hi hs hl => exact .storeB (q _ _ (by simp [Op.operands]) h) (q _ _ (by simp [Op.operands]) hx) hw (r _ _ (by simp) hb) hi hs hl
  | storeR h hx hm hw hb hi hs hl h0 => exact .storeR (q _ _ (by simp [Op.operands]) h) (q _ _ (by simp [Op.operands]) hx) hm hw (r _ _ (by simp) hb) hi hs hl h0
  | fieldP h hi hf hk hfi h0 => exact .fieldP (q _ _ (by simp [Op.operands]) h) hi hf hk hfi h0
  | fieldE h hi hf hk hfi h0 => exact .fieldE (q _ _ (by simp [Op.operands]) h) hi hf hk hfi h0
  | fieldM h hi hf hk hfi h0 h1 => exact .fieldM (q _ _ (by simp [Op.operands]) h) hi hf hk hfi h0 h1
  | fieldMA h hi hf hk hfi h0 => exact .fieldMA (q _ _ (by simp [Op.operands]) h) hi hf hk hfi h0
  | build hi hf ha hc => exact .build hi hf ha (by rw [fillD_congr (fun x hx => hρ _ (by simp only [Op.operands, List.mem_toArray, List.mem_map]; exact ⟨x, hx, rfl⟩))]; exact hc)
  | buildSlice hi hf hei h0 hl hc => exact .buildSlice hi hf hei h0 hl (by rw [fillM_congr (fun x hx => hρ _ (by simp only [Op.operands, List.mem_toArray, List.mem_map]; exact ⟨x, hx, rfl⟩))]; exact hc)
  | indexR h hx hi hf hei hsz h0 h1 => exact .indexR (q _ _ (by simp [Op.operands]) h) (q _ _ (by simp [Op.operands]) hx) hi hf hei hsz h0 h1
  | indexS h hx hi hf hei h0 h1 h2 => exact .indexS (q _ _ (by simp [Op.operands]) h) (q _ _ (by simp [Op.operands]) hx) hi hf hei h0 h1 h2
  | indexStr h hx hi hf h0 hc => exact .indexStr (q _ _ (by simp [Op.operands]) h) (q _ _ (by simp [Op.operands]) hx) hi hf h0 hc
  | sliceStrLo h hlo hi hf h0 h1 => exact .sliceStrLo (q _ _ (by simp [Op.operands]) h) (q _ _ (by simp [Op.operands]) hlo) hi hf h0 h1
  | sliceStrHi h hlo hi hf h0 h1 => exact .sliceStrHi (q _ _ (by simp [Op.operands]) h) (q _ _ (by simp [Op.operands]) hlo) hi hf h0 h1
  | sliceStr h hlo hhi hi hf h0 h1 h2 => exact .sliceStr (q _ _ (by simp [Op.operands]) h) (q _ _ (by simp [Op.operands]) hlo) (q _ _ (by simp [Op.operands]) hhi) hi hf h0 h1 h2
  | sliceRow h hhi hi hf hei h0 h1 => exact .sliceRow (q _ _ (by simp [Op.operands]) h) (q _ _ (by simp [Op.operands]) hhi) hi hf hei h0 h1
  | sliceSeqLo h hlo hi hf hei h0 h1 hcs => exact .sliceSeqLo (q _ _ (by simp [Op.operands]) h) (q _ _ (by simp [Op.operands]) hlo) hi hf hei h0 h1 hcs
  | sliceSeqHi h hlo hi hf hei h0 h1 => exact .sliceSeqHi (q _ _ (by simp [Op.operands]) h) (q _ _ (by simp [Op.operands]) hlo) hi hf hei h0 h1
  | extractM h hm => exact .extractM (q _ _ (by simp [Op.operands]) h) hm
  | extractD h hm => exact .extractD (q _ _ (by simp [Op.operands]) h) hm
  | func h => exact .func (by rw [evL_congr (fun x hx => hρ _ (by simp [Op.operands]; simpa using hx))]; exact h)
  | binInt h h' hm => exact .binInt (q _ _ (by simp [Op.operands]) h) (q _ _ (by simp [Op.operands]) h') hm
  | binDiv h h' hm h0 => exact .binDiv (q _ _ (by simp [Op.operands]) h) (q _ _ (by simp [Op.operands]) h') hm h0
  | binStr h h' hm => exact .binStr (q _ _ (by simp [Op.operands]) h) (q _ _ (by simp [Op.operands]) h') hm
  | addStr h h' hl => exact .addStr (q _ _ (by simp [Op.operands]) h) (q _ _ (by simp [Op.operands]) h') hl
  | binBool h h' hi hf hm => exact .binBool (q _ _ (by simp [Op.operands]) h) (q _ _ (by simp [Op.operands]) h') hi hf hm
  | not h => exact .not (q _ _ (by simp [Op.operands]) h)
  | neg h => exact .neg (q _ _ (by simp [Op.operands]) h)
  | convInt h hs hi hf => exact .convInt (q _ _ (by simp [Op.operands]) h) hs hi hf
  | lenStr h hi hf => exact .lenStr (q _ _ (by simp [Op.operands, Call.operands]) h) hi hf
  | lenSeq h hi hf => exact .lenSeq (q _ _ (by simp [Op.operands, Call.operands]) h) hi hf
  | lenNil h hi hf => exact .lenNil (q _ _ (by simp [Op.operands, Call.operands]) h) hi hf
  | lenRow h hi hf => exact .lenRow (q _ _ (by simp [Op.operands, Call.operands]) h) hi hf
  | append h hy hd hg' hc hi hf hei h0 hn hm hb hmx hrs => exact .append (q _ _ (by simp [Op.operands, Call.operands]) h) (q _ _ (by simp [Op.operands, Call.operands]) hy) (hd.congr fun j hj => hg j (by simp [hj])) (r _ _ (by simp) hg') hc hi hf hei h0 hn hm hb hmx hrs
  | appendNil h hy hd hi hf hei h0 hm hb hmx hrs => exact .appendNil (q _ _ (by simp [Op.operands, Call.operands]) h) (q _ _ (by simp [Op.operands, Call.operands]) hy) (hd.congr fun j hj => hg j hj) hi hf hei h0 hm hb hmx hrs
  | call h hp ha hr => exact .call (q _ _ (by simp [Op.operands, Call.operands]) h) hp (evM_congr ha (fun x hx => hρ _ (by simp [Op.operands, Call.operands]; exact .inr (by simpa using hx))) (fun i hi => hg i hi)) hr
  | nilCheckP h => exact .nilCheckP (q _ _ (by simp [Op.operands]) h)
  | nilCheckE h => exact .nilCheckE (q _ _ (by simp [Op.operands]) h)
  | sem og hx hg' ht hs => exact .sem og (by rw [evL_congr (fun x hx => hρ x (by simpa using hx))]; exact hx) (fun p hp => r _ _ (ht p hp) (hg' p hp)) ht hs

end
end Fw
