/- A program logic over data: states, how a state reads in a world, and how both go on together. No program in sight. -/
import Derived.Test.YtbofdldkiooegaaFwA
namespace Fw
open Go Go.RowKit
set_option linter.unusedVariables false
set_option linter.unusedSimpArgs false

/-- outside the blocks S nothing that was there has turned -/
structure Keep (S : Nat → Prop) (w w' : World) : Prop where
  os : w'.os = w.os
  tape : w'.tape = w.tape
  output : w'.output = w.output
  size : w.heap.size ≤ w'.heap.size
  block : ∀ k, k < w.heap.size → ¬ S k → w'.heap[k]? = w.heap[k]?

theorem Keep.refl (S : Nat → Prop) (w : World) : Keep S w w := ⟨rfl, rfl, rfl, Nat.le_refl _, fun _ _ _ => rfl⟩
theorem Keep.below {w w' : World} (h : Keep (fun _ => False) w w') : Below w.heap.size w w' := ⟨h.os, h.tape, h.output, h.size, fun k hk => h.block k hk id⟩
theorem Keep.of_below {w w' : World} (h : Below w.heap.size w w') : Keep (fun _ => False) w w' := ⟨h.os, h.tape, h.output, h.size, fun k hk _ => h.block k hk⟩

/-- slots and objects, and the world that they read in -/
structure Conc (N : Nat) (w0 : World) (ok0 S0 : Nat → Prop) (T : Nat → Option D) (H : Nat → Option O) (β : Nat → Option Nat) (ok : Nat → Prop) (a : Act) (w : World) : Prop where
  defers : a.defers = []
  size : a.tmps.size = N
  tmp : ∀ i d, T i = some d → RD β ok w d (a.tmps.getD i undef)
  obj : ∀ i o, H i = some o → RO β ok w i o
  inj : ∀ i j o o' b, H i = some o → H j = some o' → β i = some b → β j = some b → i = j
  okd : ∀ b, ok b → ∀ i o, H i = some o → β i ≠ some b
  okl : ∀ b, ok b → b < w.heap.size
  okf : ∀ b, ok b → ok0 b ∨ w0.heap.size ≤ b ∨ S0 b
  low : ∀ i o b, H i = some o → β i = some b → w0.heap.size ≤ b ∨ S0 b
  keep : Keep S0 w0 w

def putT (T : Nat → Option D) (dst : Option Nat) (r : Option D) : Nat → Option D := fun i => if dst = some i then r else T i
def chH (H : Nat → Option O) : List (Nat × Option O) → Nat → Option O
  | [], i => H i
  | (j, o) :: l, i => if j = i then o else chH H l i

theorem getD_put (a : Act) (dst : Option Nat) (v : Value) (i : Nat) (hd : ∀ d, dst = some d → d < a.tmps.size) :
    (a.put dst v).tmps.getD i undef = if dst = some i then v else a.tmps.getD i undef := by
  cases dst with
  | none => simp [Act.put]
  | some d =>
    have := hd d rfl
    by_cases h : d = i
    · subst h; simp [Act.put, Array.getD, this]
    · have h' : ¬ (some d = some i) := by simpa using h
      simp only [Act.put, if_neg h']
      simp [Array.getD_eq_getD_getElem?, Array.getElem?_setIfInBounds, h]

theorem put_size (a : Act) (dst : Option Nat) (v : Value) : (a.put dst v).tmps.size = a.tmps.size := by
  cases dst <;> simp [Act.put]
theorem put_defers (a : Act) (dst : Option Nat) (v : Value) : (a.put dst v).defers = a.defers := by
  cases dst <;> simp [Act.put]

section
variable {N : Nat} {w0 : World} {ok0 S0 : Nat → Prop} {T : Nat → Option D} {H H' : Nat → Option O} {β β' : Nat → Option Nat} {ok ok' : Nat → Prop} {a : Act} {w w' : World}

/-- the general step -/
theorem Conc.step (hc : Conc N w0 ok0 S0 T H β ok a w) (dst : Option Nat) (v : Value) (r : Option D) (hd : ∀ d, dst = some d → d < N)
    (hs : Stays ok ok' w w') (hn : ∀ i d, T i = some d → Names β β' w w' d.refs) (hr : ∀ d, r = some d → RD β' ok' w' d v)
    (ho : ∀ i o, H' i = some o → RO β' ok' w' i o) (hinj : ∀ i j o o' b, H' i = some o → H' j = some o' → β' i = some b → β' j = some b → i = j)
    (hokd : ∀ b, ok' b → ∀ i o, H' i = some o → β' i ≠ some b) (hokl : ∀ b, ok' b → b < w'.heap.size) (hokf : ∀ b, ok' b → ok0 b ∨ w0.heap.size ≤ b ∨ S0 b)
    (hlow : ∀ i o b, H' i = some o → β' i = some b → w0.heap.size ≤ b ∨ S0 b) (hkeep : Keep S0 w0 w') :
    Conc N w0 ok0 S0 (putT T dst r) H' β' ok' (a.put dst v) w' where
  defers := by rw [put_defers]; exact hc.defers
  size := by rw [put_size]; exact hc.size
  tmp := by
    intro i d h
    rw [getD_put a dst v i (by rw [hc.size]; exact hd)]
    unfold putT at h
    split
    · rename_i he
      rw [if_pos he] at h
      exact hr d h
    · rename_i he
      rw [if_neg he] at h
      exact RD.mono hs d _ (hn i d h) (hc.tmp i d h)
  obj := ho
  inj := hinj
  okd := hokd
  okl := hokl
  okf := hokf
  low := hlow
  keep := hkeep

theorem Names.refl (β : Nat → Option Nat) (w : World) (is : List Nat) : Names β β w w is := ⟨fun _ _ _ h => h, fun i b us e _ _ h => ⟨us, e, h, rfl⟩⟩

/-- a value that touches nothing -/
theorem Conc.put (hc : Conc N w0 ok0 S0 T H β ok a w) (dst : Option Nat) (v : Value) (r : Option D) (hd : ∀ d, dst = some d → d < N) (hr : ∀ d, r = some d → RD β ok w d v) :
    Conc N w0 ok0 S0 (putT T dst r) H β ok (a.put dst v) w :=
  hc.step dst v r hd (Stays.refl ok w) (fun _ _ _ => Names.refl _ _ _) hr hc.obj hc.inj hc.okd hc.okl hc.okf hc.low hc.keep

/-- weaker claims -/
theorem Conc.weaken {T' : Nat → Option D} (hc : Conc N w0 ok0 S0 T H β ok a w) (hT : ∀ i d, T' i = some d → T i = some d) (hH : ∀ i o, H' i = some o → H i = some o) :
    Conc N w0 ok0 S0 T' H' β ok a w where
  defers := hc.defers
  size := hc.size
  tmp := fun i d h => hc.tmp i d (hT i d h)
  obj := fun i o h => hc.obj i o (hH i o h)
  inj := fun i j o o' b h h' => hc.inj i j o o' b (hH i o h) (hH j o' h')
  okd := fun b hb i o h => hc.okd b hb i o (hH i o h)
  okl := hc.okl
  okf := hc.okf
  low := fun i o b h => hc.low i o b (hH i o h)
  keep := hc.keep

theorem RO.block {id : Nat} {o : O} {b : Nat} (h : RO β ok w id o) (hb : β id = some b) : b < w.heap.size := by
  have key : ∀ x, w.heap[b]? = some x → b < w.heap.size := fun x hx => by
    rcases Nat.lt_or_ge b w.heap.size with h | h
    · exact h
    · rw [Array.getElem?_eq_none h] at hx; cases hx
  cases o with
  | box t cs =>
    simp only [RO] at h
    obtain ⟨b', us, h1, h2, _⟩ := h
    rw [hb] at h1; cases h1
    exact key _ h2
  | rw e sz cs =>
    simp only [RO] at h
    rcases h with ⟨h1, _⟩ | ⟨b', us, cap, h1, h2, _⟩
    · rw [hb] at h1; cases h1
    · rw [hb] at h1; cases h1
      exact key _ h2
  | it s pos =>
    simp only [RO] at h
    obtain ⟨b', h1, h2⟩ := h
    rw [hb] at h1; cases h1
    exact key _ h2

/-- an object that nothing has touched -/
theorem RO.mono (hs : Stays ok ok' w w') {id : Nat} {o : O} (hn : Names β β' w w' o.refs) (hid : β' id = β id) (hb : ∀ b, β id = some b → w'.heap[b]? = w.heap[b]?) (h : RO β ok w id o) : RO β' ok' w' id o := by
  cases o with
  | box t cs =>
    simp only [RO] at h ⊢
    obtain ⟨b, us, h1, h2, h3⟩ := h
    exact ⟨b, us, hid.trans h1, (hb b h1).trans h2, RDs.mono hs cs _ (by simpa only [O.refs] using hn) h3⟩
  | rw e sz cs =>
    simp only [RO] at h ⊢
    rcases h with ⟨h1, h2⟩ | ⟨b, us, cap, h1, h2, h3, h4, h5, h6⟩
    · exact .inl ⟨hid.trans h1, h2⟩
    · exact .inr ⟨b, us, cap, hid.trans h1, (hb b h1).trans h2, h3, h4, h5, RMs.mono hs cs _ h6⟩
  | it s pos =>
    simp only [RO] at h ⊢
    obtain ⟨b, h1, h2⟩ := h
    exact ⟨b, hid.trans h1, (hb b h1).trans h2⟩

/-- nobody names it -/
def Fresh (T : Nat → Option D) (H : Nat → Option O) (id : Nat) : Prop := (∀ i d, T i = some d → id ∉ d.refs) ∧ (∀ i o, H i = some o → i ≠ id ∧ id ∉ o.refs)

def updβ (β : Nat → Option Nat) (id : Nat) (b : Option Nat) : Nat → Option Nat := fun i => if i = id then b else β i

theorem push_get (w : World) (x : Obj) (k : Nat) (hk : k < w.heap.size) : (w.alloc x).heap[k]? = w.heap[k]? := Below.heap_alloc w x k hk
theorem push_new (w : World) (x : Obj) : (w.alloc x).heap[w.heap.size]? = some x := heap_alloc_new w x

theorem Names.alloc {is : List Nat} {id : Nat} (x : Obj) (hid : id ∉ is) (hlt : ∀ b us e, w.heap[b]? = some (.cells us e (0, 0)) → b < w.heap.size) : Names β (updβ β id (some w.heap.size)) w (w.alloc x) is where
  same := fun i b hi hb => by
    unfold updβ
    rw [if_neg (by rintro rfl; exact hid hi)]; exact hb
  rows := fun i b us e hi hb h => ⟨us, e, by rw [push_get w x b (hlt b us e h)]; exact h, rfl⟩

theorem heap_lt {w : World} {b : Nat} {x : Obj} (h : w.heap[b]? = some x) : b < w.heap.size := by
  rcases Nat.lt_or_ge b w.heap.size with h1 | h1
  · exact h1
  · rw [Array.getElem?_eq_none h1] at h; cases h

theorem Stays.alloc (ok : Nat → Prop) (w : World) (x : Obj) : Stays ok ok w (w.alloc x) := fun b h hb => ⟨h, push_get w x b hb⟩
theorem Keep.alloc {S : Nat → Prop} (h : Keep S w0 w) (x : Obj) : Keep S w0 (w.alloc x) where
  os := h.os
  tape := h.tape
  output := h.output
  size := Nat.le_trans h.size (by simp)
  block := fun k hk hS => by rw [push_get w x k (Nat.lt_of_lt_of_le hk h.size)]; exact h.block k hk hS

/-- a new object -/
theorem Conc.new (hc : Conc N w0 ok0 S0 T H β ok a w) (dst : Option Nat) (v : Value) (r : Option D) (hd : ∀ d, dst = some d → d < N) (id : Nat) (o : O) (x : Obj) (hf : Fresh T H id)
    (ho : RO (updβ β id (some w.heap.size)) ok (w.alloc x) id o) (hr : ∀ d, r = some d → RD (updβ β id (some w.heap.size)) ok (w.alloc x) d v) :
    Conc N w0 ok0 S0 (putT T dst r) (chH H [(id, some o)]) (updβ β id (some w.heap.size)) ok (a.put dst v) (w.alloc x) := by
  have hne : ∀ i, i ≠ id → updβ β id (some w.heap.size) i = β i := fun i h => by unfold updβ; rw [if_neg h]
  have hid : updβ β id (some w.heap.size) id = some w.heap.size := by unfold updβ; rw [if_pos rfl]
  have hcase : ∀ i o', chH H [(id, some o)] i = some o' → (i = id ∧ o' = o) ∨ (i ≠ id ∧ H i = some o') := by
    intro i o' h
    simp only [chH] at h
    by_cases he : id = i
    · rw [if_pos he] at h
      exact .inl ⟨he.symm, by simpa using h.symm⟩
    · rw [if_neg he] at h
      exact .inr ⟨fun h => he h.symm, h⟩
  refine hc.step dst v r hd (Stays.alloc ok w x) (fun i d h => Names.alloc x (hf.1 i d h) (fun b us e h => heap_lt h)) hr ?_ ?_ ?_ ?_ hc.okf ?_ (hc.keep.alloc x)
  · intro i o' h
    rcases hcase i o' h with ⟨rfl, rfl⟩ | ⟨h1, h2⟩
    · exact ho
    · exact RO.mono (Stays.alloc ok w x) (Names.alloc x (hf.2 i o' h2).2 (fun b us e h => heap_lt h)) (hne i h1) (fun b hb => push_get w x b (RO.block (hc.obj i o' h2) hb)) (hc.obj i o' h2)
  · intro i j o1 o2 b h1 h2 h3 h4
    rcases hcase i o1 h1 with ⟨rfl, rfl⟩ | ⟨g1, g2⟩ <;> rcases hcase j o2 h2 with ⟨rfl, rfl⟩ | ⟨k1, k2⟩
    · rfl
    · rw [hid] at h3; rw [hne j k1] at h4; cases h3
      have := RO.block (hc.obj j o2 k2) h4
      omega
    · rw [hid] at h4; rw [hne i g1] at h3; cases h4
      have := RO.block (hc.obj i o1 g2) h3
      omega
    · rw [hne i g1] at h3; rw [hne j k1] at h4
      exact hc.inj i j o1 o2 b g2 k2 h3 h4
  · intro b hb i o' h
    rcases hcase i o' h with ⟨rfl, rfl⟩ | ⟨h1, h2⟩
    · rw [hid]
      have := hc.okl b hb
      intro he; cases he; omega
    · rw [hne i h1]; exact hc.okd b hb i o' h2
  · intro b hb
    have := hc.okl b hb
    simp; omega
  · intro i o' b h hb
    rcases hcase i o' h with ⟨rfl, rfl⟩ | ⟨h1, h2⟩
    · rw [hid] at hb; cases hb
      exact .inl hc.keep.size
    · rw [hne i h1] at hb; exact hc.low i o' b h2 hb

/-- one block of an object's turned, no row's size -/
structure Turned (b : Nat) (w w' : World) : Prop where
  os : w'.os = w.os
  tape : w'.tape = w.tape
  output : w'.output = w.output
  size : w'.heap.size = w.heap.size
  block : ∀ k, k ≠ b → w'.heap[k]? = w.heap[k]?
  rows : ∀ us e, w.heap[b]? = some (.cells us e (0, 0)) → ∃ us' e', w'.heap[b]? = some (.cells us' e' (0, 0)) ∧ us'.size = us.size

theorem Turned.names {b : Nat} (h : Turned b w w') (is : List Nat) : Names β β w w' is where
  same := fun _ _ _ h => h
  rows := fun i b' us e hi hb hh => by
    by_cases he : b' = b
    · subst he; exact h.rows us e hh
    · exact ⟨us, e, by rw [h.block b' he]; exact hh, rfl⟩

/-- an object turned in place -/
theorem Conc.turn (hc : Conc N w0 ok0 S0 T H β ok a w) (dst : Option Nat) (v : Value) (r : Option D) (hd : ∀ d, dst = some d → d < N) (id : Nat) (o0 o : O) (b : Nat) (h0 : H id = some o0) (hb : β id = some b)
    (ht : Turned b w w') (ho : RO β ok w' id o) (hr : ∀ d, r = some d → RD β ok w' d v) :
    Conc N w0 ok0 S0 (putT T dst r) (chH H [(id, some o)]) β ok (a.put dst v) w' := by
  have hcase : ∀ i o', chH H [(id, some o)] i = some o' → (i = id ∧ o' = o) ∨ (i ≠ id ∧ H i = some o') := by
    intro i o' h
    simp only [chH] at h
    by_cases he : id = i
    · rw [if_pos he] at h
      exact .inl ⟨he.symm, by simpa using h.symm⟩
    · rw [if_neg he] at h
      exact .inr ⟨fun h => he h.symm, h⟩
  have hlive : ∀ i o', chH H [(id, some o)] i = some o' → ∃ o'', H i = some o'' := by
    intro i o' h
    rcases hcase i o' h with ⟨rfl, rfl⟩ | ⟨h1, h2⟩
    · exact ⟨o0, h0⟩
    · exact ⟨o', h2⟩
  have hs : Stays ok ok w w' := fun b' hb' _ => ⟨hb', ht.block b' (by rintro rfl; exact hc.okd b' hb' id o0 h0 hb)⟩
  refine hc.step dst v r hd hs (fun i d h => ht.names _) hr ?_ ?_ ?_ ?_ hc.okf ?_ ?_
  · intro i o' h
    rcases hcase i o' h with ⟨rfl, rfl⟩ | ⟨h1, h2⟩
    · exact ho
    · exact RO.mono hs (ht.names _) rfl (fun b' hb' => ht.block b' (by rintro rfl; exact h1 (hc.inj i id o' o0 b' h2 h0 hb' hb))) (hc.obj i o' h2)
  · intro i j o1 o2 b' h1 h2 h3 h4
    obtain ⟨p, hp⟩ := hlive i o1 h1
    obtain ⟨q, hq⟩ := hlive j o2 h2
    exact hc.inj i j p q b' hp hq h3 h4
  · intro b' hb' i o' h
    obtain ⟨p, hp⟩ := hlive i o' h
    exact hc.okd b' hb' i p hp
  · intro b' hb'
    rw [ht.size]; exact hc.okl b' hb'
  · intro i o' b' h hb'
    obtain ⟨p, hp⟩ := hlive i o' h
    exact hc.low i p b' hp hb'
  · refine ⟨ht.os.trans hc.keep.os, ht.tape.trans hc.keep.tape, ht.output.trans hc.keep.output, by rw [ht.size]; exact hc.keep.size, fun k hk hS => ?_⟩
    rw [ht.block k ?_]
    · exact hc.keep.block k hk hS
    · rintro rfl
      rcases hc.low id o0 k h0 hb with h1 | h1
      · omega
      · exact hS h1

/-- a call that only makes new things -/
theorem Conc.call (hc : Conc N w0 ok0 S0 T H β ok a w) (dst : Option Nat) (v : Value) (r : Option D) (hd : ∀ d, dst = some d → d < N) (hb : Below w.heap.size w w')
    (hr : ∀ d, r = some d → RD β (fun b => (ok b ∨ w.heap.size ≤ b) ∧ b < w'.heap.size) w' d v) :
    Conc N w0 ok0 S0 (putT T dst r) H β (fun b => (ok b ∨ w.heap.size ≤ b) ∧ b < w'.heap.size) (a.put dst v) w' := by
  have hs : Stays ok (fun b => (ok b ∨ w.heap.size ≤ b) ∧ b < w'.heap.size) w w' := fun b' hb' hlt => ⟨⟨.inl hb', Nat.lt_of_lt_of_le hlt hb.size⟩, hb.block b' hlt⟩
  have hn : ∀ is, Names β β w w' is := fun is => ⟨fun _ _ _ h => h, fun i b' us e hi hb' hh => ⟨us, e, by rw [hb.block b' (heap_lt hh)]; exact hh, rfl⟩⟩
  refine hc.step dst v r hd hs (fun i d h => hn _) hr ?_ hc.inj ?_ (fun b' hb' => hb'.2) ?_ hc.low ?_
  · intro i o' h
    exact RO.mono hs (hn _) rfl (fun b' hb' => hb.block b' (RO.block (hc.obj i o' h) hb')) (hc.obj i o' h)
  · intro b' hb' i o' h he
    rcases hb'.1 with h1 | h1
    · exact hc.okd b' h1 i o' h he
    · have := RO.block (hc.obj i o' h) he
      omega
  · intro b' hb'
    rcases hb'.1 with h1 | h1
    · exact hc.okf b' h1
    · exact .inr (.inl (Nat.le_trans hc.keep.size h1))
  · refine ⟨hb.os.trans hc.keep.os, hb.tape.trans hc.keep.tape, hb.output.trans hc.keep.output, Nat.le_trans hc.keep.size hb.size, fun k hk hS => ?_⟩
    rw [hb.block k (Nat.lt_of_lt_of_le hk hc.keep.size)]
    exact hc.keep.block k hk hS

/-- objects that nobody writes any more are data from now on -/
theorem Conc.freeze (hc : Conc N w0 ok0 S0 T H β ok a w) (ids : List Nat) : Conc N w0 ok0 S0 T (chH H (ids.map fun i => (i, none))) β (fun b => ok b ∨ ∃ i o, i ∈ ids ∧ H i = some o ∧ β i = some b) a w := by
  have hs : Stays ok (fun b => ok b ∨ ∃ i o, i ∈ ids ∧ H i = some o ∧ β i = some b) w w := fun b hb _ => ⟨.inl hb, rfl⟩
  have hn : ∀ is, Names β β w w is := fun is => ⟨fun _ _ _ h => h, fun i b us e _ _ h => ⟨us, e, h, rfl⟩⟩
  have hcase : ∀ (l : List Nat) i o, chH H (l.map fun i => (i, none)) i = some o → i ∉ l ∧ H i = some o := by
    intro l
    induction l with
    | nil => intro i o h; exact ⟨by simp, h⟩
    | cons j l ih =>
      intro i o h
      simp only [List.map_cons, chH] at h
      by_cases hj : j = i
      · rw [if_pos hj] at h; cases h
      · rw [if_neg hj] at h
        have := ih i o h
        exact ⟨by simp only [List.mem_cons, not_or]; exact ⟨fun he => hj he.symm, this.1⟩, this.2⟩
  refine { defers := hc.defers, size := hc.size, tmp := fun i d h => RD.mono hs d _ (hn _) (hc.tmp i d h), obj := fun i o h => RO.mono hs (hn _) rfl (fun _ _ => rfl) (hc.obj i o (hcase _ i o h).2), inj := fun i j o o' b h h' => hc.inj i j o o' b (hcase _ i o h).2 (hcase _ j o' h').2, okd := ?_, okl := ?_, okf := ?_, low := fun i o b h => hc.low i o b (hcase _ i o h).2, keep := hc.keep }
  · rintro b (hb | ⟨j, o', hj, hH, hb⟩) i o h he
    · exact hc.okd b hb i o (hcase _ i o h).2 he
    · have := hc.inj i j o o' b (hcase _ i o h).2 hH he hb
      subst this
      exact (hcase _ i o h).1 hj
  · rintro b (hb | ⟨j, o', hj, hH, hb⟩)
    · exact hc.okl b hb
    · exact RO.block (hc.obj j o' hH) hb
  · rintro b (hb | ⟨j, o', hj, hH, hb⟩)
    · exact hc.okf b hb
    · rcases hc.low j o' b hH hb with h | h
      · exact .inr (.inl h)
      · exact .inr (.inr h)

/-- a draw alone -/
theorem Conc.drew (hc : Conc N w0 ok0 S0 T H β ok a w) (n : Nat) : Conc N w0 ok0 S0 T H β ok a { w with drawn := n } := by
  have hs : Stays ok ok w { w with drawn := n } := fun _ h _ => ⟨h, rfl⟩
  have hn : ∀ is, Names β β w { w with drawn := n } is := fun is => ⟨fun _ _ _ h => h, fun i b us e _ _ h => ⟨us, e, h, rfl⟩⟩
  exact { defers := hc.defers, size := hc.size, tmp := fun i d h => RD.mono hs d _ (hn _) (hc.tmp i d h), obj := fun i o h => RO.mono hs (hn _) rfl (fun _ _ => rfl) (hc.obj i o h), inj := hc.inj, okd := hc.okd, okl := hc.okl, okf := hc.okf, low := hc.low, keep := ⟨hc.keep.os, hc.keep.tape, hc.keep.output, hc.keep.size, hc.keep.block⟩ }

end
end Fw
