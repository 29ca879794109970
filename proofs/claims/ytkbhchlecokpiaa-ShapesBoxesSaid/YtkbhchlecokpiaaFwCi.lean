/- Contracts with boxes: other names for the boxes; those of data alone. -/
import Derived.Test.YtkbhchlecokpiaaFwCh
namespace Fw
open Go Go.RowKit
set_option linter.unusedVariables false
set_option linter.unusedSimpArgs false
set_option linter.unusedSectionVars false
section
variable {P : Program} {w : World} {β : Nat → Option Nat} {ok : Nat → Prop}
theorem RDt.unims : ∀ {ms : List M} {vs : List Value}, RDt β ok w (ms.map .im) vs → RMt ok w ms vs
  | [], vs, h => by simpa only [RMt, List.map_nil, RDt] using h
  | m :: ms, vs, h => by
    simp only [List.map_cons, RDt, RD] at h
    obtain ⟨u, us, h1, h3, h4⟩ := h
    simp only [RMt]
    exact ⟨u, us, h1, h3, RDt.unims h4⟩
theorem RMt.ims : ∀ {ms : List M} {vs : List Value}, RMt ok w ms vs → RDt β ok w (ms.map .im) vs
  | [], vs, h => by simpa only [RMt, List.map_nil, RDt] using h
  | m :: ms, vs, h => by
    simp only [RMt] at h
    obtain ⟨u, us, h1, h3, h4⟩ := h
    simp only [List.map_cons, RDt, RD]
    exact ⟨u, us, h1, h3, RMt.ims h4⟩
theorem Ret.toD {f : FuncId} {ms : List M} {m : M} (h : Ret P f ms m) : RetD P f (ms.map .im) [] m [] := by
  intro β ok w vs hv hb _ _
  refine (h ok w vs (RDt.unims hv)).mono ?_
  rintro e w' ⟨v, h1, h2, h3⟩
  refine ⟨v, h1, h2, (fun i t cs hm => by cases hm), ?_⟩
  have := Keep.of_below h3
  exact ⟨this.os, this.tape, this.output, this.size, fun k hk hn => this.block k hk id⟩
theorem RetD.toRet {f : FuncId} {ms : List M} {m : M} (h : RetD P f (ms.map .im) [] m []) : Ret P f ms m := by
  intro ok w vs hv
  refine (h (fun _ => none) ok w vs (RMt.ims hv) (fun i t cs hm => by cases hm) (fun b _ ⟨i, t, cs, hm, _⟩ => by cases hm) (fun i t cs j t' cs' b hm => by cases hm)).mono ?_
  rintro e w' ⟨v, h1, h2, _, h4⟩
  exact ⟨v, h1, h2, Keep.below ⟨h4.os, h4.tape, h4.output, h4.size, fun k hk hn => h4.block k hk fun ⟨i, t, cs, hm, _⟩ => by cases hm⟩⟩
/-- data beside the boxes that a function is given stays what it is: a contract of data, with boxes that it does not ask for -/
theorem RetD.more {f : FuncId} {ds : List D} {m : M} {bs : Bd} (h : RetD P f ds [] m []) : RetD P f ds bs m bs := by
  intro β ok w vs hv hb hok hinj
  refine (h β ok w vs hv (fun i t cs hm => by cases hm) (fun b _ ⟨i, t, cs, hm, _⟩ => by cases hm) (fun i t cs j t' cs' b hm => by cases hm)).mono ?_
  rintro e w' ⟨v, h1, h2, _, h4⟩
  have hk : Keep (fun _ => False) w w' := ⟨h4.os, h4.tape, h4.output, h4.size, fun k hk hn => h4.block k hk fun ⟨i, t, cs, hm, _⟩ => by cases hm⟩
  refine ⟨v, h1, h2, ?_, ⟨h4.os, h4.tape, h4.output, h4.size, fun k hlt hn => hk.block k hlt id⟩⟩
  intro i t cs hm
  obtain ⟨b, us, g1, g2, g3⟩ := hb i t cs hm
  refine ⟨b, us, g1, by rw [hk.block b (heap_lt g2) id]; exact g2, ?_⟩
  exact RDs.mono (fun b hb hlt => ⟨.inl hb, hk.block b hlt id⟩) _ _ ⟨fun _ _ _ h => h, fun i x vs e hi hx hh => ⟨vs, e, by rw [hk.block x (heap_lt hh) id]; exact hh, rfl⟩⟩ g3
end
mutual
def renD (σ : Nat → Nat) : D → D
  | .im m => .im m
  | .agg ds => .agg (renL σ ds)
  | .tup ds => .tup (renL σ ds)
  | .ptr id off => .ptr (σ id) off
  | .ep cs => .ep cs
  | .row id n sz => .row (σ id) n sz
  | .fn f caps => .fn f (renL σ caps)
  | .iface t d => .iface t (renD σ d)
def renL (σ : Nat → Nat) : List D → List D
  | [] => []
  | d :: ds => renD σ d :: renL σ ds
end
section
variable {w : World} {β : Nat → Option Nat} {ok : Nat → Prop} {σ : Nat → Nat}
mutual
theorem ren_rd : ∀ (d : D) (v : Value), RD β ok w (renD σ d) v ↔ RD (fun i => β (σ i)) ok w d v
  | .im m, v => by simp only [renD, RD]
  | .agg ds, v => by
    simp only [renD, RD]
    constructor <;> rintro ⟨us, h1, h2⟩ <;> exact ⟨us, h1, by first | exact (ren_rds ds _).1 h2 | exact (ren_rds ds _).2 h2⟩
  | .tup ds, v => by
    simp only [renD, RD]
    constructor <;> rintro ⟨us, h1, h2⟩ <;> exact ⟨us, h1, by first | exact (ren_rdt ds _).1 h2 | exact (ren_rdt ds _).2 h2⟩
  | .ptr id off, v => by simp only [renD, RD]
  | .ep cs, v => by simp only [renD, RD]
  | .row id n sz, v => by simp only [renD, RD]
  | .fn f caps, v => by
    simp only [renD, RD]
    constructor <;> rintro ⟨us, h1, h2⟩ <;> exact ⟨us, h1, by first | exact (ren_rdt caps _).1 h2 | exact (ren_rdt caps _).2 h2⟩
  | .iface t d, v => by
    simp only [renD, RD]
    constructor <;> rintro ⟨u, h1, h2⟩ <;> exact ⟨u, h1, by first | exact (ren_rd d u).1 h2 | exact (ren_rd d u).2 h2⟩
theorem ren_rds : ∀ (ds : List D) (vs : List Value), RDs β ok w (renL σ ds) vs ↔ RDs (fun i => β (σ i)) ok w ds vs
  | [], vs => by simp only [renL, RDs]
  | d :: ds, vs => by
    simp only [renL, RDs]
    constructor
    · rintro ⟨u, us, h1, h2, h3, h4⟩; exact ⟨u, us, h1, h2, (ren_rd d u).1 h3, (ren_rds ds us).1 h4⟩
    · rintro ⟨u, us, h1, h2, h3, h4⟩; exact ⟨u, us, h1, h2, (ren_rd d u).2 h3, (ren_rds ds us).2 h4⟩
theorem ren_rdt : ∀ (ds : List D) (vs : List Value), RDt β ok w (renL σ ds) vs ↔ RDt (fun i => β (σ i)) ok w ds vs
  | [], vs => by simp only [renL, RDt]
  | d :: ds, vs => by
    simp only [renL, RDt]
    constructor
    · rintro ⟨u, us, h1, h3, h4⟩; exact ⟨u, us, h1, (ren_rd d u).1 h3, (ren_rdt ds us).1 h4⟩
    · rintro ⟨u, us, h1, h3, h4⟩; exact ⟨u, us, h1, (ren_rd d u).2 h3, (ren_rdt ds us).2 h4⟩
end
end
def renB (σ : Nat → Nat) (bs : Bd) : Bd := bs.map fun p => (σ p.1, p.2.1, renL σ p.2.2)
/-- the same contract, of boxes with other names -/
theorem RetD.ren {P : Program} {f : FuncId} {ds : List D} {bs bs' : Bd} {m : M} (h : RetD P f ds bs m bs') (σ : Nat → Nat) (hσ : ∀ p ∈ bs, ∀ q ∈ bs, σ p.1 = σ q.1 → p.1 = q.1) : RetD P f (renL σ ds) (renB σ bs) m (renB σ bs') := by
  intro β ok w vs hv hb hok hinj
  have hof : ∀ b, OfD (fun i => β (σ i)) bs b → OfD β (renB σ bs) b := by
    rintro b ⟨i, t, cs, hm, hi⟩
    exact ⟨σ i, t, renL σ cs, List.mem_map.2 ⟨_, hm, rfl⟩, hi⟩
  have hof' : ∀ b, OfD β (renB σ bs) b → OfD (fun i => β (σ i)) bs b := by
    rintro b ⟨i, t, cs, hm, hi⟩
    obtain ⟨⟨i', t', cs'⟩, h1, h2⟩ := List.mem_map.1 hm
    simp only [Prod.mk.injEq] at h2
    obtain ⟨rfl, rfl, rfl⟩ := h2
    exact ⟨i', t', cs', h1, hi⟩
  refine (h (fun i => β (σ i)) ok w vs ((ren_rdt ds vs).1 hv) ?_ (fun b hb ho => hok b hb (hof b ho)) ?_).mono ?_
  · intro i t cs hm
    obtain ⟨b, us, g1, g2, g3⟩ := hb (σ i) t (renL σ cs) (List.mem_map.2 ⟨_, hm, rfl⟩)
    exact ⟨b, us, g1, g2, (ren_rds cs _).1 g3⟩
  · intro i t cs j t' cs' b h1 h2 e1 e2
    exact hσ _ h1 _ h2 (hinj (σ i) t (renL σ cs) (σ j) t' (renL σ cs') b (List.mem_map.2 ⟨_, h1, rfl⟩) (List.mem_map.2 ⟨_, h2, rfl⟩) e1 e2)
  · rintro e w' ⟨v, h1, h2, h3, h4⟩
    refine ⟨v, h1, h2, ?_, ⟨h4.os, h4.tape, h4.output, h4.size, fun k hk hn => h4.block k hk fun ho => hn (hof k ho)⟩⟩
    intro i t cs hm
    obtain ⟨⟨i', t', cs'⟩, g1, g2⟩ := List.mem_map.1 hm
    simp only [Prod.mk.injEq] at g2
    obtain ⟨rfl, rfl, rfl⟩ := g2
    obtain ⟨b, us, k1, k2, k3⟩ := h3 i' t' cs' g1
    exact ⟨b, us, k1, k2, (ren_rds cs' _).2 k3⟩
/-- names, by a list of pairs -/
def sg : List (Nat × Nat) → Nat → Nat
  | [], i => i
  | (a, b) :: l, i => bif Nat.beq a i then b else sg l i
end Fw
