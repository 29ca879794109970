/- A program logic over data: lists of cells; loads and stores of several cells. No program in sight. -/
import Derived.Test.YtbofdldkiooegaaFwB
namespace Fw
open Go Go.RowKit
set_option linter.unusedVariables false
set_option linter.unusedSimpArgs false

section
variable {β : Nat → Option Nat} {ok : Nat → Prop} {w w' : World}

theorem RMs.length : ∀ {ms : List M} {vs : List Value}, RMs ok w ms vs → ms.length = vs.length
  | [], vs, h => by simp only [RMs] at h; subst h; rfl
  | m :: ms, vs, h => by
    simp only [RMs] at h
    obtain ⟨u, us, rfl, _, _, h3⟩ := h
    simp [RMs.length h3]
theorem RDs.length : ∀ {ds : List D} {vs : List Value}, RDs β ok w ds vs → ds.length = vs.length
  | [], vs, h => by simp only [RDs] at h; subst h; rfl
  | m :: ms, vs, h => by
    simp only [RDs] at h
    obtain ⟨u, us, rfl, _, _, h3⟩ := h
    simp [RDs.length h3]

theorem RMs.drop : ∀ {ms : List M} {vs : List Value} (n : Nat), RMs ok w ms vs → RMs ok w (ms.drop n) (vs.drop n)
  | ms, vs, 0, h => by simpa using h
  | [], vs, n + 1, h => by simp only [RMs] at h; subst h; simp [RMs]
  | m :: ms, vs, n + 1, h => by
    simp only [RMs] at h
    obtain ⟨u, us, rfl, _, _, h3⟩ := h
    simpa using RMs.drop n h3
theorem RDs.drop : ∀ {ms : List D} {vs : List Value} (n : Nat), RDs β ok w ms vs → RDs β ok w (ms.drop n) (vs.drop n)
  | ms, vs, 0, h => by simpa using h
  | [], vs, n + 1, h => by simp only [RDs] at h; subst h; simp [RDs]
  | m :: ms, vs, n + 1, h => by
    simp only [RDs] at h
    obtain ⟨u, us, rfl, _, _, h3⟩ := h
    simpa using RDs.drop n h3
theorem RMs.take : ∀ {ms : List M} {vs : List Value} (n : Nat), RMs ok w ms vs → RMs ok w (ms.take n) (vs.take n)
  | ms, vs, 0, h => by simp [RMs]
  | [], vs, n + 1, h => by simp only [RMs] at h; subst h; simp [RMs]
  | m :: ms, vs, n + 1, h => by
    simp only [RMs] at h
    obtain ⟨u, us, rfl, h1, h2, h3⟩ := h
    simp only [List.take_succ_cons, RMs]
    exact ⟨u, us.take n, rfl, h1, h2, RMs.take n h3⟩
theorem RDs.take : ∀ {ms : List D} {vs : List Value} (n : Nat), RDs β ok w ms vs → RDs β ok w (ms.take n) (vs.take n)
  | ms, vs, 0, h => by simp [RDs]
  | [], vs, n + 1, h => by simp only [RDs] at h; subst h; simp [RDs]
  | m :: ms, vs, n + 1, h => by
    simp only [RDs] at h
    obtain ⟨u, us, rfl, h1, h2, h3⟩ := h
    simp only [List.take_succ_cons, RDs]
    exact ⟨u, us.take n, rfl, h1, h2, RDs.take n h3⟩
theorem RMs.append : ∀ {ms : List M} {vs : List Value} {ms' : List M} {vs' : List Value}, RMs ok w ms vs → RMs ok w ms' vs' → RMs ok w (ms ++ ms') (vs ++ vs')
  | [], vs, ms', vs', h, h' => by simp only [RMs] at h; subst h; simpa using h'
  | m :: ms, vs, ms', vs', h, h' => by
    simp only [RMs] at h
    obtain ⟨u, us, rfl, h1, h2, h3⟩ := h
    simp only [List.cons_append, RMs]
    exact ⟨u, us ++ vs', rfl, h1, h2, RMs.append h3 h'⟩
theorem RDs.append : ∀ {ms : List D} {vs : List Value} {ms' : List D} {vs' : List Value}, RDs β ok w ms vs → RDs β ok w ms' vs' → RDs β ok w (ms ++ ms') (vs ++ vs')
  | [], vs, ms', vs', h, h' => by simp only [RDs] at h; subst h; simpa using h'
  | m :: ms, vs, ms', vs', h, h' => by
    simp only [RDs] at h
    obtain ⟨u, us, rfl, h1, h2, h3⟩ := h
    simp only [List.cons_append, RDs]
    exact ⟨u, us ++ vs', rfl, h1, h2, RDs.append h3 h'⟩
theorem RMs.get : ∀ {ms : List M} {vs : List Value} {i : Nat} {m : M}, RMs ok w ms vs → ms[i]? = some m → ∃ u, vs[i]? = some u ∧ u.oneCell' = true ∧ RM ok w m u
  | [], vs, i, m, h, hi => by simp at hi
  | x :: ms, vs, 0, m, h, hi => by
    simp only [RMs] at h
    obtain ⟨u, us, rfl, h1, h2, h3⟩ := h
    simp at hi; subst hi
    exact ⟨u, rfl, h1, h2⟩
  | x :: ms, vs, i + 1, m, h, hi => by
    simp only [RMs] at h
    obtain ⟨u, us, rfl, h1, h2, h3⟩ := h
    simp at hi
    simpa using RMs.get h3 hi
theorem RDs.get : ∀ {ms : List D} {vs : List Value} {i : Nat} {m : D}, RDs β ok w ms vs → ms[i]? = some m → ∃ u, vs[i]? = some u ∧ u.oneCell' = true ∧ RD β ok w m u
  | [], vs, i, m, h, hi => by simp at hi
  | x :: ms, vs, 0, m, h, hi => by
    simp only [RDs] at h
    obtain ⟨u, us, rfl, h1, h2, h3⟩ := h
    simp at hi; subst hi
    exact ⟨u, rfl, h1, h2⟩
  | x :: ms, vs, i + 1, m, h, hi => by
    simp only [RDs] at h
    obtain ⟨u, us, rfl, h1, h2, h3⟩ := h
    simp at hi
    simpa using RDs.get h3 hi
theorem RDs.one : ∀ {ms : List D} {vs : List Value}, RDs β ok w ms vs → ∀ u ∈ vs, u.oneCell' = true
  | [], vs, h => by simp only [RDs] at h; subst h; simp
  | m :: ms, vs, h => by
    simp only [RDs] at h
    obtain ⟨u, us, rfl, h1, _, h3⟩ := h
    intro x hx
    rcases List.mem_cons.1 hx with rfl | hx
    · exact h1
    · exact RDs.one h3 x hx
theorem RMs.one : ∀ {ms : List M} {vs : List Value}, RMs ok w ms vs → ∀ u ∈ vs, u.oneCell' = true
  | [], vs, h => by simp only [RMs] at h; subst h; simp
  | m :: ms, vs, h => by
    simp only [RMs] at h
    obtain ⟨u, us, rfl, h1, _, h3⟩ := h
    intro x hx
    rcases List.mem_cons.1 hx with rfl | hx
    · exact h1
    · exact RMs.one h3 x hx

/-- data as slots -/
theorem RMs.rds : ∀ {ms : List M} {vs : List Value}, RMs ok w ms vs → RDs β ok w (ms.map .im) vs
  | [], vs, h => by simp only [RMs] at h; subst h; simp [RDs]
  | m :: ms, vs, h => by
    simp only [RMs] at h
    obtain ⟨u, us, rfl, h1, h2, h3⟩ := h
    simp only [List.map_cons, RDs]
    exact ⟨u, us, rfl, h1, by simpa only [RD] using h2, RMs.rds h3⟩

def imL : List D → Option (List M)
  | [] => some []
  | .im m :: ds => (imL ds).map (m :: ·)
  | _ => none
def toM : D → Option M
  | .im m => some m
  | .agg ds => (imL ds).map .agg
  | .tup ds => (imL ds).map .tup
  | _ => none
theorem imL_rms : ∀ {ds : List D} {ms : List M} {vs : List Value}, imL ds = some ms → RDs β ok w ds vs → RMs ok w ms vs
  | [], ms, vs, h, hr => by
    simp only [imL, Option.some.injEq] at h; subst h
    simp only [RDs] at hr; subst hr; simp [RMs]
  | .im m :: ds, ms, vs, h, hr => by
    simp only [imL, Option.map_eq_some_iff] at h
    obtain ⟨ms', h1, rfl⟩ := h
    simp only [RDs] at hr
    obtain ⟨u, us, rfl, h2, h3, h4⟩ := hr
    simp only [RMs]
    exact ⟨u, us, rfl, h2, by simpa only [RD] using h3, imL_rms h1 h4⟩
  | .agg _ :: _, _, _, h, _ => by simp [imL] at h
  | .tup _ :: _, _, _, h, _ => by simp [imL] at h
  | .ptr _ _ :: _, _, _, h, _ => by simp [imL] at h
  | .ep _ :: _, _, _, h, _ => by simp [imL] at h
  | .row _ _ _ :: _, _, _, h, _ => by simp [imL] at h
  | .fn _ _ :: _, _, _, h, _ => by simp [imL] at h
  | .iface _ _ :: _, _, _, h, _ => by simp [imL] at h
theorem imL_rmt : ∀ {ds : List D} {ms : List M} {vs : List Value}, imL ds = some ms → RDt β ok w ds vs → RMt ok w ms vs
  | [], ms, vs, h, hr => by
    simp only [imL, Option.some.injEq] at h; subst h
    simp only [RDt] at hr; subst hr; simp [RMt]
  | .im m :: ds, ms, vs, h, hr => by
    simp only [imL, Option.map_eq_some_iff] at h
    obtain ⟨ms', h1, rfl⟩ := h
    simp only [RDt] at hr
    obtain ⟨u, us, rfl, h3, h4⟩ := hr
    simp only [RMt]
    exact ⟨u, us, rfl, by simpa only [RD] using h3, imL_rmt h1 h4⟩
  | .agg _ :: _, _, _, h, _ => by simp [imL] at h
  | .tup _ :: _, _, _, h, _ => by simp [imL] at h
  | .ptr _ _ :: _, _, _, h, _ => by simp [imL] at h
  | .ep _ :: _, _, _, h, _ => by simp [imL] at h
  | .row _ _ _ :: _, _, _, h, _ => by simp [imL] at h
  | .fn _ _ :: _, _, _, h, _ => by simp [imL] at h
  | .iface _ _ :: _, _, _, h, _ => by simp [imL] at h
theorem toM_rm {d : D} {m : M} {v : Value} (h : toM d = some m) (hr : RD β ok w d v) : RM ok w m v := by
  cases d with
  | im m' => simp only [toM, Option.some.injEq] at h; subst h; simpa only [RD] using hr
  | agg ds =>
    simp only [toM, Option.map_eq_some_iff] at h
    obtain ⟨ms, h1, rfl⟩ := h
    simp only [RD] at hr
    obtain ⟨us, rfl, h2⟩ := hr
    simp only [RM]
    exact ⟨us, rfl, imL_rms h1 h2⟩
  | tup ds =>
    simp only [toM, Option.map_eq_some_iff] at h
    obtain ⟨ms, h1, rfl⟩ := h
    simp only [RD] at hr
    obtain ⟨us, rfl, h2⟩ := hr
    simp only [RM]
    exact ⟨us, rfl, imL_rmt h1 h2⟩
  | _ => simp [toM] at h

/-- a struct of cells: data where all are -/
def mkAgg (ds : List D) : D := match imL ds with
  | some ms => .im (.agg ms)
  | none => .agg ds
theorem mkAgg_rd {ds : List D} {us : Array Value} (h : RDs β ok w ds us.toList) : RD β ok w (mkAgg ds) (.agg us) := by
  unfold mkAgg
  cases he : imL ds with
  | some ms =>
    simp only [RD, RM]
    exact ⟨us, rfl, imL_rms he h⟩
  | none =>
    simp only [RD]
    exact ⟨us, rfl, h⟩

/-- the cells of what a slot holds -/
def mcells : M → List M
  | .agg cs => cs
  | m => [m]
def dcells : D → List D
  | .agg ds => ds
  | .im (.agg ms) => ms.map .im
  | d => [d]
def whole : D → Bool
  | .tup _ => false
  | .im (.tup _) => false
  | _ => true
def mwhole : M → Bool
  | .tup _ => false
  | _ => true

theorem RM.cells {m : M} {v : Value} (hw : mwhole m = true) (h : RM ok w m v) : RMs ok w (mcells m) v.cells.toList := by
  have one : ∀ (v : Value), v.oneCell' = true → v.cells = #[v] := fun v hv => by cases v <;> first | rfl | simp [Value.oneCell'] at hv
  have fin : ∀ (m : M) (v : Value), v.oneCell' = true → RM ok w m v → RMs ok w [m] v.cells.toList := fun m v hv h => by
    rw [one v hv]; simp only [RMs]; exact ⟨v, [], rfl, hv, h, rfl⟩
  cases m with
  | agg cs =>
    simp only [RM] at h
    obtain ⟨us, rfl, h1⟩ := h
    simpa only [mcells, Value.cells] using h1
  | tup cs => simp [mwhole] at hw
  | int k n => refine fin _ _ ?_ h; simp only [RM] at h; subst h; rfl
  | bool b => refine fin _ _ ?_ h; simp only [RM] at h; subst h; rfl
  | str b => refine fin _ _ ?_ h; simp only [RM] at h; subst h; rfl
  | nil => refine fin _ _ ?_ h; simp only [RM] at h; subst h; rfl
  | seq n cs => refine fin _ _ ?_ h; simp only [RM] at h; obtain ⟨a, cap, rfl, _⟩ := h; rfl
  | fn f => refine fin _ _ ?_ h; simp only [RM] at h; subst h; rfl
  | nilp => refine fin _ _ ?_ h; simp only [RM] at h; subst h; rfl
  | nilf => refine fin _ _ ?_ h; simp only [RM] at h; subst h; rfl
  | nili => refine fin _ _ ?_ h; simp only [RM] at h; subst h; rfl
  | iface t m => refine fin _ _ ?_ h; simp only [RM] at h; obtain ⟨u, rfl, _⟩ := h; rfl

theorem RD.cells {d : D} {v : Value} (hw : whole d = true) (h : RD β ok w d v) : RDs β ok w (dcells d) v.cells.toList := by
  have one : ∀ (v : Value), v.oneCell' = true → v.cells = #[v] := fun v hv => by cases v <;> first | rfl | simp [Value.oneCell'] at hv
  have fin : ∀ (d : D) (v : Value), v.oneCell' = true → RD β ok w d v → RDs β ok w [d] v.cells.toList := fun m v hv h => by
    rw [one v hv]; simp only [RDs]; exact ⟨v, [], rfl, hv, h, rfl⟩
  cases d with
  | im m =>
    simp only [RD] at h
    have hm : mwhole m = true := by cases m <;> simp_all [whole, mwhole]
    have := RMs.rds (β := β) (RM.cells hm h)
    cases m <;> simpa only [dcells, mcells, List.map_cons, List.map_nil] using this
  | agg ds =>
    simp only [RD] at h
    obtain ⟨us, rfl, h1⟩ := h
    simpa only [dcells, Value.cells] using h1
  | tup ds => simp [whole] at hw
  | ptr id off => refine fin _ _ ?_ h; simp only [RD] at h; obtain ⟨b, _, rfl⟩ := h; rfl
  | ep cs => refine fin _ _ ?_ h; simp only [RD] at h; obtain ⟨b, off, rfl, _⟩ := h; rfl
  | row id n sz => refine fin _ _ ?_ h; simp only [RD] at h; rcases h with ⟨rfl, _⟩ | ⟨b, cap, _, rfl, _⟩ <;> rfl
  | fn f caps => refine fin _ _ ?_ h; simp only [RD] at h; obtain ⟨us, rfl, _⟩ := h; rfl
  | iface t d => refine fin _ _ ?_ h; simp only [RD] at h; obtain ⟨u, rfl, _⟩ := h; rfl

/-! ### cells in memory -/

theorem add_off (b off i : Nat) : ({ block := b, off := off, spot := none } : Addr).add i = ⟨b, off + i, none⟩ := by
  unfold Addr.add
  split
  · rename_i h; subst h; rfl
  · rfl

theorem cell_get {b : Nat} {us : Array Value} {e : TypeId} {fr : Nat × Nat} (h : w.heap[b]? = some (.cells us e fr)) (i : Nat) : w.cell? ⟨b, i, none⟩ = us[i]? := cell_of_row w b i us e fr h

theorem RMc.drop : ∀ {ms : List M} {b off : Nat} (n : Nat), RMc ok w b off ms → RMc ok w b (off + n) (ms.drop n)
  | ms, b, off, 0, h => by simpa using h
  | [], b, off, n + 1, h => by simp [RMc]
  | m :: ms, b, off, n + 1, h => by
    simp only [RMc] at h
    have := RMc.drop (b := b) n h.2
    rw [show off + (n + 1) = off + 1 + n by omega]
    simpa using this
theorem RMc.get : ∀ {ms : List M} {b off i : Nat} {m : M}, RMc ok w b off ms → ms[i]? = some m → ∃ u, w.cell? ⟨b, off + i, none⟩ = some u ∧ u.oneCell' = true ∧ RM ok w m u
  | [], b, off, i, m, h, hi => by simp at hi
  | x :: ms, b, off, 0, m, h, hi => by
    simp only [RMc] at h
    simp at hi; subst hi
    simpa using h.1
  | x :: ms, b, off, i + 1, m, h, hi => by
    simp only [RMc] at h
    simp at hi
    have := RMc.get (b := b) h.2 hi
    rwa [show off + 1 + i = off + (i + 1) by omega] at this
theorem RMc.take : ∀ {ms : List M} {b off : Nat} (n : Nat), RMc ok w b off ms → RMc ok w b off (ms.take n)
  | ms, b, off, 0, h => by simp [RMc]
  | [], b, off, n + 1, h => by simp [RMc]
  | m :: ms, b, off, n + 1, h => by
    simp only [RMc] at h
    simp only [List.take_succ_cons, RMc]
    exact ⟨h.1, RMc.take n h.2⟩
/-- the cells of a row that is known -/
theorem RMs.rmc {b : Nat} {us : Array Value} {e : TypeId} {fr : Nat × Nat} (h : w.heap[b]? = some (.cells us e fr)) : ∀ {ms : List M} {off : Nat} {k : Nat}, ms.length ≤ k → RMs ok w ms ((us.toList.drop off).take k |>.take ms.length) → RMc ok w b off ms
  | [], off, k, hk, hr => by simp [RMc]
  | m :: ms, off, k, hk, hr => by
    simp only [RMs] at hr
    obtain ⟨u, vs, h1, h2, h3, h4⟩ := hr
    simp at hk
    have hlen : off < us.size := by
      rcases Nat.lt_or_ge off us.size with g | g
      · exact g
      · rw [List.drop_eq_nil_of_le (by simpa using g)] at h1; simp at h1
    have hd : us.toList.drop off = us[off] :: us.toList.drop (off + 1) := by
      rw [List.drop_eq_getElem_cons (by simpa using hlen)]; simp
    rw [hd] at h1
    obtain ⟨k', rfl⟩ : ∃ k', k = k' + 1 := ⟨k - 1, by omega⟩
    simp only [List.take_succ_cons, List.length_cons, List.cons.injEq] at h1
    simp only [RMc]
    refine ⟨⟨u, ?_, h2, h3⟩, RMs.rmc h (k := k') (by omega) ?_⟩
    · rw [cell_get h, Array.getElem?_eq_getElem hlen, h1.1]
    · rw [h1.2]; exact h4

theorem run_loadCellsFrom {P : Program} (b off : Nat) : ∀ (n i : Nat) (vs : List Value) (acc : Array Value), vs.length = n → (∀ j u, vs[j]? = some u → w.cell? ⟨b, off + i + j, none⟩ = some u) →
    (loadCellsFrom ⟨b, off, none⟩ i n acc).run P w = .ok (acc ++ vs.toArray) w
  | 0, i, vs, acc, hl, hc => by
    have : vs = [] := List.eq_nil_of_length_eq_zero hl
    subst this
    simp [loadCellsFrom]
  | n + 1, i, vs, acc, hl, hc => by
    match vs, hl with
    | u :: vs, hl =>
      have h0 := hc 0 u rfl
      rw [Nat.add_zero] at h0
      have ih := run_loadCellsFrom (P := P) b off n (i + 1) vs (acc.push u) (by simpa using hl) (fun j x hx => by
        have := hc (j + 1) x (by simpa using hx)
        rwa [show off + i + (j + 1) = off + (i + 1) + j by omega] at this)
      simp only [loadCellsFrom, load, Sem.run_bind, Sem.run, add_off, h0, Result.andThen_ok, ih]
      simp
theorem run_loadCells {P : Program} {b off : Nat} {vs : List Value} {n : Nat} (hl : vs.length = n) (hc : ∀ j u, vs[j]? = some u → w.cell? ⟨b, off + j, none⟩ = some u) :
    (loadCells ⟨b, off, none⟩ n).run P w = .ok vs.toArray w := by
  unfold loadCells
  rw [run_loadCellsFrom b off n 0 vs #[] hl (by simpa using hc)]
  simp

theorem RMc.vals : ∀ {ms : List M} {b off : Nat}, RMc ok w b off ms → ∃ vs : List Value, vs.length = ms.length ∧ (∀ j u, vs[j]? = some u → w.cell? ⟨b, off + j, none⟩ = some u) ∧ RMs ok w ms vs
  | [], b, off, h => ⟨[], rfl, by simp, by simp [RMs]⟩
  | m :: ms, b, off, h => by
    simp only [RMc] at h
    obtain ⟨⟨u, h1, h2, h3⟩, h4⟩ := h
    obtain ⟨vs, g1, g2, g3⟩ := RMc.vals h4
    refine ⟨u :: vs, by simp [g1], ?_, by simp only [RMs]; exact ⟨u, vs, rfl, h2, h3, g3⟩⟩
    intro j x hx
    cases j with
    | zero => simp at hx; subst hx; simpa using h1
    | succ j =>
      simp at hx
      have := g2 j x hx
      rwa [show off + 1 + j = off + (j + 1) by omega] at this

/-- several cells of one block are written -/
def spliceV (us : List Value) (off : Nat) (vs : List Value) : List Value := us.take off ++ vs ++ us.drop (off + vs.length)
def splice {α : Type} (us : List α) (off : Nat) (vs : List α) : List α := us.take off ++ vs ++ us.drop (off + vs.length)

theorem RDs.splice {ds es : List D} {us vs : List Value} {off : Nat} (h : RDs β ok w ds us) (h' : RDs β ok w es vs) : RDs β ok w (splice ds off es) (splice us off vs) := by
  unfold Fw.splice
  rw [h'.length]
  exact ((h.take off).append h').append (h.drop _)
theorem RMs.splice {ds es : List M} {us vs : List Value} {off : Nat} (h : RMs ok w ds us) (h' : RMs ok w es vs) : RMs ok w (splice ds off es) (splice us off vs) := by
  unfold Fw.splice
  rw [h'.length]
  exact ((h.take off).append h').append (h.drop _)

theorem splice_length {α : Type} {us : List α} {off : Nat} {vs : List α} (h : off + vs.length ≤ us.length) : (splice us off vs).length = us.length := by
  unfold splice; simp; omega

theorem run_storeCells {P : Program} {b : Nat} {e : TypeId} : ∀ (vs : List Value) (w : World) (us : Array Value) (off i : Nat), w.heap[b]? = some (.cells us e (0, 0)) → off + i + vs.length ≤ us.size → (∀ v ∈ vs, v.oneCell' = true) →
    ∃ w', (storeCells ⟨b, off, none⟩ vs i).run P w = .ok () w' ∧ Turned b w w' ∧ w'.heap[b]? = some (.cells (splice us.toList (off + i) vs).toArray e (0, 0))
  | [], w, us, off, i, hb, hl, ho => by
    refine ⟨w, by simp [storeCells], ⟨rfl, rfl, rfl, rfl, fun _ _ => rfl, fun us e h => ⟨us, e, h, rfl⟩⟩, ?_⟩
    rw [hb]; simp [splice]
  | v :: vs, w, us, off, i, hb, hl, ho => by
    simp only [List.length_cons] at hl
    have hv := ho v (by simp)
    have hcell : w.cell? ⟨b, off + i, none⟩ = some us[off + i] := by rw [cell_get hb, Array.getElem?_eq_getElem (by omega)]
    have hfz : w.frozen? ⟨b, off + i, none⟩ = false := by simp [World.frozen?, hb]
    have hset : (w.setCell ⟨b, off + i, none⟩ v).heap[b]? = some (.cells (us.setIfInBounds (off + i) v) e (0, 0)) := by
      simp [World.setCell, Array.getElem?_modify, hb]
    obtain ⟨w', h1, h2, h3⟩ := run_storeCells (P := P) (b := b) (e := e) vs (w.setCell ⟨b, off + i, none⟩ v) (us.setIfInBounds (off + i) v) off (i + 1) hset (by simp; omega) (fun x hx => ho x (by simp [hx]))
    refine ⟨w', ?_, ?_, ?_⟩
    · simp only [storeCells, Sem.run_bind, add_off, run_store P w _ v _ hv, hcell, hfz, Result.andThen_ok]
      simpa using h1
    · have hn : ∀ k, k ≠ b → (w.setCell ⟨b, off + i, none⟩ v).heap[k]? = w.heap[k]? := fun k hk => Below.heap_setCell w ⟨b, off + i, none⟩ v k hk
      refine ⟨h2.os, h2.tape, h2.output, by rw [h2.size]; simp [World.setCell], fun k hk => (h2.block k hk).trans (hn k hk), fun us0 e0 h0 => ?_⟩
      rw [hb] at h0
      simp only [Option.some.injEq, Obj.cells.injEq] at h0
      obtain ⟨rfl, rfl, _⟩ := h0
      refine ⟨_, _, h3, ?_⟩
      simp only [List.size_toArray]
      rw [splice_length (by simp; omega)]; simp
    · rw [h3]
      congr 2
      unfold splice
      refine congrArg List.toArray ?_
      apply List.ext_getElem?
      intro j
      simp only [Array.toList_setIfInBounds, List.length_cons]
      rcases Nat.lt_trichotomy j (off + i) with g | g | g
      · rw [List.getElem?_append_left (by simp; omega), List.getElem?_append_left (by simp; omega), List.getElem?_append_left (by simp; omega), List.getElem?_append_left (by simp; omega)]
        rw [List.getElem?_take_of_lt (by omega), List.getElem?_take_of_lt (by omega), List.getElem?_set_ne (by omega)]
      · subst g
        rw [List.getElem?_append_left (by simp; omega), List.getElem?_append_left (by simp; omega), List.getElem?_append_left (by simp; omega)]
        rw [List.getElem?_take_of_lt (by omega), List.getElem?_append_right (by simp; omega)]
        simp [List.length_take, show min (off + i) us.size = off + i by omega]
        rw [List.getElem?_eq_getElem (by simp; omega)]
        simp
      · rcases Nat.lt_or_ge j (off + i + 1 + vs.length) with g2 | g2
        · rw [List.getElem?_append_left (by simp; omega), List.getElem?_append_right (by simp; omega), List.getElem?_append_left (by simp; omega), List.getElem?_append_right (by simp; omega)]
          simp only [List.length_take, List.length_set, Array.length_toList]
          rw [show min (off + (i + 1)) us.size = off + i + 1 by omega, show min (off + i) us.size = off + i by omega]
          obtain ⟨q, rfl⟩ : ∃ q, j = off + i + 1 + q := ⟨j - (off + i + 1), by omega⟩
          rw [show off + i + 1 + q - (off + i + 1) = q by omega, show off + i + 1 + q - (off + i) = q + 1 by omega]
          simp
        · rw [List.getElem?_append_right (by simp; omega), List.getElem?_append_right (by simp; omega)]
          simp only [List.length_append, List.length_take, List.length_set, Array.length_toList, List.length_cons, List.getElem?_drop]
          rw [show min (off + (i + 1)) us.size = off + i + 1 by omega, show min (off + i) us.size = off + i by omega]
          rw [List.getElem?_set_ne (by omega)]
          congr 1
          omega

end
end Fw
