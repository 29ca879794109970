/- Data as the form reads it, for the logic over data: shapes of types; what comes in is data. No program in sight. -/
import Derived.Test.YtbofdldkiooegaaFwO
import Derived.ProofKit
import Derived.OpenShut
import Derived.ShutString
import Derived.ChangeOld
namespace Fw
open Go Go.RowKit Go.ChangeShapes Go.WideShapes Go.ChangeAt
open Go.ChangeMaps (open_string shut_string)
set_option linter.unusedVariables false
set_option linter.unusedSimpArgs false

inductive Sh where
  | int (k : IntKind)
  | bool
  | str
  | sl (e : Sh)
  | st (fs : List Sh)

/-- fields lie one behind the other -/
def contig (P : Program) : List Field → Nat → Bool
  | [], _ => true
  | f :: fs, off => f.offset == off && contig P fs (off + P.cellsOf f.type)
def fieldsEnd (P : Program) : List Field → Nat → Nat
  | [], off => off
  | f :: fs, off => fieldsEnd P fs (off + P.cellsOf f.type)
def shL (g : TypeId → Option Sh) : List Field → Option (List Sh)
  | [] => some []
  | f :: fs => match g f.type with
    | some s => (shL g fs).map (s :: ·)
    | none => none
def shOf (P : Program) : Nat → TypeId → Option Sh
  | 0, _ => none
  | n + 1, t => match P.underlying t with
    | some (.int k) => some (.int k)
    | some .bool => some .bool
    | some .string => some .str
    | some (.slice e) => (shOf P n e).map .sl
    | some (.struct fs) => if (contig P fs.toList 0 && fieldsEnd P fs.toList 0 == P.cellsOf t) = true then (shL (shOf P n) fs.toList).map .st else none
    | _ => none

mutual
/-- cells of a shape -/
def Cells : Sh → List M → Prop
  | .int k, ms => ∃ n, ms = [.int k n] ∧ (Lit.int k n).wf = true
  | .bool, ms => ∃ b, ms = [.bool b]
  | .str, ms => ∃ s, ms = [.str s] ∧ s.length ≤ maxLen
  | .sl e, ms => ∃ css : List (List M), ms = [.seq css.length css.flatten] ∧ css.length ≤ maxLen ∧ ∀ c ∈ css, Cells e c
  | .st fs, ms => ∃ css : List (List M), ms = css.flatten ∧ CellsL fs css
def CellsL : List Sh → List (List M) → Prop
  | [], css => css = []
  | f :: fs, css => ∃ c cs, css = c :: cs ∧ Cells f c ∧ CellsL fs cs
end
/-- a value of a shape -/
def ValM : Sh → M → Prop
  | .st fs, m => ∃ ms, m = .agg ms ∧ Cells (.st fs) ms
  | s, m => Cells s [m]
def ValL : List Sh → List M → Prop
  | [], ms => ms = []
  | s :: ss, ms => ∃ m ms', ms = m :: ms' ∧ ValM s m ∧ ValL ss ms'

section
variable {H : Type} {enc : TypeId × Value → H} {P : Program} {w : World}
def inW (w : World) : Nat → Prop := fun b => b < w.heap.size

theorem RMc.append {ok : Nat → Prop} {b : Nat} : ∀ {ms ms' : List M} {off : Nat}, RMc ok w b off ms → RMc ok w b (off + ms.length) ms' → RMc ok w b off (ms ++ ms')
  | [], ms', off, h, h' => by simpa using h'
  | m :: ms, ms', off, h, h' => by
    simp only [RMc, List.cons_append] at h ⊢
    exact ⟨h.1, RMc.append h.2 (by rw [show off + 1 + ms.length = off + (m :: ms).length by simp; omega]; exact h')⟩
theorem mapM_cells {α β : Type} {f : α → Option β} : ∀ {l : List α} {r : List β}, l.mapM f = some r → r.length = l.length ∧ ∀ (i : Nat) (x : α), l[i]? = some x → ∃ y : β, r[i]? = some y ∧ f x = some y := by
  intro l r h
  refine ⟨by simpa using mapM_some_length h, fun i x hx => ?_⟩
  have := mapM_some_get h i x hx
  have hl : i < r.length := by
    rw [mapM_some_length h]
    rcases Nat.lt_or_ge i l.length with h1 | h1
    · exact h1
    · rw [List.getElem?_eq_none h1] at hx; cases hx
  exact ⟨r[i], List.getElem?_eq_getElem hl, by rw [this, List.getElem?_eq_getElem hl]⟩
/-- cells that lie at an address, as data -/
theorem rmc_of {b off : Nat} : ∀ {ms : List M} {vs : List Value} {o : Nat}, RMs (inW w) w ms vs → (∀ i v, vs[i]? = some v → w.cell? ⟨b, off + o + i, none⟩ = some v) → RMc (inW w) w b (off + o) ms
  | [], vs, o, h, hc => by simp only [RMc]
  | m :: ms, vs, o, h, hc => by
    simp only [RMs] at h
    obtain ⟨u, us, rfl, h1, h2, h3⟩ := h
    simp only [RMc]
    refine ⟨⟨u, by simpa using hc 0 u rfl, h1, h2⟩, ?_⟩
    have := rmc_of (b := b) (off := off) (o := o + 1) h3 (fun i v hv => by
      have := hc (i + 1) v (by simpa using hv)
      rw [show off + (o + 1) + i = off + o + (i + 1) by omega]; exact this)
    simpa [Nat.add_assoc] using this

theorem cells_of {base : Nat} {a : Addr} {n : Nat} {vs : List Value} (h : w.cells? base a n = some vs) : vs.length = n ∧ ∀ i v, vs[i]? = some v → w.cell? (a.add i) = some v := by
  unfold World.cells? at h
  split at h
  · obtain ⟨h1, h2⟩ := mapM_cells h
    have hn : vs.length = n := by simpa using h1
    refine ⟨hn, fun i v hv => ?_⟩
    have hi : i < n := by
      rcases Nat.lt_or_ge i n with h3 | h3
      · exact h3
      · rw [List.getElem?_eq_none (by omega)] at hv; cases hv
    obtain ⟨y, hy, hf⟩ := h2 i i (by simp [hi])
    rw [hv] at hy; cases hy
    exact hf
  · cases h

/-- elements, one behind the other -/
theorem elems_of {e : Sh} {sz : Nat} {a : Addr} {el : Nat → List Value → Prop} (ih : ∀ vs i, el i vs → ∃ ms, Cells e ms ∧ RMs (inW w) w ms vs) :
    ∀ (len : Nat), (∀ i, i < len → ∃ vs, w.cells? 0 (a.add (i * sz)) sz = some vs ∧ el i vs) →
      ∃ css : List (List M), css.length = len ∧ css.flatten.length = len * sz ∧ (∀ c ∈ css, Cells e c) ∧ (css.flatten ≠ [] → ∃ b off, a = ⟨b, off, none⟩ ∧ inW w b) ∧ ∀ b off, a = ⟨b, off, none⟩ → RMc (inW w) w b off css.flatten
  | 0, _ => ⟨[], rfl, by simp, by simp, by simp, fun _ _ _ => by simp [RMc]⟩
  | len + 1, h => by
    obtain ⟨css, h1, h2, h3, h4, h5⟩ := elems_of ih len (fun i hi => h i (by omega))
    obtain ⟨vs, hv1, hv2⟩ := h len (by omega)
    obtain ⟨ms, hm1, hm2⟩ := ih vs len hv2
    obtain ⟨hl, hc⟩ := cells_of hv1
    have hml : ms.length = sz := by rw [RMs.length hm2, hl]
    refine ⟨css ++ [ms], by simp [h1], by simp only [List.flatten_append, List.length_append, h2]; simp [hml, Nat.succ_mul], ?_, ?_, ?_⟩
    · intro c hc'
      rcases List.mem_append.1 hc' with h6 | h6
      · exact h3 c h6
      · rw [List.mem_singleton.1 h6]; exact hm1
    · intro hne
      by_cases hf : css.flatten = []
      · have hz : len * sz = 0 := by rw [← h2, hf]; rfl
        have hms : ms ≠ [] := fun hh => hne (by rw [List.flatten_append, hf, hh]; rfl)
        have hsz : 0 < sz := by rw [← hml]; exact List.length_pos_iff.2 hms
        obtain ⟨v, hv⟩ : ∃ v, vs[0]? = some v := ⟨vs[0]'(by omega), List.getElem?_eq_getElem (by omega)⟩
        have := hc 0 v hv
        rw [hz] at this
        have e1 : (a.add 0).add 0 = a := by simp [Addr.add]
        rw [e1] at this
        have hs := World.cell?_spot this
        obtain ⟨b, off, s⟩ := a
        subst hs
        exact ⟨b, off, rfl, World.block_lt_of_cell? w _ this⟩
      · exact h4 hf
    · intro b off ha
      subst ha
      rw [List.flatten_append]
      refine RMc.append (h5 b off rfl) ?_
      have hh := rmc_of (w := w) (b := b) (off := off) (o := len * sz) hm2 (fun i v hv => by
        have := hc i v hv
        have e2 : (Addr.add ⟨b, off, none⟩ (len * sz)).add i = ⟨b, off + len * sz + i, none⟩ := by
          unfold Addr.add
          split <;> split <;> simp_all <;> omega
        rw [← e2]; exact this)
      rw [h2]
      simpa using hh

theorem parts_of {el : TypeId → List Value → Prop} {g : TypeId → Option Sh} (ih : ∀ t vs s, g t = some s → el t vs → ∃ ms, Cells s ms ∧ RMs (inW w) w ms vs) :
    ∀ {fs : List Field} {ss : List Sh} {off : Nat} {cs : List Value}, shL g fs = some ss → contig P fs off = true → fieldsEnd P fs off = cs.length → off ≤ cs.length → (∀ f ∈ fs, el f.type ((cs.drop f.offset).take (P.cellsOf f.type))) →
      ∃ css : List (List M), CellsL ss css ∧ RMs (inW w) w css.flatten (cs.drop off)
  | [], ss, off, cs, h, hc, he, ho, hf => by
    simp only [shL, Option.some.injEq] at h
    subst h
    simp only [fieldsEnd] at he
    refine ⟨[], by simp only [CellsL], ?_⟩
    rw [he]; simp [RMs]
  | f :: fs, ss, off, cs, h, hc, he, ho, hf => by
    simp only [shL] at h
    cases hg : g f.type with
    | none => rw [hg] at h; cases h
    | some s =>
      rw [hg] at h
      simp only [Option.map_eq_some_iff] at h
      obtain ⟨ss', hss, rfl⟩ := h
      simp only [contig, Bool.and_eq_true, beq_iff_eq] at hc
      simp only [fieldsEnd] at he
      have hle : ∀ (fs : List Field) (o : Nat), o ≤ fieldsEnd P fs o := by
        intro fs
        induction fs with
        | nil => intro o; exact Nat.le_refl _
        | cons x xs ihx => intro o; exact Nat.le_trans (Nat.le_add_right _ _) (ihx _)
      have hoff : off + P.cellsOf f.type ≤ cs.length := by rw [← he]; exact hle _ _
      obtain ⟨css, h1, h2⟩ := parts_of (el := el) ih hss hc.2 he hoff (fun f' hf' => hf f' (by simp [hf']))
      obtain ⟨ms, h3, h4⟩ := ih _ _ _ hg (hf f (by simp))
      rw [hc.1] at h4
      refine ⟨ms :: css, ⟨ms, css, rfl, h3, h1⟩, ?_⟩
      rw [List.flatten_cons]
      have := RMs.append h4 h2
      rw [show cs.drop (off + P.cellsOf f.type) = (cs.drop off).drop (P.cellsOf f.type) by rw [List.drop_drop], List.take_append_drop] at this
      exact this

theorem sh_cells : ∀ (n : Nat) {fuel : Nat} {t : TypeId} {s : Sh} {cs : List Value} {x : DataW H × List MemPlace}, shOf P n t = some s → DataW.trod enc P w 0 (fun _ => true) true fuel t cs = some x → ∃ ms, Cells s ms ∧ RMs (inW w) w ms cs
  | 0, _, _, _, _, _, h, _ => by simp [shOf] at h
  | n + 1, fuel, t, s, cs, x, h, hd => by
    simp only [shOf] at h
    split at h
    · rename_i k hk
      cases h
      obtain ⟨i, rfl, _, hw⟩ := DataW.trod_int hk hd
      exact ⟨[.int k i], by simp only [Cells]; exact ⟨i, rfl, hw⟩, by simp only [RMs, RM]; exact ⟨_, [], rfl, rfl, rfl, rfl⟩⟩
    · rename_i hk
      cases h
      obtain ⟨b, rfl, _⟩ := DataW.trod_bool hk hd
      exact ⟨[.bool b], by simp only [Cells]; exact ⟨b, rfl⟩, by simp only [RMs, RM]; exact ⟨_, [], rfl, rfl, rfl, rfl⟩⟩
    · rename_i hk
      cases h
      obtain ⟨b, rfl, _, hs⟩ := DataW.trod_string hk hd
      refine ⟨[.str b.data.toList], by simp only [Cells]; exact ⟨_, rfl, by simpa using hs⟩, by simp only [RMs, RM]; exact ⟨_, [], rfl, rfl, rfl, rfl⟩⟩
    · rename_i e hk
      simp only [Option.map_eq_some_iff] at h
      obtain ⟨se, he, rfl⟩ := h
      rcases DataW.trod_slice hk hd with ⟨rfl, _⟩ | ⟨a, len, cap, elems, rest, m, rfl, rfl, rfl, _, hle, hcap, hlen, hel, _, _⟩
      · refine ⟨[.seq 0 []], by simp only [Cells]; exact ⟨[], rfl, Nat.zero_le _, by simp⟩, ?_⟩
        simp only [RMs, RM]
        exact ⟨_, [], rfl, rfl, ⟨none, 0, rfl, Nat.le_refl _, Nat.zero_le _, fun _ => by simp, fun h => absurd rfl h, fun _ _ h => by cases h⟩, rfl⟩
      · obtain ⟨css, h1, h2, h3, h4, h5⟩ := elems_of (w := w) (e := se) (sz := P.cellsOf e) (a := a) (el := fun _ vs => ∃ y, DataW.trod enc P w 0 (fun _ => true) true m e vs = some y)
          (fun vs i ⟨y, hy⟩ => sh_cells n he hy) len (fun i hi => by
            have := hel i hi
            rw [List.getElem?_eq_getElem (by omega)] at this
            cases hc : w.cells? 0 (a.add (i * P.cellsOf e)) (P.cellsOf e) with
            | none => rw [hc] at this; cases this
            | some vs =>
              rw [hc] at this
              exact ⟨vs, rfl, _, this⟩)
        refine ⟨[.seq css.length css.flatten], by simp only [Cells]; exact ⟨css, rfl, by omega, h3⟩, ?_⟩
        simp only [RMs, RM]
        refine ⟨_, [], rfl, rfl, ⟨some a, cap, by rw [h1], by omega, hcap, ?_, ?_, ?_⟩, rfl⟩
        · intro h0
          rw [← List.length_eq_zero_iff, h2, ← h1, h0]; simp
        · intro hne
          obtain ⟨b, off, rfl, hb⟩ := h4 hne
          exact ⟨b, off, rfl, hb⟩
        · intro b off ha
          cases ha
          exact h5 b off rfl
    · rename_i fs hk
      split at h
      · rename_i hct
        simp only [Bool.and_eq_true, beq_iff_eq] at hct
        simp only [Option.map_eq_some_iff] at h
        obtain ⟨ss, hss, rfl⟩ := h
        obtain ⟨xs, m, rfl, rfl, hl, hxl, hx⟩ := DataW.trod_struct hk hd
        obtain ⟨css, h1, h2⟩ := parts_of (P := P) (w := w) (el := fun t vs => ∃ y, DataW.trod enc P w 0 (fun _ => true) true m t vs = some y) (g := shOf P n) (fun t vs s hs ⟨y, hy⟩ => sh_cells n hs hy) (off := 0) (cs := cs) hss hct.1 (by rw [hct.2, hl]) (Nat.zero_le _) (fun f hf => by
          obtain ⟨i, hi⟩ := List.getElem?_of_mem hf
          have := hx i f (by simpa using hi)
          have hlt : i < xs.length := by
            rw [hxl]
            rcases Nat.lt_or_ge i fs.size with h6 | h6
            · exact h6
            · rw [List.getElem?_eq_none (by simpa using h6)] at hi; cases hi
          rw [List.getElem?_eq_getElem hlt] at this
          exact ⟨_, this⟩)
        exact ⟨css.flatten, by simp only [Cells]; exact ⟨css, rfl, h1⟩, by simpa using h2⟩
      · cases h
    · cases h

theorem sh_val {n : Nat} {t : TypeId} {s : Sh} {v : Value} {d : DataW H} {p : List MemPlace} {r : Reach} {b0 : Nat} (h : shOf P n t = some s) (hd : DataW.Trod enc P w 0 (fun _ => true) true t v d p) (hv : Value.okWide P w r b0 t v) : ∃ m, ValM s m ∧ RM (inW w) w m v := by
  obtain ⟨fuel, hf⟩ := hd
  obtain ⟨ms, h1, h2⟩ := sh_cells n h hf
  cases n with
  | zero => simp [shOf] at h
  | succ n =>
  have one : v.oneCell' = true → ∃ m, ms = [m] ∧ RM (inW w) w m v := by
    intro ho
    have hc : v.cells.toList = [v] := by cases v <;> simp_all [Value.cells, Value.oneCell']
    rw [hc] at h2
    cases ms with
    | nil => simp only [RMs] at h2; cases h2
    | cons m ms' =>
      simp only [RMs] at h2
      obtain ⟨u, us, he, _, h3, h4⟩ := h2
      simp only [List.cons.injEq] at he
      obtain ⟨rfl, rfl⟩ := he
      cases ms' with
      | nil => exact ⟨m, rfl, h3⟩
      | cons m' ms'' => simp only [RMs] at h4; obtain ⟨_, _, h5, _⟩ := h4; cases h5
  simp only [shOf] at h
  split at h
  · rename_i k hk
    cases h
    obtain ⟨i, rfl⟩ := okWide_int hk hv
    obtain ⟨m, rfl, h3⟩ := one rfl
    exact ⟨m, h1, h3⟩
  · rename_i hk
    cases h
    obtain ⟨i, rfl⟩ := okWide_bool hk hv
    obtain ⟨m, rfl, h3⟩ := one rfl
    exact ⟨m, h1, h3⟩
  · rename_i hk
    cases h
    have hs : ∃ s, v = .string s := by
      simp only [Value.okWide, hk, Cell.okWide] at hv
      cases v <;> simp_all [Cell.ok]
    obtain ⟨i, rfl⟩ := hs
    obtain ⟨m, rfl, h3⟩ := one rfl
    exact ⟨m, h1, h3⟩
  · rename_i e hk
    simp only [Option.map_eq_some_iff] at h
    obtain ⟨se, he, rfl⟩ := h
    obtain ⟨a, l, c, rfl⟩ := okWide_slice hk hv
    obtain ⟨m, rfl, h3⟩ := one rfl
    exact ⟨m, h1, h3⟩
  · rename_i fs hk
    obtain ⟨us, rfl, _⟩ := okWide_struct hk hv
    split at h
    · simp only [Option.map_eq_some_iff] at h
      obtain ⟨ss, hss, rfl⟩ := h
      exact ⟨.agg ms, by simp only [ValM]; exact ⟨ms, rfl, h1⟩, by simp only [RM]; exact ⟨us, rfl, h2⟩⟩
    · cases h
  · cases h

/-- what comes in is data, and reads behind a call as it read before -/
theorem args_open (hl : laidOutB P = true) {r : Reach} {b0 : Nat} : ∀ {ts : List TypeId} {ss : List Sh} {args : List Value} {ds : List (DataW H)} {p : List MemPlace}, ts.mapM (shOf P 12) = some ss → (ts.all fun t => P.readableRec t && decide (t < P.types.size)) = true →
    DataW.TrodAll enc P w 0 (fun _ => true) true ts args ds p → (∀ (j : Nat) t v, ts[j]? = some t → args[j]? = some v → Value.okWide P w r b0 t v) →
    ∃ ms, ValL ss ms ∧ RMt (inW w) w ms args ∧ ∀ w', Below w.heap.size w w' → DataW.TrodAll enc P w' 0 (fun b => decide (b < w.heap.size)) true ts args ds p
  | [], ss, args, ds, p, hs, hr, hA, hv => by
    simp at hs
    subst hs
    obtain ⟨rfl, rfl, rfl⟩ := trodAll_nil hA
    exact ⟨[], by simp only [ValL], by simp only [RMt], fun _ _ => trodAll_mk0⟩
  | t :: ts, ss, args, ds, p, hs, hr, hA, hv => by
    obtain ⟨v0, vs0, d0, ds0, p0, q0, rfl, rfl, rfl, h0, r0⟩ := trodAll_cons hA
    simp only [List.mapM_cons, Option.bind_eq_bind, Option.bind_eq_some_iff, Option.pure_def, Option.some.injEq] at hs
    obtain ⟨s, hs1, ss', hs2, rfl⟩ := hs
    simp only [List.all_cons, Bool.and_eq_true, decide_eq_true_eq] at hr
    obtain ⟨ms, h1, h2, h3⟩ := args_open hl (ts := ts) hs2 hr.2 r0 (fun j t' v' hj hv' => hv (j + 1) t' v' (by simpa using hj) (by simpa using hv'))
    obtain ⟨m, h4, h5⟩ := sh_val hs1 h0 (hv 0 t v0 rfl rfl)
    refine ⟨m :: ms, ?_, ?_, ?_⟩
    · simp only [ValL]; exact ⟨m, ms, rfl, h4, h1⟩
    · simp only [RMt]; exact ⟨v0, vs0, rfl, h5, h2⟩
    · intro w' hw'
      have lt0 : ∀ x ∈ p0, x.block < w.heap.size := by obtain ⟨m, hm⟩ := h0; exact DataW.trod_lt m _ _ _ hm
      exact trodAll_cons_mk (Below.trod hl hr.1.1 hr.1.2 h0 hw' lt0) (h3 w' hw')
end
end Fw
