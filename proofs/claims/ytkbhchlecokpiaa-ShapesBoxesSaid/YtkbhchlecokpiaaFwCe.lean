/- Data as the form reads it, for the logic over data: shapes of types; what comes in is data. No program in sight. -/
import Derived.Test.YtkbhchlecokpiaaFwCd
import Derived.ProofKit
import Derived.OpenShut
import Derived.ShutString
import Derived.ChangeOld
import Derived.Laws.BytesArg
set_option linter.unusedVariables false
set_option linter.unusedSimpArgs false
/-! ## FwP: Data as the form reads it, for the logic over data: shapes of types; what comes in is data. No program in sight. -/
namespace Fw
open Go Go.RowKit Go.ChangeShapes Go.WideShapes Go.ChangeAt
open Go.ChangeMaps (open_string shut_string)
set_option linter.unusedVariables false
set_option linter.unusedSimpArgs false

inductive Sh where
  | int (k : IntKind)
  | bool
  | str
  | sl (e : Sh)
  | st (fs : List Sh)

/-- fields lie one behind the other -/
def contig (P : Program) : List Field → Nat → Bool
  | [], _ => true
  | f :: fs, off => f.offset == off && contig P fs (off + P.cellsOf f.type)
def fieldsEnd (P : Program) : List Field → Nat → Nat
  | [], off => off
  | f :: fs, off => fieldsEnd P fs (off + P.cellsOf f.type)
def shL (g : TypeId → Option Sh) : List Field → Option (List Sh)
  | [] => some []
  | f :: fs => match g f.type with
    | some s => (shL g fs).map (s :: ·)
    | none => none
def shOf (P : Program) : Nat → TypeId → Option Sh
  | 0, _ => none
  | n + 1, t => match P.underlying t with
    | some (.int k) => some (.int k)
    | some .bool => some .bool
    | some .string => some .str
    | some (.slice e) => (shOf P n e).map .sl
    | some (.struct fs) => if (contig P fs.toList 0 && fieldsEnd P fs.toList 0 == P.cellsOf t) = true then (shL (shOf P n) fs.toList).map .st else none
    | _ => none

mutual
/-- cells of a shape -/
def Cells : Sh → List M → Prop
  | .int k, ms => ∃ n, ms = [.int k n] ∧ (Lit.int k n).wf = true
  | .bool, ms => ∃ b, ms = [.bool b]
  | .str, ms => ∃ s, ms = [.str s] ∧ s.length ≤ maxLen
  | .sl e, ms => ∃ css : List (List M), ms = [.seq css.length css.flatten] ∧ css.length ≤ maxLen ∧ ∀ c ∈ css, Cells e c
  | .st fs, ms => ∃ css : List (List M), ms = css.flatten ∧ CellsL fs css
def CellsL : List Sh → List (List M) → Prop
  | [], css => css = []
  | f :: fs, css => ∃ c cs, css = c :: cs ∧ Cells f c ∧ CellsL fs cs
end
/-- a value of a shape -/
def ValM : Sh → M → Prop
  | .st fs, m => ∃ ms, m = .agg ms ∧ Cells (.st fs) ms
  | s, m => Cells s [m]
def ValL : List Sh → List M → Prop
  | [], ms => ms = []
  | s :: ss, ms => ∃ m ms', ms = m :: ms' ∧ ValM s m ∧ ValL ss ms'

section
variable {H : Type} {enc : TypeId × Value → H} {P : Program} {w : World}
def inW (w : World) : Nat → Prop := fun b => b < w.heap.size

theorem RMc.append {ok : Nat → Prop} {b : Nat} : ∀ {ms ms' : List M} {off : Nat}, RMc ok w b off ms → RMc ok w b (off + ms.length) ms' → RMc ok w b off (ms ++ ms')
  | [], ms', off, h, h' => by simpa using h'
  | m :: ms, ms', off, h, h' => by
    simp only [RMc, List.cons_append] at h ⊢
    exact ⟨h.1, RMc.append h.2 (by rw [show off + 1 + ms.length = off + (m :: ms).length by simp; omega]; exact h')⟩
theorem mapM_cells {α β : Type} {f : α → Option β} : ∀ {l : List α} {r : List β}, l.mapM f = some r → r.length = l.length ∧ ∀ (i : Nat) (x : α), l[i]? = some x → ∃ y : β, r[i]? = some y ∧ f x = some y := by
  intro l r h
  refine ⟨by simpa using mapM_some_length h, fun i x hx => ?_⟩
  have := mapM_some_get h i x hx
  have hl : i < r.length := by
    rw [mapM_some_length h]
    rcases Nat.lt_or_ge i l.length with h1 | h1
    · exact h1
    · rw [List.getElem?_eq_none h1] at hx; cases hx
  exact ⟨r[i], List.getElem?_eq_getElem hl, by rw [this, List.getElem?_eq_getElem hl]⟩
/-- cells that lie at an address, as data -/
theorem rmc_of {b off : Nat} : ∀ {ms : List M} {vs : List Value} {o : Nat}, RMs (inW w) w ms vs → (∀ i v, vs[i]? = some v → w.cell? ⟨b, off + o + i, none⟩ = some v) → RMc (inW w) w b (off + o) ms
  | [], vs, o, h, hc => by simp only [RMc]
  | m :: ms, vs, o, h, hc => by
    simp only [RMs] at h
    obtain ⟨u, us, rfl, h1, h2, h3⟩ := h
    simp only [RMc]
    refine ⟨⟨u, by simpa using hc 0 u rfl, h1, h2⟩, ?_⟩
    have := rmc_of (b := b) (off := off) (o := o + 1) h3 (fun i v hv => by
      have := hc (i + 1) v (by simpa using hv)
      rw [show off + (o + 1) + i = off + o + (i + 1) by omega]; exact this)
    simpa [Nat.add_assoc] using this

theorem cells_of {base : Nat} {a : Addr} {n : Nat} {vs : List Value} (h : w.cells? base a n = some vs) : vs.length = n ∧ ∀ i v, vs[i]? = some v → w.cell? (a.add i) = some v := by
  unfold World.cells? at h
  split at h
  · obtain ⟨h1, h2⟩ := mapM_cells h
    have hn : vs.length = n := by simpa using h1
    refine ⟨hn, fun i v hv => ?_⟩
    have hi : i < n := by
      rcases Nat.lt_or_ge i n with h3 | h3
      · exact h3
      · rw [List.getElem?_eq_none (by omega)] at hv; cases hv
    obtain ⟨y, hy, hf⟩ := h2 i i (by simp [hi])
    rw [hv] at hy; cases hy
    exact hf
  · cases h

/-- elements, one behind the other -/
theorem elems_of {e : Sh} {sz : Nat} {a : Addr} {el : Nat → List Value → Prop} (ih : ∀ vs i, el i vs → ∃ ms, Cells e ms ∧ RMs (inW w) w ms vs) :
    ∀ (len : Nat), (∀ i, i < len → ∃ vs, w.cells? 0 (a.add (i * sz)) sz = some vs ∧ el i vs) →
      ∃ css : List (List M), css.length = len ∧ css.flatten.length = len * sz ∧ (∀ c ∈ css, Cells e c) ∧ (css.flatten ≠ [] → ∃ b off, a = ⟨b, off, none⟩ ∧ inW w b) ∧ ∀ b off, a = ⟨b, off, none⟩ → RMc (inW w) w b off css.flatten
  | 0, _ => ⟨[], rfl, by simp, by simp, by simp, fun _ _ _ => by simp [RMc]⟩
  | len + 1, h => by
    obtain ⟨css, h1, h2, h3, h4, h5⟩ := elems_of ih len (fun i hi => h i (by omega))
    obtain ⟨vs, hv1, hv2⟩ := h len (by omega)
    obtain ⟨ms, hm1, hm2⟩ := ih vs len hv2
    obtain ⟨hl, hc⟩ := cells_of hv1
    have hml : ms.length = sz := by rw [RMs.length hm2, hl]
    refine ⟨css ++ [ms], by simp [h1], by simp only [List.flatten_append, List.length_append, h2]; simp [hml, Nat.succ_mul], ?_, ?_, ?_⟩
    · intro c hc'
      rcases List.mem_append.1 hc' with h6 | h6
      · exact h3 c h6
      · rw [List.mem_singleton.1 h6]; exact hm1
    · intro hne
      by_cases hf : css.flatten = []
      · have hz : len * sz = 0 := by rw [← h2, hf]; rfl
        have hms : ms ≠ [] := fun hh => hne (by rw [List.flatten_append, hf, hh]; rfl)
        have hsz : 0 < sz := by rw [← hml]; exact List.length_pos_iff.2 hms
        obtain ⟨v, hv⟩ : ∃ v, vs[0]? = some v := ⟨vs[0]'(by omega), List.getElem?_eq_getElem (by omega)⟩
        have := hc 0 v hv
        rw [hz] at this
        have e1 : (a.add 0).add 0 = a := by simp [Addr.add]
        rw [e1] at this
        have hs := World.cell?_spot this
        obtain ⟨b, off, s⟩ := a
        subst hs
        exact ⟨b, off, rfl, World.block_lt_of_cell? w _ this⟩
      · exact h4 hf
    · intro b off ha
      subst ha
      rw [List.flatten_append]
      refine RMc.append (h5 b off rfl) ?_
      have hh := rmc_of (w := w) (b := b) (off := off) (o := len * sz) hm2 (fun i v hv => by
        have := hc i v hv
        have e2 : (Addr.add ⟨b, off, none⟩ (len * sz)).add i = ⟨b, off + len * sz + i, none⟩ := by
          unfold Addr.add
          split <;> split <;> simp_all <;> omega
        rw [← e2]; exact this)
      rw [h2]
      simpa using hh

theorem parts_of {el : TypeId → List Value → Prop} {g : TypeId → Option Sh} (ih : ∀ t vs s, g t = some s → el t vs → ∃ ms, Cells s ms ∧ RMs (inW w) w ms vs) :
    ∀ {fs : List Field} {ss : List Sh} {off : Nat} {cs : List Value}, shL g fs = some ss → contig P fs off = true → fieldsEnd P fs off = cs.length → off ≤ cs.length → (∀ f ∈ fs, el f.type ((cs.drop f.offset).take (P.cellsOf f.type))) →
      ∃ css : List (List M), CellsL ss css ∧ RMs (inW w) w css.flatten (cs.drop off)
  | [], ss, off, cs, h, hc, he, ho, hf => by
    simp only [shL, Option.some.injEq] at h
    subst h
    simp only [fieldsEnd] at he
    refine ⟨[], by simp only [CellsL], ?_⟩
    rw [he]; simp [RMs]
  | f :: fs, ss, off, cs, h, hc, he, ho, hf => by
    simp only [shL] at h
    cases hg : g f.type with
    | none => rw [hg] at h; cases h
    | some s =>
      rw [hg] at h
      simp only [Option.map_eq_some_iff] at h
      obtain ⟨ss', hss, rfl⟩ := h
      simp only [contig, Bool.and_eq_true, beq_iff_eq] at hc
      simp only [fieldsEnd] at he
      have hle : ∀ (fs : List Field) (o : Nat), o ≤ fieldsEnd P fs o := by
        intro fs
        induction fs with
        | nil => intro o; exact Nat.le_refl _
        | cons x xs ihx => intro o; exact Nat.le_trans (Nat.le_add_right _ _) (ihx _)
      have hoff : off + P.cellsOf f.type ≤ cs.length := by rw [← he]; exact hle _ _
      obtain ⟨css, h1, h2⟩ := parts_of (el := el) ih hss hc.2 he hoff (fun f' hf' => hf f' (by simp [hf']))
      obtain ⟨ms, h3, h4⟩ := ih _ _ _ hg (hf f (by simp))
      rw [hc.1] at h4
      refine ⟨ms :: css, ⟨ms, css, rfl, h3, h1⟩, ?_⟩
      rw [List.flatten_cons]
      have := RMs.append h4 h2
      rw [show cs.drop (off + P.cellsOf f.type) = (cs.drop off).drop (P.cellsOf f.type) by rw [List.drop_drop], List.take_append_drop] at this
      exact this

theorem sh_cells : ∀ (n : Nat) {fuel : Nat} {t : TypeId} {s : Sh} {cs : List Value} {x : DataW H × List MemPlace}, shOf P n t = some s → DataW.trod enc P w 0 (fun _ => true) true fuel t cs = some x → ∃ ms, Cells s ms ∧ RMs (inW w) w ms cs
  | 0, _, _, _, _, _, h, _ => by simp [shOf] at h
  | n + 1, fuel, t, s, cs, x, h, hd => by
    simp only [shOf] at h
    split at h
    · rename_i k hk
      cases h
      obtain ⟨i, rfl, _, hw⟩ := DataW.trod_int hk hd
      exact ⟨[.int k i], by simp only [Cells]; exact ⟨i, rfl, hw⟩, by simp only [RMs, RM]; exact ⟨_, [], rfl, rfl, rfl, rfl⟩⟩
    · rename_i hk
      cases h
      obtain ⟨b, rfl, _⟩ := DataW.trod_bool hk hd
      exact ⟨[.bool b], by simp only [Cells]; exact ⟨b, rfl⟩, by simp only [RMs, RM]; exact ⟨_, [], rfl, rfl, rfl, rfl⟩⟩
    · rename_i hk
      cases h
      obtain ⟨b, rfl, _, hs⟩ := DataW.trod_string hk hd
      refine ⟨[.str b.data.toList], by simp only [Cells]; exact ⟨_, rfl, by simpa using hs⟩, by simp only [RMs, RM]; exact ⟨_, [], rfl, rfl, rfl, rfl⟩⟩
    · rename_i e hk
      simp only [Option.map_eq_some_iff] at h
      obtain ⟨se, he, rfl⟩ := h
      rcases DataW.trod_slice hk hd with ⟨rfl, _⟩ | ⟨a, len, cap, elems, rest, m, rfl, rfl, rfl, _, hle, hcap, hlen, hel, _, _⟩
      · refine ⟨[.seq 0 []], by simp only [Cells]; exact ⟨[], rfl, Nat.zero_le _, by simp⟩, ?_⟩
        simp only [RMs, RM]
        exact ⟨_, [], rfl, rfl, ⟨none, 0, rfl, Nat.le_refl _, Nat.zero_le _, fun _ => by simp, fun h => absurd rfl h, fun _ _ h => by cases h⟩, rfl⟩
      · obtain ⟨css, h1, h2, h3, h4, h5⟩ := elems_of (w := w) (e := se) (sz := P.cellsOf e) (a := a) (el := fun _ vs => ∃ y, DataW.trod enc P w 0 (fun _ => true) true m e vs = some y)
          (fun vs i ⟨y, hy⟩ => sh_cells n he hy) len (fun i hi => by
            have := hel i hi
            rw [List.getElem?_eq_getElem (by omega)] at this
            cases hc : w.cells? 0 (a.add (i * P.cellsOf e)) (P.cellsOf e) with
            | none => rw [hc] at this; cases this
            | some vs =>
              rw [hc] at this
              exact ⟨vs, rfl, _, this⟩)
        refine ⟨[.seq css.length css.flatten], by simp only [Cells]; exact ⟨css, rfl, by omega, h3⟩, ?_⟩
        simp only [RMs, RM]
        refine ⟨_, [], rfl, rfl, ⟨some a, cap, by rw [h1], by omega, hcap, ?_, ?_, ?_⟩, rfl⟩
        · intro h0
          rw [← List.length_eq_zero_iff, h2, ← h1, h0]; simp
        · intro hne
          obtain ⟨b, off, rfl, hb⟩ := h4 hne
          exact ⟨b, off, rfl, hb⟩
        · intro b off ha
          cases ha
          exact h5 b off rfl
    · rename_i fs hk
      split at h
      · rename_i hct
        simp only [Bool.and_eq_true, beq_iff_eq] at hct
        simp only [Option.map_eq_some_iff] at h
        obtain ⟨ss, hss, rfl⟩ := h
        obtain ⟨xs, m, rfl, rfl, hl, hxl, hx⟩ := DataW.trod_struct hk hd
        obtain ⟨css, h1, h2⟩ := parts_of (P := P) (w := w) (el := fun t vs => ∃ y, DataW.trod enc P w 0 (fun _ => true) true m t vs = some y) (g := shOf P n) (fun t vs s hs ⟨y, hy⟩ => sh_cells n hs hy) (off := 0) (cs := cs) hss hct.1 (by rw [hct.2, hl]) (Nat.zero_le _) (fun f hf => by
          obtain ⟨i, hi⟩ := List.getElem?_of_mem hf
          have := hx i f (by simpa using hi)
          have hlt : i < xs.length := by
            rw [hxl]
            rcases Nat.lt_or_ge i fs.size with h6 | h6
            · exact h6
            · rw [List.getElem?_eq_none (by simpa using h6)] at hi; cases hi
          rw [List.getElem?_eq_getElem hlt] at this
          exact ⟨_, this⟩)
        exact ⟨css.flatten, by simp only [Cells]; exact ⟨css, rfl, h1⟩, by simpa using h2⟩
      · cases h
    · cases h

theorem sh_val {n : Nat} {t : TypeId} {s : Sh} {v : Value} {d : DataW H} {p : List MemPlace} {r : Reach} {b0 : Nat} (h : shOf P n t = some s) (hd : DataW.Trod enc P w 0 (fun _ => true) true t v d p) (hv : Value.okWide P w r b0 t v) : ∃ m, ValM s m ∧ RM (inW w) w m v := by
  obtain ⟨fuel, hf⟩ := hd
  obtain ⟨ms, h1, h2⟩ := sh_cells n h hf
  cases n with
  | zero => simp [shOf] at h
  | succ n =>
  have one : v.oneCell' = true → ∃ m, ms = [m] ∧ RM (inW w) w m v := by
    intro ho
    have hc : v.cells.toList = [v] := by cases v <;> simp_all [Value.cells, Value.oneCell']
    rw [hc] at h2
    cases ms with
    | nil => simp only [RMs] at h2; cases h2
    | cons m ms' =>
      simp only [RMs] at h2
      obtain ⟨u, us, he, _, h3, h4⟩ := h2
      simp only [List.cons.injEq] at he
      obtain ⟨rfl, rfl⟩ := he
      cases ms' with
      | nil => exact ⟨m, rfl, h3⟩
      | cons m' ms'' => simp only [RMs] at h4; obtain ⟨_, _, h5, _⟩ := h4; cases h5
  simp only [shOf] at h
  split at h
  · rename_i k hk
    cases h
    obtain ⟨i, rfl⟩ := okWide_int hk hv
    obtain ⟨m, rfl, h3⟩ := one rfl
    exact ⟨m, h1, h3⟩
  · rename_i hk
    cases h
    obtain ⟨i, rfl⟩ := okWide_bool hk hv
    obtain ⟨m, rfl, h3⟩ := one rfl
    exact ⟨m, h1, h3⟩
  · rename_i hk
    cases h
    have hs : ∃ s, v = .string s := by
      simp only [Value.okWide, hk, Cell.okWide] at hv
      cases v <;> simp_all [Cell.ok]
    obtain ⟨i, rfl⟩ := hs
    obtain ⟨m, rfl, h3⟩ := one rfl
    exact ⟨m, h1, h3⟩
  · rename_i e hk
    simp only [Option.map_eq_some_iff] at h
    obtain ⟨se, he, rfl⟩ := h
    obtain ⟨a, l, c, rfl⟩ := okWide_slice hk hv
    obtain ⟨m, rfl, h3⟩ := one rfl
    exact ⟨m, h1, h3⟩
  · rename_i fs hk
    obtain ⟨us, rfl, _⟩ := okWide_struct hk hv
    split at h
    · simp only [Option.map_eq_some_iff] at h
      obtain ⟨ss, hss, rfl⟩ := h
      exact ⟨.agg ms, by simp only [ValM]; exact ⟨ms, rfl, h1⟩, by simp only [RM]; exact ⟨us, rfl, h2⟩⟩
    · cases h
  · cases h

/-- what comes in is data, and reads behind a call as it read before -/
theorem args_open (hl : laidOutB P = true) {r : Reach} {b0 : Nat} : ∀ {ts : List TypeId} {ss : List Sh} {args : List Value} {ds : List (DataW H)} {p : List MemPlace}, ts.mapM (shOf P 12) = some ss → (ts.all fun t => P.readableRec t && decide (t < P.types.size)) = true →
    DataW.TrodAll enc P w 0 (fun _ => true) true ts args ds p → (∀ (j : Nat) t v, ts[j]? = some t → args[j]? = some v → Value.okWide P w r b0 t v) →
    ∃ ms, ValL ss ms ∧ RMt (inW w) w ms args ∧ ∀ w', Below w.heap.size w w' → DataW.TrodAll enc P w' 0 (fun b => decide (b < w.heap.size)) true ts args ds p
  | [], ss, args, ds, p, hs, hr, hA, hv => by
    simp at hs
    subst hs
    obtain ⟨rfl, rfl, rfl⟩ := trodAll_nil hA
    exact ⟨[], by simp only [ValL], by simp only [RMt], fun _ _ => trodAll_mk0⟩
  | t :: ts, ss, args, ds, p, hs, hr, hA, hv => by
    obtain ⟨v0, vs0, d0, ds0, p0, q0, rfl, rfl, rfl, h0, r0⟩ := trodAll_cons hA
    simp only [List.mapM_cons, Option.bind_eq_bind, Option.bind_eq_some_iff, Option.pure_def, Option.some.injEq] at hs
    obtain ⟨s, hs1, ss', hs2, rfl⟩ := hs
    simp only [List.all_cons, Bool.and_eq_true, decide_eq_true_eq] at hr
    obtain ⟨ms, h1, h2, h3⟩ := args_open hl (ts := ts) hs2 hr.2 r0 (fun j t' v' hj hv' => hv (j + 1) t' v' (by simpa using hj) (by simpa using hv'))
    obtain ⟨m, h4, h5⟩ := sh_val hs1 h0 (hv 0 t v0 rfl rfl)
    refine ⟨m :: ms, ?_, ?_, ?_⟩
    · simp only [ValL]; exact ⟨m, ms, rfl, h4, h1⟩
    · simp only [RMt]; exact ⟨v0, vs0, rfl, h5, h2⟩
    · intro w' hw'
      have lt0 : ∀ x ∈ p0, x.block < w.heap.size := by obtain ⟨m, hm⟩ := h0; exact DataW.trod_lt m _ _ _ hm
      exact trodAll_cons_mk (Below.trod hl hr.1.1 hr.1.2 h0 hw' lt0) (h3 w' hw')
end
end Fw

/-! ## FwX: A program logic over data: more rules: objects become data; ranging over texts; bytes as text; slices that are made. -/
namespace Fw
open Go Go.RowKit
set_option linter.unusedVariables false
set_option linter.unusedSimpArgs false
set_option linter.unusedSectionVars false

/-- cells in which rows have become data -/
def Frz (H : Nat → Option O) (ids : List Nat) : List D → List D → Prop
  | [], cs => cs = []
  | d :: ds, cs => ∃ d' ds', cs = d' :: ds' ∧ (d' = d ∨ ∃ m l, rdM H d = some (m, l) ∧ (∀ x ∈ l, x ∈ ids) ∧ d' = .im m) ∧ Frz H ids ds ds'

section
variable {N : Nat} {w0 : World} {ok0 S0 : Nat → Prop} {T T' : Nat → Option D} {H H' : Nat → Option O} {β : Nat → Option Nat} {ok : Nat → Prop} {a : Act} {w w' : World}

theorem Frz.rds {ids : List Nat} (hc : Conc N w0 ok0 S0 T H β ok a w) : ∀ {cs cs' : List D} {vs : List Value}, Frz H ids cs cs' → RDs β ok w cs vs → RDs β (fun b => ok b ∨ ∃ i o, i ∈ ids ∧ H i = some o ∧ β i = some b) w cs' vs
  | [], cs', vs, h, hr => by
    simp only [Frz] at h
    subst h
    simp only [RDs] at hr ⊢
    exact hr
  | d :: ds, cs', vs, h, hr => by
    simp only [Frz] at h
    obtain ⟨d', ds', rfl, h1, h2⟩ := h
    simp only [RDs] at hr ⊢
    obtain ⟨u, us, rfl, h3, h4, h5⟩ := hr
    refine ⟨u, us, rfl, h3, ?_, Frz.rds hc h2 h5⟩
    rcases h1 with rfl | ⟨m, l, h6, h7, rfl⟩
    · exact RD.mono (ok := ok) (w := w) (β := β) (fun b hb _ => ⟨.inl hb, rfl⟩) _ _ ⟨fun _ _ _ h => h, fun i b us e _ _ h => ⟨us, e, h, rfl⟩⟩ h4
    · have := rdM_rm hc d h6 h4
      simp only [RD]
      exact RM.mono (fun b hb _ => ⟨by
        rcases hb with hb | ⟨i, o, hi, hH, hb⟩
        · exact .inl hb
        · exact .inr ⟨i, o, h7 i hi, hH, hb⟩, rfl⟩) _ _ this

/-- objects become data: slots and boxes that know them as rows know them as data -/
theorem Conc.frz (hc : Conc N w0 ok0 S0 T H β ok a w) (ids : List Nat) (hT : ∀ i d, T' i = some d → T i = some d ∨ ∃ d0 m l, T i = some d0 ∧ rdM H d0 = some (m, l) ∧ (∀ x ∈ l, x ∈ ids) ∧ d = .im m)
    (hH : ∀ i o, H' i = some o → i ∉ ids ∧ (H i = some o ∨ ∃ t cs cs', H i = some (.box t cs) ∧ o = .box t cs' ∧ Frz H ids cs cs')) :
    Conc N w0 ok0 S0 T' H' β (fun b => ok b ∨ ∃ i o, i ∈ ids ∧ H i = some o ∧ β i = some b) a w := by
  have hz := hc.freeze ids
  have live : ∀ i o, H' i = some o → ∃ o', chH H (ids.map fun i => (i, none)) i = some o' := by
    intro i o h
    obtain ⟨h1, h2⟩ := hH i o h
    have : chH H (ids.map fun i => (i, none)) i = H i := chH_out (by simpa using h1)
    rw [this]
    rcases h2 with h2 | ⟨t, cs, cs', h2, _⟩
    · exact ⟨_, h2⟩
    · exact ⟨_, h2⟩
  refine { defers := hz.defers, size := hz.size, tmp := ?_, obj := ?_, inj := ?_, okd := ?_, okl := hz.okl, okf := hz.okf, low := ?_, keep := hz.keep }
  · intro i d h
    rcases hT i d h with h1 | ⟨d0, m, l, h1, h2, h3, rfl⟩
    · exact hz.tmp i d h1
    · have := rdM_rm hc d0 h2 (hc.tmp i d0 h1)
      simp only [RD]
      exact RM.mono (fun b hb _ => ⟨by
        rcases hb with hb | ⟨i, o, hi, hH, hb⟩
        · exact .inl hb
        · exact .inr ⟨i, o, h3 i hi, hH, hb⟩, rfl⟩) _ _ this
  · intro i o h
    obtain ⟨h1, h2⟩ := hH i o h
    have e : chH H (ids.map fun i => (i, none)) i = H i := chH_out (by simpa using h1)
    rcases h2 with h2 | ⟨t, cs, cs', h2, rfl, h3⟩
    · exact hz.obj i o (by rw [e]; exact h2)
    · have := hc.obj i _ h2
      simp only [RO] at this ⊢
      obtain ⟨b, us, h4, h5, h6⟩ := this
      exact ⟨b, us, h4, h5, Frz.rds hc h3 h6⟩
  · intro i j o o' b h1 h2 h3 h4
    obtain ⟨p, hp⟩ := live i o h1
    obtain ⟨q, hq⟩ := live j o' h2
    exact hz.inj i j p q b hp hq h3 h4
  · intro b hb i o h
    obtain ⟨p, hp⟩ := live i o h
    exact hz.okd b hb i p hp
  · intro i o b h hb
    obtain ⟨p, hp⟩ := live i o h
    exact hz.low i p b hp hb
end

/-! ### rules -/
section
variable {P : Program} {L : Nat → Option TI} {N : Nat} {K : KK} {t t' : TL} {h h' : HL} {c : Code}

/-- a row becomes data, as slot k knows it -/
theorem awp_frzRow {id k n sz : Nat} {e : TypeId} {cs cs' : List M} (hk : lookT t k = some (.row id n sz)) (hh : lookH h id = some (.rw e sz cs)) (hl : n * sz ≤ cs.length) (hcs : cs.take (n * sz) = cs')
    (hK : Awp P N c K ((k, some (.im (.seq n cs'))) :: t) ((id, none) :: h)) : Awp P N c K t h := by
  intro w0 ok0 S0 β ok a w hc
  subst hcs
  refine hK w0 ok0 S0 β _ a w (hc.frz [id] ?_ ?_)
  · intro i d hd
    have e1 : lookT ((k, some (.im (.seq n (cs.take (n * sz))))) :: t) i = putT (lookT t) (some k) (some (.im (.seq n (cs.take (n * sz))))) i := by rw [← lookT_put]; rfl
    rw [e1] at hd
    unfold putT at hd
    split at hd
    · rename_i he
      cases he
      refine .inr ⟨_, .seq n (cs.take (n * sz)), [id], hk, ?_, by simp, by simpa using hd.symm⟩
      simp only [rdM, hh]
      have : (Nat.beq sz sz && Nat.ble (n * sz) cs.length) = true := by simp [Nat.beq_refl, Nat.ble_eq, hl]
      rw [this]; rfl
    · exact .inl hd
  · intro i o ho
    have e1 : lookH ((id, none) :: h) i = chH (lookH h) [(id, none)] i := by rw [← lookH_ch]; rfl
    rw [e1] at ho
    simp only [chH] at ho
    split at ho
    · cases ho
    · rename_i hne
      exact ⟨by simpa using fun he => hne he.symm, .inl ho⟩

/-- a box's cell -/
def frzD (H : Nat → Option O) (id : Nat) (d : D) : D := match rdM H d with
  | some (m, [j]) => bif Nat.beq j id then .im m else d
  | _ => d
theorem frzD_spec {H : Nat → Option O} {id : Nat} (d : D) : frzD H id d = d ∨ ∃ m l, rdM H d = some (m, l) ∧ (∀ x ∈ l, x ∈ [id]) ∧ frzD H id d = .im m := by
  unfold frzD
  cases hr : rdM H d with
  | none => exact .inl rfl
  | some p =>
    obtain ⟨m, l⟩ := p
    match l with
    | [] => exact .inl rfl
    | [j] =>
      simp only []
      cases hb : Nat.beq j id with
      | false => exact .inl rfl
      | true =>
        refine .inr ⟨m, [j], rfl, ?_, rfl⟩
        have := Nat.eq_of_beq_eq_true hb
        simp [this]
    | _ :: _ :: _ => exact .inl rfl
theorem frz_map {H : Nat → Option O} {id : Nat} : ∀ cs : List D, Frz H [id] cs (cs.map (frzD H id))
  | [] => by simp [Frz]
  | d :: ds => by
    simp only [Frz, List.map_cons]
    exact ⟨_, _, rfl, frzD_spec d, frz_map ds⟩
/-- a row that lies in a box becomes data there -/
theorem awp_frzBox {id b : Nat} {T : TypeId} {ds ds' : List D} (hb : lookH h b = some (.box T ds)) (hne : Nat.beq b id = false) (hds : ds.map (frzD (lookH h) id) = ds')
    (hK : Awp P N c K t ((b, some (.box T ds')) :: (id, none) :: h)) : Awp P N c K t h := by
  intro w0 ok0 S0 β ok a w hc
  subst hds
  refine hK w0 ok0 S0 β _ a w (hc.frz [id] (fun i d hd => .inl hd) ?_)
  intro i o ho
  have e1 : lookH ((b, some (.box T (ds.map (frzD (lookH h) id)))) :: (id, none) :: h) i = chH (lookH h) [(b, some (.box T (ds.map (frzD (lookH h) id)))), (id, none)] i := by rw [← lookH_ch]; rfl
  rw [e1] at ho
  simp only [chH] at ho
  have hbi : b ≠ id := fun he => by subst he; simp [Nat.beq_refl] at hne
  split at ho
  · rename_i he
    subst he
    simp only [Option.some.injEq] at ho
    exact ⟨by simpa using hbi, .inr ⟨T, ds, _, hb, ho.symm, frz_map ds⟩⟩
  · split at ho
    · cases ho
    · rename_i hne'
      exact ⟨by simpa using fun he => hne' he.symm, .inl ho⟩
end

/-! ### operations -/
section
variable {P : Program} {L : Nat → Option TI}

theorem evL1 {ρ : Operand → Option D} {x : Operand} {d : D} (h : evL ρ [x] = some [d]) : ρ x = some d := by
  simp only [evL] at h
  cases hx : ρ x with
  | none => rw [hx] at h; simp at h
  | some d' => rw [hx] at h; simpa using h
theorem evL2 {ρ : Operand → Option D} {x y : Operand} {d e : D} (h : evL ρ [x, y] = some [d, e]) : ρ x = some d ∧ ρ y = some e := by
  simp only [evL] at h
  cases hx : ρ x with
  | none => rw [hx] at h; simp at h
  | some d' =>
    cases hy : ρ y with
    | none => rw [hx, hy] at h; simp at h
    | some e' => rw [hx, hy] at h; simpa using h
theorem evL1_mk {ρ : Operand → Option D} {x : Operand} {d : D} (h : ρ x = some d) : evL ρ [x] = some [d] := by simp only [evL, h]
theorem evL2_mk {ρ : Operand → Option D} {x y : Operand} {d e : D} (h : ρ x = some d) (h' : ρ y = some e) : evL ρ [x, y] = some [d, e] := by simp only [evL, h, h']

/-- ranging over a text -/
theorem sem_range {t id : Nat} {x : Operand} {ty : TypeId} {s : List UInt8} {i : TI} (hi : L t = some i) (hf : i.desc = .string) : SemD P L (.range t x) (some id) ty [.im (.str s)] [] ⟨some (.ptr id 0), [(id, some (.it s 0))], [id], []⟩ := by
  intro N w0 ok0 S0 T H β ok a w o Q hL hc hN ho hdst hty hx hg hfr
  have h1 := evL1 (by simpa [Op.operands] using hx)
  have hv := rd_str hc h1
  have hu := run_und (w := w) hL hi
  rw [hf] at hu
  refine wp_val (v := .pointer (some ⟨w.heap.size, 0, none⟩)) (w' := w.alloc (.stringIter ⟨s.toArray⟩ 0)) ?_ ⟨updβ β id (some w.heap.size), ok, ?_⟩
  · simp only [execOp, ho, Instr.range, hv, Sem.run_bind, hu, Result.andThen_ok, Sem.run_pure]
    rfl
  · refine hc.new o.dst _ _ hN id _ _ (hfr id (by simp)) ?_ ?_
    · simp only [RO]
      exact ⟨w.heap.size, by simp [updβ], push_new w _⟩
    · intro d hd
      simp only [Option.some.injEq] at hd; subst hd
      simp only [RD]
      exact ⟨w.heap.size, by simp [updβ], rfl⟩
theorem turned_it {b : Nat} {w : World} {s : ByteArray} {p : Nat} {o' : Obj} (h : w.heap[b]? = some (.stringIter s p)) : Turned b w { w with heap := w.heap.setIfInBounds b o' } := by
  refine ⟨rfl, rfl, rfl, by simp, fun k hk => by simp [Array.getElem?_setIfInBounds, Ne.symm hk], fun us e hh => by rw [h] at hh; cases hh⟩
theorem sem_next {ty : TypeId} {id pos q : Nat} {c : Nat} {dst : Option Nat} {x : Operand} {s : List UInt8} (hp : pos < s.length) (hq : Utf8.decode ⟨s.toArray⟩ pos = (c, q)) :
    SemD P L (.next x true) dst ty [.ptr id 0] [(id, .it s pos)] ⟨some (.im (.tup [.bool true, .int .i64 pos, .int .i32 c])), [(id, some (.it s (pos + q)))], [], [id]⟩ := by
  intro N w0 ok0 S0 T H β ok a w o Q hL hc hN ho hdst hty hx hg hfr
  have h1 := evL1 (by simpa [Op.operands] using hx)
  obtain ⟨b, hb, hv⟩ := rd_ptr hc h1
  have hH := hg (id, .it s pos) (by simp)
  have ho' := hc.obj id _ hH
  simp only [RO] at ho'
  obtain ⟨b', hb', hw⟩ := ho'
  rw [hb] at hb'; cases hb'
  have hlt := heap_lt hw
  have hsz : (⟨s.toArray⟩ : ByteArray).size = s.length := str_size s
  refine wp_val (v := .tuple #[.bool true, goInt pos, .int .i32 c]) (w' := { w with heap := w.heap.setIfInBounds b (.stringIter ⟨s.toArray⟩ (pos + q)) }) ?_ ⟨β, ok, ?_⟩
  · simp only [execOp, ho, Instr.next, hv, Sem.run_bind, getObj, setObj, Sem.run, hw, Result.andThen_ok, Sem.run_pure]
    rw [if_pos (by rw [hsz]; exact hp), hq]
    obtain ⟨hlt', hget⟩ := Array.getElem?_eq_some_iff.1 hw
    simp [setObj, Sem.run, hw, hlt, hget, Sem.run_bind, Sem.run_pure, Result.andThen_ok]
  · refine hc.turn o.dst _ _ hN id _ _ b hH hb (turned_it hw) ?_ ?_
    · simp only [RO]
      exact ⟨b, hb, by simp [Array.getElem?_setIfInBounds, hlt]⟩
    · intro d hd
      simp only [Option.some.injEq] at hd; subst hd
      simp only [RD, RM]
      exact ⟨_, rfl, by simp [RMt, RM, goInt]⟩
theorem sem_over {ty : TypeId} {id pos : Nat} {dst : Option Nat} {x : Operand} {s : List UInt8} (hp : s.length ≤ pos) :
    SemD P L (.next x true) dst ty [.ptr id 0] [(id, .it s pos)] ⟨some (.im (.tup [.bool false])), [], [], [id]⟩ := by
  intro N w0 ok0 S0 T H β ok a w o Q hL hc hN ho hdst hty hx hg hfr
  have h1 := evL1 (by simpa [Op.operands] using hx)
  obtain ⟨b, hb, hv⟩ := rd_ptr hc h1
  have hH := hg (id, .it s pos) (by simp)
  have ho' := hc.obj id _ hH
  simp only [RO] at ho'
  obtain ⟨b', hb', hw⟩ := ho'
  rw [hb] at hb'; cases hb'
  have hsz : (⟨s.toArray⟩ : ByteArray).size = s.length := str_size s
  refine go_val hc hN rfl rfl (v := .tuple #[.bool false]) ?_ (by simp only [RD, RM]; exact ⟨_, rfl, by simp [RMt, RM]⟩)
  simp only [execOp, ho, Instr.next, hv, Sem.run_bind, getObj, Sem.run, hw, Result.andThen_ok, Sem.run_pure]
  rw [if_neg (by rw [hsz]; omega)]
  simp [Sem.run_pure, Sem.run_bind, Result.andThen_ok]

/-- bytes, as cells -/
def mb (x : UInt8) : List M := [.int .u8 x.toNat]
theorem rmc_bytes {ok : Nat → Prop} {w : World} {b : Nat} : ∀ {l : List UInt8} {off : Nat}, RMc ok w b off (l.flatMap mb) → ∀ i, i < l.length → w.cell? ⟨b, off + i, none⟩ = some (.int .u8 ((l.map fun x => (x.toNat : Int)).getD i 0))
  | [], off, h, i, hi => by simp at hi
  | x :: l, off, h, i, hi => by
    simp only [List.flatMap_cons, mb, List.cons_append, List.nil_append, RMc] at h
    obtain ⟨⟨u, h1, _, h2⟩, h3⟩ := h
    simp only [RM] at h2
    subst h2
    cases i with
    | zero => simpa using h1
    | succ i =>
      have := rmc_bytes (l := l) h3 i (by simpa using hi)
      rw [show off + (i + 1) = off + 1 + i by omega, this]
      simp
theorem sem_string {src d : Nat} {ty : TypeId} {dst : Option Nat} {x : Operand} {l : List UInt8} {is id ie : TI} {e : TypeId} (hs : L src = some is) (hd : L d = some id) (he : L e = some ie) (h1 : is.desc = .slice e) (h2 : id.desc = .string) (h3 : ie.desc = .int .u8) :
    SemD P L (.convert src d x) dst ty [.im (mS mb l)] [] (val (.im (.str l))) := by
  intro N w0 ok0 S0 T H β ok a w o Q hL hc hN ho hdst hty hx hg hfr
  have hx1 := evL1 (by simpa [Op.operands] using hx)
  obtain ⟨A, cap, hv, g1, g2, g3, g4, g5⟩ := rd_seq hc (show ev T x = some (.im (.seq l.length (l.flatMap mb))) from hx1)
  have us : P.underlying src = some (.slice e) := by have := (hL src is hs).1; rw [h1] at this; exact this
  have ud : P.underlying d = some .string := by have := (hL d id hd).1; rw [h2] at this; exact this
  have ue : P.underlying e = some (.int .u8) := by have := (hL e ie he).1; rw [h3] at this; exact this
  refine go_val hc hN rfl rfl (v := .string ⟨l.toArray⟩) ?_ (by simp only [RD, RM])
  by_cases hl : l = []
  · subst hl
    have : (convert src d (a.eval x)).run P w = .ok (.string ⟨#[]⟩) w := by
      rw [hv]
      rw [run_convert_bytes_string w src d e _ _ _ us ue ud]
      cases A with
      | none => rfl
      | some ad =>
        have : (loadCells ad 0).run P w = .ok ([].map (Value.int .u8)).toArray w := by simp [loadCells, loadCellsFrom, Sem.run_pure]
        rw [List.length_nil, run_bytesToString w ad 0 cap [] this]
        rfl
    simp only [execOp, ho, Sem.run_bind, this, Result.andThen_ok]; rfl
  · have hne : l.flatMap mb ≠ [] := by cases l with
      | nil => exact absurd rfl hl
      | cons y ys => simp [mb]
    obtain ⟨b, off, rfl, hb⟩ := g4 hne
    have := run_convert_bytes_arg (P := P) w src e us ue b off l.length cap (l.map fun x => (x.toNat : Int)) (by simp) (rmc_bytes (g5 b off rfl)) d ud
    rw [← hv] at this
    have e1 : strOfNums (l.map fun x => (x.toNat : Int)) = ⟨l.toArray⟩ := by
      unfold strOfNums
      congr 1
      simp [Function.comp_def]
    rw [e1] at this
    simp only [execOp, ho, Sem.run_bind, this, Result.andThen_ok]; rfl
end
end Fw

/-! ## FwY: A program logic over data: rules for the steps that are shown by themselves; data that says less. -/
namespace Fw
open Go Go.RowKit
set_option linter.unusedVariables false
set_option linter.unusedSimpArgs false
set_option linter.unusedSectionVars false

section
variable {P : Program} {L : Nat → Option TI} {N : Nat} {ops : Array Oper} {rest : List Oper} {K : List Eff → TL → HL → Prop} {t : TL} {h : HL} {k : Nat} {ty : TypeId} {pos : String} {af : Array Edge} {g : Option (Nat × Bool)}

theorem ar_sem {dst : Option Nat} {op : Op} {ds : List D} {og : List (Nat × O)} {e : Eff} (hw : wantF (lookT t) ops g = some true) (hd : dstOk N dst = true) (hx : evL (ev (lookT t)) op.operands.toList = some ds) (hg : ∀ p ∈ og, lookH h p.1 = some p.2) (ht : ∀ p ∈ og, p.1 ∈ e.tch) (hs : SemD P L op dst ty ds og e) (hf : freshAll t h e.nw = true)
    (hK : AR P L N ops rest (fun es => K (e :: es)) (putL t dst e.r) (e.ch ++ h)) : AR P L N ops (⟨dst, op, ty, pos, af, g⟩ :: rest) K t h :=
  ar_step (o := ⟨dst, op, ty, pos, af, g⟩) (wantF_ok hw) (.sem og hx hg ht hs) hd hf hK

/-- ranging over a text begins -/
theorem ar_range {T : TypeId} {x : Operand} {s : List UInt8} {i : TI} (hw : wantF (lookT t) ops g = some true) (hd : Nat.blt k N = true) (h1 : ev (lookT t) x = some (.im (.str s))) (hi : L T = some i) (hf : i.desc = .string) (hfr : (freshT k t && freshH k h) = true)
    (hK : AR P L N ops rest (fun es => K (⟨some (.ptr k 0), [(k, some (.it s 0))], [k], []⟩ :: es)) ((k, some (.ptr k 0)) :: t) ((k, some (.it s 0)) :: h)) : AR P L N ops (⟨some k, .range T x, ty, pos, af, g⟩ :: rest) K t h :=
  ar_sem hw hd (by simpa [Op.operands] using evL1_mk h1) (og := []) (by simp) (by simp) (sem_range hi hf) (by simpa [freshAll] using hfr) hK
/-- the next rune -/
theorem ar_next {x : Operand} {s : List UInt8} {id p q c : Nat} (hw : wantF (lookT t) ops g = some true) (hd : Nat.blt k N = true) (h1 : ev (lookT t) x = some (.ptr id 0)) (hh : lookH h id = some (.it s p)) (hp : p < s.length) (hq : Utf8.decode ⟨s.toArray⟩ p = (c, q))
    (hK : AR P L N ops rest (fun es => K (⟨some (.im (.tup [.bool true, .int .i64 p, .int .i32 c])), [(id, some (.it s (p + q)))], [], [id]⟩ :: es)) ((k, some (.im (.tup [.bool true, .int .i64 p, .int .i32 c]))) :: t) ((id, some (.it s (p + q))) :: h)) : AR P L N ops (⟨some k, .next x true, ty, pos, af, g⟩ :: rest) K t h :=
  ar_sem hw hd (by simpa [Op.operands] using evL1_mk h1) (og := [(id, .it s p)]) (by simpa using hh) (by simp) (sem_next hp hq) rfl hK
theorem ar_over {x : Operand} {s : List UInt8} {id p : Nat} (hw : wantF (lookT t) ops g = some true) (hd : Nat.blt k N = true) (h1 : ev (lookT t) x = some (.ptr id 0)) (hh : lookH h id = some (.it s p)) (hp : s.length ≤ p)
    (hK : AR P L N ops rest (fun es => K (⟨some (.im (.tup [.bool false])), [], [], [id]⟩ :: es)) ((k, some (.im (.tup [.bool false]))) :: t) h) : AR P L N ops (⟨some k, .next x true, ty, pos, af, g⟩ :: rest) K t h :=
  ar_sem hw hd (by simpa [Op.operands] using evL1_mk h1) (og := [(id, .it s p)]) (by simpa using hh) (by simp) (sem_over hp) rfl hK
/-- bytes as text -/
theorem ar_string {src d : TypeId} {x : Operand} {l : List UInt8} {is id ie : TI} {e : TypeId} (hw : wantF (lookT t) ops g = some true) (hd' : Nat.blt k N = true) (h1 : ev (lookT t) x = some (.im (mS mb l))) (hs : L src = some is) (g1 : is.desc = .slice e) (hd : L d = some id) (g2 : id.desc = .string) (he : L e = some ie) (g3 : ie.desc = .int .u8)
    (hK : AR P L N ops rest (fun es => K (val (.im (.str l)) :: es)) ((k, some (.im (.str l))) :: t) h) : AR P L N ops (⟨some k, .convert src d x, ty, pos, af, g⟩ :: rest) K t h :=
  ar_sem hw hd' (by simpa [Op.operands] using evL1_mk h1) (og := []) (by simp) (by simp) (sem_string hs hd he g1 g2 g3) rfl hK
end

theorem eqt {a b : Bool} (h : a = b) : D.im (.bool a) = .im (.bool b) := by rw [h]

/-! ### data that says less: no slice is a slice of nothing -/
/-- it reads as the one, then as the other -/
def Le (m m' : M) : Prop := ∀ (ok : Nat → Prop) (w : World) (v : Value), RM ok w m v → RM ok w m' v
theorem Le.refl (m : M) : Le m m := fun _ _ _ h => h
theorem le_nil : Le .nil (.seq 0 []) := by
  intro ok w v h
  simp only [RM] at h ⊢
  subst h
  exact ⟨none, 0, rfl, Nat.le_refl _, Nat.zero_le _, fun _ => by simp, fun h => absurd rfl h, fun _ _ h => by cases h⟩
inductive LeL : List M → List M → Prop
  | nil : LeL [] []
  | cons {m m' : M} {ms ms' : List M} (h : Le m m') (hs : LeL ms ms') : LeL (m :: ms) (m' :: ms')
theorem LeL.refl : ∀ ms : List M, LeL ms ms
  | [] => .nil
  | m :: ms => .cons (Le.refl m) (LeL.refl ms)
theorem LeL.rms {ok : Nat → Prop} {w : World} {ms ms' : List M} (h : LeL ms ms') : ∀ {vs : List Value}, RMs ok w ms vs → RMs ok w ms' vs := by
  induction h with
  | nil => intro vs h; exact h
  | cons h hs ih =>
    intro vs hr
    simp only [RMs] at hr ⊢
    obtain ⟨u, us, rfl, h1, h2, h3⟩ := hr
    exact ⟨u, us, rfl, h1, h _ _ _ h2, ih h3⟩
theorem LeL.rmt {ok : Nat → Prop} {w : World} {ms ms' : List M} (h : LeL ms ms') : ∀ {vs : List Value}, RMt ok w ms vs → RMt ok w ms' vs := by
  induction h with
  | nil => intro vs h; exact h
  | cons h hs ih =>
    intro vs hr
    simp only [RMt] at hr ⊢
    obtain ⟨u, us, rfl, h2, h3⟩ := hr
    exact ⟨u, us, rfl, h _ _ _ h2, ih h3⟩
theorem le_agg {ms ms' : List M} (h : LeL ms ms') : Le (.agg ms) (.agg ms') := by
  intro ok w v hr
  simp only [RM] at hr ⊢
  obtain ⟨us, rfl, h1⟩ := hr
  exact ⟨us, rfl, h.rms h1⟩
theorem le_tup {ms ms' : List M} (h : LeL ms ms') : Le (.tup ms) (.tup ms') := by
  intro ok w v hr
  simp only [RM] at hr ⊢
  obtain ⟨us, rfl, h1⟩ := hr
  exact ⟨us, rfl, h.rmt h1⟩
/-- a contract, of data that says more, with a result that says less -/
theorem Ret.weak {P : Program} {f : FuncId} {ms ms' : List M} {m m' : M} (h : Ret P f ms m) (ha : LeL ms' ms) (hr : Le m m') : Ret P f ms' m' := by
  intro ok w vs hv
  refine (h ok w vs (ha.rmt hv)).mono ?_
  rintro e w' ⟨v, h1, h2, h3⟩
  exact ⟨v, h1, hr _ _ _ h2, h3⟩
/-- a slot's data, said less of -/
theorem awp_le {P : Program} {N : Nat} {K : KK} {t : TL} {h : HL} {c : Code} (k : Nat) {m m' : M} (hk : lookT t k = some (.im m)) (hle : Le m m') (hK : Awp P N c K ((k, some (.im m')) :: t) h) : Awp P N c K t h := by
  intro w0 ok0 S0 β ok a w hc
  refine hK w0 ok0 S0 β ok a w { defers := hc.defers, size := hc.size, tmp := ?_, obj := hc.obj, inj := hc.inj, okd := hc.okd, okl := hc.okl, okf := hc.okf, low := hc.low, keep := hc.keep }
  intro i d hd
  have e1 : lookT ((k, some (.im m')) :: t) i = putT (lookT t) (some k) (some (.im m')) i := by rw [← lookT_put]; rfl
  rw [e1] at hd
  unfold putT at hd
  split at hd
  · rename_i he
    cases he
    simp only [Option.some.injEq] at hd; subst hd
    have := hc.tmp k _ hk
    simp only [RD] at this ⊢
    exact hle _ _ _ this
  · exact hc.tmp i d hd

/-- a loop with what holds behind it -/
theorem awp_loopC {P : Program} {N : Nat} {K : KK} {t : TL} {h : HL} {A B : Type} {id : Nat} {c y : Code} (I : A → Prop) (It : A → TL) (Ih : A → HL) (μ : A → Nat) (E : B → Prop) (Et : B → TL) (Eh : B → HL) (x0 : A) (hI : I x0) (h0 : Sub t h (It x0) (Ih x0))
    (round : ∀ x, I x → Awp P N c (fun e t' h' => match e with | .normal => ∃ y, I y ∧ Sub t' h' (It y) (Ih y) ∧ μ y < μ x | e => (e = .exit id ∧ ∃ b, E b ∧ Sub t' h' (Et b) (Eh b)) ∨ blockK id (seqK P N y K) e t' h') (It x) (Ih x))
    (after : ∀ b, E b → Awp P N y K (Et b) (Eh b)) : Awp P N (.loop c) (blockK id (seqK P N y K)) t h := by
  refine awp_loop1 I It Ih μ x0 hI h0 (fun x hx => awp_mono (round x hx) ?_)
  intro e t' h' hk
  have key : ∀ e, (e = X.exit id ∧ ∃ b, E b ∧ Sub t' h' (Et b) (Eh b)) ∨ blockK id (seqK P N y K) e t' h' → blockK id (seqK P N y K) e t' h' := by
    rintro e (⟨rfl, b, hb, hs⟩ | hk)
    · simp only [blockK, Nat.beq_refl, if_true]
      exact awp_sub hs (after b hb)
    · exact hk
  cases e with
  | normal => exact hk
  | exit j => exact key _ hk
  | ret => exact key _ hk

section
variable {P : Program} {L : Nat → Option TI} {N : Nat} {K : KK} {t : TL} {h : HL}
/-- a function by its body; what it hands back may say more -/
theorem ret_ofL (hL : LayOk P L) {f : FuncId} {fn : Func} {c : Code} {ms : List M} {m : M} (hf : P.funcs[f]? = some fn) (hb : fn.body = some c) (hN : fn.ntmps = N) (hml0 : Nat.ble ms.length N = true)
    (hbody : Awp P N c (fun x t h => match x with | .exit _ => False | _ => ∃ rs, resVs L t h fn.results.toList = some rs ∧ Le (tupM rs) m) (iniT 0 ms) []) : Ret P f ms m := by
  have hml := Nat.le_of_ble_eq_true hml0
  intro ok w vs hvs
  refine calls_of_wp hf hb ?_
  have hlen := hvs.length
  have hs : Stays ok (fun b => ok b ∧ b < w.heap.size) w w := fun b h1 h2 => ⟨⟨h1, h2⟩, rfl⟩
  have hvs' := RMt.mono hs _ _ hvs
  have hc : Conc N w ok (fun _ => False) (lookT (iniT 0 ms)) (lookH []) (fun _ => none) (fun b => ok b ∧ b < w.heap.size) { tmps := vs.toArray ++ Array.replicate (fn.ntmps - vs.toArray.size) undef, defers := [] } w := by
    refine ⟨rfl, ?_, ?_, ?_, ?_, ?_, fun b hb => hb.2, fun b hb => .inl hb.1, ?_, Keep.refl _ _⟩
    · simp; omega
    · intro i d hd
      obtain ⟨m', rfl, _, h2⟩ := iniT_look hd
      rw [Nat.sub_zero] at h2
      obtain ⟨u, g1, g2⟩ := hvs'.get h2
      simp only [RD]
      have hi : i < vs.length := (List.getElem?_eq_some_iff.1 g1).1
      have : (vs.toArray ++ Array.replicate (fn.ntmps - vs.toArray.size) undef).getD i undef = u := by
        rw [Array.getD_eq_getD_getElem?, Array.getElem?_append_left (by simpa using hi)]
        simp [g1]
      rw [this]
      exact g2
    · intro i o h; simp [lookH] at h
    · intro i j o o' b h; simp [lookH] at h
    · intro b _ i o h; simp [lookH] at h
    · intro i o b h; simp [lookH] at h
  refine wp_mono (hbody w ok (fun _ => False) _ _ _ w hc) ?_
  rintro e a' w' ⟨x, t', h', β', ok', h1, h2, h3⟩
  have fin : ∀ rs, resVs L t' h' fn.results.toList = some rs → Le (tupM rs) m → a'.defers = [] ∧ ∃ v, (results fn a'.tmps).run P w' = .ok v w' ∧ (∃ v', Ending.returned v = .returned v' ∧ RM (fun b => ok b ∨ w.heap.size ≤ b) w' m v' ∧ Below w.heap.size w w') := by
    intro rs hrs hle
    obtain ⟨v, g1, g2⟩ := results_run hL h3 hrs
    exact ⟨h3.defers, v, g1, v, rfl, hle _ _ _ g2, h3.keep.below⟩
  cases e <;> simp only [X.of, Option.some.injEq, reduceCtorEq] at h1 <;> subst h1
  · obtain ⟨rs, hrs, hm⟩ := h2
    exact fin rs hrs hm
  · exact h2.elim
  · obtain ⟨rs, hrs, hm⟩ := h2
    exact fin rs hrs hm
/-- what holds behind the first of two pieces of code -/
theorem awp_cutS {A : Type} {x y : Code} (I : A → Prop) (It : A → TL) (Ih : A → HL) (hx : Awp P N x (fun e t' h' => (e = .normal ∧ ∃ a, I a ∧ Sub t' h' (It a) (Ih a)) ∨ seqK P N y K e t' h') t h) (after : ∀ a, I a → Awp P N y K (It a) (Ih a)) : Awp P N x (seqK P N y K) t h := by
  refine awp_mono hx ?_
  rintro e t' h' (⟨rfl, a, ha, hs⟩ | hk)
  · exact awp_sub hs (after a ha)
  · exact hk

theorem Conc.ren {N : Nat} {w0 : World} {ok0 S0 : Nat → Prop} {T T' : Nat → Option D} {H H' : Nat → Option O} {β : Nat → Option Nat} {ok : Nat → Prop} {a : Act} {w : World} (hc : Conc N w0 ok0 S0 T H β ok a w) {id id' k n sz : Nat} {e : TypeId} {cs : List M}
    (hk : T k = some (.row id n sz)) (hh : H id = some (.rw e sz cs)) (hf : Fresh T H id') (hne : id' ≠ id)
    (hT : ∀ i d, T' i = some d → (i = k ∧ d = .row id' n sz) ∨ T i = some d) (hH : ∀ i o, H' i = some o → (i = id' ∧ o = .rw e sz cs) ∨ (i ≠ id' ∧ i ≠ id ∧ H i = some o)) :
    Conc N w0 ok0 S0 T' H' (updβ β id' (β id)) ok a w := by
  have b1 : updβ β id' (β id) id' = β id := by unfold updβ; rw [if_pos rfl]
  have b2 : ∀ i, i ≠ id' → updβ β id' (β id) i = β i := fun i h => by unfold updβ; rw [if_neg h]
  have hn : ∀ is : List Nat, id' ∉ is → Names β (updβ β id' (β id)) w w is := fun is his => ⟨fun i b hi hb => by rw [b2 i (by rintro rfl; exact his hi)]; exact hb, fun i b us e _ _ h => ⟨us, e, h, rfl⟩⟩
  have hs := Stays.refl ok w
  refine { defers := hc.defers, size := hc.size, tmp := ?_, obj := ?_, inj := ?_, okd := ?_, okl := hc.okl, okf := hc.okf, low := ?_, keep := hc.keep }
  · intro i d h
    rcases hT i d h with ⟨rfl, rfl⟩ | h1
    · have := hc.tmp _ _ hk
      simp only [RD] at this ⊢
      rw [b1]; exact this
    · exact RD.mono hs d _ (hn _ (hf.1 i d h1)) (hc.tmp i d h1)
  · intro i o h
    rcases hH i o h with ⟨rfl, rfl⟩ | ⟨h1, h2, h3⟩
    · have := hc.obj _ _ hh
      simp only [RO] at this ⊢
      rw [b1]; exact this
    · exact RO.mono hs (hn _ (hf.2 i o h3).2) (b2 i h1) (fun _ _ => rfl) (hc.obj i o h3)
  · intro i j o o' b h1 h2 h3 h4
    rcases hH i o h1 with ⟨rfl, rfl⟩ | ⟨g1, g2, g3⟩ <;> rcases hH j o' h2 with ⟨rfl, rfl⟩ | ⟨k1, k2, k3⟩
    · rfl
    · rw [b1] at h3; rw [b2 j k1] at h4
      exact absurd (hc.inj j id o' _ b k3 hh h4 h3) k2
    · rw [b1] at h4; rw [b2 i g1] at h3
      exact absurd (hc.inj i id o _ b g3 hh h3 h4) g2
    · rw [b2 i g1] at h3; rw [b2 j k1] at h4
      exact hc.inj i j o o' b g3 k3 h3 h4
  · intro b hb i o h
    rcases hH i o h with ⟨rfl, rfl⟩ | ⟨g1, g2, g3⟩
    · rw [b1]; exact hc.okd b hb id _ hh
    · rw [b2 i g1]; exact hc.okd b hb i o g3
  · intro i o b h hb
    rcases hH i o h with ⟨rfl, rfl⟩ | ⟨g1, g2, g3⟩
    · rw [b1] at hb; exact hc.low id _ b hh hb
    · rw [b2 i g1] at hb; exact hc.low i o b g3 hb
/-- a row under another name -/
theorem awp_renRow {c : Code} {id id' k n sz : Nat} {e : TypeId} {cs : List M} (hk : lookT t k = some (.row id n sz)) (hh : lookH h id = some (.rw e sz cs)) (hf : (freshT id' t && freshH id' h) = true) (hne : Nat.beq id id' = false)
    (hK : Awp P N c K ((k, some (.row id' n sz)) :: t) ((id', some (.rw e sz cs)) :: (id, none) :: h)) : Awp P N c K t h := by
  intro w0 ok0 S0 β ok a w hc
  simp only [Bool.and_eq_true] at hf
  have hne' : id' ≠ id := by rintro rfl; simp [Nat.beq_refl] at hne
  refine hK w0 ok0 S0 _ ok a w (hc.ren hk hh (fresh_of hf.1 hf.2) hne' ?_ ?_)
  · intro i d hd
    have e1 : lookT ((k, some (.row id' n sz)) :: t) i = putT (lookT t) (some k) (some (.row id' n sz)) i := by rw [← lookT_put]; rfl
    rw [e1] at hd
    unfold putT at hd
    split at hd
    · rename_i he
      cases he
      exact .inl ⟨rfl, by simpa using hd.symm⟩
    · exact .inr hd
  · intro i o ho
    have e1 : lookH ((id', some (.rw e sz cs)) :: (id, none) :: h) i = chH (lookH h) [(id', some (.rw e sz cs)), (id, none)] i := by rw [← lookH_ch]; rfl
    rw [e1] at ho
    simp only [chH] at ho
    split at ho
    · rename_i he
      exact .inl ⟨he.symm, by simpa using ho.symm⟩
    · rename_i he
      split at ho
      · cases ho
      · rename_i he2
        exact .inr ⟨fun h => he h.symm, fun h => he2 h.symm, ho⟩
end
end Fw
