/- What comes in, as lists and numbers. -/
import Derived.Test.YtkbhchlecokpiaaFwCe
import Derived.Test.YtkbhchlecokpiaaFwW
set_option linter.unusedVariables false
set_option linter.unusedSimpArgs false
namespace Fw
open Go Go.RowKit Tw
set_option linter.unusedVariables false
set_option linter.unusedSimpArgs false
theorem valL_nil {ms : List M} (h : ValL [] ms) : ms = [] := by simpa only [ValL] using h
theorem valL_cons {s : Sh} {ss : List Sh} {ms : List M} (h : ValL (s :: ss) ms) : ∃ m ms', ms = m :: ms' ∧ ValM s m ∧ ValL ss ms' := by simpa only [ValL] using h
theorem cells_sl {α : Type} {enc : α → List M} {Q : α → Prop} {e : Sh} {ms : List M} (he : ∀ c, Cells e c → ∃ x, c = enc x ∧ Q x) (h : Cells (.sl e) ms) : ∃ l : List α, ms = [mS enc l] ∧ (∀ x ∈ l, Q x) ∧ l.length ≤ maxLen := by
  simp only [Cells] at h
  obtain ⟨css, rfl, h2, h3⟩ := h
  have key : ∃ l : List α, css = l.map enc ∧ ∀ x ∈ l, Q x := by
    clear h2
    induction css with
    | nil => exact ⟨[], rfl, by simp⟩
    | cons c css ih =>
      obtain ⟨l, rfl, h4⟩ := ih (fun c hc => h3 c (by simp [hc]))
      obtain ⟨x, rfl, h5⟩ := he c (h3 c (by simp))
      exact ⟨x :: l, rfl, fun y hy => by rcases List.mem_cons.1 hy with rfl | hy; exact h5; exact h4 y hy⟩
  obtain ⟨l, rfl, h4⟩ := key
  refine ⟨l, ?_, h4, by simpa using h2⟩
  unfold mS
  rw [List.length_map, List.flatMap_def]
theorem cells_st {fs : List Sh} {ms : List M} (h : Cells (.st fs) ms) : ∃ css : List (List M), ms = css.flatten ∧ CellsL fs css := by simpa only [Cells] using h
theorem cellsL_cons {f : Sh} {fs : List Sh} {css : List (List M)} (h : CellsL (f :: fs) css) : ∃ c cs, css = c :: cs ∧ Cells f c ∧ CellsL fs cs := by simpa only [CellsL] using h
theorem cellsL_nil {css : List (List M)} (h : CellsL [] css) : css = [] := by simpa only [CellsL] using h
theorem cells_int {k : IntKind} {ms : List M} (h : Cells (.int k) ms) : ∃ n, ms = [.int k n] ∧ (Lit.int k n).wf = true := by simpa only [Cells] using h
theorem cells_bool {ms : List M} (h : Cells .bool ms) : ∃ b, ms = [.bool b] := by simpa only [Cells] using h
theorem cells_str {ms : List M} (h : Cells .str ms) : ∃ s, ms = [.str s] ∧ s.length ≤ maxLen := by simpa only [Cells] using h
theorem wf_u64 {n : Int} (h : (Lit.int .u64 n).wf = true) : 0 ≤ n ∧ n < 18446744073709551616 := by
  simp [Lit.wf, IntKind.min, IntKind.max, IntKind.bits, IntKind.signed] at h
  omega
theorem wf_i64 {n : Int} (h : (Lit.int .i64 n).wf = true) : -9223372036854775808 ≤ n ∧ n ≤ 9223372036854775807 := by
  simp [Lit.wf, IntKind.min, IntKind.max, IntKind.bits, IntKind.signed] at h
  omega
theorem wf_u8 {n : Int} (h : (Lit.int .u8 n).wf = true) : 0 ≤ n ∧ n ≤ 255 := by
  simp [Lit.wf, IntKind.min, IntKind.max, IntKind.bits, IntKind.signed] at h
  omega
/-- words -/
theorem cells_words {ms : List M} (h : Cells (.sl (.int .u64)) ms) : ∃ l : List Nat, ms = [mW l] ∧ Dig W l ∧ l.length ≤ maxLen := by
  obtain ⟨l, h1, h2, h3⟩ := cells_sl (enc := mw) (Q := fun x => x < W) (fun c hc => by
    obtain ⟨n, rfl, hn⟩ := cells_int hc
    have := wf_u64 hn
    refine ⟨n.toNat, ?_, by unfold W; omega⟩
    unfold mw
    rw [Int.toNat_of_nonneg this.1]) h
  exact ⟨l, h1, h2, h3⟩
/-- whole numbers -/
abbrev shInt : Sh := .st [.bool, .sl (.int .u64)]
theorem cells_Int {ms : List M} (h : Cells shInt ms) : ∃ b l, ms = [.bool b, mW l] ∧ Dig W l ∧ l.length ≤ maxLen := by
  obtain ⟨css, rfl, hc⟩ := cells_st h
  clear h
  obtain ⟨c, cs, rfl, h1, hc⟩ := cellsL_cons hc
  obtain ⟨c2, cs, rfl, h2, hc⟩ := cellsL_cons hc
  obtain rfl := cellsL_nil hc
  obtain ⟨b, rfl⟩ := cells_bool h1
  obtain ⟨l, rfl, hd, hl⟩ := cells_words h2
  exact ⟨b, l, rfl, hd, hl⟩
theorem val_Int {m : M} (h : ValM shInt m) : ∃ b l, m = .agg [.bool b, mW l] ∧ Dig W l ∧ l.length ≤ maxLen := by
  simp only [ValM] at h
  obtain ⟨ms, rfl, h⟩ := h
  obtain ⟨b, l, rfl, hd, hl⟩ := cells_Int h
  exact ⟨b, l, rfl, hd, hl⟩
theorem val_i64 {m : M} (h : ValM (.int .i64) m) : ∃ n, m = .int .i64 n ∧ -9223372036854775808 ≤ n ∧ n ≤ 9223372036854775807 := by
  simp only [ValM] at h
  obtain ⟨n, h1, h2⟩ := cells_int h
  simp only [List.cons.injEq, and_true] at h1
  exact ⟨n, h1, wf_i64 h2⟩
theorem val_str {m : M} (h : ValM .str m) : ∃ s, m = .str s ∧ s.length ≤ maxLen := by
  simp only [ValM] at h
  obtain ⟨n, h1, h2⟩ := cells_str h
  simp only [List.cons.injEq, and_true] at h1
  exact ⟨n, h1, h2⟩
theorem val_bool {m : M} (h : ValM .bool m) : ∃ b, m = .bool b := by
  simp only [ValM] at h
  obtain ⟨n, h1⟩ := cells_bool h
  simp only [List.cons.injEq, and_true] at h1
  exact ⟨n, h1⟩
end Fw
