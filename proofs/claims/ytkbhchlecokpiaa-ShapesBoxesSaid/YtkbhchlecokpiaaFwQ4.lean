/- What comes in, as fractions. -/
import Derived.Test.YtkbhchlecokpiaaFwQ
namespace Fw
open Go Go.RowKit Tw
set_option linter.unusedVariables false
set_option linter.unusedSimpArgs false
abbrev shRat : Sh := .st [shInt, shInt]
theorem cells_Rat {ms : List M} (h : Cells shRat ms) : ∃ b l b' l', ms = [.bool b, mW l, .bool b', mW l'] ∧ Dig W l ∧ Dig W l' ∧ l.length ≤ maxLen ∧ l'.length ≤ maxLen := by
  obtain ⟨css, rfl, hc⟩ := cells_st h
  clear h
  obtain ⟨c, cs, rfl, h1, hc⟩ := cellsL_cons hc
  obtain ⟨c2, cs, rfl, h2, hc⟩ := cellsL_cons hc
  obtain rfl := cellsL_nil hc
  obtain ⟨b, l, rfl, d1, e1⟩ := cells_Int h1
  obtain ⟨b', l', rfl, d2, e2⟩ := cells_Int h2
  exact ⟨b, l, b', l', rfl, d1, d2, e1, e2⟩
theorem val_Rat {m : M} (h : ValM shRat m) : ∃ b l b' l', m = .agg [.bool b, mW l, .bool b', mW l'] ∧ Dig W l ∧ Dig W l' ∧ l.length ≤ maxLen ∧ l'.length ≤ maxLen := by
  simp only [ValM] at h
  obtain ⟨ms, rfl, h⟩ := h
  obtain ⟨b, l, b', l', rfl, d1, d2, e1, e2⟩ := cells_Rat h
  exact ⟨b, l, b', l', rfl, d1, d2, e1, e2⟩
end Fw
