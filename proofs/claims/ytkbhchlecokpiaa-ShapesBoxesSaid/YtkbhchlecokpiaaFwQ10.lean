/- What comes in, as networks and queries. -/
import Derived.Test.YtkbhchlecokpiaaFwQ4
import Derived.Test.YtkbhchlecokpiaaFwH10
namespace Go.Proofs.Ytkbhchlecokpiaa
open Go Go.RowKit Fw Tw Rat
set_option linter.unusedVariables false
set_option linter.unusedSimpArgs false
abbrev shTerm : Sh := .st [.int .i64, shRat]
abbrev shLayer : Sh := .st [.int .u8, .sl (.sl shTerm), .sl shRat, .int .i64, .int .i64, .int .i64, .int .i64, .int .i64, .int .i64, .int .i64, .int .i64, .sl shRat, .sl (.sl (.int .i64))]
abbrev shNet : Sh := .st [.int .i64, .sl shLayer]
abbrev shQuery : Sh := .st [.sl shRat, .int .i64, .sl shRat, .sl shRat, .int .u8]
theorem cells_RQ {c : List M} (h : Cells shRat c) : ∃ r : RQ, c = rqC r ∧ DgQ r := by
  obtain ⟨b, l, b', l', rfl, d1, d2, _, _⟩ := cells_Rat h
  exact ⟨⟨b, l, b', l'⟩, rfl, d1, d2⟩
theorem cells_Tm {c : List M} (h : Cells shTerm c) : ∃ t : Tm, c = tmC t ∧ DgQ t.x := by
  obtain ⟨css, rfl, hc⟩ := cells_st h
  clear h
  obtain ⟨c1, cs, rfl, h1, hc⟩ := cellsL_cons hc
  obtain ⟨c2, cs, rfl, h2, hc⟩ := cellsL_cons hc
  obtain rfl := cellsL_nil hc
  obtain ⟨n, rfl, _⟩ := cells_int h1
  obtain ⟨r, rfl, hr⟩ := cells_RQ h2
  exact ⟨⟨n, r⟩, rfl, hr⟩
theorem cells_rats {c : List M} (h : Cells (.sl shRat) c) : ∃ l : List RQ, c = [mS rqC l] ∧ ∀ r ∈ l, DgQ r := by
  obtain ⟨l, h1, h2, _⟩ := cells_sl (enc := rqC) (fun c hc => cells_RQ hc) h
  exact ⟨l, h1, h2⟩
theorem cells_rows {c : List M} (h : Cells (.sl (.sl shTerm)) c) : ∃ l : List (List Tm), c = [mS vcC l] ∧ ∀ v ∈ l, ∀ t ∈ v, DgQ t.x := by
  obtain ⟨l, h1, h2, _⟩ := cells_sl (enc := vcC) (Q := fun v => ∀ t ∈ v, DgQ t.x) (fun c hc => by
    obtain ⟨v, g1, g2, _⟩ := cells_sl (enc := tmC) (Q := fun t => DgQ t.x) (fun c hc => cells_Tm hc) hc
    exact ⟨v, g1, g2⟩) h
  exact ⟨l, h1, h2⟩
theorem cells_ints {c : List M} (h : Cells (.sl (.int .i64)) c) : ∃ l : List Int, c = [mS niC l] := by
  obtain ⟨l, h1, h2, _⟩ := cells_sl (enc := niC) (Q := fun _ => True) (fun c hc => by
    obtain ⟨n, g1, _⟩ := cells_int hc
    exact ⟨n, g1, trivial⟩) h
  exact ⟨l, h1⟩
theorem cells_groups {c : List M} (h : Cells (.sl (.sl (.int .i64))) c) : ∃ l : List (List Int), c = [mS grC l] := by
  obtain ⟨l, h1, h2, _⟩ := cells_sl (enc := grC) (Q := fun _ => True) (fun c hc => by
    obtain ⟨v, g1⟩ := cells_ints hc
    exact ⟨v, g1, trivial⟩) h
  exact ⟨l, h1⟩
theorem cells_Ly {c : List M} (h : Cells shLayer c) : ∃ l : Ly, c = lyC l ∧ DgL l := by
  obtain ⟨css, rfl, hc⟩ := cells_st h
  clear h
  obtain ⟨c0, cs, rfl, h0, hc⟩ := cellsL_cons hc
  obtain ⟨c1, cs, rfl, h1, hc⟩ := cellsL_cons hc
  obtain ⟨c2, cs, rfl, h2, hc⟩ := cellsL_cons hc
  obtain ⟨c3, cs, rfl, h3, hc⟩ := cellsL_cons hc
  obtain ⟨c4, cs, rfl, h4, hc⟩ := cellsL_cons hc
  obtain ⟨c5, cs, rfl, h5, hc⟩ := cellsL_cons hc
  obtain ⟨c6, cs, rfl, h6, hc⟩ := cellsL_cons hc
  obtain ⟨c7, cs, rfl, h7, hc⟩ := cellsL_cons hc
  obtain ⟨c8, cs, rfl, h8, hc⟩ := cellsL_cons hc
  obtain ⟨c9, cs, rfl, h9, hc⟩ := cellsL_cons hc
  obtain ⟨c10, cs, rfl, h10, hc⟩ := cellsL_cons hc
  obtain ⟨c11, cs, rfl, h11, hc⟩ := cellsL_cons hc
  obtain ⟨c12, cs, rfl, h12, hc⟩ := cellsL_cons hc
  obtain rfl := cellsL_nil hc
  obtain ⟨kind, rfl, _⟩ := cells_int h0
  obtain ⟨rows, rfl, d1⟩ := cells_rows h1
  obtain ⟨bias, rfl, d2⟩ := cells_rats h2
  obtain ⟨n3, rfl, _⟩ := cells_int h3
  obtain ⟨n4, rfl, _⟩ := cells_int h4
  obtain ⟨n5, rfl, _⟩ := cells_int h5
  obtain ⟨n6, rfl, _⟩ := cells_int h6
  obtain ⟨n7, rfl, _⟩ := cells_int h7
  obtain ⟨n8, rfl, _⟩ := cells_int h8
  obtain ⟨n9, rfl, _⟩ := cells_int h9
  obtain ⟨n10, rfl, _⟩ := cells_int h10
  obtain ⟨ker, rfl, d11⟩ := cells_rats h11
  obtain ⟨grp, rfl⟩ := cells_groups h12
  exact ⟨⟨kind, rows, bias, n3, n4, n5, n6, n7, n8, n9, n10, ker, grp⟩, rfl, d2, d11, d1⟩
theorem val_Nt {m : M} (h : ValM shNet m) : ∃ n : Nt, m = .agg (ntC n) ∧ ∀ l ∈ n.lay, DgL l := by
  simp only [ValM] at h
  obtain ⟨ms, rfl, h⟩ := h
  obtain ⟨css, rfl, hc⟩ := cells_st h
  clear h
  obtain ⟨c0, cs, rfl, h0, hc⟩ := cellsL_cons hc
  obtain ⟨c1, cs, rfl, h1, hc⟩ := cellsL_cons hc
  obtain rfl := cellsL_nil hc
  obtain ⟨inp, rfl, _⟩ := cells_int h0
  obtain ⟨l, rfl, h2, _⟩ := cells_sl (enc := lyC) (fun c hc => cells_Ly hc) h1
  exact ⟨⟨inp, l⟩, rfl, h2⟩
structure DgY (q : Qy) : Prop where
  x0 : ∀ r ∈ q.x0, DgQ r
  lo : ∀ r ∈ q.lo, DgQ r
  hi : ∀ r ∈ q.hi, DgQ r
  lab : -9223372036854775808 ≤ q.label ∧ q.label ≤ 9223372036854775807
theorem val_Qy {m : M} (h : ValM shQuery m) : ∃ q : Qy, m = .agg (qyC q) ∧ DgY q := by
  simp only [ValM] at h
  obtain ⟨ms, rfl, h⟩ := h
  obtain ⟨css, rfl, hc⟩ := cells_st h
  clear h
  obtain ⟨c0, cs, rfl, h0, hc⟩ := cellsL_cons hc
  obtain ⟨c1, cs, rfl, h1, hc⟩ := cellsL_cons hc
  obtain ⟨c2, cs, rfl, h2, hc⟩ := cellsL_cons hc
  obtain ⟨c3, cs, rfl, h3, hc⟩ := cellsL_cons hc
  obtain ⟨c4, cs, rfl, h4, hc⟩ := cellsL_cons hc
  obtain rfl := cellsL_nil hc
  obtain ⟨x0, rfl, d0⟩ := cells_rats h0
  obtain ⟨label, rfl, w1⟩ := cells_int h1
  obtain ⟨lo, rfl, d2⟩ := cells_rats h2
  obtain ⟨hi, rfl, d3⟩ := cells_rats h3
  obtain ⟨norm, rfl, _⟩ := cells_int h4
  exact ⟨⟨x0, label, lo, hi, norm⟩, rfl, d0, d2, d3, wf_i64 w1⟩
end Go.Proofs.Ytkbhchlecokpiaa
