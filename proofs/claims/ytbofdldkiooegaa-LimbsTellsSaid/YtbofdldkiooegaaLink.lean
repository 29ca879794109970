/- From the form's reading of a slice of numbers that came in to the walks' own words. -/
import Derived.Test.YtbofdldkiooegaaMem
import Derived.OpenShut
namespace Tw
open Go Go.RowKit
set_option linter.unusedVariables false
set_option linter.unusedSimpArgs false

/-- what the form says of a slice of integers that came in -/
def IsRow (k : IntKind) (w : World) (a : Option Addr) (len cap : Nat) (zs : List Int) : Prop :=
  (a = none ∧ len = 0 ∧ cap = 0 ∧ zs = []) ∨
  ∃ x, a = some x ∧ len ≤ cap ∧ cap ≤ maxLen ∧ zs.length = cap ∧ (∀ i, i < zs.length → w.cell? (x.add i) = some (.int k (zs.getD i 0))) ∧ ∀ n ∈ zs, (Lit.int k n).wf = true

theorem wf_u64_bounds {n : Int} (h : (Lit.int .u64 n).wf = true) : 0 ≤ n ∧ n < 18446744073709551616 := by
  simp [Lit.wf, IntKind.min, IntKind.max, IntKind.bits, IntKind.signed] at h
  omega

theorem isRow_wds {w : World} {a : Option Addr} {len cap : Nat} {zs : List Int} (h : IsRow .u64 w a len cap zs) : ∃ l, len = l.length ∧ WdS w a cap l := by
  rcases h with ⟨rfl, rfl, rfl, rfl⟩ | ⟨x, rfl, hl, hm, hz, hc, hw⟩
  · exact ⟨[], rfl, Nat.le_refl _, Nat.zero_le _, Dig.nil _, fun h => absurd rfl h⟩
  · have hb : ∀ n ∈ zs, 0 ≤ n ∧ n < 18446744073709551616 := fun n hn => wf_u64_bounds (hw n hn)
    refine ⟨(zs.take len).map Int.toNat, by simp; omega, by simp; omega, hm, ?_, fun hne => ?_⟩
    · intro y hy
      simp only [List.mem_map] at hy
      obtain ⟨n, hn, rfl⟩ := hy
      have := hb n (List.mem_of_mem_take hn)
      unfold W; omega
    · have hpos : 0 < len := by
        rcases Nat.eq_zero_or_pos len with h | h
        · subst h; simp at hne
        · exact h
      have h0 := hc 0 (by omega)
      obtain ⟨b, off, spot⟩ := x
      have hspot : spot = none := by simpa [Addr.add] using World.cell?_spot h0
      subst hspot
      refine ⟨b, off, rfl, fun i hi => ?_⟩
      simp at hi
      have h1 := hc i (by omega)
      have hn : nth ((zs.take len).map Int.toNat) i = (zs.getD i 0).toNat := by
        unfold nth
        have hi2 : i < len := by omega
        simp only [List.getD_eq_getElem?_getD, List.getElem?_map, List.getElem?_take, if_pos hi2]
        rw [List.getElem?_eq_getElem (by omega)]; rfl
      have hge : 0 ≤ zs.getD i 0 := by
        rw [List.getD_eq_getElem?_getD, List.getElem?_eq_getElem (by omega)]
        exact (hb _ (List.getElem_mem _)).1
      rw [hn, Int.toNat_of_nonneg hge, ← h1]
      unfold Addr.add
      split
      · rename_i h; subst h; rfl
      · rfl

end Tw
