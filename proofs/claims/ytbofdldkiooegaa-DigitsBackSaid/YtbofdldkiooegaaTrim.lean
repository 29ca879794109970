/- limbs.trimmed by its contract. -/
import Derived.Test.YtbofdldkiooegaaProg
import Derived.Test.YtbofdldkiooegaaMem
namespace Go.Proofs.Ytbofdldkiooegaa
open Go Go.RowKit Tw
set_option linter.unusedVariables false
set_option linter.unusedSimpArgs false

theorem trimmed_c (a : Option Addr) (cap : Nat) (l : List Nat) (w : World) (h : WdS w a cap l) :
    Calls Try.prog 77 #[.slice a l.length cap] w fun e w' => e = .returned (.slice a (digs W (val W l)).length cap) ∧ w = w' := by
  obtain ⟨h1, h2, h3, h4⟩ := h
  unfold maxLen at h2
  by_cases hl : l = []
  · subst hl
    have hd : (digs W (val W [])).length = 0 := by rw [val_nil, digs_zero]; rfl
    go_enter Try.func77, Try.ntmps77
    go_wp2
    go_loopg [0] 0 (fun k s wr => s = .slice a 0 cap ∧ wr = w)
    case atStart => exact ⟨rfl, rfl⟩
    case round =>
      obtain ⟨rfl, rfl⟩ := hrel
      go_wp2
      go_ret
      exact ⟨ret_slice hd.symm, rfl⟩
  · obtain ⟨b, off, rfl, hc⟩ := h4 hl
    have HL := Lib.hid hl; clear hl h4
    go_enter Try.func77, Try.ntmps77
    go_wp2
    go_loopg [0] l.length (fun k s wr => k ≤ l.length ∧ s = .slice (some ⟨b, off, none⟩) k cap ∧ wr = w ∧ Hid (∀ i, k ≤ i → i < l.length → nth l i = 0))
    case atStart => exact ⟨Nat.le_refl _, rfl, rfl, fun i h1 h2 => absurd h2 (by omega)⟩
    case round =>
      obtain ⟨hk, rfl, rfl, hz⟩ := hrel
      by_cases hk0 : gk = 0
      · subst hk0
        have hd := digs_take W_two h3 hk hz.out (.inl rfl)
        have hd' : (digs W (val W l)).length = 0 := by rw [hd]; simp
        have HD := Lib.hid hd'; clear hd hd'
        clear hc
        go_wp2
        go_ret
        exact ⟨ret_slice HD.out.symm, rfl⟩
      · have hc' : wr.cell? ⟨b, off + (gk - 1), none⟩ = some (.int .u64 ((nth l (gk - 1) : Nat) : Int)) := hc (gk - 1) (by omega)
        have hg : 0 < gk := by omega
        clear hc hk0
        by_cases h0 : nth l (gk - 1) = 0
        · have H0 := Lib.hid h0
          have hb : (((nth l (gk - 1) : Nat) : Int) == 0) = true := by rw [h0]; rfl
          clear h0
          go_wp2
          go_roundg (gk - 1)
          case measure => omega
          case rel =>
            refine ⟨by omega, by go_num, rfl, fun i h1 h2 => ?_⟩
            by_cases e : i = gk - 1
            · subst e; exact H0.out
            · exact hz.out i (by omega) h2
        · have hd := digs_take W_two h3 hk hz.out (.inr h0)
          have hd' : (digs W (val W l)).length = gk := by rw [hd]; simp [hk]
          have HD := Lib.hid hd'; clear hd hd'
          have hb : (((nth l (gk - 1) : Nat) : Int) == 0) = false := by rw [beq_eq_false_iff_ne]; omega
          clear h0
          go_wp2
          go_ret
          exact ⟨ret_slice HD.out.symm, rfl⟩

theorem trimmed_n (a : Option Addr) (n cap : Nat) (l : List Nat) (w : World) (hn : n = l.length) (h : WdS w a cap l) :
    Calls Try.prog 77 #[.slice a n cap] w fun e w' => e = .returned (.slice a (digs W (val W l)).length cap) ∧ w = w' := by
  subst hn; exact trimmed_c a cap l w h

end Go.Proofs.Ytbofdldkiooegaa
