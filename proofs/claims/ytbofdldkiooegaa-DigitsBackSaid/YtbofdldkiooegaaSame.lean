/- tripwirelow.SameWords at two slices that read as the same digits: true. -/
import Derived.Test.YtbofdldkiooegaaProg
import Derived.Test.YtbofdldkiooegaaMem
namespace Go.Proofs.Ytbofdldkiooegaa
open Go Go.RowKit Tw
set_option linter.unusedVariables false
set_option linter.unusedSimpArgs false

theorem same_c (v1 v2 : Value) (l : List Nat) (w : World) (h1 : Wd w v1 l) (h2 : Wd w v2 l) :
    Calls Try.prog 17 #[v1, v2] w fun e w' => e = .returned (.bool true) ∧ ∃ n, w' = w.drewN n := by
  obtain ⟨a1, c1, rfl, hc1, hm1, hd1, hp1⟩ := h1
  obtain ⟨a2, c2, rfl, hc2, hm2, hd2, hp2⟩ := h2
  unfold maxLen at hm1 hm2
  by_cases hl : l = []
  · subst hl
    go_enter Try.func17, Try.ntmps17
    go_wp2
    go_loopg [5] 0 (fun k s wr => s = .int .i64 0 ∧ wr = w)
    case atStart => exact ⟨rfl, rfl⟩
    case round =>
      obtain ⟨rfl, rfl⟩ := hrel
      go_wp2
      go_ret
      exact ⟨rfl, 0, rfl⟩
  · obtain ⟨b1, o1, rfl, hx1⟩ := hp1 hl
    obtain ⟨b2, o2, rfl, hx2⟩ := hp2 hl
    have HL := Lib.hid hl; clear hl hp1 hp2
    have hne : ((l.length : Int) != (l.length : Int)) = false := by simp
    go_enter Try.func17, Try.ntmps17
    go_wp2
    go_loopg [5] l.length (fun k s wr => ∃ i n : Nat, i ≤ l.length ∧ k = l.length - i ∧ s = .int .i64 i ∧ wr = w.drewN n)
    case atStart => exact ⟨0, 0, Nat.zero_le _, rfl, rfl, rfl⟩
    case round =>
      obtain ⟨i, n, hi, hk, rfl, rfl⟩ := hrel
      have HK := Lib.hid hk; clear hk
      by_cases hlt : i < l.length
      · have g1 := hx1 i hlt
        have g2 := hx2 i hlt
        have hne2 : (((nth l i : Nat) : Int) != ((nth l i : Nat) : Int)) = false := by simp
        clear hx1 hx2
        go_wp2
        go_quiet (fail)
        go_wp2
        go_roundg (gk - 1)
        case measure => have := HK.out; omega
        case rel => exact ⟨i + 1, n + nq, by omega, by have := HK.out; omega, by go_num, by simp⟩
      · clear hx1 hx2
        go_wp2
        go_ret
        exact ⟨rfl, n, rfl⟩

end Go.Proofs.Ytbofdldkiooegaa
