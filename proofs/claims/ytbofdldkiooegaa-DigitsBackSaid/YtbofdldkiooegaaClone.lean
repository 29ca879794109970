/- slices.Clone at []uint64, limbs.Trim by their contracts. -/
import Derived.Test.YtbofdldkiooegaaTrim
import Derived.Test.YtbofdldkiooegaaBits
namespace Go.Proofs.Ytbofdldkiooegaa
open Go Go.RowKit Tw
set_option linter.unusedVariables false
set_option linter.unusedSimpArgs false

theorem info_u64 : (Try.prog.info? 29).map (fun i => (i.zero, i.size, i.bytes)) = some (some (.int .u64 0), 1, 8) := by kernel_rfl

abbrev OwnW (base : Nat) (w : World) (v : Value) (l : List Nat) : Prop := Own .u64 29 W base w v l

theorem clone_c (a : Option Addr) (cap : Nat) (l : List Nat) (w : World) (h : WdS w a cap l) (hs : l.length ≤ 60000) :
    Calls Try.prog 78 #[.slice a l.length cap] w fun e w' => ∃ v, e = .returned v ∧ OwnW w.heap.size w' v l ∧ Below w.heap.size w w' := by
  have H := Lib.hid h
  obtain ⟨n, hn⟩ : ∃ n, n = l.length := ⟨_, rfl⟩
  rw [← hn] at hs ⊢
  have heq := fun w => Lib.run_eql_slice_nil (P := Try.prog) w 22 29 a n cap 0 0 Try.underlying22
  obtain ⟨h1, h2, h3, h4⟩ := h
  have HN := Lib.hid hn; 
  cases a with
  | none =>
    have hl : l = [] := by
      cases l with
      | nil => rfl
      | cons x l => obtain ⟨b, off, h, _⟩ := h4 (by simp); simp at h
    subst hl
    clear h4 hn
    go_enter Try.func78, Try.ntmps78
    go_wp2
    go_ret
    exact ⟨_, rfl, Own.nil _ _ _ _ _, Below.refl _ _⟩
  | some x =>
    clear h4 hn
    go_enter Try.func78, Try.ntmps78
    go_wp2_with (at_builtin; refine wpList_appS _ rfl _ _ 22 rfl 29 .u64 8 Try.underlying22 info_u64 W w.heap.size (.slice (some ⟨w.heap.size, 0, none⟩) 0 0) [] l rfl ?_ x cap n rfl ?_ ?_ ?_ ?_ ?_ ?_)
    · exact Own.lit .u64 _ W _ w #[] [] (Nat.le_refl _) (Nat.zero_le _) rfl (Dig.nil _)
    · exact HN.out
    · exact H.out.below ((Below.refl _ _).alloc (Nat.le_refl _) _)
    · have := HN.out; simp; unfold maxLen; omega
    · have := HN.out; simp; omega
    · simp
    · intro l' v' w' HL' ho hb hg
      have HO := Lib.hid ho; have HB := Lib.hid hb; clear ho hb hg
      go_wp2_with fail
      go_ret
      refine ⟨_, rfl, ?_, ((Below.refl _ _).alloc (Nat.le_refl _) _).trans HB.out⟩
      obtain rfl : l' = l := by simpa using HL'.out
      exact HO.out

/-- Clone of what trimmed hands back, and the like: a value that reads as digits -/
theorem clone_v (v : Value) (l : List Nat) (w : World) (h : Wd w v l) (hs : l.length ≤ 60000) :
    Calls Try.prog 78 #[v] w fun e w' => ∃ v, e = .returned v ∧ OwnW w.heap.size w' v l ∧ Below w.heap.size w w' := by
  obtain ⟨a, cap, rfl, h⟩ := h
  exact clone_c a cap l w h hs

theorem clone_n (a : Option Addr) (n cap : Nat) (l : List Nat) (w : World) (hn : n = l.length) (h : WdS w a cap l) (hs : l.length ≤ 60000) :
    Calls Try.prog 78 #[.slice a n cap] w fun e w' => ∃ v, e = .returned v ∧ OwnW w.heap.size w' v l ∧ Below w.heap.size w w' := by
  subst hn; exact clone_c a cap l w h hs

theorem trimmed_v (v : Value) (l : List Nat) (w : World) (h : Wd w v l) :
    Calls Try.prog 77 #[v] w fun e w' => ∃ v', e = .returned v' ∧ Wd w v' (digs W (val W l)) ∧ w = w' := by
  obtain ⟨a, cap, rfl, h⟩ := h
  refine (trimmed_c a cap l w h).mono ?_
  rintro e w' ⟨rfl, rfl⟩
  exact ⟨_, rfl, ⟨a, cap, rfl, h.trim W_two⟩, rfl⟩

theorem trim_c (v : Value) (l : List Nat) (w : World) (h : Wd w v l) (hs : l.length ≤ 60000) :
    Calls Try.prog 20 #[v] w fun e w' => ∃ v, e = .returned v ∧ OwnW w.heap.size w' v (digs W (val W l)) ∧ Below w.heap.size w w' := by
  have H := Lib.hid h
  have hle := length_digs_val W_two h.dig
  clear h
  go_enter Try.func20, Try.ntmps20
  go_wp2_with fail
  refine Calls.mono (trimmed_v _ l _ H.out) ?_; rintro e w' ⟨v1, rfl, h1, rfl⟩
  have H1 := Lib.hid h1; clear h1
  go_wp2_with fail
  refine Calls.mono (clone_v _ _ _ H1.out (by omega)) ?_; rintro e w' ⟨v2, rfl, h2, hb⟩
  have H2 := Lib.hid h2; have HB := Lib.hid hb; clear h2 hb
  go_wp2_with fail
  go_ret
  exact ⟨_, rfl, H2.out, HB.out⟩

end Go.Proofs.Ytbofdldkiooegaa
