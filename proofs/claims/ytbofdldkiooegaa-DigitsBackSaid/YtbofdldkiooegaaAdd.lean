/- limbs.Add by its contract: the sum, in its one form, in memory of its own. -/
import Derived.Test.YtbofdldkiooegaaClone
namespace Go.Proofs.Ytbofdldkiooegaa
open Go Go.RowKit Tw
set_option linter.unusedVariables false
set_option linter.unusedSimpArgs false

theorem digit_c (v : Value) (l : List Nat) (j : Nat) (w : World) (h : Wd w v l) :
    Calls Try.prog 87 #[v, .int .i64 j] w fun e w' => e = .returned (.int .u64 ((nth l j : Nat) : Int)) ∧ w = w' := by
  obtain ⟨a, cap, rfl, h1, h2, h3, h4⟩ := h
  unfold maxLen at h2
  by_cases hj : j < l.length
  · obtain ⟨b, off, rfl, hc⟩ := h4 (by intro e; subst e; simp at hj)
    have g := hc j hj
    clear h4 hc
    go_enter Try.func87, Try.ntmps87
    go_wp2
    go_ret
    exact ⟨rfl, rfl⟩
  · have hz := Lib.hid (nth_ge (Nat.le_of_not_lt hj))
    clear h4
    go_enter Try.func87, Try.ntmps87
    go_wp2
    go_ret
    exact ⟨ret_int (by rw [hz.out]; rfl), rfl⟩

/-- one step of the sum -/
theorem add_step {a b o : List Nat} {j c : Nat} (hj : j < o.length)
    (hv : val W (o.take j) + W ^ j * c = val W (a.take j) + val W (b.take j)) :
    val W ((o.set j (addS (nth a j) (nth b j) c)).take (j + 1)) + W ^ (j + 1) * addC (nth a j) (nth b j) c = val W (a.take (j + 1)) + val W (b.take (j + 1)) := by
  have e := add_eq (nth a j) (nth b j) c
  rw [val_take_step, val_take_step, val_take_step, nth_set_eq hj, List.take_set_of_le (Nat.le_refl j), Nat.pow_succ]
  generalize addS (nth a j) (nth b j) c = s at *
  generalize addC (nth a j) (nth b j) c = d at *
  generalize W ^ j = p at *
  have : p * s + p * W * d = p * nth a j + p * nth b j + p * c := by
    rw [Nat.mul_assoc, ← Nat.mul_add, e, Nat.mul_add, Nat.mul_add]
  omega

theorem add_end {a b o : List Nat} {n c : Nat} (ho : o.length = n) (ha : a.length ≤ n) (hb : b.length ≤ n)
    (hv : val W (o.take n) + W ^ n * c = val W (a.take n) + val W (b.take n)) : val W (o ++ [c]) = val W a + val W b := by
  rw [val_snoc, ho]
  rw [List.take_of_length_le (by omega), List.take_of_length_le ha, List.take_of_length_le hb] at hv
  exact hv

set_option maxHeartbeats 400000 in
theorem add_c (v1 v2 : Value) (l1 l2 : List Nat) (w : World) (h1 : Wd w v1 l1) (h2 : Wd w v2 l2) (hs1 : l1.length ≤ 60000) (hs2 : l2.length ≤ 60000) :
    Calls Try.prog 28 #[v1, v2] w fun e w' => ∃ v, e = .returned v ∧ OwnW w.heap.size w' v (digs W (val W l1 + val W l2)) ∧ Below w.heap.size w w' := by
  have H1 := Lib.hid h1; have H2 := Lib.hid h2
  have D1 := h1.dig; have D2 := h2.dig
  obtain ⟨a1, c1, rfl, hw1⟩ := h1
  obtain ⟨a2, c2, rfl, hw2⟩ := h2
  clear hw1 hw2
  obtain ⟨n, hn⟩ : ∃ n, n = max l1.length l2.length := ⟨_, rfl⟩
  have hn1 : l1.length ≤ n := by omega
  have hn2 : l2.length ≤ n := by omega
  have hn3 : n ≤ 60000 := by omega
  have hmx : (max (l1.length : Int) (l2.length : Int)) = (n : Int) := by omega
  have HN := Lib.hid hn; clear hn
  go_enter Try.func28, Try.ntmps28
  go_wp2_with (at_make; refine wpList_make_z _ rfl _ _ 22 rfl w.heap.size 29 .u64 8 W Try.underlying22 info_u64 .i64 .i64 _ _ n (n + 1) rfl rfl rfl rfl (by omega) (by omega) (by unfold maxLen; omega) (Nat.le_refl _) (by have := W_two; omega) ?_; intro wm hown hbel hsz; have Hsz := Lib.hid hsz; clear hsz)
  go_loopg [8, 20] n (fun k c i wr => ∃ (j cy : Nat) (o : List Nat), j ≤ n ∧ k = n - j ∧ i = .int .i64 j ∧ c = .int .u64 cy ∧ cy ≤ 1 ∧
    OwnW w.heap.size wr (.slice (some ⟨w.heap.size, 0, none⟩) n (n + 1)) o ∧ o.length = n ∧ val W (o.take j) + W ^ j * cy = val W (l1.take j) + val W (l2.take j) ∧ Below w.heap.size w wr)
  case atStart => exact ⟨0, 0, List.replicate n 0, Nat.zero_le _, rfl, rfl, rfl, Nat.zero_le _, hown, by simp, by simp [val], hbel⟩
  case round =>
    clear hown hbel
    obtain ⟨j, cy, o, hj, hk, rfl, rfl, hcy, hown, hol, hv, hbel⟩ := hrel
    have HK := Lib.hid hk; have HL := Lib.hid hol; have HV := Lib.hid hv; have HO := Lib.hid hown; have HB := Lib.hid hbel
    have q1 : Hid (Wd wr _ l1) := Lib.hid (H1.out.below hbel)
    have q2 : Hid (Wd wr _ l2) := Lib.hid (H2.out.below hbel)
    by_cases hlt : j < n
    · have hadd := add64_run (nth l1 j) (nth l2 j) cy hcy
      have hcell := (show OwnW w.heap.size wr (.slice (some ⟨w.heap.size, 0, none⟩) o.length (n + 1)) o by rw [hol]; exact hown).cell (i := j) (by omega)
      have hfree := hown.free hol.symm j
      clear hk hol hv hown hbel
      go_wp2_with fail
      refine Calls.mono (digit_c _ l1 j _ q1.out) ?_; rintro e w' ⟨rfl, rfl⟩
      go_wp2_with fail
      refine Calls.mono (digit_c _ l2 j _ q2.out) ?_; rintro e w' ⟨rfl, rfl⟩
      go_wp2_with fail
      go_roundg (n - (j + 1))
      case measure => have := HK.out; omega
      case rel =>
        refine ⟨j + 1, addC (nth l1 j) (nth l2 j) cy, o.set j (addS (nth l1 j) (nth l2 j) cy), by omega, rfl, by go_num, rfl, ?_, ?_, ?_, ?_, ?_⟩
        · exact addC_le (nth_digW W_pos D1 j) (nth_digW W_pos D2 j) hcy
        · exact HO.out.set HL.out.symm j _ (addS_lt _ _ _)
        · simpa using HL.out
        · exact add_step (by rw [HL.out]; exact hlt) HV.out
        · exact HB.out.setCell (Nat.le_refl _) _
    · obtain rfl : j = n := by omega
      clear hk hol hv hown hbel
      have HA : Hid (val W (o ++ [cy]) = val W l1 + val W l2) := Lib.hid (add_end HL.out hn1 hn2 HV.out)
      go_wp2_with (at_builtin; refine wpList_app _ rfl _ _ 22 rfl 29 .u64 8 Try.underlying22 info_u64 W w.heap.size (.slice (some ⟨w.heap.size, 0, none⟩) j (j + 1)) o [cy] rfl ?_ wr.heap.size 0 1 rfl (CellsG.one _ _ _ _) ?_ ?_ ?_ ?_ ?_)
      · exact HO.out.alloc _
      · exact Dig.one (by have := W_two; omega)
      · have := HL.out; simp; unfold maxLen; omega
      · have := HL.out; simp; omega
      · have := HB.out.size; simp; omega
      · intro l' v' w' HL' ho hb hg
        obtain ⟨a', cap', rfl, hls⟩ := ho.ls; have HG := Lib.hid hg; have HO' := Lib.hid ho; have HB' := Lib.hid hb; have HS' := Lib.hid hls; clear hg ho hb hls
        go_wp2_with fail
        refine Calls.mono (trimmed_c a' cap' l' w' HS'.out) ?_; rintro e w'' ⟨rfl, rfl⟩
        go_wp2_with fail
        go_ret
        refine ⟨_, rfl, ?_, ?_⟩
        · rw [← HA.out, ← HL'.out]; exact HO'.out.trim W_two rfl
        · exact (HB.out.alloc HB.out.size _).trans HB'.out

end Go.Proofs.Ytbofdldkiooegaa
