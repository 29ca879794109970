/- limbs.Sub by its contract: the difference, 0 at least. -/
import Derived.Test.YtbofdldkiooegaaCmp
import Derived.Test.YtbofdldkiooegaaClone
namespace Go.Proofs.Ytbofdldkiooegaa
open Go Go.RowKit Tw
set_option linter.unusedVariables false
set_option linter.unusedSimpArgs false

theorem sub_step {o' o b : List Nat} {j c : Nat} (hj : j < o'.length) (hx : nth o' j < W) (hy : nth b j < W) (hc : c ≤ 1) (hsame : nth o' j = nth o j)
    (hv : val W (o'.take j) + val W (b.take j) = val W (o.take j) + W ^ j * c) :
    val W ((o'.set j (subS (nth o' j) (nth b j) c)).take (j + 1)) + val W (b.take (j + 1)) = val W (o.take (j + 1)) + W ^ (j + 1) * subB (nth o' j) (nth b j) c := by
  have e := sub_eq hx hy hc
  rw [val_take_step, val_take_step, val_take_step, nth_set_eq hj, List.take_set_of_le (Nat.le_refl j), Nat.pow_succ, ← hsame]
  generalize subS (nth o' j) (nth b j) c = s at *
  generalize subB (nth o' j) (nth b j) c = d at *
  generalize W ^ j = p at *
  have : p * s + p * nth b j + p * c = p * nth o' j + p * W * d := by
    rw [← Nat.mul_add, ← Nat.mul_add, e, Nat.mul_add, Nat.mul_assoc]
  omega

theorem sub_end {o' o b : List Nat} {n c : Nat} (h' : Dig W o') (hb : Dig W b) (hl' : o'.length = n) (hl : o.length = n) (hle : val W b ≤ val W o) (ho : Dig W o)
    (hv : val W (o'.take n) + val W (b.take n) = val W (o.take n) + W ^ n * c) : val W o' = val W o - val W b := by
  rw [List.take_of_length_le (by omega), List.take_of_length_le (by omega : o.length ≤ n)] at hv
  have h1 := val_lt h'
  have h2 := val_lt ho
  rw [hl'] at h1; rw [hl] at h2
  have hbt : val W (b.take n) = val W b := by
    rcases Nat.le_total b.length n with h | h
    · rw [List.take_of_length_le h]
    · have hs := val_split W b n h
      have : val W (b.drop n) = 0 := by
        rcases Nat.eq_zero_or_pos (val W (b.drop n)) with h0 | h0
        · exact h0
        · have := Nat.mul_le_mul_left (W ^ n) h0
          omega
      rw [this] at hs; omega
  rw [hbt] at hv
  rcases Nat.eq_zero_or_pos c with h0 | h0
  · subst h0; simp at hv; omega
  · have := Nat.mul_le_mul_left (W ^ n) h0
    omega

set_option maxHeartbeats 400000 in
theorem sub_c (v1 v2 : Value) (l1 l2 : List Nat) (w : World) (h1 : Wd w v1 l1) (h2 : Wd w v2 l2) (hs1 : l1.length ≤ 60000) (hs2 : l2.length ≤ 60000) :
    Calls Try.prog 29 #[v1, v2] w fun e w' => ∃ v, e = .returned v ∧ OwnW w.heap.size w' v (digs W (val W l1 - val W l2)) ∧ Below w.heap.size w w' := by
  have C := Lib.hid (cmp_c v1 v2 l1 l2 w h1 h2)
  have H1 := Lib.hid h1; have H2 := Lib.hid h2
  have D1 := h1.dig; have D2 := h2.dig
  by_cases hlt : val W l1 < val W l2
  · rw [cmpN_lt hlt] at C
    have HZ := Lib.hid (show digs W (val W l1 - val W l2) = [] by rw [Nat.sub_eq_zero_of_le (Nat.le_of_lt hlt), digs_zero])
    clear h1 h2 hlt
    go_enter Try.func29, Try.ntmps29
    go_wp2_with fail
    refine Calls.mono C.out ?_; rintro e w' ⟨rfl, nd, rfl⟩
    go_wp2_with fail
    go_ret
    refine ⟨_, rfl, ?_, bel_drewN _ _ _⟩
    rw [HZ.out]; exact Own.nil _ _ _ _ _
  · have hc : ¬ cmpN (val W l1) (val W l2) < 0 := by unfold cmpN; rw [if_neg hlt]; split <;> omega
    have HLE := Lib.hid (Nat.le_of_not_lt hlt)
    obtain ⟨a2, c2, rfl, hw2⟩ := h2
    obtain ⟨hcap2, hmx2, _, hp2⟩ := hw2
    have HP2 := Lib.hid hp2
    have hle := length_digs_val W_two D1
    clear h1 hlt hp2 hmx2
    go_enter Try.func29, Try.ntmps29
    go_wp2_with fail
    refine Calls.mono C.out ?_; rintro e w' ⟨rfl, nd, rfl⟩
    go_wp2_with fail
    refine Calls.mono (trim_c _ l1 _ (H1.out.drawn nd) hs1) ?_; rintro e w1 ⟨v, rfl, ho, hb⟩
    have HVO := Lib.hid (val_digs W_two (val W l1))
    generalize digs W (val W l1) = o at *
    have hbel : Below w.heap.size w w1 := (bel_drewN w nd _).trans hb
    have HB := Lib.hid hbel
    have HO := Lib.hid ho
    obtain ⟨n, hn⟩ : ∃ n, n = o.length := ⟨_, rfl⟩
    have HN := Lib.hid hn
    rcases ho.shape with ⟨rfl, rfl⟩ | ⟨g, cap, rfl, hg1, hg2, hg3, hg4⟩
    · have HZ := Lib.hid (show val W l1 - val W l2 = 0 by have := HVO.out; simp [val] at this; omega)
      clear hn ho hb hbel
      go_wp2_with fail
      go_loopg [17] 0 (fun k i wr => i = .int .i64 0 ∧ wr = w1)
      case atStart => exact ⟨rfl, rfl⟩
      case round =>
        obtain ⟨rfl, rfl⟩ := hrel
        go_wp2_with fail
        refine Calls.mono (trimmed_n _ 0 0 [] _ rfl (Own.nil .u64 29 W 0 wr).lsS) ?_; rintro e w'' ⟨rfl, rfl⟩
        go_wp2_with fail
        go_ret
        refine ⟨_, rfl, ?_, HB.out⟩
        rw [HZ.out, digs_zero, val_nil, digs_zero]
        exact Own.nil _ _ _ _ _
    · have hgw : w.heap.size ≤ g := hg1
      have hn6 : n ≤ 60000 := by omega
      have hncap : n ≤ cap := by omega
      rw [← hn] 
      clear ho hb hbel hg1 hg2 hg3 hg4 hn
      go_wp2_with fail
      go_loopg [6, 17] n (fun k c i wr => ∃ (j br : Nat) (o' : List Nat), j ≤ n ∧ k = n - j ∧ i = .int .i64 j ∧ c = .int .u64 br ∧ br ≤ 1 ∧
        OwnW w.heap.size wr (.slice (some ⟨g, 0, none⟩) n cap) o' ∧ o'.length = n ∧ val W (o'.take j) + val W (l2.take j) = val W (o.take j) + W ^ j * br ∧ Below w.heap.size w wr ∧ (∀ i, j ≤ i → nth o' i = nth o i))
      case atStart => exact ⟨0, 0, o, Nat.zero_le _, rfl, rfl, rfl, Nat.zero_le _, by rw [HN.out]; exact HO.out, HN.out.symm, by simp [val], HB.out, fun _ _ => rfl⟩
      case round =>
        obtain ⟨j, br, o', hj, hk, rfl, rfl, hbr, hown, hol, hv, hbel, hsm⟩ := hrel
        have HK := Lib.hid hk; have HL := Lib.hid hol; have HV := Lib.hid hv; have HO' := Lib.hid hown; have HB' := Lib.hid hbel; have HSM := Lib.hid hsm
        by_cases hlt : j < n
        · have hcell := (show OwnW w.heap.size wr (.slice (some ⟨g, 0, none⟩) o'.length cap) o' by rw [hol]; exact hown).cell (i := j) (by omega)
          have hfree := hown.free hol.symm j
          have r1 := nth_digW W_pos hown.dig j
          have r2 := nth_digW W_pos D2 j
          have hsub := sub64_run (nth o' j) (nth l2 j) br hbr
          have hfin : Hid _ := Lib.hid (sub_step (by rw [hol]; exact hlt) r1 r2 hbr (hsm j (Nat.le_refl _)) hv)
          have S1 := Lib.hid (subB_le (nth o' j) (nth l2 j) br)
          have S2 := Lib.hid (subS_lt (nth o' j) (nth l2 j) br)
          by_cases hj2 : j < l2.length
          · obtain ⟨b, off, rfl, hcl⟩ := HP2.out (by intro e; rw [e] at hj2; simp at hj2)
            have g2 : wr.cell? ⟨b, off + j, none⟩ = some (.int .u64 ((nth l2 j : Nat) : Int)) := hcl.below (hcl.lt (by omega)) hbel j hj2
            clear hk hol hv hown hbel hcl hsm
            go_wp2_with fail
            go_roundg (n - (j + 1))
            case measure => have := HK.out; omega
            case rel =>
              refine ⟨j + 1, subB (nth o' j) (nth l2 j) br, o'.set j (subS (nth o' j) (nth l2 j) br), by omega, rfl, by go_num, rfl, S1.out, ?_, ?_, hfin.out, ?_, ?_⟩
              · exact HO'.out.set HL.out.symm j _ S2.out
              · simpa using HL.out
              · exact HB'.out.setCell hgw _
              · intro i hi; rw [nth_set_ne (by omega)]; exact HSM.out i (by omega)
          · have hz : nth l2 j = 0 := nth_ge (by omega)
            have hsub0 := sub64_run0 (nth o' j) br hbr
            have HZ := Lib.hid hz
            clear hk hol hv hown hbel hsm hz hsub
            go_wp2_with fail
            go_roundg (n - (j + 1))
            case measure => have := HK.out; omega
            case rel =>
              refine ⟨j + 1, subB (nth o' j) (nth l2 j) br, o'.set j (subS (nth o' j) (nth l2 j) br), by omega, rfl, by go_num, ?_, S1.out, ?_, ?_, hfin.out, ?_, ?_⟩
              · rw [HZ.out]
              · rw [HZ.out] at S2 ⊢; exact HO'.out.set HL.out.symm j _ S2.out
              · simpa using HL.out
              · exact HB'.out.setCell hgw _
              · intro i hi; rw [nth_set_ne (by omega)]; exact HSM.out i (by omega)
        · obtain rfl : j = n := by omega
          have hfin : Hid _ := Lib.hid (sub_end hown.dig D2 hol HN.out.symm (by rw [HVO.out]; exact HLE.out) HO.out.dig hv)
          clear hk hol hv hown hbel hsm
          go_wp2_with fail
          refine Calls.mono (trimmed_n _ j cap o' _ HL.out.symm HO'.out.lsS) ?_; rintro e w'' ⟨rfl, rfl⟩
          go_wp2_with fail
          go_ret
          refine ⟨_, rfl, ?_, HB'.out⟩
          have h3 := HO'.out.trim W_two HL.out.symm
          rw [hfin.out, HVO.out] at h3 ⊢
          exact h3.mono (Nat.le_refl _)

end Go.Proofs.Ytbofdldkiooegaa
