/- limbs.DivMod (all ways), Gcd, Bits by their contracts. -/
import Derived.Test.YtbofdldkiooegaaDivMod
namespace Go.Proofs.Ytbofdldkiooegaa
open Go Go.RowKit Tw
set_option linter.unusedVariables false
set_option linter.unusedSimpArgs false

set_option maxRecDepth 100000 in
set_option maxHeartbeats 1000000 in
theorem divmod_c (v1 v2 : Value) (l1 l2 : List Nat) (w : World) (h1 : Wd w v1 l1) (h2 : Wd w v2 l2) (hs1 : l1.length ≤ 20000) (hs2 : l2.length ≤ 20000) :
    Calls Try.prog 21 #[v1, v2] w fun e w' => ∃ v1 v2, e = .returned (.tuple #[v1, v2]) ∧
      OwnW w.heap.size w' v1 (digs W (val W l1 / val W l2)) ∧ OwnW w.heap.size w' v2 (digs W (remN (val W l1) (val W l2))) ∧ Below w.heap.size w w' := by
  have H1 := Lib.hid h1; have H2 := Lib.hid h2
  have hle1 := length_digs_val W_two h1.dig
  have hle2 := length_digs_val W_two h2.dig
  have E1 := Lib.hid (val_digs W_two (val W l1)); have E2 := Lib.hid (val_digs W_two (val W l2))
  by_cases hz : digs W (val W l2) = []
  · have h0 := (length_digs_zero (n := val W l2) W_two).1 (by rw [hz]; rfl)
    have HR1 := Lib.hid (show digs W (val W l1 / val W l2) = [] by rw [h0, Nat.div_zero, digs_zero])
    have HR2 := Lib.hid (show digs W (remN (val W l1) (val W l2)) = [] by unfold remN; rw [if_pos h0, digs_zero])
    clear h1 h2 h0
    go_enter Try.func21, Try.ntmps21
    go_wp2_with fail
    refine Calls.mono (trimmed_v _ _ _ H1.out) ?_; rintro e w' ⟨t1, rfl, g1, rfl⟩
    go_wp2_with fail
    refine Calls.mono (trimmed_v _ _ _ H2.out) ?_; rintro e w' ⟨t2, rfl, g2, rfl⟩
    rw [hz] at g2
    obtain ⟨a1, c1, rfl, hx1⟩ := g1
    obtain ⟨a2, c2, rfl, hx2⟩ := g2
    clear hx1 hx2 hz
    go_wp2_with fail
    go_ret2
    refine ⟨_, _, rfl, ?_, ?_, Below.refl _ _⟩
    · rw [HR1.out]; exact Own.nil _ _ _ _ _
    · rw [HR2.out]; exact Own.nil _ _ _ _ _
  · have hpos : 0 < val W l2 := by
      rcases Nat.eq_zero_or_pos (val W l2) with h | h
      · rw [h, digs_zero] at hz; exact absurd rfl hz
      · exact h
    have HRM := Lib.hid (show remN (val W l1) (val W l2) = val W l1 % val W l2 by unfold remN; rw [if_neg (by omega)])
    have hlen : 0 < (digs W (val W l2)).length := List.length_pos_iff.2 hz
    clear hz
    by_cases hlt : val W l1 < val W l2
    · have C := fun t1 t2 w (g1 : Wd w t1 (digs W (val W l1))) (g2 : Wd w t2 (digs W (val W l2))) => cmp_c t1 t2 (digs W (val W l1)) (digs W (val W l2)) w g1 g2
      rw [E1.out, E2.out, cmpN_lt hlt] at C
      have HC := Lib.hid C
      have HR1 := Lib.hid (show digs W (val W l1 / val W l2) = [] by rw [Nat.div_eq_of_lt hlt, digs_zero])
      have HR2 := Lib.hid (show remN (val W l1) (val W l2) = val W l1 by rw [HRM.out, Nat.mod_eq_of_lt hlt])
      clear h1 h2 C hlt hpos
      go_enter Try.func21, Try.ntmps21
      go_wp2_with fail
      refine Calls.mono (trimmed_v _ _ _ H1.out) ?_; rintro e w' ⟨t1, rfl, g1, rfl⟩
      have G1 := Lib.hid g1; clear g1
      go_wp2_with fail
      refine Calls.mono (trimmed_v _ _ _ H2.out) ?_; rintro e w' ⟨t2, rfl, g2, rfl⟩
      have G2 := Lib.hid g2
      obtain ⟨a2, c2, rfl, hx2⟩ := g2
      clear hx2
      have hne0 : (((digs W (val W l2)).length : Int) == 0) = false := by rw [beq_eq_false_iff_ne]; omega
      go_wp2_with fail
      refine Calls.mono (HC.out _ _ _ G1.out G2.out) ?_; rintro e w' ⟨rfl, nd, rfl⟩
      go_wp2_with fail
      refine Calls.mono (clone_v _ _ _ (G1.out.drawn nd) (by omega)) ?_; rintro e w' ⟨v3, rfl, h3, hb⟩
      have H3 := Lib.hid h3; have HB := Lib.hid hb; clear h3 hb
      go_wp2_with fail
      go_ret2
      refine ⟨_, _, rfl, ?_, ?_, (bel_drewN w nd _).trans HB.out⟩
      · rw [HR1.out]; exact Own.nil _ _ _ _ _
      · rw [HR2.out]; exact H3.out
    · by_cases hl1 : (digs W (val W l2)).length = 1
      · have C := fun t1 t2 w (g1 : Wd w t1 (digs W (val W l1))) (g2 : Wd w t2 (digs W (val W l2))) => cmp_c t1 t2 (digs W (val W l1)) (digs W (val W l2)) w g1 g2
        rw [E1.out, E2.out] at C
        have HC := Lib.hid C
        have hcmp : ¬ cmpN (val W l1) (val W l2) < 0 := by unfold cmpN; rw [if_neg (by omega)]; split <;> omega
        have hd0 : Hid (nth (digs W (val W l2)) 0 = val W l2) := Lib.hid (by
          have h := val_take_step W (digs W (val W l2)) 0
          rw [List.take_of_length_le (by omega), E2.out] at h
          simp [val] at h; exact h.symm)
        have HDW : Hid (val W l2 < W) := Lib.hid (by rw [← hd0.out]; exact nth_digW W_pos (dig_digs W_two _) 0)
        have HP := Lib.hid hpos
        have HL1 := Lib.hid hl1
        clear h1 h2 C hlt hpos hl1
        go_enter Try.func21, Try.ntmps21
        go_wp2_with fail
        refine Calls.mono (trimmed_v _ _ _ H1.out) ?_; rintro e w' ⟨t1, rfl, g1, rfl⟩
        have G1 := Lib.hid g1; clear g1
        go_wp2_with fail
        refine Calls.mono (trimmed_v _ _ _ H2.out) ?_; rintro e w' ⟨t2, rfl, g2, rfl⟩
        have G2 := Lib.hid g2
        obtain ⟨a2, c2, rfl, hx2⟩ := g2
        obtain ⟨b2, o2, rfl, hcl⟩ := hx2.2.2.2 (List.length_pos_iff.1 hlen)
        have gc := hcl 0 hlen
        rw [hd0.out, Nat.add_zero] at gc
        have hne0 : ((1 : Int) == 0) = false := rfl
        clear hx2 hcl hlen
        rw [HL1.out]
        go_wp2_with fail
        refine Calls.mono (HC.out _ _ _ G1.out (by have := G2.out; rw [HL1.out] at this; exact this)) ?_; rintro e w' ⟨rfl, nd, rfl⟩
        go_wp2_with fail
        refine Calls.mono (byDigit_c _ _ (val W l2) _ (G1.out.drawn nd) (by omega) HP.out HDW.out) ?_; rintro e w' ⟨v3, v4, rfl, h3, h4, hb⟩
        have H3 := Lib.hid h3; have H4 := Lib.hid h4; have HB := Lib.hid hb; clear h3 h4 hb
        go_wp2_with fail
        go_ret2
        refine ⟨_, _, rfl, ?_, ?_, (bel_drewN w nd _).trans HB.out⟩
        · have := H3.out; rw [E1.out] at this; exact this
        · have := H4.out; rw [E1.out] at this; rw [HRM.out]; exact this
      · rw [HRM.out]
        exact knuth_c v1 v2 l1 l2 w h1 h2 hs1 hs2 (by omega) (by omega)

set_option maxHeartbeats 1000000 in
theorem gcd_c (v1 v2 : Value) (l1 l2 : List Nat) (w : World) (h1 : Wd w v1 l1) (h2 : Wd w v2 l2) (hs1 : l1.length ≤ 20000) (hs2 : l2.length ≤ 20000) :
    Calls Try.prog 18 #[v1, v2] w fun e w' => ∃ v, e = .returned v ∧ OwnW w.heap.size w' v (digs W (Nat.gcd (val W l1) (val W l2))) ∧ Below w.heap.size w w' := by
  have H1 := Lib.hid h1; have H2 := Lib.hid h2
  have hle1 := length_digs_val W_two h1.dig
  have hle2 := length_digs_val W_two h2.dig
  clear h1 h2
  go_enter Try.func18, Try.ntmps18
  go_wp2_with fail
  refine Calls.mono (trimmed_v _ _ _ H1.out) ?_; rintro e w' ⟨t1, rfl, g1, rfl⟩
  have G1 := Lib.hid g1; clear g1
  go_wp2_with fail
  refine Calls.mono (trimmed_v _ _ _ H2.out) ?_; rintro e w' ⟨t2, rfl, g2, rfl⟩
  have G2 := Lib.hid g2; clear g2
  go_wp2_with fail
  go_loopg [0, 1] (val W l2) (fun k va vb wr => ∃ x y : Nat, k = y ∧ Wd wr va (digs W x) ∧ Wd wr vb (digs W y) ∧ (digs W x).length ≤ 20000 ∧ (digs W y).length ≤ 20000 ∧ Hid (Nat.gcd x y = Nat.gcd (val W l1) (val W l2)) ∧ Below w.heap.size w wr)
  case atStart => exact ⟨val W l1, val W l2, rfl, G1.out, G2.out, by omega, by omega, rfl, Below.refl _ _⟩
  case round =>
    obtain ⟨x, y, hk, hA, hB, hx, hy, hg, hbel⟩ := hrel
    have HK := Lib.hid hk; have HA := Lib.hid hA; have HBB := Lib.hid hB; have HBE := Lib.hid hbel
    clear hk hA hbel
    obtain ⟨b, cb, rfl, hxb⟩ := hB
    clear hxb
    by_cases hy0 : 0 < (digs W y).length
    · have hyp : Hid (0 < y) := Lib.hid (by
        rcases Nat.eq_zero_or_pos y with h | h
        · subst h; rw [digs_zero] at hy0; simp at hy0
        · exact h)
      go_wp2_with fail
      refine Calls.mono (divmod_c _ _ _ _ _ HA.out HBB.out hx hy) ?_; rintro e w' ⟨v3, v4, rfl, h3, h4, hb⟩
      rw [val_digs W_two, val_digs W_two] at h4
      have hrem : remN x y = x % y := by unfold remN; rw [if_neg (by have := hyp.out; omega)]
      rw [hrem] at h4
      have H4 := Lib.hid h4.ls; have HB4 := Lib.hid hb
      have hlt := Nat.mod_lt x hyp.out
      have HLT := Lib.hid hlt
      have hl4 : (digs W (x % y)).length ≤ 20000 := by
        have h5 := lt_pow_length W_two y
        have := length_digs_le (n := x % y) W_two (Nat.lt_trans hlt h5)
        omega
      have HG' : Hid (Nat.gcd y (x % y) = Nat.gcd (val W l1) (val W l2)) := Lib.hid (by rw [← hg.out, Nat.gcd_comm x y, Nat.gcd_rec y x, Nat.gcd_comm])
      clear h3 h4 hb hrem hlt
      go_wp2_with fail
      go_roundg (x % y)
      case measure => have := HK.out; have := HLT.out; omega
      case rel => exact ⟨y, x % y, rfl, HBB.out.below HB4.out, H4.out, hy, hl4, HG', HBE.out.trans (HB4.out.mono HBE.out.size)⟩
    · have hyz : Hid (y = 0) := Lib.hid ((length_digs_zero W_two).1 (by omega))
      go_wp2_with fail
      refine Calls.mono (clone_v _ _ _ HA.out (by omega)) ?_; rintro e w' ⟨v3, rfl, h3, hb⟩
      have H3 := Lib.hid h3; have HB3 := Lib.hid hb; clear h3 hb
      go_wp2_with fail
      go_ret
      refine ⟨_, rfl, ?_, HBE.out.trans (HB3.out.mono HBE.out.size)⟩
      have := hg.out
      rw [hyz.out, Nat.gcd_zero_right] at this
      rw [← this]; exact H3.out.mono HBE.out.size

end Go.Proofs.Ytbofdldkiooegaa
