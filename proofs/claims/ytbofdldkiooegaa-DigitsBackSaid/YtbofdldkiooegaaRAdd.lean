/- The reference of layer 1: Add, Sub, Cmp. -/
import Derived.Test.YtbofdldkiooegaaRSub
import Derived.Test.YtbofdldkiooegaaN
namespace Tw
open Go Go.RowKit
theorem radd_step {o l1 l2 : List Nat} {j c s : Nat} (ho : o.length = j) (hv : val 256 o + 256 ^ j * c = val 256 (l1.take j) + val 256 (l2.take j)) (hs : s = c + nth l1 j + nth l2 j) :
    val 256 (o ++ [s % 256]) + 256 ^ (j + 1) * (s / 256) = val 256 (l1.take (j + 1)) + val 256 (l2.take (j + 1)) := by
  rw [val_take_step, val_take_step, val_snoc, ho, Nat.pow_succ]
  generalize 256 ^ j = p at *
  have h1 : p * (s % 256) + p * 256 * (s / 256) = p * s := by rw [Nat.mul_assoc, ← Nat.mul_add, Nat.mod_add_div]
  have h2 : p * s = p * c + p * nth l1 j + p * nth l2 j := by rw [hs, Nat.mul_add, Nat.mul_add]
  omega
end Tw
namespace Go.Proofs.Ytbofdldkiooegaa
open Go Go.RowKit Tw
set_option linter.unusedVariables false
set_option linter.unusedSimpArgs false

set_option maxRecDepth 100000 in
set_option maxHeartbeats 2000000 in
theorem radd_c (v1 v2 : Value) (l1 l2 : List Nat) (w : World) (h1 : Wd w v1 l1) (h2 : Wd w v2 l2) (hs1 : l1.length ≤ 2000) (hs2 : l2.length ≤ 2000) :
    Calls Try.prog 33 #[v1, v2] w fun e w' => ∃ v', e = .returned v' ∧ OwnW w.heap.size w' v' (digs W (val W l1 + val W l2)) ∧ Below w.heap.size w w' := by
  have H1 := Lib.hid h1; have H2 := Lib.hid h2
  have hle1 := length_digs_le (b := 256) (k := 8 * l1.length) two56 (by rw [← W256]; exact val_lt h1.dig)
  have hle2 := length_digs_le (b := 256) (k := 8 * l2.length) two56 (by rw [← W256]; exact val_lt h2.dig)
  clear h1 h2
  go_enter Try.func33, Try.ntmps33
  go_wp2_with fail
  refine Calls.mono (small_c _ l1 _ H1.out (by omega)) ?_; rintro e wa ⟨t1, rfl, g1, hba⟩
  have H2a := Lib.hid (H2.out.below hba); clear H1 H2
  have BA := Lib.hid hba; have G1 := Lib.hid g1; clear hba g1
  go_wp2_with fail
  refine Calls.mono (small_c _ l2 _ H2a.out (by omega)) ?_; rintro e wb ⟨t2, rfl, g2, hbb⟩
  have G1b := Lib.hid (G1.out.below hbb).ls
  have G2b := Lib.hid g2.ls
  have BB := Lib.hid (bel_trans BA.out hbb); clear hbb g2 G1 H2a BA
  have E1 := Lib.hid (val_digs two56 (val W l1)); have E2 := Lib.hid (val_digs two56 (val W l2))
  generalize hA : val W l1 = A at *
  generalize hB : val W l2 = B at *
  generalize digs 256 A = d1 at *
  generalize digs 256 B = d2 at *
  have D1 := Lib.hid G1b.out.dig; have D2 := Lib.hid G2b.out.dig
  obtain ⟨a1, c1, rfl, hx1⟩ := G1b
  obtain ⟨a2, c2, rfl, hx2⟩ := G2b
  have HX1 := Lib.hid hx1; have HX2 := Lib.hid hx2
  obtain ⟨n1, hn1⟩ : ∃ n, n = d1.length := ⟨_, rfl⟩
  obtain ⟨n2, hn2⟩ : ∃ n, n = d2.length := ⟨_, rfl⟩
  have HN1 := Lib.hid hn1; have HN2 := Lib.hid hn2
  have hm1 : n1 ≤ 16000 := by omega
  have hm2 : n2 ≤ 16000 := by omega
  rw [← hn1, ← hn2]
  have HA := Lib.hid hA; have HB0 := Lib.hid hB
  clear hx1 hx2 hn1 hn2 hA hB hle1 hle2
  go_wp2_with fail
  go_loopg [7, 8, 9] (max n1 n2 + 1) (fun k s c i wr => ∃ (j cy : Nat) (o : List Nat), Hid (j ≤ max n1 n2 + 1) ∧ j ≤ 16001 ∧ k = max n1 n2 + 1 - j ∧ i = .int .i64 j ∧ c = .int .i64 cy ∧ cy ≤ 1 ∧ Hid (j = max n1 n2 + 1 → cy = 0) ∧ OwnD wb.heap.size wr s o ∧ Hid (o.length = j) ∧
    Hid (val 256 o + 256 ^ j * cy = val 256 (d1.take j) + val 256 (d2.take j)) ∧ Hid (Below wb.heap.size wb wr))
  case atStart => exact ⟨0, 0, [], by show 0 ≤ _; omega, by omega, rfl, rfl, rfl, by omega, fun _ => rfl, Own.nil _ _ _ _ _, rfl, by show _ = _; simp [val], Below.refl _ _⟩
  case round =>
    obtain ⟨j, cy, o, hj0, hj, hk, rfl, rfl, hcy, hz, hown, hol, hv, HBB⟩ := hrel
    have HK := Lib.hid hk; have HO := Lib.hid hown
    clear hk hown
    have key : ∀ s, s = cy + nth d1 j + nth d2 j → val 256 (o ++ [s % 256]) + 256 ^ (j + 1) * (s / 256) = val 256 (d1.take (j + 1)) + val 256 (d2.take (j + 1)) := fun s e => radd_step hol.out hv.out e
    have KEY := Lib.hid key
    have x1 := nth_digW (by omega) D1.out j
    have x2 := nth_digW (by omega) D2.out j
    have hz1 : n1 ≤ j → nth d1 j = 0 := fun h => nth_ge (by have := HN1.out; omega)
    have hz2 : n2 ≤ j → nth d2 j = 0 := fun h => nth_ge (by have := HN2.out; omega)
    have HZ1 := Lib.hid hz1; have HZ2 := Lib.hid hz2
    clear key hz1 hz2
    by_cases hlt1 : j < n1
    · by_cases hlt2 : j < n2
      · obtain ⟨b1, o1, rfl, hcl⟩ := HX1.out.2.2.2 (by intro e; have := HN1.out; rw [e] at this; simp at this; omega)
        have g1 : wr.cell? ⟨b1, o1 + j, none⟩ = some (.int .i64 ((nth d1 j : Nat) : Int)) := hcl.below (hcl.lt (by have := HN1.out; omega)) HBB.out _ (by have := HN1.out; omega)
        clear hcl
        obtain ⟨b2, o2, rfl, hcl⟩ := HX2.out.2.2.2 (by intro e; have := HN2.out; rw [e] at this; simp at this; omega)
        have g2 : wr.cell? ⟨b2, o2 + j, none⟩ = some (.int .i64 ((nth d2 j : Nat) : Int)) := hcl.below (hcl.lt (by have := HN2.out; omega)) HBB.out _ (by have := HN2.out; omega)
        clear hcl
        obtain ⟨s, hse⟩ : ∃ s, s = cy + nth d1 j + nth d2 j := ⟨_, rfl⟩
        have HS := Lib.hid (KEY.out s hse)
        have hsi : (cy : Int) + ((nth d1 j : Nat) : Int) + ((nth d2 j : Nat) : Int) = (s : Int) := by omega
        have hsb : s ≤ 511 := by omega
        have HMZ : Hid (j + 1 = max n1 n2 + 1 → s / 256 = 0) := Lib.hid (fun h => by omega)
        have HMX : Hid (j + 1 ≤ max n1 n2 + 1) := Lib.hid (by have := hz.out; have := hj0.out; omega)
        have t1 : (s : Int).tmod 256 = ((s % 256 : Nat) : Int) := rfl
        have t2 : (s : Int).tdiv 256 = ((s / 256 : Nat) : Int) := rfl
        clear hse KEY
        go_wp2_with (at_builtin; refine wpList_app _ rfl _ _ 38 rfl 3 .i64 8 Try.underlying38 info_i64 256 wb.heap.size _ o [s % 256] rfl ?_ wr.heap.size 0 1 rfl (CellsG.one _ (s % 256) _ _) ?_ ?_ ?_ ?_ ?_)
        · exact HO.out.alloc _
        · exact Dig.one (Nat.mod_lt _ (by omega))
        · have := hol.out; simp; unfold maxLen; omega
        · have := hol.out; simp; omega
        · have := HBB.out.size; simp; omega
        · intro l' v' w' HL' ho hb2 hg
          obtain ⟨a', cap', rfl, hls⟩ := ho.ls; have HO' := Lib.hid ho; have HB' := Lib.hid hb2; have HLS := Lib.hid hls; clear hg ho hb2 hls
          go_wp2_with fail
          go_roundg (max n1 n2 + 1 - (j + 1))
          case measure => have := HK.out; have := hj0.out; have := HMX.out; omega
          case rel =>
            refine ⟨j + 1, s / 256, l', ?_, by have := HMX.out; omega, rfl, by go_num, by go_num, by omega, ?_, HO'.out, ?_, ?_, ?_⟩
            · have := HMX.out; show _ ≤ _; omega
            · have := HMZ.out; intro h; omega
            · have := hol.out; show l'.length = _; rw [HL'.out]; simp; omega
            · rw [HL'.out]; exact HS.out
            · exact (HBB.out.alloc HBB.out.size _).trans HB'.out
      · obtain ⟨b1, o1, rfl, hcl⟩ := HX1.out.2.2.2 (by intro e; have := HN1.out; rw [e] at this; simp at this; omega)
        have g1 : wr.cell? ⟨b1, o1 + j, none⟩ = some (.int .i64 ((nth d1 j : Nat) : Int)) := hcl.below (hcl.lt (by have := HN1.out; omega)) HBB.out _ (by have := HN1.out; omega)
        clear hcl
        have e2 := HZ2.out (by omega)
        obtain ⟨s, hse⟩ : ∃ s, s = cy + nth d1 j + nth d2 j := ⟨_, rfl⟩
        have HS := Lib.hid (KEY.out s hse)
        have hsi : (cy : Int) + ((nth d1 j : Nat) : Int) = (s : Int) := by omega
        have hsb : s ≤ 511 := by omega
        have HMZ : Hid (j + 1 = max n1 n2 + 1 → s / 256 = 0) := Lib.hid (fun h => by omega)
        have HMX : Hid (j + 1 ≤ max n1 n2 + 1) := Lib.hid (by have := hz.out; have := hj0.out; omega)
        have t1 : (s : Int).tmod 256 = ((s % 256 : Nat) : Int) := rfl
        have t2 : (s : Int).tdiv 256 = ((s / 256 : Nat) : Int) := rfl
        clear hse KEY e2
        go_wp2_with (at_builtin; refine wpList_app _ rfl _ _ 38 rfl 3 .i64 8 Try.underlying38 info_i64 256 wb.heap.size _ o [s % 256] rfl ?_ wr.heap.size 0 1 rfl (CellsG.one _ (s % 256) _ _) ?_ ?_ ?_ ?_ ?_)
        · exact HO.out.alloc _
        · exact Dig.one (Nat.mod_lt _ (by omega))
        · have := hol.out; simp; unfold maxLen; omega
        · have := hol.out; simp; omega
        · have := HBB.out.size; simp; omega
        · intro l' v' w' HL' ho hb2 hg
          obtain ⟨a', cap', rfl, hls⟩ := ho.ls; have HO' := Lib.hid ho; have HB' := Lib.hid hb2; have HLS := Lib.hid hls; clear hg ho hb2 hls
          go_wp2_with fail
          go_roundg (max n1 n2 + 1 - (j + 1))
          case measure => have := HK.out; have := hj0.out; have := HMX.out; omega
          case rel =>
            refine ⟨j + 1, s / 256, l', ?_, by have := HMX.out; omega, rfl, by go_num, by go_num, by omega, ?_, HO'.out, ?_, ?_, ?_⟩
            · have := HMX.out; show _ ≤ _; omega
            · have := HMZ.out; intro h; omega
            · have := hol.out; show l'.length = _; rw [HL'.out]; simp; omega
            · rw [HL'.out]; exact HS.out
            · exact (HBB.out.alloc HBB.out.size _).trans HB'.out
    · by_cases hlt2 : j < n2
      · have e1 := HZ1.out (by omega)
        obtain ⟨b2, o2, rfl, hcl⟩ := HX2.out.2.2.2 (by intro e; have := HN2.out; rw [e] at this; simp at this; omega)
        have g2 : wr.cell? ⟨b2, o2 + j, none⟩ = some (.int .i64 ((nth d2 j : Nat) : Int)) := hcl.below (hcl.lt (by have := HN2.out; omega)) HBB.out _ (by have := HN2.out; omega)
        clear hcl
        obtain ⟨s, hse⟩ : ∃ s, s = cy + nth d1 j + nth d2 j := ⟨_, rfl⟩
        have HS := Lib.hid (KEY.out s hse)
        have hsi : (cy : Int) + ((nth d2 j : Nat) : Int) = (s : Int) := by omega
        have hsb : s ≤ 511 := by omega
        have HMZ : Hid (j + 1 = max n1 n2 + 1 → s / 256 = 0) := Lib.hid (fun h => by omega)
        have HMX : Hid (j + 1 ≤ max n1 n2 + 1) := Lib.hid (by have := hz.out; have := hj0.out; omega)
        have t1 : (s : Int).tmod 256 = ((s % 256 : Nat) : Int) := rfl
        have t2 : (s : Int).tdiv 256 = ((s / 256 : Nat) : Int) := rfl
        clear hse KEY e1
        go_wp2_with (at_builtin; refine wpList_app _ rfl _ _ 38 rfl 3 .i64 8 Try.underlying38 info_i64 256 wb.heap.size _ o [s % 256] rfl ?_ wr.heap.size 0 1 rfl (CellsG.one _ (s % 256) _ _) ?_ ?_ ?_ ?_ ?_)
        · exact HO.out.alloc _
        · exact Dig.one (Nat.mod_lt _ (by omega))
        · have := hol.out; simp; unfold maxLen; omega
        · have := hol.out; simp; omega
        · have := HBB.out.size; simp; omega
        · intro l' v' w' HL' ho hb2 hg
          obtain ⟨a', cap', rfl, hls⟩ := ho.ls; have HO' := Lib.hid ho; have HB' := Lib.hid hb2; have HLS := Lib.hid hls; clear hg ho hb2 hls
          go_wp2_with fail
          go_roundg (max n1 n2 + 1 - (j + 1))
          case measure => have := HK.out; have := hj0.out; have := HMX.out; omega
          case rel =>
            refine ⟨j + 1, s / 256, l', ?_, by have := HMX.out; omega, rfl, by go_num, by go_num, by omega, ?_, HO'.out, ?_, ?_, ?_⟩
            · have := HMX.out; show _ ≤ _; omega
            · have := HMZ.out; intro h; omega
            · have := hol.out; show l'.length = _; rw [HL'.out]; simp; omega
            · rw [HL'.out]; exact HS.out
            · exact (HBB.out.alloc HBB.out.size _).trans HB'.out
      · by_cases hc0 : cy = 0
        · have HV : Hid (val 256 o = A + B) := Lib.hid (by
            have := hv.out
            rw [hc0, Nat.mul_zero, Nat.add_zero, List.take_of_length_le (by have := HN1.out; omega), List.take_of_length_le (by have := HN2.out; omega), E1.out, E2.out] at this
            exact this)
          subst hc0
          clear x1 x2 hv
          go_wp2_with fail
          refine Calls.mono (large_c _ o _ HO.out.ls (by have := hol.out; omega)) ?_; rintro e wc ⟨v', rfl, hr, hbc⟩
          have HR := Lib.hid hr; have HBC := Lib.hid hbc; clear hr hbc
          go_wp2_with fail
          go_ret
          refine ⟨v', rfl, ?_, bel_trans (bel_trans BB.out HBB.out) HBC.out⟩
          rw [HA.out, HB0.out, ← HV.out]; exact HR.out.mono (bel_trans BB.out HBB.out).size
        · have hcp : 0 < cy := by omega
          have e1 := HZ1.out (by omega)
          have e2 := HZ2.out (by omega)
          have HS := Lib.hid (KEY.out cy (by omega))
          have HMZ : Hid (j + 1 = max n1 n2 + 1 → cy / 256 = 0) := Lib.hid (fun _ => by omega)
          have HMX : Hid (j + 1 ≤ max n1 n2 + 1) := Lib.hid (by have := hz.out; have := hj0.out; omega)
          have t1 : (cy : Int).tmod 256 = ((cy % 256 : Nat) : Int) := rfl
          have t2 : (cy : Int).tdiv 256 = ((cy / 256 : Nat) : Int) := rfl
          clear KEY e1 e2
          go_wp2_with (at_builtin; refine wpList_app _ rfl _ _ 38 rfl 3 .i64 8 Try.underlying38 info_i64 256 wb.heap.size _ o [cy % 256] rfl ?_ wr.heap.size 0 1 rfl (CellsG.one _ (cy % 256) _ _) ?_ ?_ ?_ ?_ ?_)
          · exact HO.out.alloc _
          · exact Dig.one (Nat.mod_lt _ (by omega))
          · have := hol.out; simp; unfold maxLen; omega
          · have := hol.out; simp; omega
          · have := HBB.out.size; simp; omega
          · intro l' v' w' HL' ho hb2 hg
            obtain ⟨a', cap', rfl, hls⟩ := ho.ls; have HO' := Lib.hid ho; have HB' := Lib.hid hb2; have HLS := Lib.hid hls; clear hg ho hb2 hls
            go_wp2_with fail
            go_roundg (max n1 n2 + 1 - (j + 1))
            case measure => have := HK.out; have := hj0.out; have := HMX.out; omega
            case rel =>
              refine ⟨j + 1, cy / 256, l', ?_, by have := HMX.out; omega, rfl, by go_num, by go_num, by omega, ?_, HO'.out, ?_, ?_, ?_⟩
              · have := HMX.out; show _ ≤ _; omega
              · have := HMZ.out; intro h; omega
              · have := hol.out; show l'.length = _; rw [HL'.out]; simp; omega
              · rw [HL'.out]; exact HS.out
              · exact (HBB.out.alloc HBB.out.size _).trans HB'.out

theorem rcmpw_c (v1 v2 : Value) (l1 l2 : List Nat) (w : World) (h1 : Wd w v1 l1) (h2 : Wd w v2 l2) (hs1 : l1.length ≤ 2000) (hs2 : l2.length ≤ 2000) :
    Calls Try.prog 36 #[v1, v2] w fun e w' => e = .returned (.int .i64 (cmpN (val W l1) (val W l2))) ∧ Below w.heap.size w w' := by
  have H1 := Lib.hid h1; have H2 := Lib.hid h2
  clear h1 h2
  go_enter Try.func36, Try.ntmps36
  go_wp2_with fail
  refine Calls.mono (small_c _ l1 _ H1.out (by omega)) ?_; rintro e wa ⟨t1, rfl, g1, hba⟩
  have H2a := Lib.hid (H2.out.below hba); clear H1 H2
  have BA := Lib.hid hba; have G1 := Lib.hid g1; clear hba g1
  go_wp2_with fail
  refine Calls.mono (small_c _ l2 _ H2a.out (by omega)) ?_; rintro e wb ⟨t2, rfl, g2, hbb⟩
  have G1b := Lib.hid (G1.out.below hbb).ls
  have G2b := Lib.hid g2.ls
  have BB := Lib.hid (bel_trans BA.out hbb); clear hbb g2 G1 H2a BA
  go_wp2_with fail
  refine Calls.mono (rcmp_c _ _ _ _ _ G1b.out G2b.out) ?_; rintro e wc ⟨rfl, nd, rfl⟩
  go_wp2_with fail
  go_ret
  exact ⟨rfl, bel_drawn BB.out nd⟩

theorem rsubw_c (v1 v2 : Value) (l1 l2 : List Nat) (w : World) (h1 : Wd w v1 l1) (h2 : Wd w v2 l2) (hs1 : l1.length ≤ 2000) (hs2 : l2.length ≤ 2000) :
    Calls Try.prog 34 #[v1, v2] w fun e w' => ∃ v', e = .returned v' ∧ OwnW w.heap.size w' v' (digs W (val W l1 - val W l2)) ∧ Below w.heap.size w w' := by
  have H1 := Lib.hid h1; have H2 := Lib.hid h2
  have hle1 := length_digs_le (b := 256) (k := 8 * l1.length) two56 (by rw [← W256]; exact val_lt h1.dig)
  have hle2 := length_digs_le (b := 256) (k := 8 * l2.length) two56 (by rw [← W256]; exact val_lt h2.dig)
  clear h1 h2
  by_cases hlt : val W l1 < val W l2
  · have HC := Lib.hid (cmpN_lt hlt)
    have HR : Hid (digs W (val W l1 - val W l2) = []) := Lib.hid (by rw [show val W l1 - val W l2 = 0 by omega, digs_zero])
    clear hlt
    go_enter Try.func34, Try.ntmps34
    go_wp2_with fail
    refine Calls.mono (small_c _ l1 _ H1.out (by omega)) ?_; rintro e wa ⟨t1, rfl, g1, hba⟩
    have H2a := Lib.hid (H2.out.below hba); clear H1 H2
    have BA := Lib.hid hba; have G1 := Lib.hid g1; clear hba g1
    go_wp2_with fail
    refine Calls.mono (small_c _ l2 _ H2a.out (by omega)) ?_; rintro e wb ⟨t2, rfl, g2, hbb⟩
    have G1b := Lib.hid (G1.out.below hbb).ls
    have G2b := Lib.hid g2.ls
    have BB := Lib.hid (bel_trans BA.out hbb); clear hbb g2 G1 H2a BA
    go_wp2_with fail
    refine Calls.mono (rcmp_c _ _ _ _ _ G1b.out G2b.out) ?_; rintro e wc ⟨rfl, nd, rfl⟩
    rw [HC.out]
    go_wp2_with fail
    go_ret
    exact ⟨_, rfl, by rw [HR.out]; exact Own.nil _ _ _ _ _, bel_drawn BB.out nd⟩
  · have HC : Hid (∃ c : Int, cmpN (val W l1) (val W l2) = c ∧ 0 ≤ c) := Lib.hid (cmp_ge (by omega))
    obtain ⟨c, hc, hc0⟩ := HC.out
    have hc1 : ¬ c < 0 := by omega
    have HC := Lib.hid hc
    have HLT := Lib.hid hlt
    clear hc hlt
    go_enter Try.func34, Try.ntmps34
    go_wp2_with fail
    refine Calls.mono (small_c _ l1 _ H1.out (by omega)) ?_; rintro e wa ⟨t1, rfl, g1, hba⟩
    have H2a := Lib.hid (H2.out.below hba); clear H1 H2
    have BA := Lib.hid hba; have G1 := Lib.hid g1; clear hba g1
    go_wp2_with fail
    refine Calls.mono (small_c _ l2 _ H2a.out (by omega)) ?_; rintro e wb ⟨t2, rfl, g2, hbb⟩
    have G1b := Lib.hid (G1.out.below hbb).ls
    have G2b := Lib.hid g2.ls
    have BB := Lib.hid (bel_trans BA.out hbb); clear hbb g2 G1 H2a BA
    go_wp2_with fail
    refine Calls.mono (rcmp_c _ _ _ _ _ G1b.out G2b.out) ?_; rintro e wc ⟨rfl, nd, rfl⟩
    rw [HC.out]
    go_wp2_with fail
    refine Calls.mono (rsub_c _ _ _ _ _ (G1b.out.drawn nd) (G2b.out.drawn nd) (by omega) ?_ ?_) ?_
    · rcases Nat.lt_or_ge (digs 256 (val W l1)).length (digs 256 (val W l2)).length with h | h
      · exact absurd (lt_of_lengthB two56 h) HLT.out
      · exact h
    · rw [val_digs two56, val_digs two56]; have := HLT.out; omega
    rintro e wd ⟨t3, rfl, g3, hbd⟩
    rw [val_digs two56, val_digs two56] at g3
    have G3 := Lib.hid g3.ls
    have hle3 := length_digs_le (b := 256) (n := val W l1 - val W l2) (k := (digs 256 (val W l1)).length) two56 (Nat.lt_of_le_of_lt (Nat.sub_le _ _) (lt_pow_length two56 _))
    have BD := Lib.hid (bel_trans (bel_drawn BB.out nd) hbd); clear hbd g3 G1b G2b
    have HL3 : Hid ((digs 256 (val W l1 - val W l2)).length ≤ 200000) := Lib.hid (by omega)
    clear hle1 hle2 hle3 hc0 hc1 BB
    go_wp2_with fail
    refine Calls.mono (large_c _ _ _ G3.out HL3.out) ?_; rintro e we ⟨v', rfl, g4, hbe⟩
    rw [val_digs two56] at g4
    have G4 := Lib.hid g4; have BE := Lib.hid hbe; clear g4 hbe
    go_wp2_with fail
    go_ret
    exact ⟨v', rfl, G4.out.mono BD.out.size, bel_trans BD.out BE.out⟩

end Go.Proofs.Ytbofdldkiooegaa
