/- limbs.DivMod by its contract: quotient and rest. -/
import Derived.Test.YtbofdldkiooegaaDivM
namespace Go.Proofs.Ytbofdldkiooegaa
open Go Go.RowKit Tw
set_option linter.unusedVariables false
set_option linter.unusedSimpArgs false

set_option maxRecDepth 100000 in
set_option maxHeartbeats 4000000 in
theorem knuth_c (v1 v2 : Value) (l1 l2 : List Nat) (w : World) (h1 : Wd w v1 l1) (h2 : Wd w v2 l2) (hs1 : l1.length ≤ 20000) (hs2 : l2.length ≤ 20000)
    (hlen : 2 ≤ (digs W (val W l2)).length) (hge : val W l2 ≤ val W l1) :
    Calls Try.prog 21 #[v1, v2] w fun e w' => ∃ v1 v2, e = .returned (.tuple #[v1, v2]) ∧
      OwnW w.heap.size w' v1 (digs W (val W l1 / val W l2)) ∧ OwnW w.heap.size w' v2 (digs W (val W l1 % val W l2)) ∧ Below w.heap.size w w' := by
  have H1 := Lib.hid h1; have H2 := Lib.hid h2
  have hle1 := length_digs_val W_two h1.dig
  have hle2 := length_digs_val W_two h2.dig
  have E1 := Lib.hid (val_digs W_two (val W l1)); have E2 := Lib.hid (val_digs W_two (val W l2))
  have T2 := Lib.hid (top_digs W_two (val W l2))
  have HGE := Lib.hid hge
  have hn12 : (digs W (val W l2)).length ≤ (digs W (val W l1)).length := by
    rcases Nat.lt_or_ge (digs W (val W l1)).length (digs W (val W l2)).length with h | h
    · have := lt_of_length h; omega
    · exact h
  have C := fun t1 t2 w (g1 : Wd w t1 (digs W (val W l1))) (g2 : Wd w t2 (digs W (val W l2))) => cmp_c t1 t2 (digs W (val W l1)) (digs W (val W l2)) w g1 g2
  rw [E1.out, E2.out] at C
  have HC := Lib.hid C
  clear h1 h2 C
  have hcmp : ¬ cmpN (val W l1) (val W l2) < 0 := by unfold cmpN; rw [if_neg (by omega)]; split <;> omega
  clear hge
  go_enter Try.func21, Try.ntmps21
  go_wp2_with fail
  refine Calls.mono (trimmed_v _ _ _ H1.out) ?_; rintro e w' ⟨t1, rfl, g1, rfl⟩
  have G1 := Lib.hid g1; clear g1
  go_wp2_with fail
  refine Calls.mono (trimmed_v _ _ _ H2.out) ?_; rintro e w' ⟨t2, rfl, g2, rfl⟩
  have G2 := Lib.hid g2; clear g2
  clear H1 H2
  generalize digs W (val W l1) = d1 at *
  generalize digs W (val W l2) = d2 at *
  have G1' := Lib.hid G1.out
  obtain ⟨a1, c1, rfl, hx1⟩ := G1
  have G2' := Lib.hid G2.out
  obtain ⟨a2, c2, rfl, hx2⟩ := G2
  have HX1 := Lib.hid hx1; have HX2 := Lib.hid hx2
  obtain ⟨b2, o2, rfl, hcl2⟩ := hx2.2.2.2 (by intro e; rw [e] at hlen; simp at hlen)
  obtain ⟨n, hn⟩ : ∃ n, n = d2.length := ⟨_, rfl⟩
  obtain ⟨m, hm⟩ : ∃ m, m = d1.length := ⟨_, rfl⟩
  rw [← hn] at hlen hle2 ⊢
  rw [← hm, ← hn] at hn12
  rw [← hm] at hle1 ⊢
  have HN := Lib.hid hn; have HM := Lib.hid hm
  have hne0 : ((n : Int) == 0) = false := by rw [beq_eq_false_iff_ne]; omega
  have hne1 : ((n : Int) == 1) = false := by rw [beq_eq_false_iff_ne]; omega
  have htop : w.cell? ⟨b2, o2 + (n - 1), none⟩ = some (.int .u64 ((nth d2 (n - 1) : Nat) : Int)) := hcl2 (n - 1) (by omega)
  have htW : Hid (nth d2 (n - 1) < W) := Lib.hid (nth_dig hx2.2.2.1 (by omega))
  clear hx1 hx2 hcl2 hn hm
  go_wp2_with fail
  rw [HM.out, HN.out]
  refine Calls.mono (HC.out _ _ _ G1'.out G2'.out) ?_; rintro e w' ⟨rfl, nd, rfl⟩
  rw [← HM.out, ← HN.out]
  go_wp2_with fail
  refine Calls.mono (lz64_c _ _ htW.out) ?_; rintro e w' ⟨rfl, rfl⟩
  have htop0 : 0 < nth d2 (n - 1) := by
    rcases T2.out with h | h
    · have := HN.out; rw [h] at this; simp at this; omega
    · have := HN.out; rw [← this] at h; omega
  obtain ⟨hb1, hb2, hb3, hb4⟩ := bitLen_bounds htop0 htW.out
  generalize Lib.bitLen (nth d2 (n - 1)) = bl at *
  obtain ⟨s, hs⟩ : ∃ s, s = 64 - bl := ⟨_, rfl⟩
  rw [← hs]
  have hs63 : s ≤ 63 := by omega
  obtain ⟨hv1, hv2, hv3⟩ := norm_len HX2.out.2.2.1 HN.out.symm E2.out.symm (by omega) hb3 htop0 hb4 hs
  have HVLT := Lib.hid hv1; have HVLEN := Lib.hid hv2; have HVGE := Lib.hid hv3
  clear hs hb1 hb2 hb3 hb4 hv1 hv2 hv3 htop0 htop
  go_wp2_with fail
  refine Calls.mono (shl_c _ d2 s _ (by rw [HN.out]; exact G2'.out.drawn nd) (by have := HN.out; omega) (by omega)) ?_; rintro e w2 ⟨vv, rfl, hV, hbelV⟩
  rw [E2.out] at hV
  have hbel2 : Below w.heap.size w w2 := (bel_drewN w nd _).trans hbelV
  have HB2 := Lib.hid hbel2; have HV := Lib.hid hV
  have HG1 := Lib.hid (G1'.out.below hbel2)
  clear hV hbelV hbel2
  go_wp2_with fail
  refine Calls.mono (shl_c _ d1 s _ (by rw [HM.out]; exact HG1.out) (by have := HM.out; omega) (by omega)) ?_; rintro e w3 ⟨vu, rfl, hU, hbelU⟩
  rw [E1.out] at hU
  have HBU := Lib.hid hbelU; have HU := Lib.hid hU
  have HUV := Lib.hid (val_digs W_two (val W l1 * 2 ^ s)); have HVV := Lib.hid (val_digs W_two (val W l2 * 2 ^ s))
  have HUL : Hid ((digs W (val W l1 * 2 ^ s)).length ≤ m + 1) := Lib.hid (by
    refine length_digs_le W_two ?_
    have h1 := val_lt HX1.out.2.2.1
    rw [E1.out, ← HM.out] at h1
    rw [Nat.pow_succ]
    refine Nat.mul_lt_mul'' h1 ?_
    rw [W_pow]; exact Nat.pow_lt_pow_right (by omega) (by omega))
  have HTV := Lib.hid (top_digs W_two (val W l2 * 2 ^ s))
  generalize digs W (val W l1 * 2 ^ s) = U0 at *
  generalize digs W (val W l2 * 2 ^ s) = V at *
  -- V's place
  rcases HV.out.shape with ⟨rfl, h0⟩ | ⟨gv, capv, rfl, hgv1, hgv2, hgv3, hgv4⟩
  · have := HVLEN.out; rw [h0] at this; simp at this; omega
  rw [HVLEN.out] at hgv3 ⊢
  have HGV := Lib.hid hgv2
  clear hU hbelU hgv1 hgv2 hgv4
  go_wp2_with fail
  go_loopg [8] (m + 3 - U0.length) (fun k v wr => ∃ U : List Nat, k + U.length = m + 3 ∧ U.length ≤ m + 1 ∧ OwnW w2.heap.size wr v U ∧ Hid (val W U = val W l1 * 2 ^ s) ∧ Below w2.heap.size w2 wr)
  case atStart => exact ⟨U0, by have := HUL.out; omega, HUL.out, HU.out, HUV.out, HBU.out⟩
  case round =>
    obtain ⟨U, hk, hul, hown, hval, hbel⟩ := hrel
    obtain ⟨wo, rfl⟩ : ∃ wo : World, wo = wr := ⟨_, rfl⟩
    have HK := Lib.hid hk; have HO := Lib.hid hown; have HB := Lib.hid hbel
    clear hk
    obtain ⟨au, capu, rfl, hls⟩ := hown.ls
    obtain ⟨N, hN⟩ : ∃ N, N = U.length := ⟨_, rfl⟩
    rw [← hN] at hul hown HO ⊢
    have HNN := Lib.hid hN
    clear hown hbel hls hN
    by_cases hlt : N ≤ m
    · go_wp2_with (at_builtin; refine wpList_app _ rfl _ _ 22 rfl 29 .u64 8 Try.underlying22 info_u64 W w2.heap.size _ U [0] rfl ?_ wo.heap.size 0 1 rfl (CellsG.one _ _ _ _) ?_ ?_ ?_ ?_ ?_)
      · exact HO.out.alloc _
      · exact Dig.one W_pos
      · have := HNN.out; simp; unfold maxLen; omega
      · have := HNN.out; simp; omega
      · have := HB.out.size; simp; omega
      · intro l' v' w' HL' ho hb hg
        have HO' := Lib.hid ho; have HB' := Lib.hid hb; clear hg ho hb
        go_wp2_with fail
        go_roundg (gk - 1)
        case measure => have := HK.out; have := HNN.out; omega
        case rel =>
          refine ⟨l', ?_, ?_, HO'.out, ?_, ?_⟩
          · rw [HL'.out]; simp; have := HK.out; have := HNN.out; omega
          · rw [HL'.out]; simp; have := HNN.out; omega
          · show val W l' = _
            rw [HL'.out, val_snoc, Nat.mul_zero]; exact hval.out
          · exact (HB.out.alloc HB.out.size _).trans HB'.out
    · have hNm : N = m + 1 := by omega
      have HNM := Lib.hid hNm
      have hmN : m + 1 ≤ N := by omega
      have hNn : n < N := by omega
      have hN6 : N ≤ 60000 := by omega
      rcases HO.out.shape with ⟨h0, h00⟩ | ⟨gu, cu, h0, hgu1, hgu2, hgu3, hgu4⟩
      · exfalso; have := HNN.out; rw [h00] at this; simp at this; omega
      simp only [Value.slice.injEq, true_and] at h0
      obtain ⟨rfl, -, rfl⟩ := h0
      have hcu : N ≤ capu := by have := HNN.out; omega
      obtain ⟨r, hr⟩ : ∃ r, r = N - n := ⟨_, rfl⟩
      have HR := Lib.hid hr
      have hrI : ((N : Int) - (n : Int)) = (r : Int) := by omega
      have hr6 : r ≤ 60000 := by omega
      have hr0 : 0 < r := by omega
      have HGU := Lib.hid hgu2; have HGU1 := Lib.hid hgu1
      clear hlt hul hNm hgu1 hgu2 hgu3 hgu4 hr
      go_wp2_with (at_make; refine wpList_make_z _ rfl _ _ 22 rfl wo.heap.size 29 .u64 8 W Try.underlying22 info_u64 .i64 .i64 _ _ r r rfl rfl rfl rfl (by omega) (by omega) (by unfold maxLen; omega) (Nat.le_refl _) (by have := W_two; omega) ?_; intro wq hownq hbelq hszq; have Hszq := Lib.hid hszq; have HOQ := Lib.hid hownq; have HBQ := Lib.hid hbelq; clear hszq hownq hbelq)
      obtain ⟨VV, hVV⟩ : ∃ x, x = val W l2 * 2 ^ s := ⟨_, rfl⟩
      obtain ⟨TT, hTT⟩ : ∃ x, x = val W l1 * 2 ^ s := ⟨_, rfl⟩
      have HVQ : Hid (VV = val W l2 * 2 ^ s) := Lib.hid hVV
      have HTQ : Hid (TT = val W l1 * 2 ^ s) := Lib.hid hTT
      have HV1 : Hid (val W V = VV) := Lib.hid (by rw [HVV.out, hVV])
      have HV2 : Hid (VV < W ^ n) := Lib.hid (by rw [hVV]; exact HVLT.out)
      have HV3 : Hid (0 < VV) := Lib.hid (by
        rw [hVV]; exact Nat.mul_pos (Nat.lt_of_lt_of_le (Nat.pow_pos W_pos) HVGE.out) (Nat.two_pow_pos _))
      have HI1 : Hid (val W U < VV * W ^ r) := Lib.hid (by
        rw [hval.out, hVV, Nat.mul_right_comm]
        refine Nat.mul_lt_mul_of_pos_right ?_ (Nat.two_pow_pos _)
        have h1 := val_lt HX1.out.2.2.1
        rw [E1.out, ← HM.out] at h1
        have h2 := Nat.mul_le_mul_right (W ^ r) HVGE.out
        rw [← Nat.pow_add, show n - 1 + r = m by have := HR.out; have := HNM.out; omega] at h2
        omega)
      have HI2 : Hid (TT = val W U + val W ((List.replicate r 0).drop r) * W ^ r * VV) := Lib.hid (by
        rw [hval.out, hTT, List.drop_of_length_le (by simp)]; simp [val])
      have HBO : Hid (Below w2.heap.size w2 wq) := Lib.hid (HB.out.trans (HBQ.out.mono HB.out.size))
      have HOU : Hid (OwnW w2.heap.size wq (.slice (some ⟨gu, 0, none⟩) N capu) U) := Lib.hid (HO.out.below HBQ.out)
      have hVlen := HVLEN.out
      clear hVV hTT
      have HVL := Lib.hid hVlen; clear hVlen
      go_loopg [11] r (fun k jv wr' => ∃ (jz : Int) (U Q : List Nat), jv = .int .i64 jz ∧ Hid (jz = (k : Int) - 1) ∧ k ≤ r ∧ OwnW w2.heap.size wr' (.slice (some ⟨gu, 0, none⟩) N capu) U ∧ U.length = N ∧
        OwnW wo.heap.size wr' (.slice (some ⟨wo.heap.size, 0, none⟩) r r) Q ∧ Q.length = r ∧ Hid (val W U < VV * W ^ k) ∧ Hid (TT = val W U + val W (Q.drop k) * W ^ k * VV) ∧ Below w2.heap.size w2 wr' ∧ wo.heap.size < wr'.heap.size)
      case atStart => exact ⟨(r : Int) - 1, U, List.replicate r 0, rfl, rfl, Nat.le_refl _, HOU.out, HNN.out.symm, HOQ.out, by simp, HI1, HI2, HBO.out, by rw [Hszq.out]; omega⟩
      case round =>
        obtain ⟨jz, U', Q, rfl, hjz, hkr, hU', hUl, hQ, hQl, hlt', htot, hbel, hszr⟩ := hrel
        have HU' := Lib.hid hU'; have HUl := Lib.hid hUl; have HQ := Lib.hid hQ; have HQl := Lib.hid hQl; have HBr := Lib.hid hbel; have HSZ := Lib.hid hszr
        by_cases hk0 : 0 < gk
        · obtain ⟨j, rfl⟩ : ∃ j : Nat, jz = (j : Int) := ⟨gk - 1, by have := hjz.out; omega⟩
          have hgk : gk = j + 1 := by have := hjz.out; omega
          have HGK := Lib.hid hgk
          have hjr : j + 1 ≤ r := by omega
          have hjN : j + n < N := by have := HR.out; omega
          have hcellU := fun i (hi : i < N) => (show OwnW w2.heap.size wr (.slice (some ⟨gu, 0, none⟩) U'.length capu) U' by rw [hUl]; exact hU').cell (i := i) (by omega)
          have gV := HV.out.below (show Below w2.heap.size w2 wr from hbel)
          have hcellV := fun i (hi : i < n) => gV.cell (i := i) (by rw [HVL.out]; exact hi)
          have q1 := hcellU (j + n) hjN
          have q2 := hcellU (j + n - 1) (by omega)
          have q3 := hcellU (j + n - 2) (by omega)
          have q4 := hcellV (n - 1) (by omega)
          have q5 := hcellV (n - 2) (by omega)
          have i2 : ((j : Int) + (n : Int) - 1).toNat = j + n - 1 := by omega
          have i3 : ((j : Int) + (n : Int) - 2).toNat = j + n - 2 := by omega
          have i4 : ((n : Int) - 1).toNat = n - 1 := by omega
          have i5 : ((n : Int) - 2).toNat = n - 2 := by omega
          -- the guess
          have hdU := hU'.dig
          have hdV := HV.out.dig
          have hwin := window (j := j) (n := n) hdU HV2.out (by rw [← hgk]; exact hlt'.out)
          have hvt : 0 < nth V (n - 1) := by
            rcases HTV.out with h | h
            · have := HVL.out; rw [h] at this; simp at this; omega
            · rw [HVL.out] at h; omega
          obtain ⟨hg1, hg2, hg3, hg4⟩ := guess_ok hlen hdU hdV HVL.out hvt (by rw [HV1.out]; exact hwin.2.1)
          rw [HV1.out] at hg2 hg3
          have r1 := nth_digW W_pos hdU (j + n - 1)
          have r2 := nth_digW W_pos hdU (j + n - 2)
          have r3 := nth_digW W_pos hdV (n - 1)
          have r4 := nth_digW W_pos hdV (n - 2)
          have HGC := Lib.hid (fun w => guess_c (nth U' (j + n)) (nth U' (j + n - 1)) (nth U' (j + n - 2)) (nth V (n - 1)) (nth V (n - 2)) w hg1 r1 r2 hvt r3 r4)
          generalize guessN (nth U' (j + n)) (nth U' (j + n - 1)) (nth U' (j + n - 2)) (nth V (n - 1)) (nth V (n - 2)) = d at *
          have HGVc : Hid (CellsG .u64 wr gv 0 V) := Lib.hid (fun i hi => by rw [Nat.zero_add]; exact gV.cell hi)
          have hgvu : gv ≠ gu := by have := HGV.out; have := HGU1.out; omega
          have HVU := Lib.hid hgvu
          have HG2 := Lib.hid hg2; have HG3 := Lib.hid hg3; have HG4 := Lib.hid hg4
          clear hU' hUl hQ hQl hbel hcellU gV hcellV hgk hdU hdV hwin hvt hg1 hg2 hg3 hg4 r1 r2 r3 r4 hk0 hgvu
          go_wp2_with fail
          go_quiet ((go_at_call 81; exact Calls.quiet_of (HGC.out _)))
          go_wp2_with fail
          rw [show j + n + 1 - j = n + 1 by omega]
          refine Calls.mono (take_n gu N capu w2.heap.size j n _ gv 0 _ U' V d _ HVL.out.symm (HU'.out.drawn nq) HUl.out hN6 HGVc.out HV.out.dig HVU.out hjN HG4.out) ?_; rintro e w4 ⟨U2, br, rfl, hU2, hl2, hbr, hval2, hsm2, honly⟩
          have HO1 : Hid (OnlyG gu wr w4) := Lib.hid (only_trans (only_drawn (only_refl gu wr) nq) honly)
          have HU2 := Lib.hid hU2; have HL2 := Lib.hid hl2; have HS2 := Lib.hid hsm2
          rw [HV1.out] at hval2
          have htk := taken HV3.out (vr_lt hU2.dig j (n + 1)) hbr hval2 HG2.out HG3.out
          have hQ4 := own_only HQ.out HO1.out (by intro k hk; simp [Value.ownBlock] at hk; have := HGU.out; omega)
          have hcq := (show OwnW wo.heap.size w4 (.slice (some ⟨wo.heap.size, 0, none⟩) Q.length r) Q by rw [HQl.out]; exact hQ4).cell (i := j) (by have := HQl.out; omega)
          have hfq := hQ4.free HQl.out.symm j
          clear hU2 hl2 hbr hval2 hsm2 honly hQ4
          rcases htk with ⟨rfl, hdq, hxx⟩ | ⟨rfl, hdq, hxx⟩
          · have hdd := digit_done (T := TT) (Q := Q) (d := d) HU'.out.dig HU2.out.dig HV3.out HV2.out (by rw [← HGK.out]; exact hlt'.out) (by have := HQl.out; omega) (by rw [← HGK.out]; exact htot.out) hxx hdq HS2.out
            have HD1 : Hid (val W U2 < VV * W ^ (gk - 1)) := Lib.hid (by rw [HGK.out]; exact hdd.1)
            have HD2 : Hid (TT = val W U2 + val W ((Q.set j d).drop (gk - 1)) * W ^ (gk - 1) * VV) := Lib.hid (by rw [HGK.out]; exact hdd.2)
            have HDW : Hid (d < W) := HG4
            clear hdd hdq hxx
            go_wp2_with fail
            go_roundg (gk - 1)
            case measure => have := HGK.out; omega
            case rel =>
              refine ⟨(j : Int) - 1, U2, Q.set j d, rfl, ?_, by omega, ?_, HL2.out, ?_, by simpa using HQl.out, HD1, HD2, ?_, ?_⟩
              · show (j : Int) - 1 = ((gk - 1 : Nat) : Int) - 1
                have := HGK.out; omega
              · exact own_only HU2.out (only_set (only_refl _ _) j _) (by intro k hk; simp [Value.ownBlock] at hk; have := HGU.out; omega)
              · exact (own_only HQ.out HO1.out (by intro k hk; simp [Value.ownBlock] at hk; have := HGU.out; omega)).set HQl.out.symm j d HDW.out
              · exact (HBr.out.trans (only_below HO1.out HGU1.out (by have := HGU.out; have := HSZ.out; omega))).setCell (by have := HB.out.size; have := HBU.out.size; have := HGU.out; have := HGU1.out; omega) _
              · have h1 := (HO1.out).size; have h2 := HSZ.out
                show wo.heap.size < (World.setCell _ _ _).heap.size
                simp [World.setCell]
                exact Nat.lt_of_lt_of_le h2 h1
          · have hd1 : 0 < d := by rw [hdq]; exact Nat.succ_pos _
            obtain ⟨d', hd'⟩ : ∃ d', d' = d - 1 := ⟨_, rfl⟩
            have hdq' : d' = vr U' j (n + 1) / VV := by rw [hd', hdq, Nat.add_sub_cancel]
            have HDQ := Lib.hid hdq'; have HXX := Lib.hid hxx
            have HDW : Hid (d' < W) := Lib.hid (by have := HG4.out; omega)
            have hwd : IntKind.u64.wrap ((d : Int) - 1) = (d' : Int) := wrapN (by omega) HDW.out
            have hVc4 : Hid (CellsG .u64 w4 gv 0 V) := Lib.hid (only_cells HGVc.out HO1.out HVU.out)
            clear hd1 hd' hdq hdq' hxx
            go_wp2_with fail
            rw [show j + n + 1 - j = n + 1 by omega]
            refine Calls.mono (give_n gu N capu w2.heap.size j n _ gv 0 _ U2 V _ HVL.out.symm HU2.out HL2.out hN6 hVc4.out HV.out.dig HVU.out hjN) ?_; rintro e w5 ⟨U3, kk, rfl, hU3, hl3, hval3, hsm3, honly3⟩
            have HO2 : Hid (OnlyG gu wr w5) := Lib.hid (only_trans HO1.out honly3)
            have HU3 := Lib.hid hU3; have HL3 := Lib.hid hl3
            rw [HV1.out] at hval3
            have hx3 := given (Nat.mod_lt _ HV3.out) (by
              have := HV2.out; have h1 : W ^ n ≤ W ^ (n + 1) := Nat.pow_le_pow_right W_pos (by omega)
              omega) (vr_lt hU3.dig j (n + 1)) HXX.out hval3
            have hs3 : ∀ t, t < j ∨ j + n < t → nth U3 t = nth U' t := fun t ht => by rw [hsm3 t ht, HS2.out t ht]
            have hdd := digit_done (T := TT) (Q := Q) (d := d') HU'.out.dig hU3.dig HV3.out HV2.out (by rw [← HGK.out]; exact hlt'.out) (by have := HQl.out; omega) (by rw [← HGK.out]; exact htot.out) hx3 HDQ.out hs3
            have HD1 : Hid (val W U3 < VV * W ^ (gk - 1)) := Lib.hid (by rw [HGK.out]; exact hdd.1)
            have HD2 : Hid (TT = val W U3 + val W ((Q.set j d').drop (gk - 1)) * W ^ (gk - 1) * VV) := Lib.hid (by rw [HGK.out]; exact hdd.2)
            have hQ5 := own_only HQ.out HO2.out (by intro k hk; simp [Value.ownBlock] at hk; have := HGU.out; omega)
            have hcq5 := (show OwnW wo.heap.size w5 (.slice (some ⟨wo.heap.size, 0, none⟩) Q.length r) Q by rw [HQl.out]; exact hQ5).cell (i := j) (by have := HQl.out; omega)
            have hfq5 := hQ5.free HQl.out.symm j
            clear hU3 hl3 hval3 hsm3 honly3 hx3 hs3 hdd hQ5 hcq hfq
            go_wp2_with fail
            go_roundg (gk - 1)
            case measure => have := HGK.out; omega
            case rel =>
              refine ⟨(j : Int) - 1, U3, Q.set j d', rfl, ?_, by omega, ?_, HL3.out, ?_, by simpa using HQl.out, HD1, HD2, ?_, ?_⟩
              · show (j : Int) - 1 = ((gk - 1 : Nat) : Int) - 1
                have := HGK.out; omega
              · exact own_only HU3.out (only_set (only_refl _ _) j _) (by intro k hk; simp [Value.ownBlock] at hk; have := HGU.out; omega)
              · exact (own_only HQ.out HO2.out (by intro k hk; simp [Value.ownBlock] at hk; have := HGU.out; omega)).set HQl.out.symm j d' HDW.out
              · exact (HBr.out.trans (only_below HO2.out HGU1.out (by have := HGU.out; have := HSZ.out; omega))).setCell (by have := HB.out.size; have := HBU.out.size; have := HGU.out; have := HGU1.out; omega) _
              · have h1 := (HO2.out).size; have h2 := HSZ.out
                show wo.heap.size < (World.setCell _ _ _).heap.size
                simp [World.setCell]
                exact Nat.lt_of_lt_of_le h2 h1
        · obtain rfl : gk = 0 := by omega
          obtain rfl : jz = -1 := by have := hjz.out; omega
          have hl0 := hlt'.out
          have ht0 := htot.out
          rw [Nat.pow_zero, Nat.mul_one] at hl0 ht0
          rw [List.drop_zero] at ht0
          have hq0 : TT / VV = val W Q := by rw [ht0, Nat.add_mul_div_right _ _ HV3.out, Nat.div_eq_of_lt hl0]; omega
          have hr0' : TT % VV = val W U' := by rw [ht0, Nat.add_mul_mod_self_right, Nat.mod_eq_of_lt hl0]
          have HF1 : Hid (val W l1 / val W l2 = val W Q) := Lib.hid (by rw [← hq0, HTQ.out, HVQ.out, Nat.mul_div_mul_right _ _ (Nat.two_pow_pos s)])
          have HF2 : Hid (val W l1 % val W l2 = val W U' / 2 ^ s) := Lib.hid (by rw [← hr0', HTQ.out, HVQ.out, Nat.mul_mod_mul_right, Nat.mul_div_cancel _ (Nat.two_pow_pos s)])
          have HUL := Lib.hid hU'.ls
          have HWW : Hid (w.heap.size ≤ wo.heap.size) := Lib.hid (by have := HB2.out.size; have := HBU.out.size; have := HB.out.size; omega)
          clear hU' hUl hQ hQl hbel hszr hk0 hl0 ht0 hq0 hr0'
          go_wp2_with fail
          refine Calls.mono (trimmed_n _ r r Q _ HQl.out.symm HQ.out.lsS) ?_; rintro e w5 ⟨rfl, rfl⟩
          go_wp2_with fail
          refine Calls.mono (shr_c _ U' s _ HUL.out (by have := HUl.out; omega) (by omega)) ?_; rintro e w6 ⟨vr6, rfl, hR, hb6⟩
          have HR6 := Lib.hid hR; have HB6 := Lib.hid hb6; clear hR hb6
          go_wp2_with fail
          go_ret2
          refine ⟨_, _, rfl, ?_, ?_, ?_⟩
          · rw [HF1.out]
            exact ((HQ.out.trim W_two HQl.out.symm).below HB6.out).mono HWW.out
          · rw [HF2.out]
            exact HR6.out.mono (by have := HSZ.out; have := HWW.out; omega)
          · exact ((HB2.out.trans (HBr.out.mono (by have := HB2.out.size; omega)))).trans (HB6.out.mono (by have := HSZ.out; have := HWW.out; omega))

end Go.Proofs.Ytbofdldkiooegaa
