/- The reference of layer 1: Shl, Shr. -/
import Derived.Test.YtbofdldkiooegaaRShift
namespace Go.Proofs.Ytbofdldkiooegaa
open Go Go.RowKit Tw
set_option linter.unusedVariables false
set_option linter.unusedSimpArgs false

theorem rshl_far (v : Value) (n : Int) (w : World) (hn : 1048576 < n) :
    Calls Try.prog 38 #[v, .int .i64 n] w fun e w' => e = .returned (.slice none 0 0) ∧ w = w' := by
  go_enter Try.func38, Try.ntmps38
  go_wp2
  go_ret
  exact ⟨rfl, rfl⟩

set_option maxRecDepth 100000 in
set_option maxHeartbeats 2000000 in
theorem rshl_c (v : Value) (l : List Nat) (n : Int) (w : World) (h : Wd w v l) (hs : l.length ≤ 2000) (hn : n ≤ 1000) (hn2 : -9223372036854775808 ≤ n) :
    Calls Try.prog 38 #[v, .int .i64 n] w fun e w' => ∃ v', e = .returned v' ∧ OwnW w.heap.size w' v' (digs W (shlI (val W l) n)) ∧ Below w.heap.size w w' := by
  have H := Lib.hid h
  have HSL : Hid (shlI (val W l) n = val W l * 2 ^ n.toNat) := Lib.hid (by unfold shlI; rw [if_neg (by omega)])
  have hX := val_lt h.dig
  rw [W256] at hX
  have HN0 : Hid (∀ Y c, Y * 2 ^ c = val W l * 2 ^ n.toNat → (digs 256 Y).length ≤ 16200) := Lib.hid (fun Y c e => by
    have h2 : val W l * 2 ^ n.toNat < 2 ^ (8 * (8 * l.length)) * 2 ^ n.toNat := Nat.mul_lt_mul_of_pos_right (by
      rw [show (256 : Nat) = 2 ^ 8 by rfl, ← Nat.pow_mul] at hX; exact hX) (Nat.two_pow_pos _)
    rw [← Nat.pow_add] at h2
    have h3 : Y < 2 ^ (8 * (8 * l.length + 125)) := by
      refine Nat.lt_of_le_of_lt ?_ (Nat.lt_of_lt_of_le h2 (Nat.pow_le_pow_right (by omega) (by omega)))
      rw [← e]; exact Nat.le_mul_of_pos_right _ (Nat.two_pow_pos _)
    have := len256 h3
    omega)
  clear h hX
  go_enter Try.func38, Try.ntmps38
  go_wp2_with fail
  refine Calls.mono (small_c _ l _ H.out (by omega)) ?_; rintro e wa ⟨t1, rfl, g1, hba⟩
  have BA := Lib.hid hba
  have G1 := Lib.hid g1
  clear hba g1 H
  go_wp2_with fail
  go_loopg [1, 5] n.toNat (fun k s x wr => ∃ (c : Int) (Y : Nat), k = c.toNat ∧ s = .int .i64 c ∧ c ≤ 1000 ∧ -9223372036854775808 ≤ c ∧ Hid (Y * 2 ^ c.toNat = val W l * 2 ^ n.toNat) ∧ OwnD w.heap.size wr x (digs 256 Y) ∧ Hid (Below w.heap.size w wr))
  case atStart => exact ⟨n, val W l, rfl, rfl, hn, hn2, rfl, G1.out, BA.out⟩
  case round =>
    obtain ⟨c, Y, hk, rfl, hc, hc2, hY, hown, HB⟩ := hrel
    have HK := Lib.hid hk
    have HLE := Lib.hid (HN0.out _ _ hY.out)
    have HO := Lib.hid hown
    obtain ⟨d, hd⟩ : ∃ d, d = digs 256 Y := ⟨_, rfl⟩
    have HD := Lib.hid hd
    have hown2 := hown
    rw [← hd] at hown2
    have HO2 := Lib.hid hown2
    obtain ⟨a1, c1, rfl, hls⟩ := hown2.ls
    have HLS := Lib.hid hls
    obtain ⟨m, hm⟩ : ∃ m, m = d.length := ⟨_, rfl⟩
    have HM := Lib.hid hm
    have hm2 : m ≤ 16200 := by rw [hm, hd]; exact HLE.out
    rw [← hm]
    clear hk hown hown2 hls hd hm
    by_cases hg : 8 ≤ c ∧ 0 < m
    · obtain ⟨hg1, hg2⟩ := hg
      obtain ⟨b1, o1, rfl, hcl⟩ := HLS.out.2.2.2 (by intro e; have := HM.out; rw [e] at this; simp at this; omega)
      clear hcl
      go_wp2_with (at_builtin; refine wpList_appS _ rfl _ _ 38 rfl 3 .i64 8 Try.underlying38 info_i64 256 w.heap.size (.slice (some ⟨wr.heap.size, 0, none⟩) 1 1) [0] d rfl ?_ ⟨b1, o1, none⟩ c1 m rfl ?_ ?_ ?_ ?_ ?_ ?_)
      · exact Own.lit .i64 _ 256 _ wr _ [0] HB.out.size (by unfold maxLen; simp) rfl (Dig.one (by omega))
      · exact HM.out
      · exact HLS.out.below ((Below.refl _ _).alloc (Nat.le_refl _) _)
      · have := HM.out; simp; unfold maxLen; omega
      · have := HM.out; simp; omega
      · have := HB.out.size; simp; omega
      · intro l' v' w' HL' ho hb hg
        have HO' := Lib.hid ho; have HB' := Lib.hid hb; clear ho hb hg
        go_wp2_with fail
        go_roundg (c - 8).toNat
        case measure => have := HK.out; omega
        case rel =>
          refine ⟨c - 8, Y * 256, rfl, by go_num, by omega, by omega, ?_, ?_, (HB.out.alloc HB.out.size _).trans HB'.out⟩
          · show _ = _
            rw [← hY.out, Nat.mul_assoc, show (256 : Nat) = 2 ^ 8 by rfl, ← Nat.pow_add, show 8 + (c - 8).toNat = c.toNat by omega]
          · rw [digs_up (by rw [← HD.out]; intro e; have := HM.out; rw [e] at this; simp at this; omega), ← HD.out]
            rw [← show l' = 0 :: d from HL'.out]; exact HO'.out
    · have HG := Lib.hid hg
      clear hg
      by_cases hc8 : 8 ≤ c
      · have hm0 : m = 0 := by have := HG.out; omega
        have HY0 : Hid (Y = 0) := Lib.hid ((length_digs_zero (b := 256) two56).1 (by rw [← HD.out, ← HM.out, hm0]))
        have HF : Hid (val W l * 2 ^ n.toNat = 0) := Lib.hid (by rw [← hY.out, HY0.out, Nat.zero_mul])
        subst hm0
        have HO3 : Hid (OwnD w.heap.size wr (.slice a1 0 c1) d) := Lib.hid (by have := HO2.out; rw [← HM.out] at this; exact this)
        go_wp2_with fail
        go_loopg [1, 5] 0 (fun k s x w2 => s = .int .i64 c ∧ x = .slice a1 0 c1 ∧ w2 = wr)
        case atStart => exact ⟨rfl, rfl, rfl⟩
        case round =>
          obtain ⟨rfl, rfl, rfl⟩ := hrel
          go_wp2_with fail
          refine Calls.mono (large_c _ d _ HO3.out.ls (by rw [← HM.out]; omega)) ?_; rintro e wc ⟨v', rfl, hr, hbc⟩
          have HR := Lib.hid hr; have HBC := Lib.hid hbc; clear hr hbc
          go_wp2_with fail
          go_ret
          refine ⟨v', rfl, ?_, bel_trans HB.out HBC.out⟩
          have h0 := HR.out.mono HB.out.size
          rw [HD.out, val_digs two56, HY0.out] at h0
          rw [HSL.out, HF.out]; exact h0
      · have HO3 : Hid (OwnD w.heap.size wr (.slice a1 m c1) (digs 256 Y)) := Lib.hid (by have := HO.out; rw [← HM.out] at this; exact this)
        clear HK HD HO2 HLS HM HG HLE HO
        go_wp2_with fail
        go_loopg [1, 5] c.toNat (fun k s x wr => ∃ (c : Int) (Y : Nat), k = c.toNat ∧ s = .int .i64 c ∧ c ≤ 1000 ∧ -9223372036854775808 ≤ c ∧ Hid (Y * 2 ^ c.toNat = val W l * 2 ^ n.toNat) ∧ OwnD w.heap.size wr x (digs 256 Y) ∧ Hid (Below w.heap.size w wr))
        case atStart => exact ⟨c, Y, rfl, rfl, hc, hc2, hY.out, HO3.out, HB.out⟩
        case round =>
          clear HO3 HB hY hc hc2 hm2 hc8
          obtain ⟨c, Y, hk, rfl, hc, hc2, hY, hown, HB⟩ := hrel
          have HK := Lib.hid hk
          have HLE := Lib.hid (HN0.out _ _ hY.out)
          have HVY := Lib.hid (val_digs two56 Y)
          have HO := Lib.hid hown
          obtain ⟨d, hd⟩ : ∃ d, d = digs 256 Y := ⟨_, rfl⟩
          have HD := Lib.hid hd
          have hown2 := hown
          rw [← hd] at hown2
          have HO2 := Lib.hid hown2
          obtain ⟨a1, c1, rfl, hls⟩ := hown2.ls
          obtain ⟨m, hm⟩ : ∃ m, m = d.length := ⟨_, rfl⟩
          have HM := Lib.hid hm
          have hm2 : m ≤ 16200 := by rw [hm, hd]; exact HLE.out
          rw [← hm]
          clear hk hown hown2 hls hd hm
          have HSd : Hid (Sd wr (.slice a1 m c1) d) := Lib.hid (by have := HO2.out.ls; rw [← HM.out] at this; exact this)
          by_cases hg : 0 < c ∧ 0 < m
          · obtain ⟨hg1, hg2⟩ := hg
            go_wp2_with fail
            refine Calls.mono (rtwice_c _ d 0 _ HSd.out (by rw [← HM.out]; omega) (by omega)) ?_; rintro e wc ⟨v', rfl, hr, hbc⟩
            have HR := Lib.hid hr; have HBC := Lib.hid hbc; clear hr hbc
            go_wp2_with fail
            go_roundg (c - 1).toNat
            case measure => have := HK.out; omega
            case rel =>
              refine ⟨c - 1, 2 * Y, rfl, by go_num, by omega, by omega, ?_, ?_, bel_trans HB.out HBC.out⟩
              · show _ = _
                rw [← hY.out, show c.toNat = (c - 1).toNat + 1 by omega, Nat.pow_succ, Nat.mul_comm (2 ^ _) 2, ← Nat.mul_assoc, Nat.mul_comm 2 Y]
              · have h0 := HR.out.mono HB.out.size
                rw [HD.out, HVY.out] at h0; exact h0
          · have HF : Hid (Y = val W l * 2 ^ n.toNat) := Lib.hid (by
              rw [← hY.out]
              rcases Int.lt_or_le 0 c with h | h
              · have hm0 : m = 0 := by omega
                rw [(length_digs_zero (b := 256) (n := Y) two56).1 (by rw [← HD.out, ← HM.out, hm0]), Nat.zero_mul]
              · rw [show c.toNat = 0 by omega, Nat.pow_zero, Nat.mul_one])
            have FIN : ∀ (wc : World) (v' : Value), Hid (OwnW wr.heap.size wc v' (digs W (val 256 d))) → OwnW w.heap.size wc v' (digs W (shlI (val W l) n)) := fun wc v' HR => by
              have h0 := HR.out.mono HB.out.size
              rw [HD.out, HVY.out, HF.out] at h0
              rw [HSL.out]; exact h0
            have FIN' := Lib.hid FIN
            clear FIN
            by_cases hc0 : 0 < c
            · obtain rfl : m = 0 := by omega
              go_wp2_with fail
              refine Calls.mono (large_c _ d _ HSd.out (by rw [← HM.out]; omega)) ?_; rintro e wc ⟨v', rfl, hr, hbc⟩
              have HR := Lib.hid hr; have HBC := Lib.hid hbc; clear hr hbc
              go_wp2_with fail
              go_ret
              exact ⟨v', rfl, FIN'.out _ _ HR, bel_trans HB.out HBC.out⟩
            · clear hg
              go_wp2_with fail
              refine Calls.mono (large_c _ d _ HSd.out (by rw [← HM.out]; omega)) ?_; rintro e wc ⟨v', rfl, hr, hbc⟩
              have HR := Lib.hid hr; have HBC := Lib.hid hbc; clear hr hbc
              go_wp2_with fail
              go_ret
              exact ⟨v', rfl, FIN'.out _ _ HR, bel_trans HB.out HBC.out⟩

set_option maxRecDepth 100000 in
set_option maxHeartbeats 2000000 in
theorem rshr_c (v : Value) (l : List Nat) (n : Int) (w : World) (h : Wd w v l) (hs : l.length ≤ 2000) (hn : n ≤ 9223372036854775807) (hn2 : -9223372036854775808 ≤ n) :
    Calls Try.prog 39 #[v, .int .i64 n] w fun e w' => ∃ v', e = .returned v' ∧ OwnW w.heap.size w' v' (digs W (shrI (val W l) n)) ∧ Below w.heap.size w w' := by
  have H := Lib.hid h
  have hle := length_digs_le (b := 256) (k := 8 * l.length) two56 (by rw [← W256]; exact val_lt h.dig)
  clear h
  go_enter Try.func39, Try.ntmps39
  go_wp2_with fail
  refine Calls.mono (small_c _ l _ H.out (by omega)) ?_; rintro e wa ⟨t1, rfl, g1, hba⟩
  have HB := Lib.hid hba
  have hlt := lt_pow_length two56 (val W l)
  have HV := Lib.hid (val_digs two56 (val W l))
  obtain ⟨X, hX⟩ : ∃ X, X = val W l := ⟨_, rfl⟩
  have HX := Lib.hid hX
  rw [← hX] at hlt HV g1 hle
  obtain ⟨d, hd⟩ : ∃ d, d = digs 256 X := ⟨_, rfl⟩
  rw [← hd] at hlt HV g1 hle
  have hdg := Lib.hid g1.dig
  obtain ⟨a1, c1, rfl, hls⟩ := g1.ls
  have HLS := Lib.hid hls
  obtain ⟨m, hm⟩ : ∃ m, m = d.length := ⟨_, rfl⟩
  have HM := Lib.hid hm
  rw [← hm]
  rw [← hm] at hlt hle
  have HLT := Lib.hid hlt
  have hm2 : m ≤ 16000 := by omega
  have hcap : m ≤ c1 := by rw [hm]; exact hls.1
  have hcap2 := hls.2.1
  unfold maxLen at hcap2
  have HSd : Hid (Sd wa (.slice a1 m c1) d) := Lib.hid (by have := g1.ls; rw [← hm] at this; exact this)
  clear hba hX hd hlt hle g1 hls hm H
  by_cases hfar : 8 * (m : Int) ≤ n
  · have HR : Hid (digs W (shrI (val W l) n) = []) := Lib.hid (by
      unfold shrI
      rw [← HX.out, Nat.div_eq_of_lt, digs_zero]
      refine Nat.lt_of_lt_of_le HLT.out ?_
      rw [show (256 : Nat) = 2 ^ 8 by rfl, ← Nat.pow_mul]; exact Nat.pow_le_pow_right (by omega) (by omega))
    go_wp2_with fail
    go_ret
    exact ⟨_, rfl, by rw [HR.out]; exact Own.nil _ _ _ _ _, HB.out⟩
  · by_cases hn1 : n < 1
    · have HR : Hid (shrI (val W l) n = val 256 d) := Lib.hid (by
        unfold shrI
        rw [show n.toNat = 0 by omega, Nat.pow_zero, Nat.div_one, HV.out, HX.out])
      go_wp2_with fail
      refine Calls.mono (large_c _ d _ HSd.out (by rw [← HM.out]; omega)) ?_; rintro e wc ⟨v', rfl, hr, hbc⟩
      have HRR := Lib.hid hr; have HBC := Lib.hid hbc; clear hr hbc
      go_wp2_with fail
      go_ret
      exact ⟨v', rfl, by rw [HR.out]; exact HRR.out.mono HB.out.size, bel_trans HB.out HBC.out⟩
    · obtain ⟨s, rfl⟩ : ∃ s : Nat, n = s := ⟨n.toNat, by omega⟩
      obtain ⟨b1, o1, rfl, hcl⟩ := HLS.out.2.2.2 (by intro e; have := HM.out; rw [e] at this; simp at this; omega)
      obtain ⟨q, hq⟩ : ∃ q, q = s / 8 := ⟨_, rfl⟩
      have HQ := Lib.hid hq
      have hqm : q < m := by omega
      have e1 : (s : Int).tdiv 8 = (q : Int) := by rw [hq]; rfl
      have e1' : (s : Int) / 8 = (q : Int) := by omega
      have e2 : (s : Int).tmod 8 = ((s % 8 : Nat) : Int) := rfl
      have hcl2 := Lib.hid (hcl.drop q)
      have hb1 : b1 < wa.heap.size := hcl.lt (by have := HM.out; omega)
      have HB1 := Lib.hid hb1
      obtain ⟨y, hy⟩ : ∃ y, y = d.drop q := ⟨_, rfl⟩
      have HYD : Hid (Dig 256 y) := Lib.hid (by rw [hy]; exact hdg.out.drop q)
      rw [← hy] at hcl2
      obtain ⟨n2, hn2⟩ : ∃ n2, n2 = m - q := ⟨_, rfl⟩
      have HYL : Hid (y.length = n2) := Lib.hid (by rw [hy, hn2]; have := HM.out; simp; omega)
      have HYV : Hid (val 256 y = X / 256 ^ q) := Lib.hid (by
        rw [hy, ← HV.out, val_split 256 d q (by have := HM.out; omega)]
        have h1 := val_lt (hdg.out.take q)
        rw [List.length_take, Nat.min_eq_left (by have := HM.out; omega)] at h1
        rw [Nat.add_mul_div_left _ _ (Nat.pow_pos (by omega)), Nat.div_eq_of_lt h1, Nat.zero_add])
      have hr8 : s % 8 < 8 := by omega
      have HN4 : Hid (m - q = n2) := Lib.hid (by omega)
      clear hcl hy hq hb1 hn2
      go_wp2_with fail
      rw [HN4.out]
      have hn2b : n2 ≤ 16000 := by have := HN4.out; omega
      clear HN4
      go_loopg [6, 7] n2 (fun k x i wr => ∃ (j : Nat) (o : List Nat), j ≤ n2 ∧ k = n2 - j ∧ i = .int .i64 j ∧ OwnD wa.heap.size wr x o ∧ Hid (o.length = j) ∧ Hid (val 256 o + 256 ^ j * (val 256 (y.drop j) / 2 ^ (s % 8)) = val 256 y / 2 ^ (s % 8)) ∧ Hid (Below wa.heap.size wa wr))
      case atStart => exact ⟨0, [], Nat.zero_le _, rfl, rfl, Own.nil _ _ _ _ _, rfl, by show _ = _; simp [val], Below.refl _ _⟩
      case round =>
        obtain ⟨j, o, hj, hk, rfl, hown, hol, hv, HBB⟩ := hrel
        have HK := Lib.hid hk; have HO := Lib.hid hown
        clear hk hown
        by_cases hlt : j < n2
        · have g1 : wr.cell? ⟨b1, o1 + q + j, none⟩ = some (.int .i64 ((nth y j : Nat) : Int)) := hcl2.out.below HB1.out HBB.out _ (by have := HYL.out; omega)
          have x1 := nth_digW (by omega) HYD.out j
          by_cases hlt2 : j + 1 < n2
          · have g2 : wr.cell? ⟨b1, o1 + q + (j + 1), none⟩ = some (.int .i64 ((nth y (j + 1) : Nat) : Int)) := hcl2.out.below HB1.out HBB.out _ (by have := HYL.out; omega)
            have x2 := nth_digW (by omega) HYD.out (j + 1)
            obtain ⟨t, ht⟩ : ∃ t, t = nth y j + 256 * nth y (j + 1) := ⟨_, rfl⟩
            have e3 : ((nth y j : Nat) : Int) + 256 * ((nth y (j + 1) : Nat) : Int) = (t : Int) := by omega
            have ht2 : t ≤ 65535 := by omega
            obtain ⟨u, hu⟩ : ∃ u, u = t / 2 ^ (s % 8) := ⟨_, rfl⟩
            have hu2 : u ≤ 65535 := by rw [hu]; exact Nat.le_trans (Nat.div_le_self _ _) ht2
            have e4 : (t : Int) / 2 ^ (s % 8) = (u : Int) := by rw [hu]; simp
            have e5 : (u : Int).tmod 256 = ((u % 256 : Nat) : Int) := rfl
            have HS := Lib.hid (rshr_step (dg := u % 256) HYD.out (by have := HYL.out; omega) hr8 hol.out hv.out (by rw [hu, ht]))
            clear hu ht hv
            go_wp2_with (at_builtin; refine wpList_app _ rfl _ _ 38 rfl 3 .i64 8 Try.underlying38 info_i64 256 wa.heap.size _ o [u % 256] rfl ?_ wr.heap.size 0 1 rfl (CellsG.one _ (u % 256) _ _) ?_ ?_ ?_ ?_ ?_)
            · exact HO.out.alloc _
            · exact Dig.one (Nat.mod_lt _ (by omega))
            · have := hol.out; simp; unfold maxLen; omega
            · have := hol.out; simp; omega
            · have := HBB.out.size; simp; omega
            · intro l' v' w' HL' ho hb2 hg
              obtain ⟨a', cap', rfl, hls⟩ := ho.ls; have HO' := Lib.hid ho; have HB' := Lib.hid hb2; clear hg ho hb2 hls
              go_wp2_with fail
              go_roundg (n2 - (j + 1))
              case measure => have := HK.out; omega
              case rel =>
                refine ⟨j + 1, l', by omega, rfl, by go_num, HO'.out, ?_, ?_, ?_⟩
                · have := hol.out; show l'.length = _; rw [HL'.out]; simp; omega
                · rw [HL'.out]; exact HS.out
                · exact (HBB.out.alloc HBB.out.size _).trans HB'.out
          · have hz : nth y (j + 1) = 0 := nth_ge (by have := HYL.out; omega)
            obtain ⟨t, ht⟩ : ∃ t, t = nth y j + 256 * nth y (j + 1) := ⟨_, rfl⟩
            have e3 : nth y j = t := by rw [ht, hz]; omega
            rw [e3] at g1
            have ht2 : t ≤ 65535 := by omega
            obtain ⟨u, hu⟩ : ∃ u, u = t / 2 ^ (s % 8) := ⟨_, rfl⟩
            have hu2 : u ≤ 65535 := by rw [hu]; exact Nat.le_trans (Nat.div_le_self _ _) ht2
            have e4 : (t : Int) / 2 ^ (s % 8) = (u : Int) := by rw [hu]; simp
            have e5 : (u : Int).tmod 256 = ((u % 256 : Nat) : Int) := rfl
            have HS := Lib.hid (rshr_step (dg := u % 256) HYD.out (by have := HYL.out; omega) hr8 hol.out hv.out (by rw [hu, ht]))
            clear hu ht hv hz e3
            go_wp2_with (at_builtin; refine wpList_app _ rfl _ _ 38 rfl 3 .i64 8 Try.underlying38 info_i64 256 wa.heap.size _ o [u % 256] rfl ?_ wr.heap.size 0 1 rfl (CellsG.one _ (u % 256) _ _) ?_ ?_ ?_ ?_ ?_)
            · exact HO.out.alloc _
            · exact Dig.one (Nat.mod_lt _ (by omega))
            · have := hol.out; simp; unfold maxLen; omega
            · have := hol.out; simp; omega
            · have := HBB.out.size; simp; omega
            · intro l' v' w' HL' ho hb2 hg
              obtain ⟨a', cap', rfl, hls⟩ := ho.ls; have HO' := Lib.hid ho; have HB' := Lib.hid hb2; clear hg ho hb2 hls
              go_wp2_with fail
              go_roundg (n2 - (j + 1))
              case measure => have := HK.out; omega
              case rel =>
                refine ⟨j + 1, l', by omega, rfl, by go_num, HO'.out, ?_, ?_, ?_⟩
                · have := hol.out; show l'.length = _; rw [HL'.out]; simp; omega
                · rw [HL'.out]; exact HS.out
                · exact (HBB.out.alloc HBB.out.size _).trans HB'.out
        · obtain rfl : j = n2 := by omega
          have HF : Hid (val 256 o = shrI (val W l) (s : Int)) := Lib.hid (by
            have h1 := hv.out
            rw [List.drop_of_length_le (by have := HYL.out; omega), val_nil, Nat.zero_div, Nat.mul_zero, Nat.add_zero, HYV.out, Nat.div_div_eq_div_mul, show (256 : Nat) = 2 ^ 8 by rfl, ← Nat.pow_mul, ← Nat.pow_add] at h1
            unfold shrI
            rw [← HX.out, Int.toNat_natCast, ← show 8 * q + s % 8 = s by have := HQ.out; omega]
            exact h1)
          obtain ⟨a', cap', rfl, hls⟩ := HO.out.ls
          clear hls hv
          go_wp2_with fail
          refine Calls.mono (large_c _ o _ HO.out.ls (by have := hol.out; omega)) ?_; rintro e wc ⟨v', rfl, hr, hbc⟩
          have HRR := Lib.hid hr; have HBC := Lib.hid hbc; clear hr hbc
          go_wp2_with fail
          go_ret
          exact ⟨v', rfl, by rw [← HF.out]; exact HRR.out.mono (Nat.le_trans HB.out.size HBB.out.size), bel_trans (bel_trans HB.out HBB.out) HBC.out⟩

end Go.Proofs.Ytbofdldkiooegaa
