/- The reference of layer 1: Gcd. -/
import Derived.Test.YtbofdldkiooegaaRN
namespace Go.Proofs.Ytbofdldkiooegaa
open Go Go.RowKit Tw
set_option linter.unusedVariables false
set_option linter.unusedSimpArgs false

theorem gcd_half_left {X Y : Nat} (hx : X % 2 = 0) (hy : Y % 2 = 1) : Nat.gcd (shrI X 1) Y = Nat.gcd X Y := by
  have e : X = 2 * shrI X 1 := by show X = 2 * (X / 2 ^ 1); omega
  have hc : Nat.Coprime 2 Y := by
    unfold Nat.Coprime
    rw [Nat.gcd_rec, hy, Nat.gcd_one_left]
  conv => rhs; rw [e]
  exact (hc.gcd_mul_left_cancel (shrI X 1)).symm
theorem gcd_half_right {X Y : Nat} (hy : Y % 2 = 0) (hx : X % 2 = 1) : Nat.gcd X (shrI Y 1) = Nat.gcd X Y := by
  rw [Nat.gcd_comm, gcd_half_left hy hx, Nat.gcd_comm]

theorem nc_le {w : World} {v : Value} {X k k' : Nat} (h : Nc w v X k) (hX : X < W ^ k') : Nc w v X k' := Nc.of h.1 hX

set_option maxRecDepth 100000 in
set_option maxHeartbeats 8000000 in
theorem rgcd_n (v1 v2 : Value) (A B : Nat) (w : World) (h1 : Nv w v1 A 15) (h2 : Nv w v2 B 15) :
    Calls Try.prog 19 #[v1, v2] w (Ret w fun v w' => Nc w' v (Nat.gcd A B) 15) := by
  have hA := h1.lt; have hB := h2.lt
  have HA := Lib.hid hA; have HBd := Lib.hid hB
  have HGK : Hid (Nat.gcd A B < W ^ 15) := Lib.hid (by
    rcases Nat.eq_zero_or_pos A with h | h
    · rw [h, Nat.gcd_zero_left]; exact hB
    · exact Nat.lt_of_le_of_lt (Nat.gcd_le_left _ h) hA)
  have H1 := Lib.hid h1; have H2 := Lib.hid h2
  clear h1 h2 hA hB
  go_enter Try.func19, Try.ntmps19
  go_wp2_with fail
  refine Calls.mono (small_n _ A 15 _ H1.out (by omega)) ?_; rintro e w1 ⟨s1, rfl, hr, hb⟩
  have HS1 := Lib.hid hr; have H2a := Lib.hid (H2.out.below hb); have HB1 := Lib.hid hb; clear hr hb H1 H2
  go_wp2_with fail
  refine Calls.mono (large_n _ A 15 _ HS1.out HA.out (by omega)) ?_; rintro e w2 ⟨x0, rfl, hr, hb⟩
  have HX1 := Lib.hid hr; have H2b := Lib.hid (H2a.out.below hb); have HB2 := Lib.hid (bel_trans HB1.out hb); clear hr hb HS1 H2a HB1
  go_wp2_with fail
  refine Calls.mono (small_n _ B 15 _ H2b.out (by omega)) ?_; rintro e w3 ⟨s2, rfl, hr, hb⟩
  have HS2 := Lib.hid hr; have HX2 := Lib.hid (HX1.out.below hb); have HB3 := Lib.hid (bel_trans HB2.out hb); clear hr hb H2b HX1 HB2
  go_wp2_with fail
  refine Calls.mono (large_n _ B 15 _ HS2.out HBd.out (by omega)) ?_; rintro e w4 ⟨y0, rfl, hr, hb⟩
  have HY3 := Lib.hid hr; have HX3 := Lib.hid (HX2.out.below hb); have HB4 := Lib.hid (bel_trans HB3.out hb); clear hr hb HS2 HX2 HB3
  go_wp2_with fail
  go_loopg [5, 6, 7] (A + B) (fun k s5 s6 s7 wr => ∃ X Y t : Nat, k = X + Y ∧ s7 = .int .i64 t ∧ t ≤ 960 ∧ Hid (Nc wr s5 X 15) ∧ Hid (Nc wr s6 Y 15) ∧ Hid (X * 2 ^ t = A) ∧ Hid (Y * 2 ^ t = B) ∧ Hid (Below w.heap.size w wr))
  case atStart => exact ⟨A, B, 0, rfl, rfl, by omega, HX3, HY3, by show _ = _; omega, by show _ = _; omega, HB4⟩
  case round =>
    clear HX3 HY3 HB4
    obtain ⟨X, Y, t, hk, rfl, ht, HX, HY, hxt, hyt, HB⟩ := hrel
    have HK := Lib.hid hk; clear hk
    by_cases hx0 : X = 0
    · have HO : Hid (X = 0 ∨ Y = 0 ∨ X % 2 = 1 ∨ Y % 2 = 1) := Lib.hid (by omega)
      have HX0 := Lib.hid hx0
      have HXz : Hid (Nc wr u5 0 15) := Lib.hid (HX.out.eq hx0)
      obtain ⟨a5, c5, hsh⟩ := nc_nil HXz.out
      subst hsh
      clear hx0 HXz
      go_wp2_with fail
      go_loopg [5, 6] (X + Y) (fun k s5 s6 wr => ∃ X2 Y2 : Nat, k = X2 + Y2 ∧ Hid (Nc wr s5 X2 15) ∧ Hid (Nc wr s6 Y2 15) ∧ Hid (Nat.gcd X2 Y2 = Nat.gcd X Y) ∧ Hid (X2 = 0 ∨ Y2 = 0 ∨ X2 % 2 = 1 ∨ Y2 % 2 = 1) ∧ Hid (Below w.heap.size w wr))
      case atStart => exact ⟨X, Y, rfl, HX, HY, rfl, HO.out, HB⟩
      case round =>
        have HG : Hid (Nat.gcd X Y * 2 ^ t = Nat.gcd A B) := Lib.hid (by rw [← hxt.out, ← hyt.out, Nat.gcd_mul_right])
        clear HX HY HB HO hxt hyt HX0
        obtain ⟨X2, Y2, hk, HX, HY, hgg, hodd, HB⟩ := hrel
        have HK := Lib.hid hk; clear hk
        have HG2 : Hid (Nat.gcd X2 Y2 * 2 ^ t = Nat.gcd A B) := Lib.hid (by rw [hgg.out]; exact HG.out)
        clear HG
        by_cases hx0 : X2 = 0
        · have FIN : Hid (shlI (X2 + Y2) (t : Int) = Nat.gcd A B) := Lib.hid (by unfold shlI; rw [if_neg (by omega), Int.toNat_natCast, ← HG2.out, hx0, Nat.gcd_zero_left, Nat.zero_add])
          subst hx0
          obtain ⟨a5, c5, rfl⟩ := nc_nil HX.out
          go_wp2_with fail
          refine Calls.mono (radd_n _ _ 0 Y2 15 15 16 _ HX.out.nv HY.out.nv (by omega) (by omega) (by omega)) ?_; rintro e wc ⟨v', rfl, hr, hbc⟩
          have HR := Lib.hid hr; have HBC := Lib.hid (bel_trans HB.out hbc); clear hr hbc
          go_wp2_with fail
          refine Calls.mono (rshl_n _ (0 + Y2) 16 31 (t : Int) _ HR.out.nv (by omega) (.inl (by omega)) (by omega) (.inr (by omega))) ?_; rintro e wd ⟨v', rfl, hr, hbd⟩
          have HR2 := Lib.hid hr; have HBD := Lib.hid (bel_trans HBC.out hbd); clear hr hbd
          go_wp2_with fail
          go_ret
          refine ⟨_, rfl, ?_, HBD.out⟩
          exact nc_le (HR2.out.eq FIN.out) HGK.out
        · by_cases hy0 : Y2 = 0
          · have FIN : Hid (shlI (X2 + Y2) (t : Int) = Nat.gcd A B) := Lib.hid (by unfold shlI; rw [if_neg (by omega), Int.toNat_natCast, ← HG2.out, hy0, Nat.gcd_zero_right, Nat.add_zero])
            subst hy0
            obtain ⟨b5, o5, n5, c5, p5, rfl, hn5, hk5, hp5, hq5, hc5⟩ := nc_head HX.out (by omega)
            obtain ⟨a6, c6, rfl⟩ := nc_nil HY.out
            clear hc5 hq5 hp5
            go_wp2_with fail
            refine Calls.mono (radd_n _ _ X2 0 15 15 16 _ HX.out.nv HY.out.nv (by omega) (by omega) (by omega)) ?_; rintro e wc ⟨v', rfl, hr, hbc⟩
            have HR := Lib.hid hr; have HBC := Lib.hid (bel_trans HB.out hbc); clear hr hbc
            go_wp2_with fail
            refine Calls.mono (rshl_n _ (X2 + 0) 16 31 (t : Int) _ HR.out.nv (by omega) (.inl (by omega)) (by omega) (.inr (by omega))) ?_; rintro e wd ⟨v', rfl, hr, hbd⟩
            have HR2 := Lib.hid hr; have HBD := Lib.hid (bel_trans HBC.out hbd); clear hr hbd
            go_wp2_with fail
            go_ret
            refine ⟨_, rfl, ?_, HBD.out⟩
            exact nc_le (HR2.out.eq FIN.out) HGK.out
          · obtain ⟨b5, o5, n5, c5, p5, rfl, hn5, hk5, hp5, hq5, hc5⟩ := nc_head HX.out (by omega)
            obtain ⟨b6, o6, n6, c6, p6, rfl, hn6, hk6, hp6, hq6, hc6⟩ := nc_head HY.out (by omega)
            have hxp : 0 < X2 := by omega
            have hyp : 0 < Y2 := by omega
            clear hx0 hy0
            by_cases hxe : X2 % 2 = 0
            · have e1 : ((p5 : Int) % 2 == 0) = true := by rw [beq_iff_eq]; omega
              have hyo : Y2 % 2 = 1 := by have := hodd.out; omega
              have HGN : Hid (Nat.gcd (shrI X2 1) Y2 = Nat.gcd X Y) := Lib.hid (by rw [← hgg.out]; exact gcd_half_left hxe hyo)
              have HM : Hid (shrI X2 1 < X2 ∧ shrI X2 1 = X2 / 2) := Lib.hid ⟨by show X2 / 2 ^ 1 < X2; omega, rfl⟩
              have HON : Hid (shrI X2 1 = 0 ∨ Y2 = 0 ∨ shrI X2 1 % 2 = 1 ∨ Y2 % 2 = 1) := Lib.hid (.inr (.inr (.inr hyo)))
              clear hq5 hp5 hxe hyo hc6 hp6 hq6
              go_wp2_with fail
              refine Calls.mono (rshr_n _ X2 15 1 _ HX.out.nv (by omega) (by omega) (by omega)) ?_
              rintro e wc ⟨v', rfl, hr, hbc⟩
              have HR := Lib.hid hr; have HYc := Lib.hid (HY.out.below hbc); have HBC := Lib.hid (bel_trans HB.out hbc); clear hr hbc
              go_wp2_with fail
              go_roundg (shrI X2 1 + Y2)
              case measure => have := HK.out; have := HM.out; omega
              case rel => exact ⟨_, _, rfl, HR, HYc, HGN.out, HON.out, HBC⟩
            · have e1 : ((p5 : Int) % 2 == 0) = false := by rw [beq_eq_false_iff_ne]; omega
              by_cases hye : Y2 % 2 = 0
              · have e2 : ((p6 : Int) % 2 == 0) = true := by rw [beq_iff_eq]; omega
                have HGN : Hid (Nat.gcd X2 (shrI Y2 1) = Nat.gcd X Y) := Lib.hid (by rw [← hgg.out]; exact gcd_half_right hye (by omega))
                have HM : Hid (shrI Y2 1 < Y2 ∧ shrI Y2 1 = Y2 / 2) := Lib.hid ⟨by show Y2 / 2 ^ 1 < Y2; omega, rfl⟩
                have HON : Hid (X2 = 0 ∨ shrI Y2 1 = 0 ∨ X2 % 2 = 1 ∨ shrI Y2 1 % 2 = 1) := Lib.hid (.inr (.inr (.inl (by omega))))
                clear hq5 hp5 hxe hye hp6 hq6
                go_wp2_with fail
                refine Calls.mono (rshr_n _ Y2 15 1 _ HY.out.nv (by omega) (by omega) (by omega)) ?_
                rintro e wc ⟨v', rfl, hr, hbc⟩
                have HR := Lib.hid hr; have HXc := Lib.hid (HX.out.below hbc); have HBC := Lib.hid (bel_trans HB.out hbc); clear hr hbc
                go_wp2_with fail
                go_roundg (X2 + shrI Y2 1)
                case measure => have := HK.out; have := HM.out; omega
                case rel => exact ⟨_, _, rfl, HXc, HR, HGN.out, HON.out, HBC⟩
              · have e2 : ((p6 : Int) % 2 == 0) = false := by rw [beq_eq_false_iff_ne]; omega
                by_cases hle : Y2 ≤ X2
                · obtain ⟨cc, hcc, hc0⟩ := @cmp_ge X2 Y2 hle
                  have HCC := Lib.hid hcc
                  have HGN : Hid (Nat.gcd (X2 - Y2) Y2 = Nat.gcd X Y) := Lib.hid (by rw [← hgg.out, Nat.gcd_sub_self_left hle])
                  have HM : Hid (X2 - Y2 < X2) := Lib.hid (by omega)
                  have HON : Hid (X2 - Y2 = 0 ∨ Y2 = 0 ∨ (X2 - Y2) % 2 = 1 ∨ Y2 % 2 = 1) := Lib.hid (.inr (.inr (.inr (by omega))))
                  clear hq5 hp5 hxe hye hp6 hq6 hcc hle
                  go_wp2_with fail
                  refine Calls.mono (rcmp_n _ _ X2 Y2 15 15 cc _ HX.out.nv HY.out.nv (by omega) (by omega) HCC.out) ?_
                  rintro e wb ⟨rfl, hbb⟩
                  have HX1 := Lib.hid (HX.out.below hbb); have HY1 := Lib.hid (HY.out.below hbb); have HBB := Lib.hid (bel_trans HB.out hbb); clear hbb
                  clear HX HY hc5 hc6
                  go_wp2_with fail
                  refine Calls.mono (rsub_n _ _ X2 Y2 15 15 _ HX1.out.nv HY1.out.nv (by omega) (by omega)) ?_
                  rintro e wc ⟨v', rfl, hr, hbc⟩
                  have HR := Lib.hid hr; have HYc := Lib.hid (HY1.out.below hbc); have HBC := Lib.hid (bel_trans HBB.out hbc); clear hr hbc
                  go_wp2_with fail
                  go_roundg (X2 - Y2 + Y2)
                  case measure => have := HK.out; have := HM.out; omega
                  case rel => exact ⟨_, _, rfl, HR, HYc, HGN.out, HON.out, HBC⟩
                · have HCC := Lib.hid (@cmp_lo X2 Y2 (by omega))
                  have HGN : Hid (Nat.gcd X2 (Y2 - X2) = Nat.gcd X Y) := Lib.hid (by rw [← hgg.out, Nat.gcd_sub_self_right (by omega)])
                  have HM : Hid (Y2 - X2 < Y2) := Lib.hid (by omega)
                  have HON : Hid (X2 = 0 ∨ Y2 - X2 = 0 ∨ X2 % 2 = 1 ∨ (Y2 - X2) % 2 = 1) := Lib.hid (.inr (.inr (.inl (by omega))))
                  clear hq5 hp5 hxe hye hp6 hq6 hle
                  go_wp2_with fail
                  refine Calls.mono (rcmp_n _ _ X2 Y2 15 15 (-1) _ HX.out.nv HY.out.nv (by omega) (by omega) HCC.out) ?_
                  rintro e wb ⟨rfl, hbb⟩
                  have HX1 := Lib.hid (HX.out.below hbb); have HY1 := Lib.hid (HY.out.below hbb); have HBB := Lib.hid (bel_trans HB.out hbb); clear hbb
                  clear HX HY hc5 hc6
                  go_wp2_with fail
                  refine Calls.mono (rsub_n _ _ Y2 X2 15 15 _ HY1.out.nv HX1.out.nv (by omega) (by omega)) ?_
                  rintro e wc ⟨v', rfl, hr, hbc⟩
                  have HR := Lib.hid hr; have HXc := Lib.hid (HX1.out.below hbc); have HBC := Lib.hid (bel_trans HBB.out hbc); clear hr hbc
                  go_wp2_with fail
                  go_roundg (X2 + (Y2 - X2))
                  case measure => have := HK.out; have := HM.out; omega
                  case rel => exact ⟨_, _, rfl, HXc, HR, HGN.out, HON.out, HBC⟩
    · by_cases hy0 : Y = 0
      · have HO : Hid (X = 0 ∨ Y = 0 ∨ X % 2 = 1 ∨ Y % 2 = 1) := Lib.hid (by omega)
        obtain ⟨b5, o5, n5, c5, p5, rfl, hn5, hk5, hp5, hq5, hc5⟩ := nc_head HX.out (by omega)
        have HY0 := Lib.hid hy0
        have HYz : Hid (Nc wr u6 0 15) := Lib.hid (HY.out.eq hy0)
        obtain ⟨a6, c6, hsh⟩ := nc_nil HYz.out
        subst hsh
        clear hx0 hy0 HYz hc5 hq5 hp5
        go_wp2_with fail
        go_loopg [5, 6] (X + Y) (fun k s5 s6 wr => ∃ X2 Y2 : Nat, k = X2 + Y2 ∧ Hid (Nc wr s5 X2 15) ∧ Hid (Nc wr s6 Y2 15) ∧ Hid (Nat.gcd X2 Y2 = Nat.gcd X Y) ∧ Hid (X2 = 0 ∨ Y2 = 0 ∨ X2 % 2 = 1 ∨ Y2 % 2 = 1) ∧ Hid (Below w.heap.size w wr))
        case atStart => exact ⟨X, Y, rfl, HX, HY, rfl, HO.out, HB⟩
        case round =>
          have HG : Hid (Nat.gcd X Y * 2 ^ t = Nat.gcd A B) := Lib.hid (by rw [← hxt.out, ← hyt.out, Nat.gcd_mul_right])
          clear HX HY HB HO hxt hyt HY0
          obtain ⟨X2, Y2, hk, HX, HY, hgg, hodd, HB⟩ := hrel
          have HK := Lib.hid hk; clear hk
          have HG2 : Hid (Nat.gcd X2 Y2 * 2 ^ t = Nat.gcd A B) := Lib.hid (by rw [hgg.out]; exact HG.out)
          clear HG
          by_cases hx0 : X2 = 0
          · have FIN : Hid (shlI (X2 + Y2) (t : Int) = Nat.gcd A B) := Lib.hid (by unfold shlI; rw [if_neg (by omega), Int.toNat_natCast, ← HG2.out, hx0, Nat.gcd_zero_left, Nat.zero_add])
            subst hx0
            obtain ⟨a5, c5, rfl⟩ := nc_nil HX.out
            go_wp2_with fail
            refine Calls.mono (radd_n _ _ 0 Y2 15 15 16 _ HX.out.nv HY.out.nv (by omega) (by omega) (by omega)) ?_; rintro e wc ⟨v', rfl, hr, hbc⟩
            have HR := Lib.hid hr; have HBC := Lib.hid (bel_trans HB.out hbc); clear hr hbc
            go_wp2_with fail
            refine Calls.mono (rshl_n _ (0 + Y2) 16 31 (t : Int) _ HR.out.nv (by omega) (.inl (by omega)) (by omega) (.inr (by omega))) ?_; rintro e wd ⟨v', rfl, hr, hbd⟩
            have HR2 := Lib.hid hr; have HBD := Lib.hid (bel_trans HBC.out hbd); clear hr hbd
            go_wp2_with fail
            go_ret
            refine ⟨_, rfl, ?_, HBD.out⟩
            exact nc_le (HR2.out.eq FIN.out) HGK.out
          · by_cases hy0 : Y2 = 0
            · have FIN : Hid (shlI (X2 + Y2) (t : Int) = Nat.gcd A B) := Lib.hid (by unfold shlI; rw [if_neg (by omega), Int.toNat_natCast, ← HG2.out, hy0, Nat.gcd_zero_right, Nat.add_zero])
              subst hy0
              obtain ⟨b5, o5, n5, c5, p5, rfl, hn5, hk5, hp5, hq5, hc5⟩ := nc_head HX.out (by omega)
              obtain ⟨a6, c6, rfl⟩ := nc_nil HY.out
              clear hc5 hq5 hp5
              go_wp2_with fail
              refine Calls.mono (radd_n _ _ X2 0 15 15 16 _ HX.out.nv HY.out.nv (by omega) (by omega) (by omega)) ?_; rintro e wc ⟨v', rfl, hr, hbc⟩
              have HR := Lib.hid hr; have HBC := Lib.hid (bel_trans HB.out hbc); clear hr hbc
              go_wp2_with fail
              refine Calls.mono (rshl_n _ (X2 + 0) 16 31 (t : Int) _ HR.out.nv (by omega) (.inl (by omega)) (by omega) (.inr (by omega))) ?_; rintro e wd ⟨v', rfl, hr, hbd⟩
              have HR2 := Lib.hid hr; have HBD := Lib.hid (bel_trans HBC.out hbd); clear hr hbd
              go_wp2_with fail
              go_ret
              refine ⟨_, rfl, ?_, HBD.out⟩
              exact nc_le (HR2.out.eq FIN.out) HGK.out
            · obtain ⟨b5, o5, n5, c5, p5, rfl, hn5, hk5, hp5, hq5, hc5⟩ := nc_head HX.out (by omega)
              obtain ⟨b6, o6, n6, c6, p6, rfl, hn6, hk6, hp6, hq6, hc6⟩ := nc_head HY.out (by omega)
              have hxp : 0 < X2 := by omega
              have hyp : 0 < Y2 := by omega
              clear hx0 hy0
              by_cases hxe : X2 % 2 = 0
              · have e1 : ((p5 : Int) % 2 == 0) = true := by rw [beq_iff_eq]; omega
                have hyo : Y2 % 2 = 1 := by have := hodd.out; omega
                have HGN : Hid (Nat.gcd (shrI X2 1) Y2 = Nat.gcd X Y) := Lib.hid (by rw [← hgg.out]; exact gcd_half_left hxe hyo)
                have HM : Hid (shrI X2 1 < X2 ∧ shrI X2 1 = X2 / 2) := Lib.hid ⟨by show X2 / 2 ^ 1 < X2; omega, rfl⟩
                have HON : Hid (shrI X2 1 = 0 ∨ Y2 = 0 ∨ shrI X2 1 % 2 = 1 ∨ Y2 % 2 = 1) := Lib.hid (.inr (.inr (.inr hyo)))
                clear hq5 hp5 hxe hyo hc6 hp6 hq6
                go_wp2_with fail
                refine Calls.mono (rshr_n _ X2 15 1 _ HX.out.nv (by omega) (by omega) (by omega)) ?_
                rintro e wc ⟨v', rfl, hr, hbc⟩
                have HR := Lib.hid hr; have HYc := Lib.hid (HY.out.below hbc); have HBC := Lib.hid (bel_trans HB.out hbc); clear hr hbc
                go_wp2_with fail
                go_roundg (shrI X2 1 + Y2)
                case measure => have := HK.out; have := HM.out; omega
                case rel => exact ⟨_, _, rfl, HR, HYc, HGN.out, HON.out, HBC⟩
              · have e1 : ((p5 : Int) % 2 == 0) = false := by rw [beq_eq_false_iff_ne]; omega
                by_cases hye : Y2 % 2 = 0
                · have e2 : ((p6 : Int) % 2 == 0) = true := by rw [beq_iff_eq]; omega
                  have HGN : Hid (Nat.gcd X2 (shrI Y2 1) = Nat.gcd X Y) := Lib.hid (by rw [← hgg.out]; exact gcd_half_right hye (by omega))
                  have HM : Hid (shrI Y2 1 < Y2 ∧ shrI Y2 1 = Y2 / 2) := Lib.hid ⟨by show Y2 / 2 ^ 1 < Y2; omega, rfl⟩
                  have HON : Hid (X2 = 0 ∨ shrI Y2 1 = 0 ∨ X2 % 2 = 1 ∨ shrI Y2 1 % 2 = 1) := Lib.hid (.inr (.inr (.inl (by omega))))
                  clear hq5 hp5 hxe hye hp6 hq6
                  go_wp2_with fail
                  refine Calls.mono (rshr_n _ Y2 15 1 _ HY.out.nv (by omega) (by omega) (by omega)) ?_
                  rintro e wc ⟨v', rfl, hr, hbc⟩
                  have HR := Lib.hid hr; have HXc := Lib.hid (HX.out.below hbc); have HBC := Lib.hid (bel_trans HB.out hbc); clear hr hbc
                  go_wp2_with fail
                  go_roundg (X2 + shrI Y2 1)
                  case measure => have := HK.out; have := HM.out; omega
                  case rel => exact ⟨_, _, rfl, HXc, HR, HGN.out, HON.out, HBC⟩
                · have e2 : ((p6 : Int) % 2 == 0) = false := by rw [beq_eq_false_iff_ne]; omega
                  by_cases hle : Y2 ≤ X2
                  · obtain ⟨cc, hcc, hc0⟩ := @cmp_ge X2 Y2 hle
                    have HCC := Lib.hid hcc
                    have HGN : Hid (Nat.gcd (X2 - Y2) Y2 = Nat.gcd X Y) := Lib.hid (by rw [← hgg.out, Nat.gcd_sub_self_left hle])
                    have HM : Hid (X2 - Y2 < X2) := Lib.hid (by omega)
                    have HON : Hid (X2 - Y2 = 0 ∨ Y2 = 0 ∨ (X2 - Y2) % 2 = 1 ∨ Y2 % 2 = 1) := Lib.hid (.inr (.inr (.inr (by omega))))
                    clear hq5 hp5 hxe hye hp6 hq6 hcc hle
                    go_wp2_with fail
                    refine Calls.mono (rcmp_n _ _ X2 Y2 15 15 cc _ HX.out.nv HY.out.nv (by omega) (by omega) HCC.out) ?_
                    rintro e wb ⟨rfl, hbb⟩
                    have HX1 := Lib.hid (HX.out.below hbb); have HY1 := Lib.hid (HY.out.below hbb); have HBB := Lib.hid (bel_trans HB.out hbb); clear hbb
                    clear HX HY hc5 hc6
                    go_wp2_with fail
                    refine Calls.mono (rsub_n _ _ X2 Y2 15 15 _ HX1.out.nv HY1.out.nv (by omega) (by omega)) ?_
                    rintro e wc ⟨v', rfl, hr, hbc⟩
                    have HR := Lib.hid hr; have HYc := Lib.hid (HY1.out.below hbc); have HBC := Lib.hid (bel_trans HBB.out hbc); clear hr hbc
                    go_wp2_with fail
                    go_roundg (X2 - Y2 + Y2)
                    case measure => have := HK.out; have := HM.out; omega
                    case rel => exact ⟨_, _, rfl, HR, HYc, HGN.out, HON.out, HBC⟩
                  · have HCC := Lib.hid (@cmp_lo X2 Y2 (by omega))
                    have HGN : Hid (Nat.gcd X2 (Y2 - X2) = Nat.gcd X Y) := Lib.hid (by rw [← hgg.out, Nat.gcd_sub_self_right (by omega)])
                    have HM : Hid (Y2 - X2 < Y2) := Lib.hid (by omega)
                    have HON : Hid (X2 = 0 ∨ Y2 - X2 = 0 ∨ X2 % 2 = 1 ∨ (Y2 - X2) % 2 = 1) := Lib.hid (.inr (.inr (.inl (by omega))))
                    clear hq5 hp5 hxe hye hp6 hq6 hle
                    go_wp2_with fail
                    refine Calls.mono (rcmp_n _ _ X2 Y2 15 15 (-1) _ HX.out.nv HY.out.nv (by omega) (by omega) HCC.out) ?_
                    rintro e wb ⟨rfl, hbb⟩
                    have HX1 := Lib.hid (HX.out.below hbb); have HY1 := Lib.hid (HY.out.below hbb); have HBB := Lib.hid (bel_trans HB.out hbb); clear hbb
                    clear HX HY hc5 hc6
                    go_wp2_with fail
                    refine Calls.mono (rsub_n _ _ Y2 X2 15 15 _ HY1.out.nv HX1.out.nv (by omega) (by omega)) ?_
                    rintro e wc ⟨v', rfl, hr, hbc⟩
                    have HR := Lib.hid hr; have HXc := Lib.hid (HX1.out.below hbc); have HBC := Lib.hid (bel_trans HBB.out hbc); clear hr hbc
                    go_wp2_with fail
                    go_roundg (X2 + (Y2 - X2))
                    case measure => have := HK.out; have := HM.out; omega
                    case rel => exact ⟨_, _, rfl, HXc, HR, HGN.out, HON.out, HBC⟩
      · obtain ⟨b5, o5, n5, c5, p5, rfl, hn5, hk5, hp5, hq5, hc5⟩ := nc_head HX.out (by omega)
        obtain ⟨b6, o6, n6, c6, p6, rfl, hn6, hk6, hp6, hq6, hc6⟩ := nc_head HY.out (by omega)
        have hxp : 0 < X := by omega
        have hyp : 0 < Y := by omega
        clear hx0 hy0
        by_cases hxe : X % 2 = 0
        · have e1 : ((p5 : Int) % 2 == 0) = true := by rw [beq_iff_eq]; omega
          by_cases hye : Y % 2 = 0
          · have e2 : ((p6 : Int) % 2 == 0) = true := by rw [beq_iff_eq]; omega
            have HT1 : Hid (t + 1 ≤ 960) := Lib.hid (by
              have h1 := hxt.out
              have h2 := HA.out
              rw [← h1, W_powk] at h2
              have h3 : 2 ^ (t + 1) ≤ X * 2 ^ t := by rw [Nat.pow_succ, Nat.mul_comm]; exact Nat.mul_le_mul_right _ (by omega)
              have h4 := (Nat.pow_lt_pow_iff_right (by omega)).1 (Nat.lt_of_le_of_lt h3 h2)
              omega)
            have hst : ∀ Z C, Z % 2 = 0 → Z * 2 ^ t = C → shrI Z 1 * 2 ^ (t + 1) = C := by
              intro Z C hz hc
              rw [← hc, Nat.pow_succ, Nat.mul_comm (2 ^ t) 2, ← Nat.mul_assoc]
              congr 1
              show Z / 2 ^ 1 * 2 = Z
              omega
            have HXT := Lib.hid (hst X A hxe hxt.out); have HYT := Lib.hid (hst Y B hye hyt.out)
            have HM : Hid (shrI X 1 < X ∧ shrI Y 1 < Y) := Lib.hid ⟨by show X / 2 ^ 1 < X; omega, by show Y / 2 ^ 1 < Y; omega⟩
            clear hxe hye hq5 hq6 hp5 hp6 hst
            go_wp2_with fail
            refine Calls.mono (rshr_n _ X 15 1 _ HX.out.nv (by omega) (by omega) (by omega)) ?_
            rintro e wb ⟨v', rfl, hr, hbb⟩
            have HR := Lib.hid hr; have HYb := Lib.hid (HY.out.below hbb); have HBB := Lib.hid (bel_trans HB.out hbb); clear hr hbb hc5 hc6 HX HY
            go_wp2_with fail
            refine Calls.mono (rshr_n _ Y 15 1 _ HYb.out.nv (by omega) (by omega) (by omega)) ?_
            rintro e wc ⟨v', rfl, hr, hbc⟩
            have HR2 := Lib.hid hr; have HXc := Lib.hid (HR.out.below hbc); have HBC := Lib.hid (bel_trans HBB.out hbc); clear hr hbc
            have ht1 : t + 1 ≤ 960 := HT1.out
            go_wp2_with fail
            go_roundg (shrI X 1 + shrI Y 1)
            case measure => have := HK.out; have := HM.out; omega
            case rel => exact ⟨_, _, t + 1, rfl, by go_num, ht1, HXc, HR2, HXT.out, HYT.out, HBC⟩
          · have e2 : ((p6 : Int) % 2 == 0) = false := by rw [beq_eq_false_iff_ne]; omega
            have HO : Hid (X = 0 ∨ Y = 0 ∨ X % 2 = 1 ∨ Y % 2 = 1) := Lib.hid (by omega)
            clear hxe hye hq5 hq6 hp5 hp6
            go_wp2_with fail
            go_loopg [5, 6] (X + Y) (fun k s5 s6 wr => ∃ X2 Y2 : Nat, k = X2 + Y2 ∧ Hid (Nc wr s5 X2 15) ∧ Hid (Nc wr s6 Y2 15) ∧ Hid (Nat.gcd X2 Y2 = Nat.gcd X Y) ∧ Hid (X2 = 0 ∨ Y2 = 0 ∨ X2 % 2 = 1 ∨ Y2 % 2 = 1) ∧ Hid (Below w.heap.size w wr))
            case atStart => exact ⟨X, Y, rfl, HX, HY, rfl, HO.out, HB⟩
            case round =>
              have HG : Hid (Nat.gcd X Y * 2 ^ t = Nat.gcd A B) := Lib.hid (by rw [← hxt.out, ← hyt.out, Nat.gcd_mul_right])
              clear HX HY HB HO hxt hyt hxp hyp e1 e2 hc5 hc6 hn5 hk5 hn6 hk6
              obtain ⟨X2, Y2, hk, HX, HY, hgg, hodd, HB⟩ := hrel
              have HK := Lib.hid hk; clear hk
              have HG2 : Hid (Nat.gcd X2 Y2 * 2 ^ t = Nat.gcd A B) := Lib.hid (by rw [hgg.out]; exact HG.out)
              clear HG
              by_cases hx0 : X2 = 0
              · have FIN : Hid (shlI (X2 + Y2) (t : Int) = Nat.gcd A B) := Lib.hid (by unfold shlI; rw [if_neg (by omega), Int.toNat_natCast, ← HG2.out, hx0, Nat.gcd_zero_left, Nat.zero_add])
                subst hx0
                obtain ⟨a5, c5, rfl⟩ := nc_nil HX.out
                go_wp2_with fail
                refine Calls.mono (radd_n _ _ 0 Y2 15 15 16 _ HX.out.nv HY.out.nv (by omega) (by omega) (by omega)) ?_; rintro e wc ⟨v', rfl, hr, hbc⟩
                have HR := Lib.hid hr; have HBC := Lib.hid (bel_trans HB.out hbc); clear hr hbc
                go_wp2_with fail
                refine Calls.mono (rshl_n _ (0 + Y2) 16 31 (t : Int) _ HR.out.nv (by omega) (.inl (by omega)) (by omega) (.inr (by omega))) ?_; rintro e wd ⟨v', rfl, hr, hbd⟩
                have HR2 := Lib.hid hr; have HBD := Lib.hid (bel_trans HBC.out hbd); clear hr hbd
                go_wp2_with fail
                go_ret
                refine ⟨_, rfl, ?_, HBD.out⟩
                exact nc_le (HR2.out.eq FIN.out) HGK.out
              · by_cases hy0 : Y2 = 0
                · have FIN : Hid (shlI (X2 + Y2) (t : Int) = Nat.gcd A B) := Lib.hid (by unfold shlI; rw [if_neg (by omega), Int.toNat_natCast, ← HG2.out, hy0, Nat.gcd_zero_right, Nat.add_zero])
                  subst hy0
                  obtain ⟨b5, o5, n5, c5, p5, rfl, hn5, hk5, hp5, hq5, hc5⟩ := nc_head HX.out (by omega)
                  obtain ⟨a6, c6, rfl⟩ := nc_nil HY.out
                  clear hc5 hq5 hp5
                  go_wp2_with fail
                  refine Calls.mono (radd_n _ _ X2 0 15 15 16 _ HX.out.nv HY.out.nv (by omega) (by omega) (by omega)) ?_; rintro e wc ⟨v', rfl, hr, hbc⟩
                  have HR := Lib.hid hr; have HBC := Lib.hid (bel_trans HB.out hbc); clear hr hbc
                  go_wp2_with fail
                  refine Calls.mono (rshl_n _ (X2 + 0) 16 31 (t : Int) _ HR.out.nv (by omega) (.inl (by omega)) (by omega) (.inr (by omega))) ?_; rintro e wd ⟨v', rfl, hr, hbd⟩
                  have HR2 := Lib.hid hr; have HBD := Lib.hid (bel_trans HBC.out hbd); clear hr hbd
                  go_wp2_with fail
                  go_ret
                  refine ⟨_, rfl, ?_, HBD.out⟩
                  exact nc_le (HR2.out.eq FIN.out) HGK.out
                · obtain ⟨b5, o5, n5, c5, p5, rfl, hn5, hk5, hp5, hq5, hc5⟩ := nc_head HX.out (by omega)
                  obtain ⟨b6, o6, n6, c6, p6, rfl, hn6, hk6, hp6, hq6, hc6⟩ := nc_head HY.out (by omega)
                  have hxp : 0 < X2 := by omega
                  have hyp : 0 < Y2 := by omega
                  clear hx0 hy0
                  by_cases hxe : X2 % 2 = 0
                  · have e1 : ((p5 : Int) % 2 == 0) = true := by rw [beq_iff_eq]; omega
                    have hyo : Y2 % 2 = 1 := by have := hodd.out; omega
                    have HGN : Hid (Nat.gcd (shrI X2 1) Y2 = Nat.gcd X Y) := Lib.hid (by rw [← hgg.out]; exact gcd_half_left hxe hyo)
                    have HM : Hid (shrI X2 1 < X2 ∧ shrI X2 1 = X2 / 2) := Lib.hid ⟨by show X2 / 2 ^ 1 < X2; omega, rfl⟩
                    have HON : Hid (shrI X2 1 = 0 ∨ Y2 = 0 ∨ shrI X2 1 % 2 = 1 ∨ Y2 % 2 = 1) := Lib.hid (.inr (.inr (.inr hyo)))
                    clear hq5 hp5 hxe hyo hc6 hp6 hq6
                    go_wp2_with fail
                    refine Calls.mono (rshr_n _ X2 15 1 _ HX.out.nv (by omega) (by omega) (by omega)) ?_
                    rintro e wc ⟨v', rfl, hr, hbc⟩
                    have HR := Lib.hid hr; have HYc := Lib.hid (HY.out.below hbc); have HBC := Lib.hid (bel_trans HB.out hbc); clear hr hbc
                    go_wp2_with fail
                    go_roundg (shrI X2 1 + Y2)
                    case measure => have := HK.out; have := HM.out; omega
                    case rel => exact ⟨_, _, rfl, HR, HYc, HGN.out, HON.out, HBC⟩
                  · have e1 : ((p5 : Int) % 2 == 0) = false := by rw [beq_eq_false_iff_ne]; omega
                    by_cases hye : Y2 % 2 = 0
                    · have e2 : ((p6 : Int) % 2 == 0) = true := by rw [beq_iff_eq]; omega
                      have HGN : Hid (Nat.gcd X2 (shrI Y2 1) = Nat.gcd X Y) := Lib.hid (by rw [← hgg.out]; exact gcd_half_right hye (by omega))
                      have HM : Hid (shrI Y2 1 < Y2 ∧ shrI Y2 1 = Y2 / 2) := Lib.hid ⟨by show Y2 / 2 ^ 1 < Y2; omega, rfl⟩
                      have HON : Hid (X2 = 0 ∨ shrI Y2 1 = 0 ∨ X2 % 2 = 1 ∨ shrI Y2 1 % 2 = 1) := Lib.hid (.inr (.inr (.inl (by omega))))
                      clear hq5 hp5 hxe hye hp6 hq6
                      go_wp2_with fail
                      refine Calls.mono (rshr_n _ Y2 15 1 _ HY.out.nv (by omega) (by omega) (by omega)) ?_
                      rintro e wc ⟨v', rfl, hr, hbc⟩
                      have HR := Lib.hid hr; have HXc := Lib.hid (HX.out.below hbc); have HBC := Lib.hid (bel_trans HB.out hbc); clear hr hbc
                      go_wp2_with fail
                      go_roundg (X2 + shrI Y2 1)
                      case measure => have := HK.out; have := HM.out; omega
                      case rel => exact ⟨_, _, rfl, HXc, HR, HGN.out, HON.out, HBC⟩
                    · have e2 : ((p6 : Int) % 2 == 0) = false := by rw [beq_eq_false_iff_ne]; omega
                      by_cases hle : Y2 ≤ X2
                      · obtain ⟨cc, hcc, hc0⟩ := @cmp_ge X2 Y2 hle
                        have HCC := Lib.hid hcc
                        have HGN : Hid (Nat.gcd (X2 - Y2) Y2 = Nat.gcd X Y) := Lib.hid (by rw [← hgg.out, Nat.gcd_sub_self_left hle])
                        have HM : Hid (X2 - Y2 < X2) := Lib.hid (by omega)
                        have HON : Hid (X2 - Y2 = 0 ∨ Y2 = 0 ∨ (X2 - Y2) % 2 = 1 ∨ Y2 % 2 = 1) := Lib.hid (.inr (.inr (.inr (by omega))))
                        clear hq5 hp5 hxe hye hp6 hq6 hcc hle
                        go_wp2_with fail
                        refine Calls.mono (rcmp_n _ _ X2 Y2 15 15 cc _ HX.out.nv HY.out.nv (by omega) (by omega) HCC.out) ?_
                        rintro e wb ⟨rfl, hbb⟩
                        have HX1 := Lib.hid (HX.out.below hbb); have HY1 := Lib.hid (HY.out.below hbb); have HBB := Lib.hid (bel_trans HB.out hbb); clear hbb
                        clear HX HY hc5 hc6
                        go_wp2_with fail
                        refine Calls.mono (rsub_n _ _ X2 Y2 15 15 _ HX1.out.nv HY1.out.nv (by omega) (by omega)) ?_
                        rintro e wc ⟨v', rfl, hr, hbc⟩
                        have HR := Lib.hid hr; have HYc := Lib.hid (HY1.out.below hbc); have HBC := Lib.hid (bel_trans HBB.out hbc); clear hr hbc
                        go_wp2_with fail
                        go_roundg (X2 - Y2 + Y2)
                        case measure => have := HK.out; have := HM.out; omega
                        case rel => exact ⟨_, _, rfl, HR, HYc, HGN.out, HON.out, HBC⟩
                      · have HCC := Lib.hid (@cmp_lo X2 Y2 (by omega))
                        have HGN : Hid (Nat.gcd X2 (Y2 - X2) = Nat.gcd X Y) := Lib.hid (by rw [← hgg.out, Nat.gcd_sub_self_right (by omega)])
                        have HM : Hid (Y2 - X2 < Y2) := Lib.hid (by omega)
                        have HON : Hid (X2 = 0 ∨ Y2 - X2 = 0 ∨ X2 % 2 = 1 ∨ (Y2 - X2) % 2 = 1) := Lib.hid (.inr (.inr (.inl (by omega))))
                        clear hq5 hp5 hxe hye hp6 hq6 hle
                        go_wp2_with fail
                        refine Calls.mono (rcmp_n _ _ X2 Y2 15 15 (-1) _ HX.out.nv HY.out.nv (by omega) (by omega) HCC.out) ?_
                        rintro e wb ⟨rfl, hbb⟩
                        have HX1 := Lib.hid (HX.out.below hbb); have HY1 := Lib.hid (HY.out.below hbb); have HBB := Lib.hid (bel_trans HB.out hbb); clear hbb
                        clear HX HY hc5 hc6
                        go_wp2_with fail
                        refine Calls.mono (rsub_n _ _ Y2 X2 15 15 _ HY1.out.nv HX1.out.nv (by omega) (by omega)) ?_
                        rintro e wc ⟨v', rfl, hr, hbc⟩
                        have HR := Lib.hid hr; have HXc := Lib.hid (HX1.out.below hbc); have HBC := Lib.hid (bel_trans HBB.out hbc); clear hr hbc
                        go_wp2_with fail
                        go_roundg (X2 + (Y2 - X2))
                        case measure => have := HK.out; have := HM.out; omega
                        case rel => exact ⟨_, _, rfl, HXc, HR, HGN.out, HON.out, HBC⟩
        · have e1 : ((p5 : Int) % 2 == 0) = false := by rw [beq_eq_false_iff_ne]; omega
          have HO : Hid (X = 0 ∨ Y = 0 ∨ X % 2 = 1 ∨ Y % 2 = 1) := Lib.hid (by omega)
          clear hxe hq5 hq6 hp5 hp6 hc6
          go_wp2_with fail
          go_loopg [5, 6] (X + Y) (fun k s5 s6 wr => ∃ X2 Y2 : Nat, k = X2 + Y2 ∧ Hid (Nc wr s5 X2 15) ∧ Hid (Nc wr s6 Y2 15) ∧ Hid (Nat.gcd X2 Y2 = Nat.gcd X Y) ∧ Hid (X2 = 0 ∨ Y2 = 0 ∨ X2 % 2 = 1 ∨ Y2 % 2 = 1) ∧ Hid (Below w.heap.size w wr))
          case atStart => exact ⟨X, Y, rfl, HX, HY, rfl, HO.out, HB⟩
          case round =>
            have HG : Hid (Nat.gcd X Y * 2 ^ t = Nat.gcd A B) := Lib.hid (by rw [← hxt.out, ← hyt.out, Nat.gcd_mul_right])
            clear HX HY HB HO hxt hyt hxp hyp e1 hc5 hn5 hk5 hn6 hk6
            obtain ⟨X2, Y2, hk, HX, HY, hgg, hodd, HB⟩ := hrel
            have HK := Lib.hid hk; clear hk
            have HG2 : Hid (Nat.gcd X2 Y2 * 2 ^ t = Nat.gcd A B) := Lib.hid (by rw [hgg.out]; exact HG.out)
            clear HG
            by_cases hx0 : X2 = 0
            · have FIN : Hid (shlI (X2 + Y2) (t : Int) = Nat.gcd A B) := Lib.hid (by unfold shlI; rw [if_neg (by omega), Int.toNat_natCast, ← HG2.out, hx0, Nat.gcd_zero_left, Nat.zero_add])
              subst hx0
              obtain ⟨a5, c5, rfl⟩ := nc_nil HX.out
              go_wp2_with fail
              refine Calls.mono (radd_n _ _ 0 Y2 15 15 16 _ HX.out.nv HY.out.nv (by omega) (by omega) (by omega)) ?_; rintro e wc ⟨v', rfl, hr, hbc⟩
              have HR := Lib.hid hr; have HBC := Lib.hid (bel_trans HB.out hbc); clear hr hbc
              go_wp2_with fail
              refine Calls.mono (rshl_n _ (0 + Y2) 16 31 (t : Int) _ HR.out.nv (by omega) (.inl (by omega)) (by omega) (.inr (by omega))) ?_; rintro e wd ⟨v', rfl, hr, hbd⟩
              have HR2 := Lib.hid hr; have HBD := Lib.hid (bel_trans HBC.out hbd); clear hr hbd
              go_wp2_with fail
              go_ret
              refine ⟨_, rfl, ?_, HBD.out⟩
              exact nc_le (HR2.out.eq FIN.out) HGK.out
            · by_cases hy0 : Y2 = 0
              · have FIN : Hid (shlI (X2 + Y2) (t : Int) = Nat.gcd A B) := Lib.hid (by unfold shlI; rw [if_neg (by omega), Int.toNat_natCast, ← HG2.out, hy0, Nat.gcd_zero_right, Nat.add_zero])
                subst hy0
                obtain ⟨b5, o5, n5, c5, p5, rfl, hn5, hk5, hp5, hq5, hc5⟩ := nc_head HX.out (by omega)
                obtain ⟨a6, c6, rfl⟩ := nc_nil HY.out
                clear hc5 hq5 hp5
                go_wp2_with fail
                refine Calls.mono (radd_n _ _ X2 0 15 15 16 _ HX.out.nv HY.out.nv (by omega) (by omega) (by omega)) ?_; rintro e wc ⟨v', rfl, hr, hbc⟩
                have HR := Lib.hid hr; have HBC := Lib.hid (bel_trans HB.out hbc); clear hr hbc
                go_wp2_with fail
                refine Calls.mono (rshl_n _ (X2 + 0) 16 31 (t : Int) _ HR.out.nv (by omega) (.inl (by omega)) (by omega) (.inr (by omega))) ?_; rintro e wd ⟨v', rfl, hr, hbd⟩
                have HR2 := Lib.hid hr; have HBD := Lib.hid (bel_trans HBC.out hbd); clear hr hbd
                go_wp2_with fail
                go_ret
                refine ⟨_, rfl, ?_, HBD.out⟩
                exact nc_le (HR2.out.eq FIN.out) HGK.out
              · obtain ⟨b5, o5, n5, c5, p5, rfl, hn5, hk5, hp5, hq5, hc5⟩ := nc_head HX.out (by omega)
                obtain ⟨b6, o6, n6, c6, p6, rfl, hn6, hk6, hp6, hq6, hc6⟩ := nc_head HY.out (by omega)
                have hxp : 0 < X2 := by omega
                have hyp : 0 < Y2 := by omega
                clear hx0 hy0
                by_cases hxe : X2 % 2 = 0
                · have e1 : ((p5 : Int) % 2 == 0) = true := by rw [beq_iff_eq]; omega
                  have hyo : Y2 % 2 = 1 := by have := hodd.out; omega
                  have HGN : Hid (Nat.gcd (shrI X2 1) Y2 = Nat.gcd X Y) := Lib.hid (by rw [← hgg.out]; exact gcd_half_left hxe hyo)
                  have HM : Hid (shrI X2 1 < X2 ∧ shrI X2 1 = X2 / 2) := Lib.hid ⟨by show X2 / 2 ^ 1 < X2; omega, rfl⟩
                  have HON : Hid (shrI X2 1 = 0 ∨ Y2 = 0 ∨ shrI X2 1 % 2 = 1 ∨ Y2 % 2 = 1) := Lib.hid (.inr (.inr (.inr hyo)))
                  clear hq5 hp5 hxe hyo hc6 hp6 hq6
                  go_wp2_with fail
                  refine Calls.mono (rshr_n _ X2 15 1 _ HX.out.nv (by omega) (by omega) (by omega)) ?_
                  rintro e wc ⟨v', rfl, hr, hbc⟩
                  have HR := Lib.hid hr; have HYc := Lib.hid (HY.out.below hbc); have HBC := Lib.hid (bel_trans HB.out hbc); clear hr hbc
                  go_wp2_with fail
                  go_roundg (shrI X2 1 + Y2)
                  case measure => have := HK.out; have := HM.out; omega
                  case rel => exact ⟨_, _, rfl, HR, HYc, HGN.out, HON.out, HBC⟩
                · have e1 : ((p5 : Int) % 2 == 0) = false := by rw [beq_eq_false_iff_ne]; omega
                  by_cases hye : Y2 % 2 = 0
                  · have e2 : ((p6 : Int) % 2 == 0) = true := by rw [beq_iff_eq]; omega
                    have HGN : Hid (Nat.gcd X2 (shrI Y2 1) = Nat.gcd X Y) := Lib.hid (by rw [← hgg.out]; exact gcd_half_right hye (by omega))
                    have HM : Hid (shrI Y2 1 < Y2 ∧ shrI Y2 1 = Y2 / 2) := Lib.hid ⟨by show Y2 / 2 ^ 1 < Y2; omega, rfl⟩
                    have HON : Hid (X2 = 0 ∨ shrI Y2 1 = 0 ∨ X2 % 2 = 1 ∨ shrI Y2 1 % 2 = 1) := Lib.hid (.inr (.inr (.inl (by omega))))
                    clear hq5 hp5 hxe hye hp6 hq6
                    go_wp2_with fail
                    refine Calls.mono (rshr_n _ Y2 15 1 _ HY.out.nv (by omega) (by omega) (by omega)) ?_
                    rintro e wc ⟨v', rfl, hr, hbc⟩
                    have HR := Lib.hid hr; have HXc := Lib.hid (HX.out.below hbc); have HBC := Lib.hid (bel_trans HB.out hbc); clear hr hbc
                    go_wp2_with fail
                    go_roundg (X2 + shrI Y2 1)
                    case measure => have := HK.out; have := HM.out; omega
                    case rel => exact ⟨_, _, rfl, HXc, HR, HGN.out, HON.out, HBC⟩
                  · have e2 : ((p6 : Int) % 2 == 0) = false := by rw [beq_eq_false_iff_ne]; omega
                    by_cases hle : Y2 ≤ X2
                    · obtain ⟨cc, hcc, hc0⟩ := @cmp_ge X2 Y2 hle
                      have HCC := Lib.hid hcc
                      have HGN : Hid (Nat.gcd (X2 - Y2) Y2 = Nat.gcd X Y) := Lib.hid (by rw [← hgg.out, Nat.gcd_sub_self_left hle])
                      have HM : Hid (X2 - Y2 < X2) := Lib.hid (by omega)
                      have HON : Hid (X2 - Y2 = 0 ∨ Y2 = 0 ∨ (X2 - Y2) % 2 = 1 ∨ Y2 % 2 = 1) := Lib.hid (.inr (.inr (.inr (by omega))))
                      clear hq5 hp5 hxe hye hp6 hq6 hcc hle
                      go_wp2_with fail
                      refine Calls.mono (rcmp_n _ _ X2 Y2 15 15 cc _ HX.out.nv HY.out.nv (by omega) (by omega) HCC.out) ?_
                      rintro e wb ⟨rfl, hbb⟩
                      have HX1 := Lib.hid (HX.out.below hbb); have HY1 := Lib.hid (HY.out.below hbb); have HBB := Lib.hid (bel_trans HB.out hbb); clear hbb
                      clear HX HY hc5 hc6
                      go_wp2_with fail
                      refine Calls.mono (rsub_n _ _ X2 Y2 15 15 _ HX1.out.nv HY1.out.nv (by omega) (by omega)) ?_
                      rintro e wc ⟨v', rfl, hr, hbc⟩
                      have HR := Lib.hid hr; have HYc := Lib.hid (HY1.out.below hbc); have HBC := Lib.hid (bel_trans HBB.out hbc); clear hr hbc
                      go_wp2_with fail
                      go_roundg (X2 - Y2 + Y2)
                      case measure => have := HK.out; have := HM.out; omega
                      case rel => exact ⟨_, _, rfl, HR, HYc, HGN.out, HON.out, HBC⟩
                    · have HCC := Lib.hid (@cmp_lo X2 Y2 (by omega))
                      have HGN : Hid (Nat.gcd X2 (Y2 - X2) = Nat.gcd X Y) := Lib.hid (by rw [← hgg.out, Nat.gcd_sub_self_right (by omega)])
                      have HM : Hid (Y2 - X2 < Y2) := Lib.hid (by omega)
                      have HON : Hid (X2 = 0 ∨ Y2 - X2 = 0 ∨ X2 % 2 = 1 ∨ (Y2 - X2) % 2 = 1) := Lib.hid (.inr (.inr (.inl (by omega))))
                      clear hq5 hp5 hxe hye hp6 hq6 hle
                      go_wp2_with fail
                      refine Calls.mono (rcmp_n _ _ X2 Y2 15 15 (-1) _ HX.out.nv HY.out.nv (by omega) (by omega) HCC.out) ?_
                      rintro e wb ⟨rfl, hbb⟩
                      have HX1 := Lib.hid (HX.out.below hbb); have HY1 := Lib.hid (HY.out.below hbb); have HBB := Lib.hid (bel_trans HB.out hbb); clear hbb
                      clear HX HY hc5 hc6
                      go_wp2_with fail
                      refine Calls.mono (rsub_n _ _ Y2 X2 15 15 _ HY1.out.nv HX1.out.nv (by omega) (by omega)) ?_
                      rintro e wc ⟨v', rfl, hr, hbc⟩
                      have HR := Lib.hid hr; have HXc := Lib.hid (HX1.out.below hbc); have HBC := Lib.hid (bel_trans HBB.out hbc); clear hr hbc
                      go_wp2_with fail
                      go_roundg (X2 + (Y2 - X2))
                      case measure => have := HK.out; have := HM.out; omega
                      case rel => exact ⟨_, _, rfl, HXc, HR, HGN.out, HON.out, HBC⟩

end Go.Proofs.Ytbofdldkiooegaa
