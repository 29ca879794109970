/- The reference of layer 1: Mul. -/
import Derived.Test.YtbofdldkiooegaaRN
namespace Tw
open Go Go.RowKit
/-- a step of a row: out[p] goes to s % 256, s / 256 is carried -/
theorem rmul_step {o' o y : List Nat} {p i k cy s x : Nat} (hp : p < o'.length) (hpe : p = i + k) (hsm : nth o' p = nth o p)
    (hv : val 256 (o'.take p) + 256 ^ p * cy = val 256 (o.take p) + 256 ^ i * (x * val 256 (y.take k))) (hs : s = nth o' p + cy + x * nth y k) :
    val 256 ((o'.set p (s % 256)).take (p + 1)) + 256 ^ (p + 1) * (s / 256) = val 256 (o.take (p + 1)) + 256 ^ i * (x * val 256 (y.take (k + 1))) := by
  rw [val_take_step, val_take_step, nth_set_eq hp, List.take_set_of_le (Nat.le_refl p), val_take_step, Nat.pow_succ]
  have h1 : 256 ^ p * (s % 256) + 256 ^ p * 256 * (s / 256) = 256 ^ p * s := by rw [Nat.mul_assoc, ← Nat.mul_add, Nat.mod_add_div]
  have h2 : 256 ^ p * s = 256 ^ p * nth o p + 256 ^ p * cy + 256 ^ p * (x * nth y k) := by rw [hs, hsm, Nat.mul_add, Nat.mul_add]
  have h3 : 256 ^ i * (x * (val 256 (y.take k) + 256 ^ k * nth y k)) = 256 ^ i * (x * val 256 (y.take k)) + 256 ^ p * (x * nth y k) := by
    rw [hpe, Nat.pow_add, Nat.mul_add, Nat.mul_add, Nat.mul_left_comm x, ← Nat.mul_assoc (256 ^ i) (256 ^ k)]
  rw [h3]
  generalize 256 ^ p = P at *
  omega

/-- the row's end: no carry is left; places above are as they were -/
theorem rmul_row {o' o a y : List Nat} {i k : Nat} (hk : y.length ≤ k) (hi : i < a.length) (hol : o'.length = o.length) (hlen : i + k ≤ o.length)
    (hsm : ∀ t, i + k ≤ t → nth o' t = nth o t)
    (hv : val 256 (o'.take (i + k)) = val 256 (o.take (i + k)) + 256 ^ i * (nth a i * val 256 (y.take k))) (hvo : val 256 o = val 256 (a.take i) * val 256 y) :
    val 256 o' = val 256 (a.take (i + 1)) * val 256 y := by
  have e : o'.drop (i + k) = o.drop (i + k) := by
    apply ext_nth
    · simp [hol]
    · intro j hj
      rw [nth_drop, nth_drop]
      exact hsm _ (by omega)
  rw [val_split 256 o' (i + k) (by omega), e, hv, List.take_of_length_le hk, val_take_step, Nat.add_mul, ← hvo, val_split 256 o (i + k) hlen, Nat.mul_assoc]
  omega
end Tw
namespace Go.Proofs.Ytbofdldkiooegaa
open Go Go.RowKit Tw
set_option linter.unusedVariables false
set_option linter.unusedSimpArgs false

set_option maxRecDepth 100000 in
set_option maxHeartbeats 4000000 in
theorem rmul_c (v1 v2 : Value) (l1 l2 : List Nat) (w : World) (h1 : Wd w v1 l1) (h2 : Wd w v2 l2) (hs1 : l1.length ≤ 1000) (hs2 : l2.length ≤ 1000) :
    Calls Try.prog 35 #[v1, v2] w fun e w' => ∃ v', e = .returned v' ∧ OwnW w.heap.size w' v' (digs W (val W l1 * val W l2)) ∧ Below w.heap.size w w' := by
  have H1 := Lib.hid h1; have H2 := Lib.hid h2
  have hle1 := length_digs_le (b := 256) (k := 8 * l1.length) two56 (by rw [← W256]; exact val_lt h1.dig)
  have hle2 := length_digs_le (b := 256) (k := 8 * l2.length) two56 (by rw [← W256]; exact val_lt h2.dig)
  clear h1 h2
  go_enter Try.func35, Try.ntmps35
  go_wp2_with fail
  refine Calls.mono (small_c _ l1 _ H1.out (by omega)) ?_; rintro e wa ⟨t1, rfl, g1, hba⟩
  have H2a := Lib.hid (H2.out.below hba); clear H1 H2
  have BA := Lib.hid hba; have G1 := Lib.hid g1; clear hba g1
  go_wp2_with fail
  refine Calls.mono (small_c _ l2 _ H2a.out (by omega)) ?_; rintro e wb ⟨t2, rfl, g2, hbb⟩
  have G1b := Lib.hid (G1.out.below hbb).ls
  have G2b := Lib.hid g2.ls
  have BB := Lib.hid (bel_trans BA.out hbb); clear hbb g2 G1 H2a BA
  have E1 := Lib.hid (val_digs two56 (val W l1)); have E2 := Lib.hid (val_digs two56 (val W l2))
  generalize hA : val W l1 = A at *
  generalize hB : val W l2 = B at *
  have HA := Lib.hid hA; have HB0 := Lib.hid hB
  generalize digs 256 A = d1 at *
  generalize digs 256 B = d2 at *
  have D1 := Lib.hid G1b.out.dig; have D2 := Lib.hid G2b.out.dig
  obtain ⟨a1, c1, rfl, hx1⟩ := G1b
  obtain ⟨a2, c2, rfl, hx2⟩ := G2b
  have HX1 := Lib.hid hx1; have HX2 := Lib.hid hx2
  obtain ⟨n1, hn1⟩ : ∃ n, n = d1.length := ⟨_, rfl⟩
  obtain ⟨n2, hn2⟩ : ∃ n, n = d2.length := ⟨_, rfl⟩
  have HN1 := Lib.hid hn1; have HN2 := Lib.hid hn2
  have hm1 : n1 ≤ 8000 := by omega
  have hm2 : n2 ≤ 8000 := by omega
  rw [← hn1, ← hn2]
  obtain ⟨n, hn⟩ : ∃ n, n = n1 + n2 + 1 := ⟨_, rfl⟩
  have HN := Lib.hid hn
  have hnn : (n1 : Int) + (n2 : Int) + 1 = (n : Int) := by omega
  have hnb : n ≤ 16001 := by omega
  clear hx1 hx2 hn1 hn2 hA hB hle1 hle2 hn
  go_wp2_with (at_make; refine wpList_make_z _ rfl _ _ 38 rfl wb.heap.size 3 .i64 8 256 Try.underlying38 info_i64 .i64 .i64 _ _ n n rfl rfl rfl rfl (by omega) (by omega) (by unfold maxLen; omega) (Nat.le_refl _) (by omega) ?_; intro wm hown hbel hsz; have Hsz := Lib.hid hsz; clear hsz)
  go_loopg [8] n1 (fun k i wr => ∃ (j : Nat) (o : List Nat), j ≤ n1 ∧ k = n1 - j ∧ i = .int .i64 j ∧
    OwnD wb.heap.size wr (.slice (some ⟨wb.heap.size, 0, none⟩) n n) o ∧ Hid (o.length = n) ∧ Hid (val 256 o = val 256 (d1.take j) * val 256 d2) ∧ Hid (Below wb.heap.size wb wr) ∧ Hid (∀ t, j + n2 ≤ t → nth o t = 0))
  case atStart =>
    exact ⟨0, List.replicate n 0, Nat.zero_le _, rfl, rfl, hown, by show _ = _; simp, by show _ = _; simp [val, val_zeros], hbel, fun t _ => by simp [nth, List.getD, List.getElem?_replicate]; split <;> rfl⟩
  case round =>
    clear hown hbel
    obtain ⟨i, o, hi, hk, rfl, hown, hol, hv, HBB, hz⟩ := hrel
    obtain ⟨wo, rfl⟩ : ∃ wo : World, wo = wr := ⟨_, rfl⟩
    have HK := Lib.hid hk; have HO := Lib.hid hown
    clear hk hown
    by_cases hlt : i < n1
    · obtain ⟨b1, o1, rfl, hcl1⟩ := HX1.out.2.2.2 (by intro e; have := HN1.out; rw [e] at this; simp at this; omega)
      have HC1 := Lib.hid hcl1
      have hb1 : Hid (b1 < wb.heap.size) := Lib.hid (hcl1.lt (by have := HN1.out; omega))
      have X1 := Lib.hid (nth_dig D1.out (show i < d1.length by have := HN1.out; omega))
      have HV0 := hv
      clear hcl1
      go_wp2_with fail
      go_loopg [9, 10] (n2 + 1) (fun k c i2 wr => ∃ (j cy : Nat) (o' : List Nat), k = n2 + 1 - j ∧ j ≤ n2 + 1 ∧ i2 = .int .i64 j ∧ c = .int .i64 cy ∧ cy ≤ 255 ∧ Hid (j = n2 + 1 → cy = 0) ∧
        OwnD wb.heap.size wr (.slice (some ⟨wb.heap.size, 0, none⟩) n n) o' ∧ Hid (o'.length = n) ∧
        Hid (val 256 (o'.take (i + j)) + 256 ^ (i + j) * cy = val 256 (o.take (i + j)) + 256 ^ i * (nth d1 i * val 256 (d2.take j))) ∧ Hid (Below wb.heap.size wb wr) ∧ Hid (∀ t, i + j ≤ t → nth o' t = nth o t))
      case atStart => exact ⟨0, 0, o, rfl, by omega, rfl, rfl, by omega, fun _ => rfl, HO.out, hol.out, by show _ = _; simp [val], HBB.out, fun _ _ => rfl⟩
      case round =>
        clear HBB HO
        obtain ⟨j, cy, o', hk, hj, rfl, rfl, hcy, hcz, hown, hol', hv', HBB, hsm⟩ := hrel
        have HK2 := Lib.hid hk; have HO2 := Lib.hid hown
        have x3 := nth_digW (by omega) hown.dig (i + j)
        clear hk hown
        by_cases hlt2 : j < n2
        · obtain ⟨b2, o2, rfl, hcl2⟩ := HX2.out.2.2.2 (by intro e; have := HN2.out; rw [e] at this; simp at this; omega)
          have g2 : wr.cell? ⟨b2, o2 + j, none⟩ = some (.int .i64 ((nth d2 j : Nat) : Int)) := hcl2.below (hcl2.lt (by have := HN2.out; omega)) HBB.out _ (by have := HN2.out; omega)
          have g1 : wr.cell? ⟨b1, o1 + i, none⟩ = some (.int .i64 ((nth d1 i : Nat) : Int)) := HC1.out.below hb1.out HBB.out _ (by have := HN1.out; omega)
          have hin : i + j < n := by have := HN.out; omega
          have hcell := (show OwnD wb.heap.size wr (.slice (some ⟨wb.heap.size, 0, none⟩) o'.length n) o' by rw [hol'.out]; exact HO2.out).cell (i := i + j) (by have := hol'.out; omega)
          have hfree := HO2.out.free hol'.out.symm (i + j)
          have x1 := X1.out
          have x2 := nth_digW (by omega) D2.out j
          obtain ⟨m, hm⟩ : ∃ m, m = nth d1 i * nth d2 j := ⟨_, rfl⟩
          have hm2 : m ≤ 65025 := by rw [hm]; exact Nat.mul_le_mul (show nth d1 i ≤ 255 by omega) (show nth d2 j ≤ 255 by omega)
          have hmi : ((nth d1 i : Nat) : Int) * ((nth d2 j : Nat) : Int) = (m : Int) := by rw [hm]; simp
          obtain ⟨s, hs⟩ : ∃ s, s = nth o' (i + j) + cy + m := ⟨_, rfl⟩
          have hsi : ((nth o' (i + j) : Nat) : Int) + (cy : Int) + (m : Int) = (s : Int) := by omega
          have hsb : s ≤ 65535 := by omega
          have hfin := Lib.hid (rmul_step (x := nth d1 i) (y := d2) (k := j) (s := s) (by rw [hol'.out]; exact hin) rfl (hsm.out _ (Nat.le_refl _)) hv'.out (by rw [hs, hm]))
          have t1 : (s : Int).tmod 256 = ((s % 256 : Nat) : Int) := rfl
          have t2 : (s : Int).tdiv 256 = ((s / 256 : Nat) : Int) := rfl
          clear hs hm hcl2
          go_wp2_with fail
          go_quiet (fail)
          go_wp2_with fail
          go_roundg (n2 + 1 - (j + 1))
          case measure => have := HK2.out; omega
          case rel =>
            refine ⟨j + 1, s / 256, o'.set (i + j) (s % 256), rfl, by omega, by go_num, by go_num, by omega, fun h => by omega, ?_, ?_, hfin.out, ?_, ?_⟩
            · exact HO2.out.set hol'.out.symm _ _ (Nat.mod_lt _ (by omega))
            · have := hol'.out; show _ = _; simpa using this
            · exact (bel_drawn HBB.out _).setCell (Nat.le_refl _) _
            · intro t ht; rw [nth_set_ne (by omega)]; exact hsm.out t (by omega)
        · have hzd : nth d2 j = 0 := nth_ge (by have := HN2.out; omega)
          by_cases hc0 : cy = 0
          · have hfin := Lib.hid (rmul_row (a := d1) (y := d2) (k := j) (by have := HN2.out; omega) (by have := HN1.out; omega) (by rw [hol'.out, hol.out]) (by rw [hol.out, HN.out]; omega) hsm.out (by have := hv'.out; rw [hc0, Nat.mul_zero, Nat.add_zero] at this; exact this) HV0.out)
            have HZN : Hid (∀ t, (i + 1) + n2 ≤ t → nth o' t = 0) := Lib.hid (fun t ht => by rw [hsm.out t (by omega)]; exact hz.out t (by omega))
            subst hc0
            clear x3 hzd hv'
            go_wp2_with fail
            go_roundg (n1 - (i + 1))
            case measure => have := HK.out; omega
            case rel => exact ⟨i + 1, o', by omega, rfl, by go_num, HO2.out, hol', hfin, HBB, HZN⟩
          · have hcp : 0 < cy := by omega
            have hjn : Hid (j = n2) := Lib.hid (by have := hcz.out; omega)
            have hin : i + j < n := by have := HN.out; have := hjn.out; omega
            have hcell := (show OwnD wb.heap.size wr (.slice (some ⟨wb.heap.size, 0, none⟩) o'.length n) o' by rw [hol'.out]; exact HO2.out).cell (i := i + j) (by have := hol'.out; omega)
            have hfree := HO2.out.free hol'.out.symm (i + j)
            have h00 : nth o' (i + j) = 0 := by rw [hsm.out _ (Nat.le_refl _)]; exact hz.out _ (by have := hjn.out; omega)
            have hfin := Lib.hid (rmul_step (x := nth d1 i) (y := d2) (k := j) (s := cy) (by rw [hol'.out]; exact hin) rfl (hsm.out _ (Nat.le_refl _)) hv'.out (by rw [hzd, h00]; omega))
            rw [h00] at hcell
            have t1 : (cy : Int).tmod 256 = ((cy % 256 : Nat) : Int) := rfl
            have t2 : (cy : Int).tdiv 256 = ((cy / 256 : Nat) : Int) := rfl
            clear hzd h00 x3 hc0
            go_wp2_with fail
            go_roundg (n2 + 1 - (j + 1))
            case measure => have := HK2.out; have := hjn.out; omega
            case rel =>
              refine ⟨j + 1, cy / 256, o'.set (i + j) (cy % 256), rfl, by have := hjn.out; omega, by go_num, by go_num, by omega, fun h => by omega, ?_, ?_, hfin.out, ?_, ?_⟩
              · exact HO2.out.set hol'.out.symm _ _ (Nat.mod_lt _ (by omega))
              · have := hol'.out; show _ = _; simpa using this
              · exact HBB.out.setCell (Nat.le_refl _) _
              · intro t ht; rw [nth_set_ne (by omega)]; exact hsm.out t (by omega)
    · obtain rfl : i = n1 := by omega
      have HV : Hid (val 256 o = A * B) := Lib.hid (by rw [hv.out, List.take_of_length_le (by have := HN1.out; omega), E1.out, E2.out])
      have HSd : Hid (Sd wo (.slice (some ⟨wb.heap.size, 0, none⟩) n n) o) := Lib.hid (by have := HO.out.ls; exact ⟨_, _, by rw [hol.out], HO.out.lsS⟩)
      clear hv
      go_wp2_with fail
      refine Calls.mono (large_c _ o _ HSd.out (by have := hol.out; omega)) ?_; rintro e wc ⟨v', rfl, hr, hbc⟩
      have HR := Lib.hid hr; have HBC := Lib.hid hbc; clear hr hbc
      go_wp2_with fail
      go_ret
      refine ⟨v', rfl, ?_, bel_trans (bel_trans BB.out HBB.out) HBC.out⟩
      rw [HA.out, HB0.out, ← HV.out]; exact HR.out.mono (bel_trans BB.out HBB.out).size

theorem rmul_n (v1 v2 : Value) (X Y k1 k2 : Nat) (w : World) (h1 : Nv w v1 X k1) (h2 : Nv w v2 Y k2) (hk1 : k1 ≤ 1000) (hk2 : k2 ≤ 1000) :
    Calls Try.prog 35 #[v1, v2] w (Ret w fun v w' => Nc w' v (X * Y) (k1 + k2)) := by
  have a1 := h1.lt; have a2 := h2.lt
  obtain ⟨l1, g1, rfl, i1⟩ := h1
  obtain ⟨l2, g2, rfl, i2⟩ := h2
  refine (rmul_c v1 v2 l1 l2 w g1 g2 (by omega) (by omega)).mono ?_
  rintro e w' ⟨v', rfl, h4, h5⟩
  exact ⟨v', rfl, own_nc h4 (by rw [Nat.pow_add]; exact Nat.mul_lt_mul'' a1 a2), h5⟩

end Go.Proofs.Ytbofdldkiooegaa
