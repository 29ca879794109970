/- limbs.Shr by its contract: divided by a power of 2. -/
import Derived.Test.YtbofdldkiooegaaShl
import Derived.BigRegion
namespace Go.Proofs.Ytbofdldkiooegaa
open Go Go.RowKit Tw
set_option linter.unusedVariables false
set_option linter.unusedSimpArgs false

theorem W_powk (k : Nat) : W ^ k = 2 ^ (64 * k) := by rw [W_pow, ← Nat.pow_mul]

/-- the digit moved down -/
def dn (o : List Nat) (i r : Nat) : Nat := nth o i / 2 ^ r + upL (nth o (i + 1)) (64 - r)

theorem dn_lt {o : List Nat} {i r : Nat} (hd : Dig W o) (hr : r < 64) : nth o i / 2 ^ r < 2 ^ (64 - r) := by
  rw [Nat.div_lt_iff_lt_mul (Nat.two_pow_pos r), ← Nat.pow_add, show 64 - r + r = 64 by omega]
  exact nth_digW W_pos hd i

theorem shr_step {o o' : List Nat} {i r : Nat} (hi : i < o'.length) (hd : Dig W o) (hr : r < 64)
    (hv : 2 ^ r * (val W (o'.take i) + W ^ i * (nth o i / 2 ^ r)) + nth o 0 % 2 ^ r = val W (o.take (i + 1))) :
    2 ^ r * (val W ((o'.set i (dn o i r)).take (i + 1)) + W ^ (i + 1) * (nth o (i + 1) / 2 ^ r)) + nth o 0 % 2 ^ r = val W (o.take (i + 2)) := by
  have e := up_eq (nth o (i + 1)) (64 - r)
  have eh : upH (nth o (i + 1)) (64 - r) = nth o (i + 1) / 2 ^ r := by
    unfold upH
    rw [W_pow, show (2 : Nat) ^ 64 = 2 ^ r * 2 ^ (64 - r) by rw [← Nat.pow_add]; congr 1; omega, Nat.mul_div_mul_right _ _ (Nat.two_pow_pos _)]
  rw [eh] at e
  rw [val_take_step, nth_set_eq hi, List.take_set_of_le (Nat.le_refl i), val_take_step W o (i + 1), ← hv]
  unfold dn
  have hp : (2 : Nat) ^ r * 2 ^ (64 - r) = W := by rw [← Nat.pow_add, show r + (64 - r) = 64 by omega]; rfl
  generalize nth o i / 2 ^ r = f at *
  generalize nth o (i + 1) / 2 ^ r = f' at *
  generalize upL (nth o (i + 1)) (64 - r) = u at *
  generalize nth o (i + 1) = y at *
  generalize val W (o'.take i) = A at *
  have e1 : 2 ^ r * (A + W ^ i * (f + u) + W ^ (i + 1) * f') = 2 ^ r * (A + W ^ i * f) + W ^ i * (2 ^ r * (u + W * f')) := by
    rw [Nat.pow_succ, Nat.mul_add (W ^ i), Nat.mul_add (2 ^ r), Nat.mul_add (2 ^ r), Nat.mul_add (2 ^ r), Nat.mul_add (2 ^ r), Nat.mul_add (2 ^ r) u, Nat.mul_add (W ^ i)]
    rw [Nat.mul_left_comm (W ^ i) (2 ^ r) u, Nat.mul_left_comm (W ^ i) (2 ^ r) (W * f'), Nat.mul_assoc (W ^ i) W f']
    omega
  have e2 : W ^ i * (2 ^ r * (y * 2 ^ (64 - r))) = W ^ (i + 1) * y := by
    rw [Nat.mul_comm y, ← Nat.mul_assoc (2 ^ r), hp, Nat.pow_succ, Nat.mul_assoc]
  rw [e1, e, e2]
  omega

theorem shr_end {o o' : List Nat} {n r : Nat} (ho : o.length = n) (ho' : o'.length = n) (hr : 0 < 2 ^ r)
    (hv : 2 ^ r * (val W (o'.take n) + W ^ n * (nth o n / 2 ^ r)) + nth o 0 % 2 ^ r = val W (o.take (n + 1))) : val W o' = val W o / 2 ^ r := by
  rw [nth_ge (by omega : o.length ≤ n), List.take_of_length_le (by omega), List.take_of_length_le (by omega), Nat.zero_div, Nat.mul_zero, Nat.add_zero] at hv
  rw [← hv, Nat.add_comm, Nat.add_mul_div_left _ _ hr, Nat.div_eq_of_lt (Nat.mod_lt _ hr)]
  omega

theorem dn_bits {o : List Nat} {i r : Nat} (hd : Dig W o) (hr : r < 64) : bits .or .u64 ((nth o i / 2 ^ r : Nat) : Int) ((upL (nth o (i + 1)) (64 - r) : Nat) : Int) = ((dn o i r : Nat) : Int) := by
  have h1 := dn_lt (i := i) hd hr
  have h := @up_bits (nth o (i + 1)) (64 - r) (nth o i / 2 ^ r) (by omega) h1
  have h2 := upL_lt (nth o (i + 1)) (64 - r)
  have h3 := lt_W (by omega : 64 - r ≤ 64) h1
  unfold W at h2 h3
  rw [bits_or_u64_nat _ _ h2 h3] at h
  rw [bits_or_u64_nat _ _ h3 h2, Nat.or_comm, h]
  unfold dn; rw [Nat.add_comm]
theorem up_two (y r : Nat) (hr : r < 64) : IntKind.u64.wrap (IntKind.u64.wrap (((y : Nat) : Int) * 2) * 2 ^ (63 - r)) = ((upL y (64 - r) : Nat) : Int) := by
  have e : IntKind.u64.wrap (((y : Nat) : Int) * 2) = ((upL y 1 : Nat) : Int) := by have := up_wrap y 1; simpa using this
  rw [e, up_wrap]
  unfold upL
  rw [Nat.mod_mul_mod, Nat.pow_one, Nat.mul_assoc, show 64 - r = (63 - r) + 1 by omega, Nat.pow_succ, Nat.mul_comm 2]
theorem dn_ltW {o : List Nat} {i r : Nat} (hd : Dig W o) (hr : r < 64) : dn o i r < W := by
  have h := up_add_lt (x := nth o (i + 1)) (by omega : 64 - r ≤ 64) (dn_lt (i := i) hd hr)
  unfold dn; omega

set_option maxRecDepth 100000 in
set_option maxHeartbeats 1000000 in
theorem shr_c (v1 : Value) (l1 : List Nat) (s : Nat) (w : World) (h1 : Wd w v1 l1) (hs1 : l1.length ≤ 60000) (hs : s ≤ 9223372036854775807) :
    Calls Try.prog 27 #[v1, .int .i64 s] w fun e w' => ∃ v, e = .returned v ∧ OwnW w.heap.size w' v (digs W (val W l1 / 2 ^ s)) ∧ Below w.heap.size w w' := by
  have H1 := Lib.hid h1
  have hle1 := length_digs_val W_two h1.dig
  have E1 := Lib.hid (val_digs W_two (val W l1))
  have HS := Lib.hid hs
  clear h1 hs
  by_cases hs0 : s = 0
  · subst hs0
    go_enter Try.func27, Try.ntmps27
    go_wp2_with fail
    refine Calls.mono (trimmed_v _ _ _ H1.out) ?_; rintro e w' ⟨t1, rfl, g1, rfl⟩
    have G1 := Lib.hid g1; clear g1
    go_wp2_with fail
    refine Calls.mono (clone_v _ _ _ G1.out (by omega)) ?_; rintro e w' ⟨v2, rfl, h2, hb⟩
    have H2 := Lib.hid h2; have HB := Lib.hid hb; clear h2 hb
    go_wp2_with fail
    go_ret
    refine ⟨_, rfl, ?_, HB.out⟩
    simpa using H2.out
  · have hs0' : 0 < s := by omega
    have hs1' : (s : Int) ≤ 9223372036854775807 := by have := HS.out; omega
    obtain ⟨q, hq⟩ : ∃ q, q = s / 64 := ⟨_, rfl⟩
    have HQ := Lib.hid hq
    have hqs : ((s : Int) / 64) = (q : Int) := by omega
    clear hq hs0
    by_cases hqn : (digs W (val W l1)).length ≤ q
    · have HR := Lib.hid (show digs W (val W l1 / 2 ^ s) = [] by
        have h1 := lt_pow_length W_two (val W l1)
        have h2 : W ^ (digs W (val W l1)).length ≤ 2 ^ s := by
          rw [W_powk]; exact Nat.pow_le_pow_right (by omega) (by have := HQ.out; omega)
        rw [Nat.div_eq_of_lt (by omega), digs_zero])
      go_enter Try.func27, Try.ntmps27
      go_wp2_with fail
      refine Calls.mono (trimmed_v _ _ _ H1.out) ?_; rintro e w' ⟨t1, rfl, g1, rfl⟩
      obtain ⟨a1, c1, rfl, hx1⟩ := g1
      clear hx1
      go_wp2_with fail
      go_ret
      refine ⟨_, rfl, ?_, Below.refl _ _⟩
      rw [HR.out]; exact Own.nil _ _ _ _ _
    · have hqn' : q < (digs W (val W l1)).length := by omega
      clear hqn
      have hr64 : s % 64 < 64 := by omega
      go_enter Try.func27, Try.ntmps27
      go_wp2_with fail
      refine Calls.mono (trimmed_v _ _ _ H1.out) ?_; rintro e w' ⟨t1, rfl, g1, rfl⟩
      have G1 := Lib.hid g1; clear g1
      clear H1
      generalize digs W (val W l1) = d1 at *
      obtain ⟨a1, c1, rfl, hx1⟩ := G1
      have hc1 := hx1.1
      obtain ⟨b1, o1, rfl, hcl⟩ := hx1.2.2.2 (by intro e; rw [e] at hqn'; simp at hqn')
      have HCL := Lib.hid hcl; have HX1 := Lib.hid hx1
      clear hx1 hcl
      go_wp2_with fail
      have hls := HX1.out.drop HCL.out q
      obtain ⟨o, ho⟩ : ∃ o, o = d1.drop q := ⟨_, rfl⟩
      rw [← ho] at hls
      have HOD := Lib.hid ho
      have hol : d1.length - q = o.length := by rw [ho]; simp
      clear ho
      refine Calls.mono (clone_n _ _ _ o _ hol hls (by omega)) ?_; rintro e w1 ⟨v, rfl, hown, hbel⟩
      have HBE := Lib.hid hbel
      have hpos : 0 < o.length := by omega
      rcases hown.shape with ⟨rfl, h0⟩ | ⟨g, cap, rfl, hg1, hg2, hg3, hg4⟩
      · rw [h0] at hpos; simp at hpos
      have HOW := Lib.hid hown
      obtain ⟨n, hn⟩ : ∃ n, n = o.length := ⟨_, rfl⟩
      rw [← hn] at hpos hol ⊢
      have HN := Lib.hid hn; have HOL := Lib.hid hol
      have hlen : d1.length = q + n := by omega
      have HLEN := Lib.hid hlen
      have hlenle : d1.length ≤ q + n := by omega
      have hlenge : q + n ≤ d1.length := by omega
      have hgw : w.heap.size ≤ g := hg1
      have HDO := Lib.hid hown.dig
      clear hls hn hol hown hbel hg1 hg2 hg3 hg4 hlen
      go_wp2_with fail
      go_loopg [26] n (fun k iv wr => ∃ (i : Nat) (o' : List Nat), i ≤ n ∧ k = n - i ∧ iv = .int .i64 i ∧ OwnW w.heap.size wr (.slice (some ⟨g, 0, none⟩) n cap) o' ∧ o'.length = n ∧
        Hid (2 ^ (s % 64) * (val W (o'.take i) + W ^ i * (nth o i / 2 ^ (s % 64))) + nth o 0 % 2 ^ (s % 64) = val W (o.take (i + 1))) ∧ Below w.heap.size w wr ∧ (∀ t, i ≤ t → nth o' t = nth o t))
      case atStart =>
        refine ⟨0, o, Nat.zero_le _, rfl, rfl, by rw [HN.out]; exact HOW.out, HN.out.symm, ?_, HBE.out, fun _ _ => rfl⟩
        show _ = _
        rw [val_take_step]; simp [val]; exact Nat.div_add_mod _ _
      case round =>
        obtain ⟨i, o', hi, hk, rfl, hown, hol, hv, hbel, hsm⟩ := hrel
        have HK := Lib.hid hk; have HL := Lib.hid hol; have HO := Lib.hid hown; have HB := Lib.hid hbel; have HS := Lib.hid hsm
        clear hk
        by_cases hlt : i < n
        · have hcell := (show OwnW w.heap.size wr (.slice (some ⟨g, 0, none⟩) o'.length cap) o' by rw [hol]; exact hown).cell (i := i) (by omega)
          rw [hsm i (Nat.le_refl _)] at hcell
          have hfree := hown.free hol.symm i
          obtain ⟨f, hf⟩ : ∃ f, f = nth o i / 2 ^ (s % 64) := ⟨_, rfl⟩
          have hfe : ((nth o i : Nat) : Int) / 2 ^ (s % 64) = (f : Int) := by rw [hf]; simp
          have HF := Lib.hid hf
          by_cases hk2 : q + i + 1 < d1.length
          · obtain ⟨y, hy⟩ : ∃ y, y = nth o (i + 1) := ⟨_, rfl⟩
            have g2 : wr.cell? ⟨b1, o1 + (q + i + 1), none⟩ = some (.int .u64 ((y : Nat) : Int)) := by
              rw [hy, HOD.out, nth_drop, show q + (i + 1) = q + i + 1 by omega]
              exact HCL.out.below (HCL.out.lt (by omega)) hbel _ hk2
            have hb1g : b1 < g := Nat.lt_of_lt_of_le (HCL.out.lt (by omega)) hgw
            have HY := Lib.hid hy
            clear hf hy hol hown hbel hsm
            go_wp2_with fail
            rw [hfe]
            go_region
            have hX : bits .or .u64 (f : Int) (IntKind.u64.wrap (IntKind.u64.wrap (((y : Nat) : Int) * 2) * 2 ^ (63 - s % 64))) = ((dn o i (s % 64) : Nat) : Int) := by
              rw [up_two y _ hr64, HF.out, HY.out]; exact dn_bits HDO.out hr64
            rw [hX]
            clear hX hcell hfree hfe g2
            go_wp2_with fail
            go_roundg (n - (i + 1))
            case measure => have := HK.out; omega
            case rel =>
              refine ⟨i + 1, o'.set i (dn o i (s % 64)), by omega, rfl, by go_num, ?_, ?_, ?_, ?_, ?_⟩
              · have h1 := HO.out.set HL.out.symm i f (by rw [HF.out]; exact lt_W (by omega) (dn_lt HDO.out hr64))
                have h2 := h1.set (by simpa using HL.out.symm) i (dn o i (s % 64)) (dn_ltW HDO.out hr64)
                rw [List.set_set] at h2
                exact h2.drew
              · simpa using HL.out
              · exact shr_step (by rw [HL.out]; exact hlt) HDO.out hr64 hv.out
              · exact ((HB.out.setCell hgw _).setCell hgw _).drew
              · intro t ht; rw [nth_set_ne (by omega)]; exact HS.out t (by omega)
          · have hdz : Hid (f = dn o i (s % 64)) := Lib.hid (by
              have hz : nth o (i + 1) = 0 := nth_ge (by have := HN.out; omega)
              rw [hf]; unfold dn; rw [hz]; simp [upL])
            clear hf hol hown hbel hsm
            go_wp2_with fail
            go_roundg (n - (i + 1))
            case measure => have := HK.out; omega
            case rel =>
              (try rw [hfe]); rw [hdz.out]
              refine ⟨i + 1, o'.set i (dn o i (s % 64)), by omega, rfl, by go_num, ?_, ?_, ?_, ?_, ?_⟩
              · exact HO.out.set HL.out.symm i _ (dn_ltW HDO.out hr64)
              · simpa using HL.out
              · exact shr_step (by rw [HL.out]; exact hlt) HDO.out hr64 hv.out
              · exact HB.out.setCell hgw _
              · intro t ht; rw [nth_set_ne (by omega)]; exact HS.out t (by omega)
        · obtain rfl : i = n := by omega
          have hfin : Hid (val W o' = val W l1 / 2 ^ s) := Lib.hid (by
            rw [shr_end HN.out.symm HL.out (Nat.two_pow_pos _) hv.out, HOD.out]
            have hsp := val_split W d1 q (by have := HLEN.out; omega)
            have hlt' := val_lt ((HX1.out.2.2.1).take q)
            rw [List.length_take, Nat.min_eq_left (by have := HLEN.out; omega)] at hlt'
            have hq : val W (d1.drop q) = val W l1 / W ^ q := by
              rw [← E1.out, hsp, Nat.add_mul_div_left _ _ (Nat.pow_pos W_pos), Nat.div_eq_of_lt hlt']; omega
            rw [hq, Nat.div_div_eq_div_mul, W_powk, ← Nat.pow_add]
            congr 2; have := HQ.out; omega)
          clear hol hown hbel hsm hv hlt
          go_wp2_with fail
          refine Calls.mono (trimmed_n _ i cap o' _ HL.out.symm HO.out.lsS) ?_; rintro e w'' ⟨rfl, rfl⟩
          go_wp2_with fail
          go_ret
          refine ⟨_, rfl, ?_, HB.out⟩
          rw [← hfin.out]
          exact HO.out.trim W_two HL.out.symm

end Go.Proofs.Ytbofdldkiooegaa
