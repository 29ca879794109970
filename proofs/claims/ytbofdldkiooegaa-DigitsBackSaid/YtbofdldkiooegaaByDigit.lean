/- limbs.byDigit by its contract: divided by one digit. -/
import Derived.Test.YtbofdldkiooegaaDiv64
namespace Go.Proofs.Ytbofdldkiooegaa
open Go Go.RowKit Tw
set_option linter.unusedVariables false
set_option linter.unusedSimpArgs false

theorem byd_step {l q : List Nat} {k r d : Nat} (hk : k < l.length) (hq : k < q.length) (hv : val W (l.drop (k + 1)) = d * val W (q.drop (k + 1)) + r) :
    val W (l.drop k) = d * val W ((q.set k ((r * W + nth l k) / d)).drop k) + (r * W + nth l k) % d := by
  have e := Nat.div_add_mod (r * W + nth l k) d
  rw [val_drop W hk, val_drop W (l := q.set k ((r * W + nth l k) / d)) (by simpa using hq), nth_set_eq hq, List.drop_set_of_lt (by omega), hv, Nat.mul_add d]
  generalize (r * W + nth l k) / d = u at *
  generalize (r * W + nth l k) % d = v at *
  have : W * (d * val W (q.drop (k + 1)) + r) = d * (W * val W (q.drop (k + 1))) + r * W := by
    rw [Nat.mul_add, Nat.mul_left_comm, Nat.mul_comm W r]
  omega

set_option maxRecDepth 100000 in
set_option maxHeartbeats 1000000 in
theorem byDigit_c (v : Value) (l : List Nat) (d : Nat) (w : World) (h : Wd w v l) (hs : l.length ≤ 60000) (hd : 0 < d) (hdW : d < W) :
    Calls Try.prog 79 #[v, .int .u64 d] w fun e w' => ∃ v1 v2, e = .returned (.tuple #[v1, v2]) ∧
      OwnW w.heap.size w' v1 (digs W (val W l / d)) ∧ OwnW w.heap.size w' v2 (digs W (val W l % d)) ∧ Below w.heap.size w w' := by
  have H := Lib.hid h
  have D := h.dig
  obtain ⟨a, cap, rfl, hw⟩ := h
  have HX := Lib.hid hw
  clear hw
  obtain ⟨n, hn⟩ : ∃ n, n = l.length := ⟨_, rfl⟩
  have HN := Lib.hid hn
  rw [← hn] at hs ⊢
  clear hn
  go_enter Try.func79, Try.ntmps79
  go_wp2_with (at_make; refine wpList_make_z _ rfl _ _ 22 rfl w.heap.size 29 .u64 8 W Try.underlying22 info_u64 .i64 .i64 _ _ n n rfl rfl rfl rfl (by omega) (by omega) (by unfold maxLen; omega) (Nat.le_refl _) (by have := W_two; omega) ?_; intro wm hown hbel hsz; have Hsz := Lib.hid hsz; clear hsz)
  go_loopg [7, 8] n (fun k rv i wr => ∃ (r : Nat) (q : List Nat), k ≤ n ∧ i = .int .i64 ((k : Int) - 1) ∧ rv = .int .u64 r ∧ Hid (r < d) ∧
    OwnW w.heap.size wr (.slice (some ⟨w.heap.size, 0, none⟩) n n) q ∧ q.length = n ∧ Hid (val W (l.drop k) = d * val W (q.drop k) + r) ∧ Below w.heap.size w wr)
  case atStart => exact ⟨0, List.replicate n 0, Nat.le_refl _, rfl, rfl, hd, hown, by simp, by show val W (l.drop n) = d * val W ((List.replicate n 0).drop n) + 0; rw [List.drop_of_length_le (by have := HN.out; omega), List.drop_of_length_le (by simp)]; simp [val], hbel⟩
  case round =>
    clear hown hbel
    obtain ⟨r, q, hk, rfl, rfl, hr, hown, hol, hv, hbel⟩ := hrel
    have HL := Lib.hid hol; have HO := Lib.hid hown; have HB := Lib.hid hbel
    by_cases hk0 : 0 < gk
    · obtain ⟨b1, o1, rfl, hcl⟩ := HX.out.2.2.2 (by intro e; have := HN.out; rw [e] at this; simp at this; omega)
      have hlt : gk - 1 < l.length := by have := HN.out; omega
      have g1 : wr.cell? ⟨b1, o1 + (gk - 1), none⟩ = some (.int .u64 ((nth l (gk - 1) : Nat) : Int)) := hcl.below (hcl.lt (by omega)) hbel _ hlt
      have hcell := (show OwnW w.heap.size wr (.slice (some ⟨w.heap.size, 0, none⟩) q.length n) q by rw [hol]; exact hown).cell (i := gk - 1) (by omega)
      have hfree := hown.free hol.symm (gk - 1)
      have eidx : ((gk : Int) - 1).toNat = gk - 1 := by omega
      have x1 := Lib.hid (nth_dig D hlt)
      have HLT := Lib.hid hlt
      clear hol hown hbel hcl hlt
      go_wp2_with fail
      refine Calls.mono (div64_c r (nth l (gk - 1)) d _ hd hr.out x1.out hdW) ?_; rintro e w' ⟨rfl, nd, rfl⟩
      have HV : Hid _ := Lib.hid (byd_step (d := d) (q := q) (k := gk - 1) HLT.out (by rw [HL.out]; omega) (by rw [show gk - 1 + 1 = gk by omega]; exact hv.out))
      have HM : Hid ((r * W + nth l (gk - 1)) % d < d) := Lib.hid (Nat.mod_lt _ hd)
      have HQ : Hid ((r * W + nth l (gk - 1)) / d < W) := Lib.hid (by
        rw [Nat.div_lt_iff_lt_mul hd]
        have h1 := Nat.mul_le_mul_right W (show r + 1 ≤ d from hr.out)
        rw [Nat.add_mul, Nat.one_mul] at h1
        have := x1.out
        rw [Nat.mul_comm W d]; omega)
      generalize (r * W + nth l (gk - 1)) / d = dq at *
      generalize (r * W + nth l (gk - 1)) % d = dr at *
      go_wp2_with fail
      go_roundg (gk - 1)
      case measure => omega
      case rel =>
        refine ⟨dr, q.set (gk - 1) dq, by omega, by go_num, rfl, HM, ?_, ?_, HV, ?_⟩
        · exact (HO.out.drawn nd).set HL.out.symm _ _ HQ.out
        · simpa using HL.out
        · exact (bel_drawn HB.out nd).setCell (Nat.le_refl _) _
    · obtain rfl : gk = 0 := by omega
      have hfin := hv.out
      simp only [List.drop_zero] at hfin
      have HF1 : Hid (val W l / d = val W q) := Lib.hid (by rw [hfin, Nat.add_comm, Nat.add_mul_div_left _ _ hd, Nat.div_eq_of_lt hr.out]; omega)
      have HF2 : Hid (val W l % d = r) := Lib.hid (by rw [hfin, Nat.add_comm, Nat.add_mul_mod_self_left, Nat.mod_eq_of_lt hr.out])
      have hrW : Hid (r < W) := Lib.hid (Nat.lt_trans hr.out hdW)
      clear hfin hol hown hbel hk0
      go_wp2_with fail
      refine Calls.mono (trimmed_n _ n n q _ HL.out.symm HO.out.lsS) ?_; rintro e w' ⟨rfl, rfl⟩
      go_wp2_with fail
      have HO2 : Hid (OwnW w.heap.size (wr.alloc (.cells #[.int .u64 ((r : Nat) : Int)] 29)) (.slice (some ⟨wr.heap.size, 0, none⟩) 1 1) [r]) :=
        Lib.hid (Own.lit .u64 _ W _ wr _ [r] HB.out.size (by simp; unfold maxLen; omega) rfl (Dig.one hrW.out))
      refine Calls.mono (trimmed_n _ 1 1 [r] _ rfl HO2.out.lsS) ?_; rintro e w' ⟨rfl, rfl⟩
      go_wp2_with fail
      go_ret2
      refine ⟨_, _, rfl, ?_, ?_, HB.out.alloc HB.out.size _⟩
      · rw [HF1.out]; exact (HO.out.trim W_two HL.out.symm).alloc _
      · rw [HF2.out]
        have h3 := HO2.out.trim W_two rfl
        have e1 : val W [r] = r := by simp [val]
        rw [e1] at h3 ⊢
        exact h3

end Go.Proofs.Ytbofdldkiooegaa
