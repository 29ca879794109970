/- limbs.Shl by its contract: times a power of 2. -/
import Derived.Test.YtbofdldkiooegaaClone
import Derived.Laws.Bits64b
namespace Go.Proofs.Ytbofdldkiooegaa
open Go Go.RowKit Tw
set_option linter.unusedVariables false
set_option linter.unusedSimpArgs false

/-- a digit moved up by r, and what falls off -/
def upL (x r : Nat) : Nat := x * 2 ^ r % W
def upH (x r : Nat) : Nat := x * 2 ^ r / W
theorem up_eq (x r : Nat) : upL x r + W * upH x r = x * 2 ^ r := Nat.mod_add_div _ _
theorem upL_lt (x r : Nat) : upL x r < W := Nat.mod_lt _ W_pos
theorem W_pow : W = 2 ^ 64 := rfl
theorem upH_lt {x r : Nat} (hx : x < W) : upH x r < 2 ^ r := by
  unfold upH
  rw [Nat.div_lt_iff_lt_mul W_pos, Nat.mul_comm]
  exact Nat.mul_lt_mul_of_pos_left hx (Nat.two_pow_pos r)
theorem upL_mul {x r : Nat} (hr : r ≤ 64) : ∃ q, upL x r = 2 ^ r * q := by
  refine ⟨x % 2 ^ (64 - r), ?_⟩
  unfold upL
  rw [W_pow, show (2 : Nat) ^ 64 = 2 ^ r * 2 ^ (64 - r) by rw [← Nat.pow_add]; congr 1; omega, Nat.mul_comm x, Nat.mul_mod_mul_left]
theorem upH_eq {x r : Nat} (hr : r < 64) : x / 2 / 2 ^ (63 - r) = upH x r := by
  unfold upH
  rw [Nat.div_div_eq_div_mul, W_pow, show (2 : Nat) ^ 64 = 2 ^ (64 - r) * 2 ^ r by rw [← Nat.pow_add]; congr 1; omega, Nat.mul_div_mul_right _ _ (Nat.two_pow_pos r)]
  congr 1
  rw [show 64 - r = (63 - r) + 1 by omega, Nat.pow_succ, Nat.mul_comm]
theorem upH_int {x r : Nat} (hr : r < 64) : (((x : Nat) : Int) / 2 / 2 ^ (63 - r)) = ((upH x r : Nat) : Int) := by
  rw [← upH_eq hr]; simp
theorem up_or {x r c : Nat} (hr : r ≤ 64) (hc : c < 2 ^ r) : upL x r ||| c = upL x r + c := by
  obtain ⟨q, hq⟩ := @upL_mul x r hr
  rw [hq, Nat.two_pow_add_eq_or_of_lt hc]
theorem up_add_lt {x r c : Nat} (hr : r ≤ 64) (hc : c < 2 ^ r) : upL x r + c < W := by
  have h1 : upL x r < 2 ^ 64 := upL_lt x r
  have h2 : c < 2 ^ 64 := Nat.lt_of_lt_of_le hc (Nat.pow_le_pow_right (by omega) hr)
  rw [← up_or hr hc, W_pow]
  exact Nat.or_lt_two_pow h1 h2
theorem lt_W {c r : Nat} (hr : r ≤ 64) (hc : c < 2 ^ r) : c < W := by
  rw [W_pow]; exact Nat.lt_of_lt_of_le hc (Nat.pow_le_pow_right (by omega) hr)

theorem up_wrap (x r : Nat) : IntKind.u64.wrap (((x : Nat) : Int) * 2 ^ r) = ((upL x r : Nat) : Int) := by
  rw [IntKind.wrap_u64]
  unfold upL W
  simp
theorem up_bits {x r c : Nat} (hr : r ≤ 64) (hc : c < 2 ^ r) : bits .or .u64 ((upL x r : Nat) : Int) ((c : Nat) : Int) = ((upL x r + c : Nat) : Int) := by
  have h1 := upL_lt x r
  have h2 := lt_W hr hc
  unfold W at h1 h2
  rw [bits_or_u64_nat _ _ h1 h2, up_or hr hc]

theorem shl_step {d o : List Nat} {j q r x c : Nat} (ho : o.length = q + j) (hx : nth d j = x)
    (hv : val W o + W ^ (q + j) * c = val W (d.take j) * 2 ^ r * W ^ q) :
    val W (o ++ [upL x r + c]) + W ^ (q + (j + 1)) * upH x r = val W (d.take (j + 1)) * 2 ^ r * W ^ q := by
  have e := up_eq x r
  rw [val_snoc, ho, val_take_step, hx, ← Nat.add_assoc, Nat.pow_succ, Nat.add_mul, Nat.add_mul, ← hv]
  have e2 : W ^ j * x * 2 ^ r * W ^ q = W ^ (q + j) * (x * 2 ^ r) := by
    rw [Nat.pow_add, Nat.mul_comm (W ^ q), Nat.mul_assoc, Nat.mul_assoc, Nat.mul_assoc]
    congr 1
    rw [← Nat.mul_assoc, Nat.mul_comm]
  rw [e2, ← e, Nat.mul_add, Nat.mul_add, Nat.mul_assoc]
  omega

set_option maxRecDepth 100000 in
set_option maxHeartbeats 1000000 in
theorem shl_c (v1 : Value) (l1 : List Nat) (s : Nat) (w : World) (h1 : Wd w v1 l1) (hs1 : l1.length ≤ 20000) (hs : s ≤ 1048576) :
    Calls Try.prog 24 #[v1, .int .i64 s] w fun e w' => ∃ v, e = .returned v ∧ OwnW w.heap.size w' v (digs W (val W l1 * 2 ^ s)) ∧ Below w.heap.size w w' := by
  have H1 := Lib.hid h1
  have hle1 := length_digs_val W_two h1.dig
  clear h1
  by_cases hz : digs W (val W l1) = []
  · have HR := Lib.hid (show digs W (val W l1 * 2 ^ s) = [] by rw [(length_digs_zero (n := val W l1) W_two).1 (by rw [hz]; rfl), Nat.zero_mul, digs_zero])
    go_enter Try.func24, Try.ntmps24
    go_wp2_with fail
    refine Calls.mono (trimmed_v _ _ _ H1.out) ?_; rintro e w' ⟨t1, rfl, g1, rfl⟩
    rw [hz] at g1
    clear hz
    obtain ⟨a1, c1, rfl, hx1⟩ := g1
    clear hx1
    go_wp2_with fail
    go_ret
    refine ⟨_, rfl, ?_, Below.refl _ _⟩
    rw [HR.out]; exact Own.nil _ _ _ _ _
  · by_cases hs0 : s = 0
    · subst hs0
      have hne : (((digs W (val W l1)).length : Int) == 0) = false := by simp; exact hz
      clear hz
      go_enter Try.func24, Try.ntmps24
      go_wp2_with fail
      refine Calls.mono (trimmed_v _ _ _ H1.out) ?_; rintro e w' ⟨t1, rfl, g1, rfl⟩
      have G1 := Lib.hid g1
      obtain ⟨a1, c1, rfl, hx1⟩ := g1
      clear hx1
      go_wp2_with fail
      refine Calls.mono (clone_v _ _ _ G1.out (by omega)) ?_; rintro e w' ⟨v2, rfl, h2, hb⟩
      have H2 := Lib.hid h2; have HB := Lib.hid hb; clear h2 hb
      go_wp2_with fail
      go_ret
      refine ⟨_, rfl, ?_, HB.out⟩
      simpa using H2.out
    · have hs0' : 0 < s := by omega
      have hlen : 0 < (digs W (val W l1)).length := List.length_pos_iff.2 hz
      have hne : (((digs W (val W l1)).length : Int) == 0) = false := by simp; exact hz
      clear hs0 hz
      go_enter Try.func24, Try.ntmps24
      go_wp2_with fail
      refine Calls.mono (trimmed_v _ _ _ H1.out) ?_; rintro e w' ⟨t1, rfl, g1, rfl⟩
      have G1 := Lib.hid g1; clear g1
      have E1 := Lib.hid (val_digs W_two (val W l1))
      clear H1
      generalize digs W (val W l1) = d1 at *
      obtain ⟨a1, c1, rfl, hx1⟩ := G1
      have HX1 := Lib.hid hx1
      clear hx1
      obtain ⟨q, hq⟩ : ∃ q, q = s / 64 := ⟨_, rfl⟩
      have HQ := Lib.hid hq
      have hq1 : q ≤ 16384 := by omega
      have hqs : ((s : Int) / 64) = (q : Int) := by omega
      clear hq
      go_wp2_with (at_make; refine wpList_make_z _ rfl _ _ 22 rfl w.heap.size 29 .u64 8 W Try.underlying22 info_u64 .i64 .i64 _ _ q (q + d1.length + 1) rfl rfl rfl rfl (by omega) (by omega) (by unfold maxLen; omega) (Nat.le_refl _) (by have := W_two; omega) ?_; intro wm hown hbel hsz; have Hsz := Lib.hid hsz; clear hsz)
      go_loopg [5, 6, 35] d1.length (fun k v c i wr => ∃ (j cy : Nat) (o : List Nat), j ≤ d1.length ∧ k = d1.length - j ∧ i = .int .i64 j ∧ c = .int .u64 cy ∧ cy < 2 ^ (s % 64) ∧
        OwnW w.heap.size wr v o ∧ o.length = q + j ∧ val W o + W ^ (q + j) * cy = val W (d1.take j) * 2 ^ (s % 64) * W ^ q ∧ Below w.heap.size w wr)
      case atStart => exact ⟨0, 0, List.replicate q 0, Nat.zero_le _, rfl, rfl, rfl, Nat.two_pow_pos _, hown, by simp, by simp [val, val_zeros], hbel⟩
      case round =>
        clear hown hbel
        obtain ⟨j, cy, o, hj, hk, rfl, rfl, hcy, hown, hol, hv, hbel⟩ := hrel
        have HK := Lib.hid hk; have HL := Lib.hid hol; have HV := Lib.hid hv; have HO := Lib.hid hown; have HB := Lib.hid hbel; have HC := Lib.hid hcy
        clear hk hol hv hown hcy
        by_cases hlt : j < d1.length
        · obtain ⟨b1, o1, rfl, hcl⟩ := HX1.out.2.2.2 (by intro e; rw [e] at hlt; simp at hlt)
          have g1 : wr.cell? ⟨b1, o1 + j, none⟩ = some (.int .u64 ((nth d1 j : Nat) : Int)) := hcl.below (hcl.lt (by omega)) hbel j hlt
          have x1 := nth_dig HX1.out.2.2.1 hlt
          clear hcl hbel
          generalize hxx : nth d1 j = x at *
          have HXX := Lib.hid hxx; clear hxx
          have hr64 : s % 64 < 64 := by omega
          have hu1 := up_wrap x (s % 64)
          have hu2 := @up_bits x (s % 64) cy (by omega) HC.out
          have hfin : Hid _ := Lib.hid (shl_step HL.out HXX.out HV.out)
          generalize hyy : upL x (s % 64) + cy = y at *
          have HY := Lib.hid hyy
          have hy : Hid (y < W) := by rw [← hyy]; exact up_add_lt (by omega) HC.out
          clear hyy
          go_wp2_with (at_builtin; refine wpList_app _ rfl _ _ 22 rfl 29 .u64 8 Try.underlying22 info_u64 W w.heap.size _ o [y] rfl ?_ wr.heap.size 0 1 rfl (CellsG.one _ _ _ _) ?_ ?_ ?_ ?_ ?_)
          · exact HO.out.alloc _
          · exact Dig.one hy.out
          · have := HL.out; simp; unfold maxLen; omega
          · have := HL.out; simp; omega
          · have := HB.out.size; simp; omega
          · intro l' v' w' HL' ho hb hg
            have HO' := Lib.hid ho; have HB' := Lib.hid hb; clear hg ho hb
            clear hu1 hu2
            go_wp2_with fail
            go_roundg (d1.length - (j + 1))
            case measure => have := HK.out; omega
            case rel =>
              refine ⟨j + 1, upH x (s % 64), l', by omega, rfl, by go_num, by rw [upH_int hr64], ?_, HO'.out, ?_, ?_, ?_⟩
              · exact upH_lt (by rw [← HXX.out]; exact nth_dig HX1.out.2.2.1 hlt)
              · rw [HL'.out]; simp [HL.out]; omega
              · rw [HL'.out]; exact hfin.out
              · exact (HB.out.alloc HB.out.size _).trans HB'.out
        · obtain rfl : j = d1.length := by omega
          have hcw := Lib.hid (lt_W (by omega) HC.out)
          have hfin := Lib.hid (show val W (o ++ [cy]) = val W l1 * 2 ^ s by
            rw [val_snoc, HL.out, HV.out, List.take_of_length_le (Nat.le_refl _), E1.out, Nat.mul_assoc, W_pow, ← Nat.pow_mul, ← Nat.pow_add]
            congr 2; have := HQ.out; omega)
          clear hbel
          go_wp2_with (at_builtin; refine wpList_app _ rfl _ _ 22 rfl 29 .u64 8 Try.underlying22 info_u64 W w.heap.size _ o [cy] rfl ?_ wr.heap.size 0 1 rfl (CellsG.one _ _ _ _) ?_ ?_ ?_ ?_ ?_)
          · exact HO.out.alloc _
          · exact Dig.one hcw.out
          · have := HL.out; simp; unfold maxLen; omega
          · have := HL.out; simp; omega
          · have := HB.out.size; simp; omega
          · intro l' v' w' HL' ho hb hg
            obtain ⟨a', cap', rfl, hls⟩ := ho.ls
            have HO' := Lib.hid ho; have HB' := Lib.hid hb; have HS' := Lib.hid hls; clear hg ho hb hls
            go_wp2_with fail
            refine Calls.mono (trimmed_c a' cap' l' w' HS'.out) ?_; rintro e w'' ⟨rfl, rfl⟩
            go_wp2_with fail
            go_ret
            refine ⟨_, rfl, ?_, ?_⟩
            · rw [← hfin.out, ← HL'.out]; exact HO'.out.trim W_two rfl
            · exact (HB.out.alloc HB.out.size _).trans HB'.out

end Go.Proofs.Ytbofdldkiooegaa
