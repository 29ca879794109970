/- limbs.Shl and limbs.Shr at every int, and over numbers. -/
import Derived.Test.YtkbhchlecokpiaaGreatL1c
import Derived.Test.YtkbhchlecokpiaaGreatRA
/-! ## Edge: limbs.Shl and limbs.Shr at every int, and over numbers. -/
set_option linter.unusedVariables false
set_option linter.unusedSimpArgs false
namespace Go.Proofs.YtkbhchlecokpiaaGreat
open Go Go.RowKit Tw
set_option linter.unusedVariables false
set_option linter.unusedSimpArgs false

theorem shl_far (v1 : Value) (l1 : List Nat) (s : Int) (w : World) (h1 : Wd w v1 l1) (hs : 1048576 < s) :
    Calls Tryz.prog 206 #[v1, .int .i64 s] w fun e w' => e = .returned (.slice none 0 0) ∧ w = w' := by
  have H1 := Lib.hid h1
  clear h1
  go_enter Tryz.func206, Tryz.ntmps206
  go_wp2_with fail
  refine Calls.mono (trimmed_v _ _ _ H1.out) ?_; rintro e w' ⟨t1, rfl, g1, rfl⟩
  obtain ⟨a1, c1, rfl, hx1⟩ := g1
  clear hx1
  go_wp2_with fail
  go_ret
  exact ⟨rfl, rfl⟩

theorem shl_neg (v1 : Value) (l1 : List Nat) (s : Int) (w : World) (h1 : Wd w v1 l1) (hl : l1.length ≤ 60000) (hs : s < 1) :
    Calls Tryz.prog 206 #[v1, .int .i64 s] w fun e w' => ∃ v, e = .returned v ∧ OwnW w.heap.size w' v (digs W (val W l1)) ∧ Below w.heap.size w w' := by
  have H1 := Lib.hid h1
  have hle1 := length_digs_val W_two h1.dig
  clear h1
  by_cases hz : digs W (val W l1) = []
  · have HR := Lib.hid hz
    go_enter Tryz.func206, Tryz.ntmps206
    go_wp2_with fail
    refine Calls.mono (trimmed_v _ _ _ H1.out) ?_; rintro e w' ⟨t1, rfl, g1, rfl⟩
    rw [hz] at g1
    clear hz
    obtain ⟨a1, c1, rfl, hx1⟩ := g1
    clear hx1
    go_wp2_with fail
    go_ret
    refine ⟨_, rfl, ?_, Below.refl _ _⟩
    rw [HR.out]; exact Own.nil _ _ _ _ _
  · have hne : (((digs W (val W l1)).length : Int) == 0) = false := by simp; exact hz
    clear hz
    go_enter Tryz.func206, Tryz.ntmps206
    go_wp2_with fail
    refine Calls.mono (trimmed_v _ _ _ H1.out) ?_; rintro e w' ⟨t1, rfl, g1, rfl⟩
    have G1 := Lib.hid g1
    obtain ⟨a1, c1, rfl, hx1⟩ := g1
    clear hx1
    go_wp2_with fail
    refine Calls.mono (clone_v _ _ _ G1.out (by omega)) ?_; rintro e w' ⟨v2, rfl, h2, hb⟩
    have H2 := Lib.hid h2; have HB := Lib.hid hb; clear h2 hb
    go_wp2_with fail
    go_ret
    exact ⟨_, rfl, H2.out, HB.out⟩

theorem shr_neg (v1 : Value) (l1 : List Nat) (s : Int) (w : World) (h1 : Wd w v1 l1) (hl : l1.length ≤ 60000) (hs : s < 1) :
    Calls Tryz.prog 210 #[v1, .int .i64 s] w fun e w' => ∃ v, e = .returned v ∧ OwnW w.heap.size w' v (digs W (val W l1)) ∧ Below w.heap.size w w' := by
  have H1 := Lib.hid h1
  have hle1 := length_digs_val W_two h1.dig
  clear h1
  go_enter Tryz.func210, Tryz.ntmps210
  go_wp2_with fail
  refine Calls.mono (trimmed_v _ _ _ H1.out) ?_; rintro e w' ⟨t1, rfl, g1, rfl⟩
  have G1 := Lib.hid g1; clear g1
  go_wp2_with fail
  refine Calls.mono (clone_v _ _ _ G1.out (by omega)) ?_; rintro e w' ⟨v2, rfl, h2, hb⟩
  have H2 := Lib.hid h2; have HB := Lib.hid hb; clear h2 hb
  go_wp2_with fail
  go_ret
  exact ⟨_, rfl, H2.out, HB.out⟩

/-- the shifted number, by any int -/
def shlI (X : Nat) (s : Int) : Nat := if 1048576 < s then 0 else X * 2 ^ s.toNat
def shrI (X : Nat) (s : Int) : Nat := X / 2 ^ s.toNat

theorem shl_in (v1 : Value) (X k1 : Nat) (s : Int) (k : Nat) (w : World) (h1 : Nv w v1 X k1) (hk1 : k1 ≤ 20000) (hk : 1048576 < s ∨ (64 * k1 : Int) + s ≤ 64 * k ∧ k1 ≤ k) :
    Calls Tryz.prog 206 #[v1, .int .i64 s] w (Ret w fun v w' => Nc w' v (shlI X s) k) := by
  unfold shlI
  by_cases hf : 1048576 < s
  · rw [if_pos hf]
    obtain ⟨l1, g1, rfl, i1⟩ := h1
    refine (shl_far v1 l1 s w g1 hf).mono ?_
    rintro e w' ⟨rfl, rfl⟩
    exact ⟨_, rfl, ⟨by rw [digs_zero]; exact (Own.nil .u64 29 W w.heap.size w).ls, by rw [digs_zero]; exact Nat.zero_le _⟩, Below.refl _ _⟩
  · rw [if_neg hf]
    obtain ⟨hk, hk2⟩ : (64 * k1 : Int) + s ≤ 64 * k ∧ k1 ≤ k := hk.resolve_left hf
    by_cases h0 : s < 1
    · obtain ⟨l1, g1, rfl, i1⟩ := h1
      refine (shl_neg v1 l1 s w g1 (by omega) h0).mono ?_
      rintro e w' ⟨v', rfl, h4, h5⟩
      refine ⟨v', rfl, ?_, h5⟩
      rw [show s.toNat = 0 by omega, Nat.pow_zero, Nat.mul_one]
      have h6 := val_lt g1.dig
      exact own_nc h4 (Nat.lt_of_lt_of_le h6 (Nat.pow_le_pow_right W_pos (by omega)))
    · obtain ⟨m, rfl⟩ : ∃ m : Nat, s = m := ⟨s.toNat, by omega⟩
      rw [Int.toNat_natCast]
      exact shl_n v1 X k1 m k w h1 hk1 (by omega) (by omega)

theorem shr_in (v1 : Value) (X k1 : Nat) (s : Int) (w : World) (h1 : Nv w v1 X k1) (hk1 : k1 ≤ 60000) (hs : s ≤ 9223372036854775807) :
    Calls Tryz.prog 210 #[v1, .int .i64 s] w (Ret w fun v w' => Nc w' v (shrI X s) k1) := by
  unfold shrI
  by_cases h0 : s < 1
  · obtain ⟨l1, g1, rfl, i1⟩ := h1
    refine (shr_neg v1 l1 s w g1 (by omega) h0).mono ?_
    rintro e w' ⟨v', rfl, h4, h5⟩
    refine ⟨v', rfl, ?_, h5⟩
    rw [show s.toNat = 0 by omega, Nat.pow_zero, Nat.div_one]
    have h6 := val_lt g1.dig
    exact own_nc h4 (Nat.lt_of_lt_of_le h6 (Nat.pow_le_pow_right W_pos (by omega)))
  · obtain ⟨m, rfl⟩ : ∃ m : Nat, s = m := ⟨s.toNat, by omega⟩
    rw [Int.toNat_natCast]
    exact shr_n v1 X k1 m w h1 hk1 (by omega)

theorem nil_nv (w : World) : Nv w (.slice none 0 0) 0 0 := ⟨[], (Own.nil .u64 29 W w.heap.size w).ls, rfl, Nat.le_refl _⟩
theorem nil_nc (w : World) : Nc w (.slice none 0 0) 0 0 := ⟨by rw [digs_zero]; exact (Own.nil .u64 29 W w.heap.size w).ls, by rw [digs_zero]; exact Nat.zero_le _⟩

theorem shl_out_aux (v1 : Value) (n : Nat) (w : World) (hn : n = 1048576) (h1 : Nv w v1 1 1) :
    Calls Tryz.prog 206 #[v1, .int .i64 n] w (Ret w fun v w' => ∃ a c, v = .slice a 16385 c) := by
  refine (shl_n v1 1 1 n 16385 w h1 (by omega) (by omega) (by omega)).mono ?_
  rintro e w' ⟨v', rfl, h4, h5⟩
  obtain ⟨a, c, m, rfl, h6, h7⟩ := h4.shape
  refine ⟨_, rfl, ⟨a, c, ?_⟩, h5⟩
  have h8 := lt_pow_length W_two (1 * 2 ^ n)
  rw [← h6, W_powk, Nat.one_mul] at h8
  have h9 := (Nat.pow_lt_pow_iff_right (by omega)).1 h8
  rw [show m = 16385 by omega]

/-- 1 moved as far as can be: its digits -/
theorem shl_out (v1 : Value) (w : World) (h1 : Nv w v1 1 1) :
    Calls Tryz.prog 206 #[v1, .int .i64 1048576] w (Ret w fun v w' => ∃ a c, v = .slice a 16385 c) :=
  shl_out_aux v1 1048576 w rfl h1

end Go.Proofs.YtkbhchlecokpiaaGreat

/-! ## RShift: The reference of layer 1: Shl, Shr, Bits; CopyWords. -/
set_option linter.unusedVariables false
set_option linter.unusedSimpArgs false
namespace Tw
open Go Go.RowKit
theorem len256 {Y k : Nat} (h : Y < 2 ^ (8 * k)) : (digs 256 Y).length ≤ k := by
  refine length_digs_le two56 ?_
  rw [show (256 : Nat) = 2 ^ 8 by rfl, ← Nat.pow_mul]; exact h

theorem digs_up {Y : Nat} (h : digs 256 Y ≠ []) : digs 256 (Y * 256) = 0 :: digs 256 Y := by
  have hY : 0 < Y := by
    rcases Nat.eq_zero_or_pos Y with e | e
    · subst e; rw [digs_zero] at h; exact absurd rfl h
    · exact e
  rw [digs_pos two56 (by omega), Nat.mul_mod_left, Nat.mul_div_cancel _ (by omega)]

/-- one digit of the number that is moved down -/
theorem rshr_digit {d : List Nat} {j r : Nat} (hd : Dig 256 d) (hj : j < d.length) (hr : r < 8) :
    (val 256 (d.drop j) / 2 ^ r) % 256 = ((nth d j + 256 * nth d (j + 1)) / 2 ^ r) % 256 ∧ (val 256 (d.drop j) / 2 ^ r) / 256 = val 256 (d.drop (j + 1)) / 2 ^ r := by
  have hx : ∃ V, val 256 (d.drop (j + 1)) = nth d (j + 1) + 256 * V := by
    rcases Nat.lt_or_ge (j + 1) d.length with h | h
    · exact ⟨_, val_drop 256 h⟩
    · exact ⟨0, by rw [List.drop_of_length_le h, nth_ge h]; rfl⟩
  have e := val_drop 256 hj
  obtain ⟨V, hV⟩ := hx
  constructor
  · rw [e, hV]
    have h2 : nth d j + 256 * (nth d (j + 1) + 256 * V) = (nth d j + 256 * nth d (j + 1)) + 2 ^ r * (2 ^ (16 - r) * V) := by
      rw [← Nat.mul_assoc, ← Nat.pow_add, show r + (16 - r) = 16 by omega]; omega
    rw [h2, Nat.add_mul_div_left _ _ (Nat.two_pow_pos r)]
    have h3 : 2 ^ (16 - r) * V = 256 * (2 ^ (8 - r) * V) := by
      rw [← Nat.mul_assoc, show (256 : Nat) = 2 ^ 8 by rfl, ← Nat.pow_add, show 8 + (8 - r) = 16 - r by omega]
    rw [h3, Nat.add_mul_mod_self_left]
  · rw [Nat.div_div_eq_div_mul, Nat.mul_comm, ← Nat.div_div_eq_div_mul, e, Nat.add_mul_div_left _ _ (by omega)]
    rw [Nat.div_eq_of_lt (nth_dig hd hj), Nat.zero_add]

theorem rshr_step {o d : List Nat} {j r Z dg : Nat} (hd : Dig 256 d) (hj : j < d.length) (hr : r < 8) (ho : o.length = j) (hv : val 256 o + 256 ^ j * (val 256 (d.drop j) / 2 ^ r) = Z)
    (hg : dg = ((nth d j + 256 * nth d (j + 1)) / 2 ^ r) % 256) : val 256 (o ++ [dg]) + 256 ^ (j + 1) * (val 256 (d.drop (j + 1)) / 2 ^ r) = Z := by
  obtain ⟨h1, h2⟩ := @rshr_digit d j r hd hj hr
  rw [val_snoc, ho, ← hv, Nat.pow_succ, Nat.mul_assoc, Nat.add_assoc, ← Nat.mul_add, hg, ← h1, ← h2, Nat.mod_add_div]

theorem bitsN_half {d : Nat} (h : 0 < d) : bitsN (d / 2) + 1 = bitsN d := by
  by_cases h1 : d = 1
  · subst h1; rfl
  · have h2 : d / 2 ≠ 0 := by omega
    have h3 := bitsN_ge h2
    have h4 := bitsN_lt (d / 2)
    refine (bitsN_eq (by omega) ?_ ?_).symm
    · rw [show bitsN (d / 2) + 1 - 1 = (bitsN (d / 2) - 1) + 1 by omega, Nat.pow_succ]; omega
    · rw [Nat.pow_succ]; omega

/-- the bits of a number in digits of 8 bits -/
theorem bitsN_top {X m : Nat} {d : List Nat} (hd : d = digs 256 X) (hm : d.length = m + 1) : bitsN (nth d m) + 8 * m = bitsN X := by
  have hv := val_digs two56 X
  have hdg := dig_digs two56 X
  have ht := top_digs two56 X
  rw [← hd] at hv hdg ht
  have ht' : nth d m ≠ 0 := by
    rcases ht with h | h
    · rw [h] at hm; simp at hm
    · rwa [hm, Nat.add_sub_cancel] at h
  have e : X = val 256 (d.take m) + 256 ^ m * nth d m := by
    rw [← val_take_step, ← hm, List.take_of_length_le (Nat.le_refl _), hv]
  have hl := val_lt (hdg.take m)
  rw [List.length_take, Nat.min_eq_left (by omega)] at hl
  have b1 := bitsN_ge ht'
  have b2 := bitsN_lt (nth d m)
  have e256 : (256 : Nat) ^ m = 2 ^ (8 * m) := by rw [show (256 : Nat) = 2 ^ 8 by rfl, ← Nat.pow_mul]
  rw [e256] at e hl
  refine (bitsN_eq (by omega) ?_ ?_).symm
  · rw [show bitsN (nth d m) + 8 * m - 1 = 8 * m + (bitsN (nth d m) - 1) by omega, Nat.pow_add]
    have := Nat.mul_le_mul_left (2 ^ (8 * m)) b1.2
    omega
  · rw [Nat.add_comm, Nat.pow_add]
    have := Nat.mul_le_mul_left (2 ^ (8 * m)) (show nth d m + 1 ≤ _ from b2)
    rw [Nat.mul_add, Nat.mul_one] at this
    omega
end Tw
namespace Go.Proofs.YtkbhchlecokpiaaGreat
open Go Go.RowKit Tw
set_option linter.unusedVariables false
set_option linter.unusedSimpArgs false

theorem copyWords_c (v : Value) (l : List Nat) (w : World) (h : Wd w v l) (hs : l.length ≤ 60000) :
    Calls Tryz.prog 124 #[v] w fun e w' => ∃ v', e = .returned v' ∧ OwnW w.heap.size w' v' l ∧ Below w.heap.size w w' := by
  have H := Lib.hid h
  obtain ⟨a, cap, rfl, h1, h2, h3, h4⟩ := h
  obtain ⟨n, hn⟩ : ∃ n, n = l.length := ⟨_, rfl⟩
  have HN := Lib.hid hn
  rw [← hn] at hs ⊢
  cases a with
  | none =>
    have hl : l = [] := by
      cases l with
      | nil => rfl
      | cons x l => obtain ⟨b, off, h, _⟩ := h4 (by simp); simp at h
    subst hl
    obtain rfl : n = 0 := by simpa using hn
    clear h4 hn
    go_enter Tryz.func124, Tryz.ntmps124
    go_wp2
    go_ret
    exact ⟨_, rfl, Own.nil _ _ _ _ _, Below.refl _ _⟩
  | some x =>
    obtain ⟨a', c', e, hls⟩ := H.out
    simp only [Value.slice.injEq] at e
    obtain ⟨rfl, -, rfl⟩ := e
    have HLS := Lib.hid hls
    clear h4 hn hls
    go_enter Tryz.func124, Tryz.ntmps124
    go_wp2_with (at_builtin; refine wpList_appS _ rfl _ _ 29 rfl 158 .u64 8 Tryz.underlying29 info_u64 W w.heap.size (.slice none 0 0) [] l rfl ?_ x cap n rfl ?_ ?_ ?_ ?_ ?_ ?_)
    · exact Own.nil _ _ _ _ _
    · exact HN.out
    · exact HLS.out
    · have := HN.out; simp; unfold maxLen; omega
    · have := HN.out; simp; omega
    · simp
    · intro l' v' w' HL' ho hb hg
      have HO := Lib.hid ho; have HB := Lib.hid hb; clear ho hb hg
      go_wp2_with fail
      go_ret
      refine ⟨_, rfl, ?_, HB.out⟩
      obtain rfl : l' = l := by simpa using HL'.out
      exact HO.out

set_option maxRecDepth 100000 in
set_option maxHeartbeats 1000000 in
theorem rbits_c (v : Value) (l : List Nat) (w : World) (h : Wd w v l) (hs : l.length ≤ 2000) :
    Calls Tryz.prog 145 #[v] w fun e w' => e = .returned (.int .i64 ((bitsN (val W l) : Nat) : Int)) ∧ Below w.heap.size w w' := by
  have H := Lib.hid h
  have hle := length_digs_le (b := 256) (k := 8 * l.length) two56 (by rw [← W256]; exact val_lt h.dig)
  clear h
  go_enter Tryz.func145, Tryz.ntmps145
  go_wp2_with fail
  refine Calls.mono (small_c _ l _ H.out (by omega)) ?_; rintro e wa ⟨t1, rfl, g1, hba⟩
  have BA := Lib.hid hba
  have G1 := Lib.hid g1.ls
  have hdg := Lib.hid (g1.ls).dig
  clear hba g1 H
  obtain ⟨d, hd⟩ : ∃ d, d = digs 256 (val W l) := ⟨_, rfl⟩
  have HD := Lib.hid hd
  rw [← hd] at G1 hle hdg
  clear hd
  obtain ⟨a1, c1, rfl, hx1⟩ := G1
  obtain ⟨n, hn⟩ : ∃ n, n = d.length := ⟨_, rfl⟩
  have HX1 := Lib.hid hx1; have HN := Lib.hid hn
  have hn2 : n ≤ 16000 := by omega
  rw [← hn]
  clear hx1 hn hle
  by_cases hz : n = 0
  · have HR : Hid (bitsN (val W l) = 0) := Lib.hid (by
      have h1 := (length_digs_zero (b := 256) (n := val W l) two56).1 (by rw [← HD.out, ← HN.out, hz])
      rw [h1]; rfl)
    subst hz
    go_wp2_with fail
    go_ret
    exact ⟨ret_int (by rw [HR.out]; rfl), BA.out⟩
  · obtain ⟨m, rfl⟩ : ∃ m, n = m + 1 := ⟨n - 1, by omega⟩
    have HT := Lib.hid (bitsN_top HD.out HN.out.symm)
    obtain ⟨b1, o1, rfl, hcl⟩ := HX1.out.2.2.2 (by intro e; have := HN.out; rw [e] at this; simp at this)
    have g1 : wa.cell? ⟨b1, o1 + m, none⟩ = some (.int .i64 ((nth d m : Nat) : Int)) := hcl _ (by have := HN.out; omega)
    have x1 := nth_digW (by omega) hdg.out m
    have e1 : (((m + 1 : Nat) : Int) == 0) = false := by rw [beq_eq_false_iff_ne]; omega
    have e2 : ((m : Int) + 1 - 1) = (m : Int) := by omega
    generalize nth d m = x at *
    clear hcl
    go_wp2_with fail
    go_loopg [4, 5] x (fun k c s wr => ∃ (y z : Nat), k = y ∧ s = .int .i64 y ∧ c = .int .i64 z ∧ y ≤ 255 ∧ z ≤ 200000 ∧ Hid (bitsN y + z = bitsN (val W l)) ∧ Hid (z + y ≤ 200000) ∧ wr = wa)
    case atStart => exact ⟨x, 8 * m, rfl, rfl, by go_num, by omega, by omega, HT.out, by show _ ≤ _; omega, rfl⟩
    case round =>
      obtain ⟨y, z, rfl, rfl, rfl, hy, hz2, hb, hzy, rfl⟩ := hrel
      by_cases h0 : 0 < gk
      · have HB := Lib.hid (bitsN_half h0)
        have t2 : (gk : Int).tdiv 2 = ((gk / 2 : Nat) : Int) := rfl
        have HZ2 : Hid ((z + 1) + gk / 2 ≤ 200000) := Lib.hid (by have := hzy.out; omega)
        clear g1
        go_wp2_with fail
        go_roundg (gk / 2)
        case measure => omega
        case rel =>
          exact ⟨gk / 2, z + 1, rfl, by go_num, by go_num, by omega, by have := HZ2.out; omega, by have := hb.out; have := HB.out; show _ = _; omega, HZ2.out, rfl⟩
      · obtain rfl : gk = 0 := by omega
        have HR : Hid (bitsN (val W l) = z) := Lib.hid (by rw [← hb.out]; simp [bitsN])
        clear hb hz2 g1
        go_wp2_with fail
        go_ret
        exact ⟨ret_int (by rw [HR.out]), BA.out⟩

end Go.Proofs.YtkbhchlecokpiaaGreat

/-! ## RShl: The reference of layer 1: Shl, Shr. -/
set_option linter.unusedVariables false
set_option linter.unusedSimpArgs false
namespace Go.Proofs.YtkbhchlecokpiaaGreat
open Go Go.RowKit Tw
set_option linter.unusedVariables false
set_option linter.unusedSimpArgs false

theorem rshl_far (v : Value) (n : Int) (w : World) (hn : 1048576 < n) :
    Calls Tryz.prog 179 #[v, .int .i64 n] w fun e w' => e = .returned (.slice none 0 0) ∧ w = w' := by
  go_enter Tryz.func179, Tryz.ntmps179
  go_wp2
  go_ret
  exact ⟨rfl, rfl⟩

set_option maxRecDepth 100000 in
set_option maxHeartbeats 2000000 in
theorem rshl_c (v : Value) (l : List Nat) (n : Int) (w : World) (h : Wd w v l) (hs : l.length ≤ 2000) (hn : n ≤ 7000) (hn2 : -9223372036854775808 ≤ n) :
    Calls Tryz.prog 179 #[v, .int .i64 n] w fun e w' => ∃ v', e = .returned v' ∧ OwnW w.heap.size w' v' (digs W (shlI (val W l) n)) ∧ Below w.heap.size w w' := by
  have H := Lib.hid h
  have HSL : Hid (shlI (val W l) n = val W l * 2 ^ n.toNat) := Lib.hid (by unfold shlI; rw [if_neg (by omega)])
  have hX := val_lt h.dig
  rw [W256] at hX
  have HN0 : Hid (∀ Y c, Y * 2 ^ c = val W l * 2 ^ n.toNat → (digs 256 Y).length ≤ 16900) := Lib.hid (fun Y c e => by
    have h2 : val W l * 2 ^ n.toNat < 2 ^ (8 * (8 * l.length)) * 2 ^ n.toNat := Nat.mul_lt_mul_of_pos_right (by
      rw [show (256 : Nat) = 2 ^ 8 by rfl, ← Nat.pow_mul] at hX; exact hX) (Nat.two_pow_pos _)
    rw [← Nat.pow_add] at h2
    have h3 : Y < 2 ^ (8 * (8 * l.length + 875)) := by
      refine Nat.lt_of_le_of_lt ?_ (Nat.lt_of_lt_of_le h2 (Nat.pow_le_pow_right (by omega) (by omega)))
      rw [← e]; exact Nat.le_mul_of_pos_right _ (Nat.two_pow_pos _)
    have := len256 h3
    omega)
  clear h hX
  go_enter Tryz.func179, Tryz.ntmps179
  go_wp2_with fail
  refine Calls.mono (small_c _ l _ H.out (by omega)) ?_; rintro e wa ⟨t1, rfl, g1, hba⟩
  have BA := Lib.hid hba
  have G1 := Lib.hid g1
  clear hba g1 H
  go_wp2_with fail
  go_loopg [1, 5] n.toNat (fun k s x wr => ∃ (c : Int) (Y : Nat), k = c.toNat ∧ s = .int .i64 c ∧ c ≤ 7000 ∧ -9223372036854775808 ≤ c ∧ Hid (Y * 2 ^ c.toNat = val W l * 2 ^ n.toNat) ∧ OwnD w.heap.size wr x (digs 256 Y) ∧ Hid (Below w.heap.size w wr))
  case atStart => exact ⟨n, val W l, rfl, rfl, hn, hn2, rfl, G1.out, BA.out⟩
  case round =>
    obtain ⟨c, Y, hk, rfl, hc, hc2, hY, hown, HB⟩ := hrel
    have HK := Lib.hid hk
    have HLE := Lib.hid (HN0.out _ _ hY.out)
    have HO := Lib.hid hown
    obtain ⟨d, hd⟩ : ∃ d, d = digs 256 Y := ⟨_, rfl⟩
    have HD := Lib.hid hd
    have hown2 := hown
    rw [← hd] at hown2
    have HO2 := Lib.hid hown2
    obtain ⟨a1, c1, rfl, hls⟩ := hown2.ls
    have HLS := Lib.hid hls
    obtain ⟨m, hm⟩ : ∃ m, m = d.length := ⟨_, rfl⟩
    have HM := Lib.hid hm
    have hm2 : m ≤ 16900 := by rw [hm, hd]; exact HLE.out
    rw [← hm]
    clear hk hown hown2 hls hd hm
    by_cases hg : 8 ≤ c ∧ 0 < m
    · obtain ⟨hg1, hg2⟩ := hg
      obtain ⟨b1, o1, rfl, hcl⟩ := HLS.out.2.2.2 (by intro e; have := HM.out; rw [e] at this; simp at this; omega)
      clear hcl
      go_wp2_with (at_builtin; refine wpList_appS _ rfl _ _ 65 rfl 3 .i64 8 Tryz.underlying65 info_i64 256 w.heap.size (.slice (some ⟨wr.heap.size, 0, none⟩) 1 1) [0] d rfl ?_ ⟨b1, o1, none⟩ c1 m rfl ?_ ?_ ?_ ?_ ?_ ?_)
      · exact Own.lit .i64 _ 256 _ wr _ [0] HB.out.size (by unfold maxLen; simp) rfl (Dig.one (by omega))
      · exact HM.out
      · exact HLS.out.below ((Below.refl _ _).alloc (Nat.le_refl _) _)
      · have := HM.out; simp; unfold maxLen; omega
      · have := HM.out; simp; omega
      · have := HB.out.size; simp; omega
      · intro l' v' w' HL' ho hb hg
        have HO' := Lib.hid ho; have HB' := Lib.hid hb; clear ho hb hg
        go_wp2_with fail
        go_roundg (c - 8).toNat
        case measure => have := HK.out; omega
        case rel =>
          refine ⟨c - 8, Y * 256, rfl, by go_num, by omega, by omega, ?_, ?_, (HB.out.alloc HB.out.size _).trans HB'.out⟩
          · show _ = _
            rw [← hY.out, Nat.mul_assoc, show (256 : Nat) = 2 ^ 8 by rfl, ← Nat.pow_add, show 8 + (c - 8).toNat = c.toNat by omega]
          · rw [digs_up (by rw [← HD.out]; intro e; have := HM.out; rw [e] at this; simp at this; omega), ← HD.out]
            rw [← show l' = 0 :: d from HL'.out]; exact HO'.out
    · have HG := Lib.hid hg
      clear hg
      by_cases hc8 : 8 ≤ c
      · have hm0 : m = 0 := by have := HG.out; omega
        have HY0 : Hid (Y = 0) := Lib.hid ((length_digs_zero (b := 256) two56).1 (by rw [← HD.out, ← HM.out, hm0]))
        have HF : Hid (val W l * 2 ^ n.toNat = 0) := Lib.hid (by rw [← hY.out, HY0.out, Nat.zero_mul])
        subst hm0
        have HO3 : Hid (OwnD w.heap.size wr (.slice a1 0 c1) d) := Lib.hid (by have := HO2.out; rw [← HM.out] at this; exact this)
        go_wp2_with fail
        go_loopg [1, 5] 0 (fun k s x w2 => s = .int .i64 c ∧ x = .slice a1 0 c1 ∧ w2 = wr)
        case atStart => exact ⟨rfl, rfl, rfl⟩
        case round =>
          obtain ⟨rfl, rfl, rfl⟩ := hrel
          go_wp2_with fail
          refine Calls.mono (large_c _ d _ HO3.out.ls (by rw [← HM.out]; omega)) ?_; rintro e wc ⟨v', rfl, hr, hbc⟩
          have HR := Lib.hid hr; have HBC := Lib.hid hbc; clear hr hbc
          go_wp2_with fail
          go_ret
          refine ⟨v', rfl, ?_, bel_trans HB.out HBC.out⟩
          have h0 := HR.out.mono HB.out.size
          rw [HD.out, val_digs two56, HY0.out] at h0
          rw [HSL.out, HF.out]; exact h0
      · have HO3 : Hid (OwnD w.heap.size wr (.slice a1 m c1) (digs 256 Y)) := Lib.hid (by have := HO.out; rw [← HM.out] at this; exact this)
        clear HK HD HO2 HLS HM HG HLE HO
        go_wp2_with fail
        go_loopg [1, 5] c.toNat (fun k s x wr => ∃ (c : Int) (Y : Nat), k = c.toNat ∧ s = .int .i64 c ∧ c ≤ 7000 ∧ -9223372036854775808 ≤ c ∧ Hid (Y * 2 ^ c.toNat = val W l * 2 ^ n.toNat) ∧ OwnD w.heap.size wr x (digs 256 Y) ∧ Hid (Below w.heap.size w wr))
        case atStart => exact ⟨c, Y, rfl, rfl, hc, hc2, hY.out, HO3.out, HB.out⟩
        case round =>
          clear HO3 HB hY hc hc2 hm2 hc8
          obtain ⟨c, Y, hk, rfl, hc, hc2, hY, hown, HB⟩ := hrel
          have HK := Lib.hid hk
          have HLE := Lib.hid (HN0.out _ _ hY.out)
          have HVY := Lib.hid (val_digs two56 Y)
          have HO := Lib.hid hown
          obtain ⟨d, hd⟩ : ∃ d, d = digs 256 Y := ⟨_, rfl⟩
          have HD := Lib.hid hd
          have hown2 := hown
          rw [← hd] at hown2
          have HO2 := Lib.hid hown2
          obtain ⟨a1, c1, rfl, hls⟩ := hown2.ls
          obtain ⟨m, hm⟩ : ∃ m, m = d.length := ⟨_, rfl⟩
          have HM := Lib.hid hm
          have hm2 : m ≤ 16900 := by rw [hm, hd]; exact HLE.out
          rw [← hm]
          clear hk hown hown2 hls hd hm
          have HSd : Hid (Sd wr (.slice a1 m c1) d) := Lib.hid (by have := HO2.out.ls; rw [← HM.out] at this; exact this)
          by_cases hg : 0 < c ∧ 0 < m
          · obtain ⟨hg1, hg2⟩ := hg
            go_wp2_with fail
            refine Calls.mono (rtwice_c _ d 0 _ HSd.out (by rw [← HM.out]; omega) (by omega)) ?_; rintro e wc ⟨v', rfl, hr, hbc⟩
            have HR := Lib.hid hr; have HBC := Lib.hid hbc; clear hr hbc
            go_wp2_with fail
            go_roundg (c - 1).toNat
            case measure => have := HK.out; omega
            case rel =>
              refine ⟨c - 1, 2 * Y, rfl, by go_num, by omega, by omega, ?_, ?_, bel_trans HB.out HBC.out⟩
              · show _ = _
                rw [← hY.out, show c.toNat = (c - 1).toNat + 1 by omega, Nat.pow_succ, Nat.mul_comm (2 ^ _) 2, ← Nat.mul_assoc, Nat.mul_comm 2 Y]
              · have h0 := HR.out.mono HB.out.size
                rw [HD.out, HVY.out] at h0; exact h0
          · have HF : Hid (Y = val W l * 2 ^ n.toNat) := Lib.hid (by
              rw [← hY.out]
              rcases Int.lt_or_le 0 c with h | h
              · have hm0 : m = 0 := by omega
                rw [(length_digs_zero (b := 256) (n := Y) two56).1 (by rw [← HD.out, ← HM.out, hm0]), Nat.zero_mul]
              · rw [show c.toNat = 0 by omega, Nat.pow_zero, Nat.mul_one])
            have FIN : ∀ (wc : World) (v' : Value), Hid (OwnW wr.heap.size wc v' (digs W (val 256 d))) → OwnW w.heap.size wc v' (digs W (shlI (val W l) n)) := fun wc v' HR => by
              have h0 := HR.out.mono HB.out.size
              rw [HD.out, HVY.out, HF.out] at h0
              rw [HSL.out]; exact h0
            have FIN' := Lib.hid FIN
            clear FIN
            by_cases hc0 : 0 < c
            · obtain rfl : m = 0 := by omega
              go_wp2_with fail
              refine Calls.mono (large_c _ d _ HSd.out (by rw [← HM.out]; omega)) ?_; rintro e wc ⟨v', rfl, hr, hbc⟩
              have HR := Lib.hid hr; have HBC := Lib.hid hbc; clear hr hbc
              go_wp2_with fail
              go_ret
              exact ⟨v', rfl, FIN'.out _ _ HR, bel_trans HB.out HBC.out⟩
            · clear hg
              go_wp2_with fail
              refine Calls.mono (large_c _ d _ HSd.out (by rw [← HM.out]; omega)) ?_; rintro e wc ⟨v', rfl, hr, hbc⟩
              have HR := Lib.hid hr; have HBC := Lib.hid hbc; clear hr hbc
              go_wp2_with fail
              go_ret
              exact ⟨v', rfl, FIN'.out _ _ HR, bel_trans HB.out HBC.out⟩

set_option maxRecDepth 100000 in
set_option maxHeartbeats 2000000 in
theorem rshr_c (v : Value) (l : List Nat) (n : Int) (w : World) (h : Wd w v l) (hs : l.length ≤ 2000) (hn : n ≤ 9223372036854775807) (hn2 : -9223372036854775808 ≤ n) :
    Calls Tryz.prog 176 #[v, .int .i64 n] w fun e w' => ∃ v', e = .returned v' ∧ OwnW w.heap.size w' v' (digs W (shrI (val W l) n)) ∧ Below w.heap.size w w' := by
  have H := Lib.hid h
  have hle := length_digs_le (b := 256) (k := 8 * l.length) two56 (by rw [← W256]; exact val_lt h.dig)
  clear h
  go_enter Tryz.func176, Tryz.ntmps176
  go_wp2_with fail
  refine Calls.mono (small_c _ l _ H.out (by omega)) ?_; rintro e wa ⟨t1, rfl, g1, hba⟩
  have HB := Lib.hid hba
  have hlt := lt_pow_length two56 (val W l)
  have HV := Lib.hid (val_digs two56 (val W l))
  obtain ⟨X, hX⟩ : ∃ X, X = val W l := ⟨_, rfl⟩
  have HX := Lib.hid hX
  rw [← hX] at hlt HV g1 hle
  obtain ⟨d, hd⟩ : ∃ d, d = digs 256 X := ⟨_, rfl⟩
  rw [← hd] at hlt HV g1 hle
  have hdg := Lib.hid g1.dig
  obtain ⟨a1, c1, rfl, hls⟩ := g1.ls
  have HLS := Lib.hid hls
  obtain ⟨m, hm⟩ : ∃ m, m = d.length := ⟨_, rfl⟩
  have HM := Lib.hid hm
  rw [← hm]
  rw [← hm] at hlt hle
  have HLT := Lib.hid hlt
  have hm2 : m ≤ 16000 := by omega
  have hcap : m ≤ c1 := by rw [hm]; exact hls.1
  have hcap2 := hls.2.1
  unfold maxLen at hcap2
  have HSd : Hid (Sd wa (.slice a1 m c1) d) := Lib.hid (by have := g1.ls; rw [← hm] at this; exact this)
  clear hba hX hd hlt hle g1 hls hm H
  by_cases hfar : 8 * (m : Int) ≤ n
  · have HR : Hid (digs W (shrI (val W l) n) = []) := Lib.hid (by
      unfold shrI
      rw [← HX.out, Nat.div_eq_of_lt, digs_zero]
      refine Nat.lt_of_lt_of_le HLT.out ?_
      rw [show (256 : Nat) = 2 ^ 8 by rfl, ← Nat.pow_mul]; exact Nat.pow_le_pow_right (by omega) (by omega))
    go_wp2_with fail
    go_ret
    exact ⟨_, rfl, by rw [HR.out]; exact Own.nil _ _ _ _ _, HB.out⟩
  · by_cases hn1 : n < 1
    · have HR : Hid (shrI (val W l) n = val 256 d) := Lib.hid (by
        unfold shrI
        rw [show n.toNat = 0 by omega, Nat.pow_zero, Nat.div_one, HV.out, HX.out])
      go_wp2_with fail
      refine Calls.mono (large_c _ d _ HSd.out (by rw [← HM.out]; omega)) ?_; rintro e wc ⟨v', rfl, hr, hbc⟩
      have HRR := Lib.hid hr; have HBC := Lib.hid hbc; clear hr hbc
      go_wp2_with fail
      go_ret
      exact ⟨v', rfl, by rw [HR.out]; exact HRR.out.mono HB.out.size, bel_trans HB.out HBC.out⟩
    · obtain ⟨s, rfl⟩ : ∃ s : Nat, n = s := ⟨n.toNat, by omega⟩
      obtain ⟨b1, o1, rfl, hcl⟩ := HLS.out.2.2.2 (by intro e; have := HM.out; rw [e] at this; simp at this; omega)
      obtain ⟨q, hq⟩ : ∃ q, q = s / 8 := ⟨_, rfl⟩
      have HQ := Lib.hid hq
      have hqm : q < m := by omega
      have e1 : (s : Int).tdiv 8 = (q : Int) := by rw [hq]; rfl
      have e1' : (s : Int) / 8 = (q : Int) := by omega
      have e2 : (s : Int).tmod 8 = ((s % 8 : Nat) : Int) := rfl
      have hcl2 := Lib.hid (hcl.drop q)
      have hb1 : b1 < wa.heap.size := hcl.lt (by have := HM.out; omega)
      have HB1 := Lib.hid hb1
      obtain ⟨y, hy⟩ : ∃ y, y = d.drop q := ⟨_, rfl⟩
      have HYD : Hid (Dig 256 y) := Lib.hid (by rw [hy]; exact hdg.out.drop q)
      rw [← hy] at hcl2
      obtain ⟨n2, hn2⟩ : ∃ n2, n2 = m - q := ⟨_, rfl⟩
      have HYL : Hid (y.length = n2) := Lib.hid (by rw [hy, hn2]; have := HM.out; simp; omega)
      have HYV : Hid (val 256 y = X / 256 ^ q) := Lib.hid (by
        rw [hy, ← HV.out, val_split 256 d q (by have := HM.out; omega)]
        have h1 := val_lt (hdg.out.take q)
        rw [List.length_take, Nat.min_eq_left (by have := HM.out; omega)] at h1
        rw [Nat.add_mul_div_left _ _ (Nat.pow_pos (by omega)), Nat.div_eq_of_lt h1, Nat.zero_add])
      have hr8 : s % 8 < 8 := by omega
      have HN4 : Hid (m - q = n2) := Lib.hid (by omega)
      clear hcl hy hq hb1 hn2
      go_wp2_with fail
      rw [HN4.out]
      have hn2b : n2 ≤ 16000 := by have := HN4.out; omega
      clear HN4
      go_loopg [6, 7] n2 (fun k x i wr => ∃ (j : Nat) (o : List Nat), j ≤ n2 ∧ k = n2 - j ∧ i = .int .i64 j ∧ OwnD wa.heap.size wr x o ∧ Hid (o.length = j) ∧ Hid (val 256 o + 256 ^ j * (val 256 (y.drop j) / 2 ^ (s % 8)) = val 256 y / 2 ^ (s % 8)) ∧ Hid (Below wa.heap.size wa wr))
      case atStart => exact ⟨0, [], Nat.zero_le _, rfl, rfl, Own.nil _ _ _ _ _, rfl, by show _ = _; simp [val], Below.refl _ _⟩
      case round =>
        obtain ⟨j, o, hj, hk, rfl, hown, hol, hv, HBB⟩ := hrel
        have HK := Lib.hid hk; have HO := Lib.hid hown
        clear hk hown
        by_cases hlt : j < n2
        · have g1 : wr.cell? ⟨b1, o1 + q + j, none⟩ = some (.int .i64 ((nth y j : Nat) : Int)) := hcl2.out.below HB1.out HBB.out _ (by have := HYL.out; omega)
          have x1 := nth_digW (by omega) HYD.out j
          by_cases hlt2 : j + 1 < n2
          · have g2 : wr.cell? ⟨b1, o1 + q + (j + 1), none⟩ = some (.int .i64 ((nth y (j + 1) : Nat) : Int)) := hcl2.out.below HB1.out HBB.out _ (by have := HYL.out; omega)
            have x2 := nth_digW (by omega) HYD.out (j + 1)
            obtain ⟨t, ht⟩ : ∃ t, t = nth y j + 256 * nth y (j + 1) := ⟨_, rfl⟩
            have e3 : ((nth y j : Nat) : Int) + 256 * ((nth y (j + 1) : Nat) : Int) = (t : Int) := by omega
            have ht2 : t ≤ 65535 := by omega
            obtain ⟨u, hu⟩ : ∃ u, u = t / 2 ^ (s % 8) := ⟨_, rfl⟩
            have hu2 : u ≤ 65535 := by rw [hu]; exact Nat.le_trans (Nat.div_le_self _ _) ht2
            have e4 : (t : Int) / 2 ^ (s % 8) = (u : Int) := by rw [hu]; simp
            have e5 : (u : Int).tmod 256 = ((u % 256 : Nat) : Int) := rfl
            have HS := Lib.hid (rshr_step (dg := u % 256) HYD.out (by have := HYL.out; omega) hr8 hol.out hv.out (by rw [hu, ht]))
            clear hu ht hv
            go_wp2_with (at_builtin; refine wpList_app _ rfl _ _ 65 rfl 3 .i64 8 Tryz.underlying65 info_i64 256 wa.heap.size _ o [u % 256] rfl ?_ wr.heap.size 0 1 rfl (CellsG.one _ (u % 256) _ _) ?_ ?_ ?_ ?_ ?_)
            · exact HO.out.alloc _
            · exact Dig.one (Nat.mod_lt _ (by omega))
            · have := hol.out; simp; unfold maxLen; omega
            · have := hol.out; simp; omega
            · have := HBB.out.size; simp; omega
            · intro l' v' w' HL' ho hb2 hg
              obtain ⟨a', cap', rfl, hls⟩ := ho.ls; have HO' := Lib.hid ho; have HB' := Lib.hid hb2; clear hg ho hb2 hls
              go_wp2_with fail
              go_roundg (n2 - (j + 1))
              case measure => have := HK.out; omega
              case rel =>
                refine ⟨j + 1, l', by omega, rfl, by go_num, HO'.out, ?_, ?_, ?_⟩
                · have := hol.out; show l'.length = _; rw [HL'.out]; simp; omega
                · rw [HL'.out]; exact HS.out
                · exact (HBB.out.alloc HBB.out.size _).trans HB'.out
          · have hz : nth y (j + 1) = 0 := nth_ge (by have := HYL.out; omega)
            obtain ⟨t, ht⟩ : ∃ t, t = nth y j + 256 * nth y (j + 1) := ⟨_, rfl⟩
            have e3 : nth y j = t := by rw [ht, hz]; omega
            rw [e3] at g1
            have ht2 : t ≤ 65535 := by omega
            obtain ⟨u, hu⟩ : ∃ u, u = t / 2 ^ (s % 8) := ⟨_, rfl⟩
            have hu2 : u ≤ 65535 := by rw [hu]; exact Nat.le_trans (Nat.div_le_self _ _) ht2
            have e4 : (t : Int) / 2 ^ (s % 8) = (u : Int) := by rw [hu]; simp
            have e5 : (u : Int).tmod 256 = ((u % 256 : Nat) : Int) := rfl
            have HS := Lib.hid (rshr_step (dg := u % 256) HYD.out (by have := HYL.out; omega) hr8 hol.out hv.out (by rw [hu, ht]))
            clear hu ht hv hz e3
            go_wp2_with (at_builtin; refine wpList_app _ rfl _ _ 65 rfl 3 .i64 8 Tryz.underlying65 info_i64 256 wa.heap.size _ o [u % 256] rfl ?_ wr.heap.size 0 1 rfl (CellsG.one _ (u % 256) _ _) ?_ ?_ ?_ ?_ ?_)
            · exact HO.out.alloc _
            · exact Dig.one (Nat.mod_lt _ (by omega))
            · have := hol.out; simp; unfold maxLen; omega
            · have := hol.out; simp; omega
            · have := HBB.out.size; simp; omega
            · intro l' v' w' HL' ho hb2 hg
              obtain ⟨a', cap', rfl, hls⟩ := ho.ls; have HO' := Lib.hid ho; have HB' := Lib.hid hb2; clear hg ho hb2 hls
              go_wp2_with fail
              go_roundg (n2 - (j + 1))
              case measure => have := HK.out; omega
              case rel =>
                refine ⟨j + 1, l', by omega, rfl, by go_num, HO'.out, ?_, ?_, ?_⟩
                · have := hol.out; show l'.length = _; rw [HL'.out]; simp; omega
                · rw [HL'.out]; exact HS.out
                · exact (HBB.out.alloc HBB.out.size _).trans HB'.out
        · obtain rfl : j = n2 := by omega
          have HF : Hid (val 256 o = shrI (val W l) (s : Int)) := Lib.hid (by
            have h1 := hv.out
            rw [List.drop_of_length_le (by have := HYL.out; omega), val_nil, Nat.zero_div, Nat.mul_zero, Nat.add_zero, HYV.out, Nat.div_div_eq_div_mul, show (256 : Nat) = 2 ^ 8 by rfl, ← Nat.pow_mul, ← Nat.pow_add] at h1
            unfold shrI
            rw [← HX.out, Int.toNat_natCast, ← show 8 * q + s % 8 = s by have := HQ.out; omega]
            exact h1)
          obtain ⟨a', cap', rfl, hls⟩ := HO.out.ls
          clear hls hv
          go_wp2_with fail
          refine Calls.mono (large_c _ o _ HO.out.ls (by have := hol.out; omega)) ?_; rintro e wc ⟨v', rfl, hr, hbc⟩
          have HRR := Lib.hid hr; have HBC := Lib.hid hbc; clear hr hbc
          go_wp2_with fail
          go_ret
          exact ⟨v', rfl, by rw [← HF.out]; exact HRR.out.mono (Nat.le_trans HB.out.size HBB.out.size), bel_trans (bel_trans HB.out HBB.out) HBC.out⟩

end Go.Proofs.YtkbhchlecokpiaaGreat

/-! ## RN: The reference of layer 1 over numbers. -/
set_option linter.unusedVariables false
set_option linter.unusedSimpArgs false
namespace Go.Proofs.YtkbhchlecokpiaaGreat
open Go Go.RowKit Tw
set_option linter.unusedVariables false
set_option linter.unusedSimpArgs false

theorem radd_n (v1 v2 : Value) (X Y k1 k2 k : Nat) (w : World) (h1 : Nv w v1 X k1) (h2 : Nv w v2 Y k2) (hk1 : k1 < k) (hk2 : k2 < k) (hk : k ≤ 2000) :
    Calls Tryz.prog 144 #[v1, v2] w (Ret w fun v w' => Nc w' v (X + Y) k) := by
  have a1 := h1.lt; have a2 := h2.lt
  obtain ⟨l1, g1, rfl, i1⟩ := h1
  obtain ⟨l2, g2, rfl, i2⟩ := h2
  refine (radd_c v1 v2 l1 l2 w g1 g2 (by omega) (by omega)).mono ?_
  rintro e w' ⟨v', rfl, h4, h5⟩
  refine ⟨v', rfl, own_nc h4 ?_, h5⟩
  have b1 := Nat.pow_le_pow_right W_pos (show k1 ≤ k - 1 by omega)
  have b2 := Nat.pow_le_pow_right W_pos (show k2 ≤ k - 1 by omega)
  have e : W ^ k = W ^ (k - 1) * W := by rw [← Nat.pow_succ]; congr 1; omega
  have := Nat.mul_le_mul_left (W ^ (k - 1)) W_two
  omega

theorem rsub_n (v1 v2 : Value) (X Y k1 k2 : Nat) (w : World) (h1 : Nv w v1 X k1) (h2 : Nv w v2 Y k2) (hk1 : k1 ≤ 2000) (hk2 : k2 ≤ 2000) :
    Calls Tryz.prog 178 #[v1, v2] w (Ret w fun v w' => Nc w' v (X - Y) k1) := by
  have a1 := h1.lt
  obtain ⟨l1, g1, rfl, i1⟩ := h1
  obtain ⟨l2, g2, rfl, i2⟩ := h2
  refine (rsubw_c v1 v2 l1 l2 w g1 g2 (by omega) (by omega)).mono ?_
  rintro e w' ⟨v', rfl, h4, h5⟩
  exact ⟨v', rfl, own_nc h4 (by omega), h5⟩

theorem rcmp_n (v1 v2 : Value) (X Y k1 k2 : Nat) (c : Int) (w : World) (h1 : Nv w v1 X k1) (h2 : Nv w v2 Y k2) (hk1 : k1 ≤ 2000) (hk2 : k2 ≤ 2000) (hc : cmpN X Y = c) :
    Calls Tryz.prog 177 #[v1, v2] w (RetIs w (.int .i64 c)) := by
  obtain ⟨l1, g1, rfl, i1⟩ := h1
  obtain ⟨l2, g2, rfl, i2⟩ := h2
  refine (rcmpw_c v1 v2 l1 l2 w g1 g2 (by omega) (by omega)).mono ?_
  rintro e w' ⟨rfl, h5⟩
  exact ⟨by rw [hc], h5⟩

theorem rbits_n (v1 : Value) (X k1 m : Nat) (w : World) (h1 : Nv w v1 X k1) (hk1 : k1 ≤ 2000) (hm : bitsN X = m) :
    Calls Tryz.prog 145 #[v1] w (RetIs w (.int .i64 (m : Int))) := by
  subst hm
  obtain ⟨l1, g1, rfl, i1⟩ := h1
  refine (rbits_c v1 l1 w g1 (by omega)).mono ?_
  rintro e w' ⟨rfl, h5⟩
  exact ⟨rfl, h5⟩

theorem rshr_n (v1 : Value) (X k1 : Nat) (s : Int) (w : World) (h1 : Nv w v1 X k1) (hk1 : k1 ≤ 2000) (hs : s ≤ 9223372036854775807) (hs2 : -9223372036854775808 ≤ s) :
    Calls Tryz.prog 176 #[v1, .int .i64 s] w (Ret w fun v w' => Nc w' v (shrI X s) k1) := by
  have a1 := h1.lt
  obtain ⟨l1, g1, rfl, i1⟩ := h1
  refine (rshr_c v1 l1 s w g1 (by omega) hs hs2).mono ?_
  rintro e w' ⟨v', rfl, h4, h5⟩
  exact ⟨v', rfl, own_nc h4 (Nat.lt_of_le_of_lt (Nat.div_le_self _ _) a1), h5⟩

theorem shlI_lt {X k1 k : Nat} {s : Int} (h : X < W ^ k1) (hk : 1048576 < s ∨ (64 * k1 : Int) + s ≤ 64 * k ∧ k1 ≤ k) : shlI X s < W ^ k := by
  unfold shlI
  split
  · exact Nat.pow_pos W_pos
  · rename_i hf
    obtain ⟨h1, h2⟩ := hk.resolve_left hf
    rw [W_powk] at h ⊢
    have h6 := Nat.mul_lt_mul_of_pos_right h (Nat.two_pow_pos s.toNat)
    rw [← Nat.pow_add] at h6
    exact Nat.lt_of_lt_of_le h6 (Nat.pow_le_pow_right (by omega) (by omega))

theorem rshl_n (v1 : Value) (X k1 k : Nat) (s : Int) (w : World) (h1 : Nv w v1 X k1) (hk1 : k1 ≤ 2000) (hs : s ≤ 7000 ∨ 1048576 < s) (hs2 : -9223372036854775808 ≤ s) (hk : 1048576 < s ∨ (64 * k1 : Int) + s ≤ 64 * k ∧ k1 ≤ k) :
    Calls Tryz.prog 179 #[v1, .int .i64 s] w (Ret w fun v w' => Nc w' v (shlI X s) k) := by
  have a1 := shlI_lt h1.lt hk
  obtain ⟨l1, g1, rfl, i1⟩ := h1
  by_cases hf : 1048576 < s
  · refine (rshl_far v1 s w hf).mono ?_
    rintro e w' ⟨rfl, rfl⟩
    refine ⟨_, rfl, ?_, Below.refl _ _⟩
    have : shlI (val W l1) s = 0 := by unfold shlI; rw [if_pos hf]
    rw [this]
    exact ⟨by rw [digs_zero]; exact (Own.nil .u64 29 W w.heap.size w).ls, by rw [digs_zero]; exact Nat.zero_le _⟩
  · refine (rshl_c v1 l1 s w g1 (by omega) (hs.resolve_right hf) hs2).mono ?_
    rintro e w' ⟨v', rfl, h4, h5⟩
    exact ⟨v', rfl, own_nc h4 a1, h5⟩

/-- digits of 8 bits that count X -/
def Nd (w : World) (v : Value) (X : Nat) : Prop := Sd w v (digs 256 X)
theorem Nd.below {w w' : World} {v : Value} {X : Nat} (h : Nd w v X) (hb : Below w.heap.size w w') : Nd w' v X := Ls.below h hb

theorem small_n (v1 : Value) (X k1 : Nat) (w : World) (h1 : Nv w v1 X k1) (hk1 : k1 ≤ 2000) :
    Calls Tryz.prog 171 #[v1] w (Ret w fun v w' => Nd w' v X) := by
  obtain ⟨l1, g1, rfl, i1⟩ := h1
  refine (small_c v1 l1 w g1 (by omega)).mono ?_
  rintro e w' ⟨v', rfl, h4, h5⟩
  exact ⟨v', rfl, h4.ls, h5⟩

theorem large_n (v1 : Value) (X k : Nat) (w : World) (h1 : Nd w v1 X) (hX : X < W ^ k) (hk1 : k ≤ 2000) :
    Calls Tryz.prog 170 #[v1] w (Ret w fun v w' => Nc w' v X k) := by
  have hl : (digs 256 X).length ≤ 8 * k := length_digs_le two56 (by rw [← W256]; exact hX)
  refine (large_c v1 _ w h1 (by omega)).mono ?_
  rintro e w' ⟨v', rfl, h4, h5⟩
  rw [val_digs two56] at h4
  exact ⟨v', rfl, own_nc h4 hX, h5⟩

theorem copy_n (v1 : Value) (X k1 : Nat) (w : World) (h1 : Nv w v1 X k1) (hk1 : k1 ≤ 2000) :
    Calls Tryz.prog 124 #[v1] w (Ret w fun v w' => Nv w' v X k1) := by
  obtain ⟨l1, g1, rfl, i1⟩ := h1
  refine (copyWords_c v1 l1 w g1 (by omega)).mono ?_
  rintro e w' ⟨v', rfl, h4, h5⟩
  exact ⟨v', rfl, ⟨l1, h4.ls, rfl, i1⟩, h5⟩

/-- the first word of a number -/
theorem nc_head {w : World} {v : Value} {X k : Nat} (h : Nc w v X k) (hX : 0 < X) : ∃ b off n c x, v = .slice (some ⟨b, off, none⟩) n c ∧ 0 < n ∧ n ≤ k ∧ x < 18446744073709551616 ∧ x % 2 = X % 2 ∧ w.cell? ⟨b, off, none⟩ = some (.int .u64 ((x : Nat) : Int)) := by
  obtain ⟨⟨a, c, rfl, hs⟩, h2⟩ := h
  have e := digs_pos W_two hX
  have hpos : 0 < (digs W X).length := by rw [e]; simp
  obtain ⟨b, off, rfl, hc⟩ := hs.2.2.2 (by intro h0; rw [h0] at hpos; simp at hpos)
  refine ⟨b, off, _, c, X % W, rfl, hpos, h2, by have := Nat.mod_lt X W_pos; unfold W at this ⊢; exact this, ?_, ?_⟩
  · unfold W; omega
  · have h0 := hc 0 hpos
    rw [Nat.add_zero] at h0
    rw [h0, e]; rfl
theorem nc_nil {w : World} {v : Value} {k : Nat} (h : Nc w v 0 k) : ∃ a c, v = .slice a 0 c := by
  obtain ⟨a, c, n, rfl, h1, h2⟩ := h.shape
  refine ⟨a, c, ?_⟩
  rw [h1, digs_zero]; rfl

end Go.Proofs.YtkbhchlecokpiaaGreat

/-! ## RMul: The reference of layer 1: Mul. -/
set_option linter.unusedVariables false
set_option linter.unusedSimpArgs false
namespace Tw
open Go Go.RowKit
/-- a step of a row: out[p] goes to s % 256, s / 256 is carried -/
theorem rmul_step {o' o y : List Nat} {p i k cy s x : Nat} (hp : p < o'.length) (hpe : p = i + k) (hsm : nth o' p = nth o p)
    (hv : val 256 (o'.take p) + 256 ^ p * cy = val 256 (o.take p) + 256 ^ i * (x * val 256 (y.take k))) (hs : s = nth o' p + cy + x * nth y k) :
    val 256 ((o'.set p (s % 256)).take (p + 1)) + 256 ^ (p + 1) * (s / 256) = val 256 (o.take (p + 1)) + 256 ^ i * (x * val 256 (y.take (k + 1))) := by
  rw [val_take_step, val_take_step, nth_set_eq hp, List.take_set_of_le (Nat.le_refl p), val_take_step, Nat.pow_succ]
  have h1 : 256 ^ p * (s % 256) + 256 ^ p * 256 * (s / 256) = 256 ^ p * s := by rw [Nat.mul_assoc, ← Nat.mul_add, Nat.mod_add_div]
  have h2 : 256 ^ p * s = 256 ^ p * nth o p + 256 ^ p * cy + 256 ^ p * (x * nth y k) := by rw [hs, hsm, Nat.mul_add, Nat.mul_add]
  have h3 : 256 ^ i * (x * (val 256 (y.take k) + 256 ^ k * nth y k)) = 256 ^ i * (x * val 256 (y.take k)) + 256 ^ p * (x * nth y k) := by
    rw [hpe, Nat.pow_add, Nat.mul_add, Nat.mul_add, Nat.mul_left_comm x, ← Nat.mul_assoc (256 ^ i) (256 ^ k)]
  rw [h3]
  generalize 256 ^ p = P at *
  omega

/-- the row's end: no carry is left; places above are as they were -/
theorem rmul_row {o' o a y : List Nat} {i k : Nat} (hk : y.length ≤ k) (hi : i < a.length) (hol : o'.length = o.length) (hlen : i + k ≤ o.length)
    (hsm : ∀ t, i + k ≤ t → nth o' t = nth o t)
    (hv : val 256 (o'.take (i + k)) = val 256 (o.take (i + k)) + 256 ^ i * (nth a i * val 256 (y.take k))) (hvo : val 256 o = val 256 (a.take i) * val 256 y) :
    val 256 o' = val 256 (a.take (i + 1)) * val 256 y := by
  have e : o'.drop (i + k) = o.drop (i + k) := by
    apply ext_nth
    · simp [hol]
    · intro j hj
      rw [nth_drop, nth_drop]
      exact hsm _ (by omega)
  rw [val_split 256 o' (i + k) (by omega), e, hv, List.take_of_length_le hk, val_take_step, Nat.add_mul, ← hvo, val_split 256 o (i + k) hlen, Nat.mul_assoc]
  omega
end Tw
namespace Go.Proofs.YtkbhchlecokpiaaGreat
open Go Go.RowKit Tw
set_option linter.unusedVariables false
set_option linter.unusedSimpArgs false

set_option maxRecDepth 100000 in
set_option maxHeartbeats 4000000 in
theorem rmul_c (v1 v2 : Value) (l1 l2 : List Nat) (w : World) (h1 : Wd w v1 l1) (h2 : Wd w v2 l2) (hs1 : l1.length ≤ 1000) (hs2 : l2.length ≤ 1000) :
    Calls Tryz.prog 139 #[v1, v2] w fun e w' => ∃ v', e = .returned v' ∧ OwnW w.heap.size w' v' (digs W (val W l1 * val W l2)) ∧ Below w.heap.size w w' := by
  have H1 := Lib.hid h1; have H2 := Lib.hid h2
  have hle1 := length_digs_le (b := 256) (k := 8 * l1.length) two56 (by rw [← W256]; exact val_lt h1.dig)
  have hle2 := length_digs_le (b := 256) (k := 8 * l2.length) two56 (by rw [← W256]; exact val_lt h2.dig)
  clear h1 h2
  go_enter Tryz.func139, Tryz.ntmps139
  go_wp2_with fail
  refine Calls.mono (small_c _ l1 _ H1.out (by omega)) ?_; rintro e wa ⟨t1, rfl, g1, hba⟩
  have H2a := Lib.hid (H2.out.below hba); clear H1 H2
  have BA := Lib.hid hba; have G1 := Lib.hid g1; clear hba g1
  go_wp2_with fail
  refine Calls.mono (small_c _ l2 _ H2a.out (by omega)) ?_; rintro e wb ⟨t2, rfl, g2, hbb⟩
  have G1b := Lib.hid (G1.out.below hbb).ls
  have G2b := Lib.hid g2.ls
  have BB := Lib.hid (bel_trans BA.out hbb); clear hbb g2 G1 H2a BA
  have E1 := Lib.hid (val_digs two56 (val W l1)); have E2 := Lib.hid (val_digs two56 (val W l2))
  generalize hA : val W l1 = A at *
  generalize hB : val W l2 = B at *
  have HA := Lib.hid hA; have HB0 := Lib.hid hB
  generalize digs 256 A = d1 at *
  generalize digs 256 B = d2 at *
  have D1 := Lib.hid G1b.out.dig; have D2 := Lib.hid G2b.out.dig
  obtain ⟨a1, c1, rfl, hx1⟩ := G1b
  obtain ⟨a2, c2, rfl, hx2⟩ := G2b
  have HX1 := Lib.hid hx1; have HX2 := Lib.hid hx2
  obtain ⟨n1, hn1⟩ : ∃ n, n = d1.length := ⟨_, rfl⟩
  obtain ⟨n2, hn2⟩ : ∃ n, n = d2.length := ⟨_, rfl⟩
  have HN1 := Lib.hid hn1; have HN2 := Lib.hid hn2
  have hm1 : n1 ≤ 8000 := by omega
  have hm2 : n2 ≤ 8000 := by omega
  rw [← hn1, ← hn2]
  obtain ⟨n, hn⟩ : ∃ n, n = n1 + n2 + 1 := ⟨_, rfl⟩
  have HN := Lib.hid hn
  have hnn : (n1 : Int) + (n2 : Int) + 1 = (n : Int) := by omega
  have hnb : n ≤ 16001 := by omega
  clear hx1 hx2 hn1 hn2 hA hB hle1 hle2 hn
  go_wp2_with (at_make; refine wpList_make_z _ rfl _ _ 65 rfl wb.heap.size 3 .i64 8 256 Tryz.underlying65 info_i64 .i64 .i64 _ _ n n rfl rfl rfl rfl (by omega) (by omega) (by unfold maxLen; omega) (Nat.le_refl _) (by omega) ?_; intro wm hown hbel hsz; have Hsz := Lib.hid hsz; clear hsz)
  go_loopg [8] n1 (fun k i wr => ∃ (j : Nat) (o : List Nat), j ≤ n1 ∧ k = n1 - j ∧ i = .int .i64 j ∧
    OwnD wb.heap.size wr (.slice (some ⟨wb.heap.size, 0, none⟩) n n) o ∧ Hid (o.length = n) ∧ Hid (val 256 o = val 256 (d1.take j) * val 256 d2) ∧ Hid (Below wb.heap.size wb wr) ∧ Hid (∀ t, j + n2 ≤ t → nth o t = 0))
  case atStart =>
    exact ⟨0, List.replicate n 0, Nat.zero_le _, rfl, rfl, hown, by show _ = _; simp, by show _ = _; simp [val, val_zeros], hbel, fun t _ => by simp [nth, List.getD, List.getElem?_replicate]; split <;> rfl⟩
  case round =>
    clear hown hbel
    obtain ⟨i, o, hi, hk, rfl, hown, hol, hv, HBB, hz⟩ := hrel
    obtain ⟨wo, rfl⟩ : ∃ wo : World, wo = wr := ⟨_, rfl⟩
    have HK := Lib.hid hk; have HO := Lib.hid hown
    clear hk hown
    by_cases hlt : i < n1
    · obtain ⟨b1, o1, rfl, hcl1⟩ := HX1.out.2.2.2 (by intro e; have := HN1.out; rw [e] at this; simp at this; omega)
      have HC1 := Lib.hid hcl1
      have hb1 : Hid (b1 < wb.heap.size) := Lib.hid (hcl1.lt (by have := HN1.out; omega))
      have X1 := Lib.hid (nth_dig D1.out (show i < d1.length by have := HN1.out; omega))
      have HV0 := hv
      clear hcl1
      go_wp2_with fail
      go_loopg [9, 10] (n2 + 1) (fun k c i2 wr => ∃ (j cy : Nat) (o' : List Nat), k = n2 + 1 - j ∧ j ≤ n2 + 1 ∧ i2 = .int .i64 j ∧ c = .int .i64 cy ∧ cy ≤ 255 ∧ Hid (j = n2 + 1 → cy = 0) ∧
        OwnD wb.heap.size wr (.slice (some ⟨wb.heap.size, 0, none⟩) n n) o' ∧ Hid (o'.length = n) ∧
        Hid (val 256 (o'.take (i + j)) + 256 ^ (i + j) * cy = val 256 (o.take (i + j)) + 256 ^ i * (nth d1 i * val 256 (d2.take j))) ∧ Hid (Below wb.heap.size wb wr) ∧ Hid (∀ t, i + j ≤ t → nth o' t = nth o t))
      case atStart => exact ⟨0, 0, o, rfl, by omega, rfl, rfl, by omega, fun _ => rfl, HO.out, hol.out, by show _ = _; simp [val], HBB.out, fun _ _ => rfl⟩
      case round =>
        clear HBB HO
        obtain ⟨j, cy, o', hk, hj, rfl, rfl, hcy, hcz, hown, hol', hv', HBB, hsm⟩ := hrel
        have HK2 := Lib.hid hk; have HO2 := Lib.hid hown
        have x3 := nth_digW (by omega) hown.dig (i + j)
        clear hk hown
        by_cases hlt2 : j < n2
        · obtain ⟨b2, o2, rfl, hcl2⟩ := HX2.out.2.2.2 (by intro e; have := HN2.out; rw [e] at this; simp at this; omega)
          have g2 : wr.cell? ⟨b2, o2 + j, none⟩ = some (.int .i64 ((nth d2 j : Nat) : Int)) := hcl2.below (hcl2.lt (by have := HN2.out; omega)) HBB.out _ (by have := HN2.out; omega)
          have g1 : wr.cell? ⟨b1, o1 + i, none⟩ = some (.int .i64 ((nth d1 i : Nat) : Int)) := HC1.out.below hb1.out HBB.out _ (by have := HN1.out; omega)
          have hin : i + j < n := by have := HN.out; omega
          have hcell := (show OwnD wb.heap.size wr (.slice (some ⟨wb.heap.size, 0, none⟩) o'.length n) o' by rw [hol'.out]; exact HO2.out).cell (i := i + j) (by have := hol'.out; omega)
          have hfree := HO2.out.free hol'.out.symm (i + j)
          have x1 := X1.out
          have x2 := nth_digW (by omega) D2.out j
          obtain ⟨m, hm⟩ : ∃ m, m = nth d1 i * nth d2 j := ⟨_, rfl⟩
          have hm2 : m ≤ 65025 := by rw [hm]; exact Nat.mul_le_mul (show nth d1 i ≤ 255 by omega) (show nth d2 j ≤ 255 by omega)
          have hmi : ((nth d1 i : Nat) : Int) * ((nth d2 j : Nat) : Int) = (m : Int) := by rw [hm]; simp
          obtain ⟨s, hs⟩ : ∃ s, s = nth o' (i + j) + cy + m := ⟨_, rfl⟩
          have hsi : ((nth o' (i + j) : Nat) : Int) + (cy : Int) + (m : Int) = (s : Int) := by omega
          have hsb : s ≤ 65535 := by omega
          have hfin := Lib.hid (rmul_step (x := nth d1 i) (y := d2) (k := j) (s := s) (by rw [hol'.out]; exact hin) rfl (hsm.out _ (Nat.le_refl _)) hv'.out (by rw [hs, hm]))
          have t1 : (s : Int).tmod 256 = ((s % 256 : Nat) : Int) := rfl
          have t2 : (s : Int).tdiv 256 = ((s / 256 : Nat) : Int) := rfl
          clear hs hm hcl2
          go_wp2_with fail
          go_quiet (fail)
          go_wp2_with fail
          go_roundg (n2 + 1 - (j + 1))
          case measure => have := HK2.out; omega
          case rel =>
            refine ⟨j + 1, s / 256, o'.set (i + j) (s % 256), rfl, by omega, by go_num, by go_num, by omega, fun h => by omega, ?_, ?_, hfin.out, ?_, ?_⟩
            · exact HO2.out.set hol'.out.symm _ _ (Nat.mod_lt _ (by omega))
            · have := hol'.out; show _ = _; simpa using this
            · exact (bel_drawn HBB.out _).setCell (Nat.le_refl _) _
            · intro t ht; rw [nth_set_ne (by omega)]; exact hsm.out t (by omega)
        · have hzd : nth d2 j = 0 := nth_ge (by have := HN2.out; omega)
          by_cases hc0 : cy = 0
          · have hfin := Lib.hid (rmul_row (a := d1) (y := d2) (k := j) (by have := HN2.out; omega) (by have := HN1.out; omega) (by rw [hol'.out, hol.out]) (by rw [hol.out, HN.out]; omega) hsm.out (by have := hv'.out; rw [hc0, Nat.mul_zero, Nat.add_zero] at this; exact this) HV0.out)
            have HZN : Hid (∀ t, (i + 1) + n2 ≤ t → nth o' t = 0) := Lib.hid (fun t ht => by rw [hsm.out t (by omega)]; exact hz.out t (by omega))
            subst hc0
            clear x3 hzd hv'
            go_wp2_with fail
            go_roundg (n1 - (i + 1))
            case measure => have := HK.out; omega
            case rel => exact ⟨i + 1, o', by omega, rfl, by go_num, HO2.out, hol', hfin, HBB, HZN⟩
          · have hcp : 0 < cy := by omega
            have hjn : Hid (j = n2) := Lib.hid (by have := hcz.out; omega)
            have hin : i + j < n := by have := HN.out; have := hjn.out; omega
            have hcell := (show OwnD wb.heap.size wr (.slice (some ⟨wb.heap.size, 0, none⟩) o'.length n) o' by rw [hol'.out]; exact HO2.out).cell (i := i + j) (by have := hol'.out; omega)
            have hfree := HO2.out.free hol'.out.symm (i + j)
            have h00 : nth o' (i + j) = 0 := by rw [hsm.out _ (Nat.le_refl _)]; exact hz.out _ (by have := hjn.out; omega)
            have hfin := Lib.hid (rmul_step (x := nth d1 i) (y := d2) (k := j) (s := cy) (by rw [hol'.out]; exact hin) rfl (hsm.out _ (Nat.le_refl _)) hv'.out (by rw [hzd, h00]; omega))
            rw [h00] at hcell
            have t1 : (cy : Int).tmod 256 = ((cy % 256 : Nat) : Int) := rfl
            have t2 : (cy : Int).tdiv 256 = ((cy / 256 : Nat) : Int) := rfl
            clear hzd h00 x3 hc0
            go_wp2_with fail
            go_roundg (n2 + 1 - (j + 1))
            case measure => have := HK2.out; have := hjn.out; omega
            case rel =>
              refine ⟨j + 1, cy / 256, o'.set (i + j) (cy % 256), rfl, by have := hjn.out; omega, by go_num, by go_num, by omega, fun h => by omega, ?_, ?_, hfin.out, ?_, ?_⟩
              · exact HO2.out.set hol'.out.symm _ _ (Nat.mod_lt _ (by omega))
              · have := hol'.out; show _ = _; simpa using this
              · exact HBB.out.setCell (Nat.le_refl _) _
              · intro t ht; rw [nth_set_ne (by omega)]; exact hsm.out t (by omega)
    · obtain rfl : i = n1 := by omega
      have HV : Hid (val 256 o = A * B) := Lib.hid (by rw [hv.out, List.take_of_length_le (by have := HN1.out; omega), E1.out, E2.out])
      have HSd : Hid (Sd wo (.slice (some ⟨wb.heap.size, 0, none⟩) n n) o) := Lib.hid (by have := HO.out.ls; exact ⟨_, _, by rw [hol.out], HO.out.lsS⟩)
      clear hv
      go_wp2_with fail
      refine Calls.mono (large_c _ o _ HSd.out (by have := hol.out; omega)) ?_; rintro e wc ⟨v', rfl, hr, hbc⟩
      have HR := Lib.hid hr; have HBC := Lib.hid hbc; clear hr hbc
      go_wp2_with fail
      go_ret
      refine ⟨v', rfl, ?_, bel_trans (bel_trans BB.out HBB.out) HBC.out⟩
      rw [HA.out, HB0.out, ← HV.out]; exact HR.out.mono (bel_trans BB.out HBB.out).size

theorem rmul_n (v1 v2 : Value) (X Y k1 k2 : Nat) (w : World) (h1 : Nv w v1 X k1) (h2 : Nv w v2 Y k2) (hk1 : k1 ≤ 1000) (hk2 : k2 ≤ 1000) :
    Calls Tryz.prog 139 #[v1, v2] w (Ret w fun v w' => Nc w' v (X * Y) (k1 + k2)) := by
  have a1 := h1.lt; have a2 := h2.lt
  obtain ⟨l1, g1, rfl, i1⟩ := h1
  obtain ⟨l2, g2, rfl, i2⟩ := h2
  refine (rmul_c v1 v2 l1 l2 w g1 g2 (by omega) (by omega)).mono ?_
  rintro e w' ⟨v', rfl, h4, h5⟩
  exact ⟨v', rfl, own_nc h4 (by rw [Nat.pow_add]; exact Nat.mul_lt_mul'' a1 a2), h5⟩

end Go.Proofs.YtkbhchlecokpiaaGreat

/-! ## RDiv: The reference of layer 1: DivMod. -/
set_option linter.unusedVariables false
set_option linter.unusedSimpArgs false
namespace Tw
open Go Go.RowKit
theorem and1_all : ∀ n : Fin 256, bits .and .i64 ((n.val : Nat) : Int) 1 = ((n.val % 2 : Nat) : Int) := by decide +kernel
theorem and1_small {n : Nat} (h : n < 256) : bits .and .i64 (n : Int) 1 = ((n % 2 : Nat) : Int) := and1_all ⟨n, h⟩

section
variable {k : IntKind} {e : TypeId} {B base : Nat} {w w' : World} {v : Value} {l : List Nat}
/-- a store into a block below the row's own -/
theorem Own.setLow (h : Own k e B base w v l) {p : Addr} (hp : p.block < base) (u : Value) : Own k e B base (w.setCell p u) v l := by
  refine ⟨⟨h.1.1, ?_⟩, h.2⟩
  rcases h.1.2 with h1 | ⟨g, cap, cur, h1, h2, h3, r⟩
  · exact .inl h1
  · refine .inr ⟨g, cap, cur, h1, h2, ?_, r⟩
    rw [Below.heap_setCell w p u g (by omega)]
    exact h3
end

/-- one bit of the division -/
theorem rdiv_bit {P Q R Y b : Nat} (h : P = Q * Y + R) (hR : R < Y) : (Y ≤ 2 * R + b → 2 * P + b = (2 * Q + 1) * Y + (2 * R + b - Y)) ∧ 2 * P + b = 2 * Q * Y + (2 * R + b) := by
  have e : 2 * Q * Y = 2 * (Q * Y) := Nat.mul_assoc 2 Q Y
  constructor
  · intro h1
    rw [Nat.add_mul, Nat.one_mul, e]
    omega
  · rw [e]; omega
theorem rdiv_step {D x m Qn ql Y R : Nat} (hm : m < 8) (h : D * 2 ^ (8 - (m + 1)) + x / 2 ^ (m + 1) = (Qn * 2 ^ (8 - (m + 1)) + ql) * Y + R) :
    D * 2 ^ (8 - m) + x / 2 ^ m = (Qn * 2 ^ (8 - m) + 2 * ql) * Y + (2 * R + x / 2 ^ m % 2) := by
  have e1 : 2 ^ (8 - m) = 2 * 2 ^ (8 - (m + 1)) := by rw [show 8 - m = (8 - (m + 1)) + 1 by omega, Nat.pow_succ, Nat.mul_comm]
  have e2 : x / 2 ^ (m + 1) = x / 2 ^ m / 2 := by rw [Nat.pow_succ, Nat.div_div_eq_div_mul]
  rw [e2] at h
  rw [e1]
  generalize 2 ^ (8 - (m + 1)) = p at *
  have e3 : (Qn * (2 * p) + 2 * ql) * Y = 2 * ((Qn * p + ql) * Y) := by
    rw [← Nat.mul_assoc 2, show Qn * (2 * p) + 2 * ql = 2 * (Qn * p + ql) by rw [Nat.mul_add, Nat.mul_left_comm]]
  rw [e3, Nat.mul_left_comm]
  omega
theorem rdiv_step1 {D x m Qn ql Y R : Nat} (hm : m < 8) (h : D * 2 ^ (8 - (m + 1)) + x / 2 ^ (m + 1) = (Qn * 2 ^ (8 - (m + 1)) + ql) * Y + R) (hY : Y ≤ 2 * R + x / 2 ^ m % 2) :
    D * 2 ^ (8 - m) + x / 2 ^ m = (Qn * 2 ^ (8 - m) + (2 * ql + 1)) * Y + (2 * R + x / 2 ^ m % 2 - Y) := by
  rw [rdiv_step hm h, ← Nat.add_assoc (Qn * 2 ^ (8 - m)), Nat.add_mul _ 1 Y, Nat.one_mul]
  omega
theorem wrap64_nat {n : Nat} (h : n < 65536) : wrap64 (n : Int) = (n : Int) := by unfold wrap64; omega
theorem ql_lt {ql m : Nat} (hm : m < 8) (h : ql < 2 ^ (8 - (m + 1))) : (2 * ql + 1) < 2 ^ (8 - m) := by
  rw [show 8 - m = (8 - (m + 1)) + 1 by omega, Nat.pow_succ]; omega
theorem ql_byte {c m : Nat} (hm : m < 8) (h : c < 2 ^ (8 - m)) : c * 2 ^ m < 256 := by
  have := Nat.mul_lt_mul_of_pos_right h (Nat.two_pow_pos m)
  rw [← Nat.pow_add, show 8 - m + m = 8 by omega] at this
  exact this
end Tw
namespace Go.Proofs.YtkbhchlecokpiaaGreat
open Go Go.RowKit Tw
set_option linter.unusedVariables false
set_option linter.unusedSimpArgs false

set_option maxRecDepth 100000 in
set_option maxHeartbeats 4000000 in
theorem rdivmod_c (v1 v2 : Value) (l1 l2 : List Nat) (w : World) (h1 : Wd w v1 l1) (h2 : Wd w v2 l2) (hs1 : l1.length ≤ 1000) (hs2 : l2.length ≤ 1000) :
    Calls Tryz.prog 148 #[v1, v2] w fun e w' => ∃ u1 u2, e = .returned (.tuple #[u1, u2]) ∧ (OwnW w.heap.size w' u1 (digs W (val W l1 / val W l2)) ∧ OwnW w.heap.size w' u2 (digs W (remN (val W l1) (val W l2)))) ∧ Below w.heap.size w w' := by
  have H1 := Lib.hid h1; have H2 := Lib.hid h2
  have hle1 := length_digs_le (b := 256) (k := 8 * l1.length) two56 (by rw [← W256]; exact val_lt h1.dig)
  have hle2 := length_digs_le (b := 256) (k := 8 * l2.length) two56 (by rw [← W256]; exact val_lt h2.dig)
  clear h1 h2
  go_enter Tryz.func148, Tryz.ntmps148
  go_wp2_with fail
  refine Calls.mono (small_c _ l1 _ H1.out (by omega)) ?_; rintro e wa ⟨t1, rfl, g1, hba⟩
  have H2a := Lib.hid (H2.out.below hba); clear H1 H2
  have BA := Lib.hid hba; have G1 := Lib.hid g1; clear hba g1
  go_wp2_with fail
  refine Calls.mono (small_c _ l2 _ H2a.out (by omega)) ?_; rintro e wb ⟨t2, rfl, g2, hbb⟩
  have G1b := Lib.hid (G1.out.below hbb).ls
  have G2b := Lib.hid g2.ls
  have BB := Lib.hid (bel_trans BA.out hbb); clear hbb g2 G1 H2a BA
  obtain ⟨X, hX⟩ : ∃ X, X = val W l1 := ⟨_, rfl⟩
  obtain ⟨Y, hY⟩ : ∃ Y, Y = val W l2 := ⟨_, rfl⟩
  have HX := Lib.hid hX; have HY := Lib.hid hY
  rw [← hX] at G1b hle1
  rw [← hY] at G2b hle2
  clear hX hY
  by_cases hy0 : Y = 0
  · have HQ : Hid (digs W (val W l1 / val W l2) = []) := Lib.hid (by rw [← HY.out, hy0, Nat.div_zero, digs_zero])
    have HR : Hid (digs W (remN (val W l1) (val W l2)) = []) := Lib.hid (by rw [← HY.out, hy0]; unfold remN; rw [if_pos rfl, digs_zero])
    rw [hy0, digs_zero] at G2b
    obtain ⟨a2, c2, rfl, hx2⟩ := G2b
    clear hx2 hy0 hle2
    go_wp2_with fail
    go_ret2
    exact ⟨_, _, rfl, ⟨by rw [HQ.out]; exact Own.nil _ _ _ _ _, by rw [HR.out]; exact Own.nil _ _ _ _ _⟩, BB.out⟩
  · have hyp : 0 < Y := by omega
    have E1 := Lib.hid (val_digs two56 X)
    have hdy : 0 < (digs 256 Y).length := by rw [digs_pos two56 hyp]; simp
    have HYP := Lib.hid hyp
    generalize hd1 : digs 256 X = d1 at *
    have D1 := Lib.hid G1b.out.dig
    have HS2 := G2b
    obtain ⟨a1, c1, rfl, hx1⟩ := G1b
    obtain ⟨a2, c2, rfl, hx2⟩ := G2b
    have HX1 := Lib.hid hx1
    obtain ⟨n1, hn1⟩ : ∃ n, n = d1.length := ⟨_, rfl⟩
    obtain ⟨n2, hn2⟩ : ∃ n, n = (digs 256 Y).length := ⟨_, rfl⟩
    have HN1 := Lib.hid hn1; have HN2 := Lib.hid hn2
    have hm1 : n1 ≤ 8000 := by omega
    have hm2 : n2 ≤ 8000 := by omega
    have hm3 : 0 < n2 := by omega
    have hm4 : ((n2 : Int) == 0) = false := by rw [beq_eq_false_iff_ne]; omega
    rw [← hn1, ← hn2]
    rw [← hn2] at HS2
    clear hx1 hx2 hn1 hn2 hd1 hle1 hle2 hdy hy0 hyp
    go_wp2_with (at_make; refine wpList_make_z _ rfl _ _ 65 rfl wb.heap.size 3 .i64 8 256 Tryz.underlying65 info_i64 .i64 .i64 _ _ n1 n1 rfl rfl rfl rfl (by omega) (by omega) (by unfold maxLen; omega) (Nat.le_refl _) (by omega) ?_; intro wm hown hbel hsz; have Hsz := Lib.hid hsz; clear hsz)
    go_loopg [9, 10] n1 (fun k rv i wr => ∃ (R : Nat) (q : List Nat) (c : Int), k ≤ n1 ∧ i = .int .i64 c ∧ c = (k : Int) - 1 ∧ OwnD (wb.heap.size + 1) wr rv (digs 256 R) ∧ Hid (R < Y) ∧
      OwnD wb.heap.size wr (.slice (some ⟨wb.heap.size, 0, none⟩) n1 n1) q ∧ Hid (q.length = n1) ∧ Hid (val 256 (d1.drop k) = val 256 (q.drop k) * Y + R) ∧ Hid (Below wb.heap.size wb wr) ∧ Hid (∀ t, t < k → nth q t = 0) ∧ Hid (wb.heap.size < wr.heap.size))
    case atStart =>
      refine ⟨0, List.replicate n1 0, (n1 : Int) - 1, Nat.le_refl _, rfl, rfl, ?_, HYP.out, hown, by show _ = _; simp, ?_, hbel, fun t _ => by simp [nth, List.getD, List.getElem?_replicate]; split <;> rfl, by have := Hsz.out; show _ < _; omega⟩
      · rw [digs_zero]; exact Own.nil _ _ _ _ _
      · show _ = _
        rw [List.drop_of_length_le (by have := HN1.out; omega), List.drop_of_length_le (by simp)]; simp [val]
    case round =>
      clear hown hbel
      obtain ⟨R, q, c, hk, rfl, hc, hr, hR, hown, hol, hv, HBB, hz, hsz⟩ := hrel
      have HO := Lib.hid hown; have HRR := Lib.hid hr
      clear hown hr
      by_cases hk0 : 0 < gk
      · obtain ⟨i, rfl⟩ : ∃ i, gk = i + 1 := ⟨gk - 1, by omega⟩
        obtain rfl : c = (i : Int) := by omega
        obtain ⟨b1, o1, rfl, hcl1⟩ := HX1.out.2.2.2 (by intro e; have := HN1.out; rw [e] at this; simp at this; omega)
        have HC1 := Lib.hid hcl1
        have hb1 : Hid (b1 < wb.heap.size) := Lib.hid (hcl1.lt (by have := HN1.out; omega))
        have X1 := Lib.hid (nth_dig D1.out (show i < d1.length by have := HN1.out; omega))
        have HV0 := hv
        clear hcl1 hc
        obtain ⟨x, hx⟩ : ∃ x, x = nth d1 i := ⟨_, rfl⟩
        have HXX := Lib.hid hx
        obtain ⟨Qn, hQn⟩ : ∃ Qn, Qn = val 256 (q.drop (i + 1)) := ⟨_, rfl⟩
        have HQN := Lib.hid hQn
        clear hx hQn
        go_wp2_with fail
        go_loopg [9, 11] 8 (fun b rv s wr => ∃ (R2 ql : Nat) (q2 : List Nat) (c : Int), b ≤ 8 ∧ s = .int .i64 c ∧ c = (b : Int) - 1 ∧ OwnD (wb.heap.size + 1) wr rv (digs 256 R2) ∧ Hid (R2 < Y) ∧
          OwnD wb.heap.size wr (.slice (some ⟨wb.heap.size, 0, none⟩) n1 n1) q2 ∧ Hid (q2.length = n1) ∧ Hid (val 256 (d1.drop (i + 1)) * 2 ^ (8 - b) + x / 2 ^ b = (Qn * 2 ^ (8 - b) + ql) * Y + R2) ∧ Hid (ql < 2 ^ (8 - b)) ∧ Hid (nth q2 i = ql * 2 ^ b) ∧ Hid (q2.drop (i + 1) = q.drop (i + 1)) ∧
          Hid (Below wb.heap.size wb wr) ∧ Hid (∀ t, t < i → nth q2 t = 0) ∧ Hid (wb.heap.size < wr.heap.size))
        case atStart =>
          refine ⟨R, 0, q, 7, Nat.le_refl _, rfl, rfl, HRR.out, hR, HO.out, hol, ?_, by show 0 < 2 ^ 0; omega, ?_, rfl, HBB, fun t ht => hz.out t (by omega), hsz⟩
          · show _ = _
            have : x / 2 ^ 8 = 0 := Nat.div_eq_of_lt (by have := X1.out; rw [← HXX.out] at this; omega)
            rw [this, hv.out, HQN.out]; simp
          · show _ = _; rw [hz.out i (by omega), Nat.zero_mul]
        case round =>
          clear HO HRR hR hol hv hz HBB hsz
          obtain ⟨R2, ql, q2, c, hb, rfl, hc, hr, hR, hown, hol, hv, hql, hqi, hqd, HBB, hz, hsz⟩ := hrel
          have HO := Lib.hid hown; have HRR := Lib.hid hr
          clear hown hr
          by_cases hb0 : 0 < gk
          · obtain ⟨m, rfl⟩ : ∃ m, gk = m + 1 := ⟨gk - 1, by omega⟩
            obtain rfl : c = (m : Int) := by omega
            have g1 : wr.cell? ⟨b1, o1 + i, none⟩ = some (.int .i64 ((x : Nat) : Int)) := by rw [HXX.out]; exact HC1.out.below hb1.out HBB.out _ (by have := HN1.out; omega)
            have hx2 : x < 256 := by rw [HXX.out]; exact X1.out
            obtain ⟨y, hy⟩ : ∃ y, y = x / 2 ^ m := ⟨_, rfl⟩
            have hyi : (x : Int) / 2 ^ m = (y : Int) := by rw [hy]; simp
            have hy2 : y < 256 := by rw [hy]; exact Nat.lt_of_le_of_lt (Nat.div_le_self _ _) hx2
            have hyb := and1_small hy2
            have hm8 : m < 8 := by omega
            have HYY := Lib.hid hy
            have hbit : y % 2 ≤ 1 := by omega
            obtain ⟨bt, hbt⟩ : ∃ bt, bt = y % 2 := ⟨_, rfl⟩
            rw [← hbt] at hyb hbit
            have HBT := Lib.hid hbt
            clear hc hy hbt
            have hlr := length_digs_le (b := 256) (n := R2) (k := n2) two56 (Nat.lt_trans hR.out (by rw [HN2.out]; exact lt_pow_length two56 Y))
            have HVR := Lib.hid (val_digs two56 R2)
            have HLR : Hid ((digs 256 R2).length ≤ 100000) := Lib.hid (by omega)
            have HQL1 := Lib.hid (ql_lt hm8 hql.out)
            obtain ⟨Z, hZ⟩ : ∃ Z, Z = 2 * R2 + bt := ⟨_, rfl⟩
            have HZ := Lib.hid hZ
            have HZB : Hid (Z = 2 * R2 + x / 2 ^ m % 2) := Lib.hid (by rw [hZ, HBT.out, HYY.out])
            have hlz := length_digs_le (b := 256) (n := Z) (k := n2 + 1) two56 (by
              have h1 : R2 < 256 ^ n2 := Nat.lt_trans hR.out (by rw [HN2.out]; exact lt_pow_length two56 Y)
              rw [Nat.pow_succ]; omega)
            have HLZ : Hid ((digs 256 Z).length ≤ 100000) := Lib.hid (by omega)
            clear hlr hlz hZ
            go_wp2_with fail
            refine Calls.mono (rtwice_c _ _ bt _ HRR.out.ls HLR.out hbit) ?_; rintro e w1 ⟨v', rfl, hr1, hb1'⟩
            rw [HVR.out, ← HZ.out] at hr1
            have HR1 := Lib.hid hr1; have HB1 := Lib.hid hb1'
            have HO1 := Lib.hid (HO.out.below hb1'); have HBB1 := Lib.hid (bel_trans HBB.out hb1')
            have HSY := Lib.hid ((Ls.below HS2 (bel_trans HBB.out hb1') : Sd w1 (.slice a2 n2 c2) (digs 256 Y)))
            have HSZ : Hid (wb.heap.size < w1.heap.size) := Lib.hid (Nat.lt_of_lt_of_le hsz.out hb1'.size)
            clear hr1 hb1' g1 HO HRR
            by_cases hcmp : Z < Y
            · have HC := Lib.hid (cmpN_lt hcmp)
              have HCP := Lib.hid hcmp
              clear hcmp
              go_wp2_with fail
              refine Calls.mono (rcmp_c _ _ _ _ _ HR1.out.ls HSY.out) ?_; rintro e w2 ⟨rfl, nd, rfl⟩
              rw [HC.out]
              go_wp2_with fail
              go_roundg m
              case measure => omega
              case rel =>
                refine ⟨Z, 2 * ql, q2, (m : Int) - 1, by omega, by go_num, rfl, ?_, HCP.out, ?_, hol, ?_, ?_, ?_, hqd, ?_, hz, HSZ⟩
                · exact (HR1.out.mono (by have := hsz.out; omega)).drawn nd
                · exact HO1.out.drawn nd
                · rw [HZB.out]; exact rdiv_step hm8 hv.out
                · have := HQL1.out; show _ < _; omega
                · show _ = _; rw [hqi.out, Nat.pow_succ, Nat.mul_comm (2 ^ m) 2, ← Nat.mul_assoc, Nat.mul_comm 2 ql]
                · exact bel_drawn HBB1.out nd
            · obtain ⟨cc, hcc, hc0⟩ := @cmp_ge Z Y (by omega)
              have HC := Lib.hid hcc
              have HCP : Hid (Y ≤ Z) := Lib.hid (by omega)
              have HLL : Hid ((digs 256 Y).length ≤ (digs 256 Z).length) := Lib.hid (by
                rcases Nat.lt_or_ge (digs 256 Z).length (digs 256 Y).length with h | h
                · exact absurd (lt_of_lengthB two56 h) hcmp
                · exact h)
              clear hcmp hcc
              go_wp2_with fail
              refine Calls.mono (rcmp_c _ _ _ _ _ HR1.out.ls HSY.out) ?_; rintro e w2 ⟨rfl, nd, rfl⟩
              rw [HC.out]
              go_wp2_with fail
              refine Calls.mono (rsub_c _ _ _ _ _ (HR1.out.drawn nd).ls (HSY.out.drawn nd) HLZ.out HLL.out (by rw [val_digs two56, val_digs two56]; exact HCP.out)) ?_; rintro e w3 ⟨v3, rfl, hr3, hb3⟩
              rw [val_digs two56, val_digs two56] at hr3
              have HR3 : Hid (OwnD (wb.heap.size + 1) w3 v3 (digs 256 (Z - Y))) := Lib.hid (hr3.mono HSZ.out)
              have HO3 := Lib.hid ((HO1.out.drawn nd).below hb3); have HBB3 := Lib.hid (bel_trans (bel_drawn HBB1.out nd) hb3)
              have HSZ3 : Hid (wb.heap.size < w3.heap.size) := Lib.hid (Nat.lt_of_lt_of_le HSZ.out hb3.size)
              clear hr3 hb3 HR1 HO1 HBB1 HSY
              have hin : i < n1 := by omega
              have hcell := (show OwnD wb.heap.size w3 (.slice (some ⟨wb.heap.size, 0, none⟩) q2.length n1) q2 by rw [hol.out]; exact HO3.out).cell (i := i) (by have := hol.out; omega)
              have hfree := HO3.out.free hol.out.symm i
              obtain ⟨z, hzq⟩ : ∃ z, z = nth q2 i := ⟨_, rfl⟩
              rw [← hzq] at hcell
              have HZQ := Lib.hid hzq
              obtain ⟨z2, hz2⟩ : ∃ z2, z2 = (2 * ql + 1) * 2 ^ m := ⟨_, rfl⟩
              have HZ2 : Hid (z2 < 256) := Lib.hid (by rw [hz2]; exact ql_byte hm8 HQL1.out)
              have HZ2E := Lib.hid hz2
              have hzs : z2 = z + 2 ^ m := by rw [hz2, hzq, hqi.out, Nat.pow_succ, Nat.add_mul, Nat.one_mul, Nat.mul_comm (2 ^ m) 2, ← Nat.mul_assoc, Nat.mul_comm 2 ql]
              obtain ⟨p, hp⟩ : ∃ p, p = 2 ^ m := ⟨_, rfl⟩
              have hpi : (2 : Int) ^ m = (p : Int) := by rw [hp]; simp
              rw [← hp] at hzs
              have hsum : (z : Int) + (p : Int) = (z2 : Int) := by omega
              have hpb : p ≤ 255 := by have := HZ2.out; omega
              clear hzq hz2 hzs hp
              have hwz : wrap64 (z2 : Int) = (z2 : Int) := wrap64_nat (Nat.lt_trans HZ2.out (by decide))
              have hwp : wrap64 (p : Int) = (p : Int) := wrap64_nat (Nat.lt_of_le_of_lt hpb (by decide))
              have HWZ := Lib.hid hwz; have HWP := Lib.hid hwp; have HSUM := Lib.hid hsum
              clear hwz hwp
              go_wp2_with fail
              (try rw [HWP.out]); (try rw [HSUM.out]); (try rw [HWZ.out])
              go_roundg m
              case measure => omega
              case rel =>
                refine ⟨Z - Y, 2 * ql + 1, q2.set i z2, (m : Int) - 1, by omega, by go_num, rfl, ?_, ?_, ?_, ?_, ?_, HQL1.out, ?_, ?_, ?_, ?_, ?_⟩
                · exact HR3.out.setLow (Nat.lt_succ_self _) _
                · have := hR.out; have := HZ.out; show _ < _; omega
                · exact HO3.out.set hol.out.symm _ _ HZ2.out
                · have := hol.out; show _ = _; simpa using this
                · rw [HZB.out]; exact rdiv_step1 hm8 hv.out (by rw [← HZB.out]; exact HCP.out)
                · show _ = _; rw [nth_set_eq (by rw [hol.out]; exact hin), HZ2E.out]
                · show _ = _; rw [List.drop_set_of_lt (Nat.lt_succ_self _)]; exact hqd.out
                · exact HBB3.out.setCell (Nat.le_refl _) _
                · intro t ht; rw [nth_set_ne (by omega)]; exact hz.out t ht
                · have := HSZ3.out; show _ < _; simpa [World.setCell] using this
          · obtain rfl : gk = 0 := by omega
            obtain rfl : c = -1 := by omega
            have HVN : Hid (val 256 (d1.drop i) = val 256 (q2.drop i) * Y + R2) := Lib.hid (by
              have h1 := hv.out
              rw [val_drop 256 (show i < d1.length by have := HN1.out; omega), val_drop 256 (show i < q2.length by have := hol.out; omega), hqi.out, hqd.out, ← HQN.out, ← HXX.out]
              rw [Nat.pow_zero, Nat.div_one, show (2 : Nat) ^ (8 - 0) = 256 by rfl] at h1
              rw [Nat.pow_zero, Nat.mul_one, Nat.mul_comm 256 Qn, Nat.add_comm ql, ← h1]; omega)
            clear hv hb0 hc
            go_wp2_with fail
            go_roundg i
            case measure => omega
            case rel => exact ⟨R2, q2, (i : Int) - 1, by omega, by go_num, rfl, HRR.out, hR, HO.out, hol, HVN, HBB, hz, hsz⟩
      · obtain rfl : gk = 0 := by omega
        obtain rfl : c = -1 := by omega
        have HV : Hid (X = val 256 q * Y + R) := Lib.hid (by have := hv.out; rw [List.drop_zero, List.drop_zero, E1.out] at this; exact this)
        have HQ : Hid (val W l1 / val W l2 = val 256 q) := Lib.hid (by rw [← HX.out, ← HY.out, HV.out, Nat.mul_comm, Nat.mul_add_div HYP.out, Nat.div_eq_of_lt hR.out, Nat.add_zero])
        have HRM : Hid (remN (val W l1) (val W l2) = R) := Lib.hid (by rw [← HX.out, ← HY.out, remN_pos (by have := HYP.out; omega), HV.out, Nat.mul_comm, Nat.mul_add_mod, Nat.mod_eq_of_lt hR.out])
        have HSd : Hid (Sd wr (.slice (some ⟨wb.heap.size, 0, none⟩) n1 n1) q) := Lib.hid ⟨_, _, by rw [hol.out], HO.out.lsS⟩
        have hlr := length_digs_le (b := 256) (n := R) (k := n2) two56 (Nat.lt_trans hR.out (by rw [HN2.out]; exact lt_pow_length two56 Y))
        have HLR : Hid ((digs 256 R).length ≤ 200000) := Lib.hid (by omega)
        clear hv hlr hc
        go_wp2_with fail
        refine Calls.mono (large_c _ q _ HSd.out (by have := hol.out; omega)) ?_; rintro e wc ⟨u1, rfl, hr1, hbc⟩
        have HR1 := Lib.hid hr1; have HBC := Lib.hid (bel_trans HBB.out hbc); have HRB := Lib.hid ((HRR.out.below hbc).ls); clear hr1 hbc
        go_wp2_with fail
        refine Calls.mono (large_c _ _ _ HRB.out HLR.out) ?_; rintro e wd ⟨u2, rfl, hr2, hbd⟩
        rw [val_digs two56] at hr2
        have HR2 := Lib.hid hr2; have HBD := Lib.hid (bel_trans HBC.out hbd); have HR1b := Lib.hid (HR1.out.below hbd); clear hr2 hbd
        go_wp2_with fail
        go_ret2
        refine ⟨_, _, rfl, ⟨?_, ?_⟩, bel_trans BB.out HBD.out⟩
        · rw [HQ.out]; exact HR1b.out.mono (bel_trans BB.out HBB.out).size
        · rw [HRM.out]; exact HR2.out.mono (bel_trans BB.out HBC.out).size

theorem rdivmod_n (v1 v2 : Value) (X Y k1 k2 : Nat) (w : World) (h1 : Nv w v1 X k1) (h2 : Nv w v2 Y k2) (hk1 : k1 ≤ 1000) (hk2 : k2 ≤ 1000) :
    Calls Tryz.prog 148 #[v1, v2] w (Ret2 w fun v u w' => Nc w' v (X / Y) k1 ∧ Nc w' u (remN X Y) k2) := by
  have a1 := h1.lt; have a2 := h2.lt
  obtain ⟨l1, g1, rfl, i1⟩ := h1
  obtain ⟨l2, g2, rfl, i2⟩ := h2
  refine (rdivmod_c v1 v2 l1 l2 w g1 g2 (by omega) (by omega)).mono ?_
  rintro e w' ⟨u1, u2, rfl, ⟨h4, h5⟩, h6⟩
  refine ⟨u1, u2, rfl, ⟨Nc.of h4.ls (Nat.lt_of_le_of_lt (Nat.div_le_self _ _) a1), Nc.of h5.ls ?_⟩, h6⟩
  unfold remN
  split
  · exact Nat.pow_pos W_pos
  · rename_i h0; exact Nat.lt_trans (Nat.mod_lt _ (by omega)) a2

end Go.Proofs.YtkbhchlecokpiaaGreat
