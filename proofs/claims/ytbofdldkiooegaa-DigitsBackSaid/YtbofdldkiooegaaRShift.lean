/- The reference of layer 1: Shl, Shr, Bits; CopyWords. -/
import Derived.Test.YtbofdldkiooegaaRAdd
import Derived.Test.YtbofdldkiooegaaEdge
namespace Tw
open Go Go.RowKit
theorem len256 {Y k : Nat} (h : Y < 2 ^ (8 * k)) : (digs 256 Y).length ≤ k := by
  refine length_digs_le two56 ?_
  rw [show (256 : Nat) = 2 ^ 8 by rfl, ← Nat.pow_mul]; exact h

theorem digs_up {Y : Nat} (h : digs 256 Y ≠ []) : digs 256 (Y * 256) = 0 :: digs 256 Y := by
  have hY : 0 < Y := by
    rcases Nat.eq_zero_or_pos Y with e | e
    · subst e; rw [digs_zero] at h; exact absurd rfl h
    · exact e
  rw [digs_pos two56 (by omega), Nat.mul_mod_left, Nat.mul_div_cancel _ (by omega)]

/-- one digit of the number that is moved down -/
theorem rshr_digit {d : List Nat} {j r : Nat} (hd : Dig 256 d) (hj : j < d.length) (hr : r < 8) :
    (val 256 (d.drop j) / 2 ^ r) % 256 = ((nth d j + 256 * nth d (j + 1)) / 2 ^ r) % 256 ∧ (val 256 (d.drop j) / 2 ^ r) / 256 = val 256 (d.drop (j + 1)) / 2 ^ r := by
  have hx : ∃ V, val 256 (d.drop (j + 1)) = nth d (j + 1) + 256 * V := by
    rcases Nat.lt_or_ge (j + 1) d.length with h | h
    · exact ⟨_, val_drop 256 h⟩
    · exact ⟨0, by rw [List.drop_of_length_le h, nth_ge h]; rfl⟩
  have e := val_drop 256 hj
  obtain ⟨V, hV⟩ := hx
  constructor
  · rw [e, hV]
    have h2 : nth d j + 256 * (nth d (j + 1) + 256 * V) = (nth d j + 256 * nth d (j + 1)) + 2 ^ r * (2 ^ (16 - r) * V) := by
      rw [← Nat.mul_assoc, ← Nat.pow_add, show r + (16 - r) = 16 by omega]; omega
    rw [h2, Nat.add_mul_div_left _ _ (Nat.two_pow_pos r)]
    have h3 : 2 ^ (16 - r) * V = 256 * (2 ^ (8 - r) * V) := by
      rw [← Nat.mul_assoc, show (256 : Nat) = 2 ^ 8 by rfl, ← Nat.pow_add, show 8 + (8 - r) = 16 - r by omega]
    rw [h3, Nat.add_mul_mod_self_left]
  · rw [Nat.div_div_eq_div_mul, Nat.mul_comm, ← Nat.div_div_eq_div_mul, e, Nat.add_mul_div_left _ _ (by omega)]
    rw [Nat.div_eq_of_lt (nth_dig hd hj), Nat.zero_add]

theorem rshr_step {o d : List Nat} {j r Z dg : Nat} (hd : Dig 256 d) (hj : j < d.length) (hr : r < 8) (ho : o.length = j) (hv : val 256 o + 256 ^ j * (val 256 (d.drop j) / 2 ^ r) = Z)
    (hg : dg = ((nth d j + 256 * nth d (j + 1)) / 2 ^ r) % 256) : val 256 (o ++ [dg]) + 256 ^ (j + 1) * (val 256 (d.drop (j + 1)) / 2 ^ r) = Z := by
  obtain ⟨h1, h2⟩ := @rshr_digit d j r hd hj hr
  rw [val_snoc, ho, ← hv, Nat.pow_succ, Nat.mul_assoc, Nat.add_assoc, ← Nat.mul_add, hg, ← h1, ← h2, Nat.mod_add_div]

theorem bitsN_half {d : Nat} (h : 0 < d) : bitsN (d / 2) + 1 = bitsN d := by
  by_cases h1 : d = 1
  · subst h1; rfl
  · have h2 : d / 2 ≠ 0 := by omega
    have h3 := bitsN_ge h2
    have h4 := bitsN_lt (d / 2)
    refine (bitsN_eq (by omega) ?_ ?_).symm
    · rw [show bitsN (d / 2) + 1 - 1 = (bitsN (d / 2) - 1) + 1 by omega, Nat.pow_succ]; omega
    · rw [Nat.pow_succ]; omega

/-- the bits of a number in digits of 8 bits -/
theorem bitsN_top {X m : Nat} {d : List Nat} (hd : d = digs 256 X) (hm : d.length = m + 1) : bitsN (nth d m) + 8 * m = bitsN X := by
  have hv := val_digs two56 X
  have hdg := dig_digs two56 X
  have ht := top_digs two56 X
  rw [← hd] at hv hdg ht
  have ht' : nth d m ≠ 0 := by
    rcases ht with h | h
    · rw [h] at hm; simp at hm
    · rwa [hm, Nat.add_sub_cancel] at h
  have e : X = val 256 (d.take m) + 256 ^ m * nth d m := by
    rw [← val_take_step, ← hm, List.take_of_length_le (Nat.le_refl _), hv]
  have hl := val_lt (hdg.take m)
  rw [List.length_take, Nat.min_eq_left (by omega)] at hl
  have b1 := bitsN_ge ht'
  have b2 := bitsN_lt (nth d m)
  have e256 : (256 : Nat) ^ m = 2 ^ (8 * m) := by rw [show (256 : Nat) = 2 ^ 8 by rfl, ← Nat.pow_mul]
  rw [e256] at e hl
  refine (bitsN_eq (by omega) ?_ ?_).symm
  · rw [show bitsN (nth d m) + 8 * m - 1 = 8 * m + (bitsN (nth d m) - 1) by omega, Nat.pow_add]
    have := Nat.mul_le_mul_left (2 ^ (8 * m)) b1.2
    omega
  · rw [Nat.add_comm, Nat.pow_add]
    have := Nat.mul_le_mul_left (2 ^ (8 * m)) (show nth d m + 1 ≤ _ from b2)
    rw [Nat.mul_add, Nat.mul_one] at this
    omega
end Tw
namespace Go.Proofs.Ytbofdldkiooegaa
open Go Go.RowKit Tw
set_option linter.unusedVariables false
set_option linter.unusedSimpArgs false

theorem copyWords_c (v : Value) (l : List Nat) (w : World) (h : Wd w v l) (hs : l.length ≤ 60000) :
    Calls Try.prog 31 #[v] w fun e w' => ∃ v', e = .returned v' ∧ OwnW w.heap.size w' v' l ∧ Below w.heap.size w w' := by
  have H := Lib.hid h
  obtain ⟨a, cap, rfl, h1, h2, h3, h4⟩ := h
  obtain ⟨n, hn⟩ : ∃ n, n = l.length := ⟨_, rfl⟩
  have HN := Lib.hid hn
  rw [← hn] at hs ⊢
  cases a with
  | none =>
    have hl : l = [] := by
      cases l with
      | nil => rfl
      | cons x l => obtain ⟨b, off, h, _⟩ := h4 (by simp); simp at h
    subst hl
    obtain rfl : n = 0 := by simpa using hn
    clear h4 hn
    go_enter Try.func31, Try.ntmps31
    go_wp2
    go_ret
    exact ⟨_, rfl, Own.nil _ _ _ _ _, Below.refl _ _⟩
  | some x =>
    obtain ⟨a', c', e, hls⟩ := H.out
    simp only [Value.slice.injEq] at e
    obtain ⟨rfl, -, rfl⟩ := e
    have HLS := Lib.hid hls
    clear h4 hn hls
    go_enter Try.func31, Try.ntmps31
    go_wp2_with (at_builtin; refine wpList_appS _ rfl _ _ 22 rfl 29 .u64 8 Try.underlying22 info_u64 W w.heap.size (.slice none 0 0) [] l rfl ?_ x cap n rfl ?_ ?_ ?_ ?_ ?_ ?_)
    · exact Own.nil _ _ _ _ _
    · exact HN.out
    · exact HLS.out
    · have := HN.out; simp; unfold maxLen; omega
    · have := HN.out; simp; omega
    · simp
    · intro l' v' w' HL' ho hb hg
      have HO := Lib.hid ho; have HB := Lib.hid hb; clear ho hb hg
      go_wp2_with fail
      go_ret
      refine ⟨_, rfl, ?_, HB.out⟩
      obtain rfl : l' = l := by simpa using HL'.out
      exact HO.out

set_option maxRecDepth 100000 in
set_option maxHeartbeats 1000000 in
theorem rbits_c (v : Value) (l : List Nat) (w : World) (h : Wd w v l) (hs : l.length ≤ 2000) :
    Calls Try.prog 37 #[v] w fun e w' => e = .returned (.int .i64 ((bitsN (val W l) : Nat) : Int)) ∧ Below w.heap.size w w' := by
  have H := Lib.hid h
  have hle := length_digs_le (b := 256) (k := 8 * l.length) two56 (by rw [← W256]; exact val_lt h.dig)
  clear h
  go_enter Try.func37, Try.ntmps37
  go_wp2_with fail
  refine Calls.mono (small_c _ l _ H.out (by omega)) ?_; rintro e wa ⟨t1, rfl, g1, hba⟩
  have BA := Lib.hid hba
  have G1 := Lib.hid g1.ls
  have hdg := Lib.hid (g1.ls).dig
  clear hba g1 H
  obtain ⟨d, hd⟩ : ∃ d, d = digs 256 (val W l) := ⟨_, rfl⟩
  have HD := Lib.hid hd
  rw [← hd] at G1 hle hdg
  clear hd
  obtain ⟨a1, c1, rfl, hx1⟩ := G1
  obtain ⟨n, hn⟩ : ∃ n, n = d.length := ⟨_, rfl⟩
  have HX1 := Lib.hid hx1; have HN := Lib.hid hn
  have hn2 : n ≤ 16000 := by omega
  rw [← hn]
  clear hx1 hn hle
  by_cases hz : n = 0
  · have HR : Hid (bitsN (val W l) = 0) := Lib.hid (by
      have h1 := (length_digs_zero (b := 256) (n := val W l) two56).1 (by rw [← HD.out, ← HN.out, hz])
      rw [h1]; rfl)
    subst hz
    go_wp2_with fail
    go_ret
    exact ⟨ret_int (by rw [HR.out]; rfl), BA.out⟩
  · obtain ⟨m, rfl⟩ : ∃ m, n = m + 1 := ⟨n - 1, by omega⟩
    have HT := Lib.hid (bitsN_top HD.out HN.out.symm)
    obtain ⟨b1, o1, rfl, hcl⟩ := HX1.out.2.2.2 (by intro e; have := HN.out; rw [e] at this; simp at this)
    have g1 : wa.cell? ⟨b1, o1 + m, none⟩ = some (.int .i64 ((nth d m : Nat) : Int)) := hcl _ (by have := HN.out; omega)
    have x1 := nth_digW (by omega) hdg.out m
    have e1 : (((m + 1 : Nat) : Int) == 0) = false := by rw [beq_eq_false_iff_ne]; omega
    have e2 : ((m : Int) + 1 - 1) = (m : Int) := by omega
    generalize nth d m = x at *
    clear hcl
    go_wp2_with fail
    go_loopg [4, 5] x (fun k c s wr => ∃ (y z : Nat), k = y ∧ s = .int .i64 y ∧ c = .int .i64 z ∧ y ≤ 255 ∧ z ≤ 200000 ∧ Hid (bitsN y + z = bitsN (val W l)) ∧ Hid (z + y ≤ 200000) ∧ wr = wa)
    case atStart => exact ⟨x, 8 * m, rfl, rfl, by go_num, by omega, by omega, HT.out, by show _ ≤ _; omega, rfl⟩
    case round =>
      obtain ⟨y, z, rfl, rfl, rfl, hy, hz2, hb, hzy, rfl⟩ := hrel
      by_cases h0 : 0 < gk
      · have HB := Lib.hid (bitsN_half h0)
        have t2 : (gk : Int).tdiv 2 = ((gk / 2 : Nat) : Int) := rfl
        have HZ2 : Hid ((z + 1) + gk / 2 ≤ 200000) := Lib.hid (by have := hzy.out; omega)
        clear g1
        go_wp2_with fail
        go_roundg (gk / 2)
        case measure => omega
        case rel =>
          exact ⟨gk / 2, z + 1, rfl, by go_num, by go_num, by omega, by have := HZ2.out; omega, by have := hb.out; have := HB.out; show _ = _; omega, HZ2.out, rfl⟩
      · obtain rfl : gk = 0 := by omega
        have HR : Hid (bitsN (val W l) = z) := Lib.hid (by rw [← hb.out]; simp [bitsN])
        clear hb hz2 g1
        go_wp2_with fail
        go_ret
        exact ⟨ret_int (by rw [HR.out]), BA.out⟩

end Go.Proofs.Ytbofdldkiooegaa
