/- The reference of layer 1: digits of 8 bits out of words (Small), and back (Large). -/
import Derived.Test.YtbofdldkiooegaaRTrim
import Derived.Test.YtbofdldkiooegaaClone
namespace Tw
open Go Go.RowKit
theorem W256 (k : Nat) : W ^ k = 256 ^ (8 * k) := by
  rw [show W = 256 ^ 8 by decide +kernel, ← Nat.pow_mul]

theorem val_take_drop (b : Nat) (d : List Nat) (n m : Nat) : val b ((d.drop n).take (m + 1)) = nth d n + b * val b ((d.drop (n + 1)).take m) := by
  rcases Nat.lt_or_ge n d.length with h | h
  · rw [drop_nth h, List.take_succ_cons, val_cons]
  · rw [List.drop_of_length_le h, List.drop_of_length_le (by omega), nth_ge h]; simp [val]

/-- one digit taken off -/
theorem small_step {o : List Nat} {n x v : Nat} (ho : o.length = n) (hv : val 256 o + 256 ^ n * x = v) :
    val 256 (o ++ [x % 256]) + 256 ^ (n + 1) * (x / 256) = v := by
  rw [val_snoc, ho, ← hv, Nat.pow_succ, Nat.mul_assoc, Nat.add_assoc, ← Nat.mul_add, Nat.mod_add_div]

theorem large_step {o d : List Nat} {j X : Nat} (ho : o.length = j) (hv : val W o + W ^ j * val 256 (d.drop (8 * j)) = X) :
    val W (o ++ [val 256 ((d.drop (8 * j)).take 8)]) + W ^ (j + 1) * val 256 (d.drop (8 * (j + 1))) = X := by
  rw [val_snoc, ho, ← hv, Nat.pow_succ, Nat.mul_assoc, Nat.add_assoc, ← Nat.mul_add]
  congr 2
  rcases Nat.lt_or_ge (d.drop (8 * j)).length 8 with h | h
  · rw [List.take_of_length_le (by omega)]
    simp at h
    rw [List.drop_of_length_le (by omega : d.length ≤ 8 * (j + 1))]; simp [val]
  · rw [val_split 256 (d.drop (8 * j)) 8 h, List.drop_drop, show W = 256 ^ 8 by decide +kernel]
    rfl

/-- the words that Large has made are the one form -/
theorem large_end {o : List Nat} {X n : Nat} (hd : Dig W o) (hv : val W o = X) (hn : n = (digs 256 X).length) (ho : o = [] ∨ 8 * (o.length - 1) < n) : digs W X = o := by
  rw [← hv]
  refine digs_val W_two hd ?_
  rcases ho with rfl | ho
  · exact .inl rfl
  · by_cases he : o = []
    · exact .inl he
    · right
      intro h0
      have hl := List.length_pos_iff.2 he
      have h1 : val W o = val W (o.take (o.length - 1)) := by
        have := val_take_step W o (o.length - 1)
        rw [h0, Nat.mul_zero, Nat.add_zero, show o.length - 1 + 1 = o.length by omega, List.take_of_length_le (Nat.le_refl _)] at this
        exact this
      have h2 := val_lt (hd.take (o.length - 1))
      rw [← h1, List.length_take, Nat.min_eq_left (by omega), hv, W256] at h2
      have hX : 0 < X := by
        rcases Nat.eq_zero_or_pos X with e | e
        · subst e; rw [digs_zero] at hn; simp at hn; omega
        · exact e
      have h3 := le_of_length_digs two56 hX
      rw [← hn] at h3
      have h4 : 256 ^ (8 * (o.length - 1)) ≤ 256 ^ (n - 1) := Nat.pow_le_pow_right (by omega) (by omega)
      omega
end Tw
namespace Go.Proofs.Ytbofdldkiooegaa
open Go Go.RowKit Tw
set_option linter.unusedVariables false
set_option linter.unusedSimpArgs false

theorem info_i64 : (Try.prog.info? 3).map (fun i => (i.zero, i.size, i.bytes)) = some (some (.int .i64 0), 1, 8) := by kernel_rfl

set_option maxRecDepth 100000 in
set_option maxHeartbeats 1000000 in
theorem small_c (v : Value) (l : List Nat) (w : World) (h : Wd w v l) (hs : l.length ≤ 20000) :
    Calls Try.prog 41 #[v] w fun e w' => ∃ v', e = .returned v' ∧ OwnD w.heap.size w' v' (digs 256 (val W l)) ∧ Below w.heap.size w w' := by
  have D := h.dig
  have HH := Lib.hid h
  obtain ⟨a, cap, rfl, hw⟩ := h
  have HX := Lib.hid hw
  clear hw
  obtain ⟨n, hn⟩ : ∃ n, n = l.length := ⟨_, rfl⟩
  have HN := Lib.hid hn
  rw [← hn] at hs ⊢
  clear hn HH
  go_enter Try.func41, Try.ntmps41
  go_wp2_with fail
  go_loopg [3, 4] n (fun k s i wr => ∃ (j : Nat) (o : List Nat), j ≤ n ∧ k = n - j ∧ i = .int .i64 j ∧ OwnD w.heap.size wr s o ∧ Hid (o.length = 8 * j) ∧ Hid (val 256 o = val W (l.take j)) ∧ Below w.heap.size w wr)
  case atStart => exact ⟨0, [], Nat.zero_le _, rfl, rfl, Own.nil _ _ _ _ _, rfl, rfl, Below.refl _ _⟩
  case round =>
    obtain ⟨j, o, hj, hk, rfl, hown, hol, hv, hbel⟩ := hrel
    obtain ⟨wo, rfl⟩ : ∃ wo : World, wo = wr := ⟨_, rfl⟩
    have HK := Lib.hid hk; have HO := Lib.hid hown; have HB := Lib.hid hbel
    clear hk hown
    by_cases hlt : j < n
    · obtain ⟨b1, o1, rfl, hcl⟩ := HX.out.2.2.2 (by intro e; have := HN.out; rw [e] at this; simp at this; omega)
      have hlt' : j < l.length := by have := HN.out; omega
      have g1 : wo.cell? ⟨b1, o1 + j, none⟩ = some (.int .u64 ((nth l j : Nat) : Int)) := hcl.below (hcl.lt (by omega)) hbel _ hlt'
      have hxW := nth_dig D hlt'
      have HXW := Lib.hid hxW
      have HT := Lib.hid (val_take_step W l j)
      generalize hxx : nth l j = x0 at *
      clear hcl hbel hxx hxW hlt'
      go_wp2_with fail
      go_loopg [3, 5, 6] 8 (fun k s x i wr => ∃ (m y : Nat) (o' : List Nat), m ≤ 8 ∧ k = 8 - m ∧ i = .int .i64 m ∧ x = .int .u64 y ∧ Hid (y < 256 ^ (8 - m)) ∧ OwnD w.heap.size wr s o' ∧ Hid (o'.length = 8 * j + m) ∧
        Hid (val 256 o' + 256 ^ (8 * j + m) * y = val W (l.take (j + 1))) ∧ Below w.heap.size w wr)
      case atStart =>
        exact ⟨0, x0, o, Nat.zero_le _, rfl, rfl, rfl, by have := HXW.out; show x0 < 256 ^ 8; unfold W at this; omega, HO.out, hol, by show val 256 o + 256 ^ (8 * j + 0) * x0 = _; rw [hv.out, HT.out, W256]; rfl, HB.out⟩
      case round =>
        obtain ⟨m, y, o', hm, hk, rfl, rfl, hy, hown, hol', hv', hbel⟩ := hrel
        obtain ⟨wi, rfl⟩ : ∃ wi : World, wi = wr := ⟨_, rfl⟩
        have HK2 := Lib.hid hk; have HO2 := Lib.hid hown; have HB2 := Lib.hid hbel
        clear hk hown hbel g1
        by_cases hlt2 : m < 8
        · have hym : y % 256 < 256 := Nat.mod_lt _ (by omega)
          have HM := Lib.hid hym
          have HY : Hid (y / 256 < 256 ^ (8 - (m + 1))) := Lib.hid (by
            rw [Nat.div_lt_iff_lt_mul (by omega), ← Nat.pow_succ, show (8 - (m + 1)).succ = 8 - m by omega]; exact hy.out)
          have HS : Hid _ := Lib.hid (small_step hol'.out hv'.out)
          have q1 : IntKind.i64.wrap ((y : Int) % 256) = ((y % 256 : Nat) : Int) := by rw [IntKind.wrap_i64] <;> omega
          have q2 : IntKind.u64.wrap ((y : Int) / 256) = ((y / 256 : Nat) : Int) := by
            have h1 : y < 18446744073709551616 := Nat.lt_of_lt_of_le hy.out (Nat.le_trans (Nat.pow_le_pow_right (by omega) (show 8 - m ≤ 8 by omega)) (by decide +kernel))
            rw [IntKind.wrap_u64]; omega
          clear hy hv'
          go_wp2_with (at_builtin; refine wpList_app _ rfl _ _ 38 rfl 3 .i64 8 Try.underlying38 info_i64 256 w.heap.size _ o' [y % 256] rfl ?_ wi.heap.size 0 1 rfl (CellsG.one _ (y % 256) _ _) ?_ ?_ ?_ ?_ ?_)
          · exact HO2.out.alloc _
          · exact Dig.one HM.out
          · have := hol'.out; simp; unfold maxLen; omega
          · have := hol'.out; simp; omega
          · have := HB2.out.size; simp; omega
          · intro l' v' w' HL' ho hb hg
            obtain ⟨a', cap', rfl, hls⟩ := ho.ls; have HO' := Lib.hid ho; have HB' := Lib.hid hb; clear hg ho hb hls
            go_wp2_with fail
            go_roundg (8 - (m + 1))
            case measure => have := HK2.out; omega
            case rel =>
              refine ⟨m + 1, y / 256, l', by omega, rfl, by go_num, by simp, HY.out, HO'.out, ?_, ?_, ?_⟩
              · have := hol'.out; show l'.length = _; rw [HL'.out]; simp; omega
              · rw [HL'.out, ← Nat.add_assoc]; exact HS.out
              · exact (HB2.out.alloc HB2.out.size _).trans HB'.out
        · obtain rfl : m = 8 := by omega
          have HV : Hid (val 256 o' = val W (l.take (j + 1))) := Lib.hid (by
            have h1 := hy.out
            have h2 := hv'.out
            rw [show y = 0 by omega, Nat.mul_zero, Nat.add_zero] at h2
            exact h2)
          clear hy hv'
          go_wp2_with fail
          go_roundg (n - (j + 1))
          case measure => have := HK.out; omega
          case rel =>
            exact ⟨j + 1, o', by omega, rfl, by go_num, HO2.out, by rw [hol'.out]; show 8 * j + 8 = 8 * (j + 1); omega, HV.out, HB2.out⟩
    · obtain rfl : j = n := by omega
      obtain ⟨a', cap', rfl, hls⟩ := HO.out.ls
      have HLS := Lib.hid hls
      have HV : Hid (val 256 o = val W l) := Lib.hid (by rw [hv.out, List.take_of_length_le (by have := HN.out; omega)])
      clear hls hbel hv
      go_wp2_with fail
      refine Calls.mono (rtrim_c a' cap' o wo HLS.out) ?_; rintro e w'' ⟨rfl, rfl⟩
      go_wp2_with fail
      go_ret
      refine ⟨_, rfl, ?_, HB.out⟩
      rw [← HV.out]; exact HO.out.trim two56 rfl

set_option maxRecDepth 100000 in
set_option maxHeartbeats 1000000 in
theorem large_c (v : Value) (s : List Nat) (w : World) (h : Sd w v s) (hs : s.length ≤ 200000) :
    Calls Try.prog 40 #[v] w fun e w' => ∃ v', e = .returned v' ∧ OwnW w.heap.size w' v' (digs W (val 256 s)) ∧ Below w.heap.size w w' := by
  obtain ⟨a, cap, rfl, hw⟩ := h
  have HT := Lib.hid (rtrim_c a cap s w hw)
  have hx := hw.trim two56
  have hle := length_digs_val two56 hw.2.2.1
  have hE := Lib.hid (val_digs two56 (val 256 s))
  clear hw
  generalize hX : val 256 s = X at *
  have HX := Lib.hid hx
  have HD : Hid (digs 256 X = digs 256 X) := rfl
  obtain ⟨d, hd⟩ : ∃ d, d = digs 256 X := ⟨_, rfl⟩
  have HDD := Lib.hid hd
  rw [← hd] at HX hle hE HT
  obtain ⟨n, hn⟩ : ∃ n, n = d.length := ⟨_, rfl⟩
  have HN := Lib.hid hn
  rw [← hn] at hle HT
  have hn2 : n ≤ 200000 := by omega
  clear hn hle hx hd hX HD
  go_enter Try.func40, Try.ntmps40
  go_wp2_with fail
  refine Calls.mono HT.out ?_; rintro e w' ⟨rfl, rfl⟩
  clear HT
  go_wp2_with fail
  go_loopg [3, 4] (n + 8) (fun k s i wr => ∃ (j i' : Nat) (o : List Nat), k = n + 8 - i' ∧ Hid (i' = 8 * j) ∧ i' < n + 8 ∧ i = .int .i64 i' ∧ OwnW w.heap.size wr s o ∧ Hid (o.length = j) ∧ Hid (val W o + W ^ j * val 256 (d.drop (8 * j)) = X) ∧ Below w.heap.size w wr)
  case atStart => exact ⟨0, 0, [], rfl, rfl, by omega, rfl, Own.nil _ _ _ _ _, rfl, by show val W [] + W ^ 0 * val 256 (d.drop 0) = X; rw [List.drop_zero, hE.out, Nat.pow_zero, Nat.one_mul, val_nil, Nat.zero_add], Below.refl _ _⟩
  case round =>
    obtain ⟨j, i, o, hk, hij, hi, rfl, hown, hol, hv, hbel⟩ := hrel
    obtain ⟨wo, rfl⟩ : ∃ wo : World, wo = wr := ⟨_, rfl⟩
    have HK := Lib.hid hk; have HO := Lib.hid hown; have HB := Lib.hid hbel
    clear hk hown
    by_cases hlt : i < n
    · obtain ⟨b1, o1, rfl, hcl⟩ := HX.out.2.2.2 (by intro e; have := HN.out; rw [e] at this; simp at this; omega)
      have hcl' := Lib.hid (hcl.below (hcl.lt (by have := HN.out; omega)) hbel)
      have hdg := Lib.hid HX.out.2.2.1
      clear hcl hbel
      go_wp2_with fail
      go_loopg [5, 6] 8 (fun k x q wr => ∃ (c : Int) (y : Nat), k ≤ 8 ∧ q = .int .i64 c ∧ c = (k : Int) - 1 ∧ x = .int .u64 y ∧ Hid (y = val 256 ((d.drop (8 * j + k)).take (8 - k))) ∧ wr = wo)
      case atStart => exact ⟨7, 0, Nat.le_refl _, rfl, rfl, rfl, by show 0 = val 256 ((d.drop (8 * j + 8)).take 0); simp [val], rfl⟩
      case round =>
        obtain ⟨c, y, hk8, rfl, hc, rfl, hy, rfl⟩ := hrel
        by_cases hk0 : 0 < gk
        · obtain ⟨m, rfl⟩ : ∃ m, gk = m + 1 := ⟨gk - 1, by omega⟩
          obtain rfl : c = (m : Int) := by omega
          have hyl : y < 256 ^ (8 - (m + 1)) := by
            rw [hy.out]
            refine Nat.lt_of_lt_of_le (val_lt ((hdg.out.drop _).take _)) (Nat.pow_le_pow_right (by omega) ?_)
            simp; omega
          have hy7 : y < 72057594037927936 := Nat.lt_of_lt_of_le hyl (by
            refine Nat.le_trans (Nat.pow_le_pow_right (by omega) (show 8 - (m + 1) ≤ 7 by omega)) (by decide +kernel))
          have HY2 : Hid (y * 256 + nth d (i + m) = val 256 ((d.drop (8 * j + m)).take (8 - m))) := Lib.hid (by
            rw [show 8 - m = (8 - (m + 1)) + 1 by omega, val_take_drop, hij.out, hy.out, show 8 * j + m + 1 = 8 * j + (m + 1) by omega]; omega)
          have q1 : IntKind.u64.wrap ((y : Int) * 256) = ((y * 256 : Nat) : Int) := by rw [IntKind.wrap_u64]; omega
          clear hc hyl
          by_cases him : i + m < n
          · have hz := nth_dig hdg.out (show i + m < d.length by have := HN.out; omega)
            have g1 : wr.cell? ⟨b1, o1 + (i + m), none⟩ = some (.int .i64 ((nth d (i + m) : Nat) : Int)) := hcl'.out _ (by have := HN.out; omega)
            generalize nth d (i + m) = z at *
            have q2 : IntKind.u64.wrap (z : Int) = (z : Int) := by rw [IntKind.wrap_u64]; omega
            have q3 : IntKind.u64.wrap (((y * 256 : Nat) : Int) + (z : Int)) = ((y * 256 + z : Nat) : Int) := by rw [IntKind.wrap_u64]; omega
            go_wp2_with fail
            go_roundg m
            case measure => omega
            case rel =>
              exact ⟨(m : Int) - 1, y * 256 + z, by omega, by go_num, by omega, by go_num, HY2.out, rfl⟩
          · have hz := nth_ge (l := d) (i := i + m) (by have := HN.out; omega)
            rw [hz] at HY2
            clear hz
            go_wp2_with fail
            go_roundg m
            case measure => omega
            case rel =>
              exact ⟨(m : Int) - 1, y * 256, by omega, by go_num, by omega, by go_num, HY2.out, rfl⟩
        · obtain rfl : gk = 0 := by omega
          obtain rfl : c = -1 := by omega
          have HY3 : Hid (y = val 256 ((d.drop (8 * j)).take 8)) := Lib.hid hy.out
          have HYW : Hid (y < W) := Lib.hid (by
            rw [HY3.out, show W = 256 ^ 8 by decide +kernel]
            refine Nat.lt_of_lt_of_le (val_lt ((hdg.out.drop _).take _)) (Nat.pow_le_pow_right (by omega) ?_)
            simp; omega)
          have HS := Lib.hid (large_step hol.out hv.out)
          have HIJ : Hid (i + 8 = 8 * (j + 1)) := Lib.hid (by rw [hij.out]; omega)
          have hjm : Hid (o.length ≤ 200000) := Lib.hid (by rw [hol.out]; have := hij.out; omega)
          clear hy hc hk0 hv
          go_wp2_with (at_builtin; refine wpList_app _ rfl _ _ 22 rfl 29 .u64 8 Try.underlying22 info_u64 W w.heap.size _ o [y] rfl ?_ wr.heap.size 0 1 rfl (CellsG.one _ y _ _) ?_ ?_ ?_ ?_ ?_)
          · exact HO.out.alloc _
          · exact Dig.one HYW.out
          · have := hjm.out; simp; unfold maxLen; omega
          · have := hjm.out; simp; omega
          · have := HB.out.size; simp; omega
          · intro l' v' w' HL' ho hb hg
            obtain ⟨a', cap', rfl, hls⟩ := ho.ls; have HO' := Lib.hid ho; have HB' := Lib.hid hb; clear hg ho hb hls
            go_wp2_with fail
            go_roundg (n + 8 - (i + 8))
            case measure => have := HK.out; omega
            case rel =>
              refine ⟨j + 1, i + 8, l', rfl, HIJ.out, by omega, by go_num, HO'.out, ?_, ?_, ?_⟩
              · have := hol.out; show l'.length = _; rw [HL'.out]; simp; omega
              · rw [HL'.out, HY3.out]; exact HS.out
              · exact (HB.out.alloc HB.out.size _).trans HB'.out
    · have HR : Hid (digs W X = o) := Lib.hid (by
        refine large_end (n := n) HO.out.dig ?_ (by rw [HN.out, HDD.out]) ?_
        · have := hv.out
          rw [List.drop_of_length_le (by have := HN.out; have := hij.out; omega), val_nil, Nat.mul_zero, Nat.add_zero] at this
          exact this
        · rcases Nat.eq_zero_or_pos j with e | e
          · left; exact List.eq_nil_of_length_eq_zero (by rw [hol.out, e])
          · right; rw [hol.out]; have := hij.out; omega)
      obtain ⟨a', cap', rfl, hls⟩ := HO.out.ls
      clear hls hbel hv
      go_wp2_with fail
      go_ret
      exact ⟨_, rfl, by rw [HR.out]; exact HO.out, HB.out⟩

end Go.Proofs.Ytbofdldkiooegaa
