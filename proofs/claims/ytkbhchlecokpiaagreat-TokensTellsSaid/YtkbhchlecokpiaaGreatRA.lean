/- The reference of layer 1: trim, of digits of 8 bits; which of two is greater. -/
import Derived.Test.YtkbhchlecokpiaaGreatProg
import Derived.Test.YtkbhchlecokpiaaGreatL1a
import Derived.Test.YtkbhchlecokpiaaGreatL1c
/-! ## RTrim: The reference of layer 1: trim, of digits of 8 bits; which of two is greater. -/
set_option linter.unusedVariables false
set_option linter.unusedSimpArgs false
namespace Tw
open Go Go.RowKit
/-- digits of 8 bits -/
abbrev SdS := LsS .i64 256
abbrev Sd := Ls .i64 256
theorem two56 : 2 ≤ 256 := by omega

theorem lt_of_lengthB {B m n : Nat} (hB : 2 ≤ B) (h : (digs B m).length < (digs B n).length) : m < n := by
  have h1 := lt_pow_length hB m
  have hn : 0 < n := by
    rcases Nat.eq_zero_or_pos n with e | e
    · subst e; rw [digs_zero] at h; simp at h
    · exact e
  have h2 := le_of_length_digs hB hn
  have h3 : B ^ (digs B m).length ≤ B ^ ((digs B n).length - 1) := Nat.pow_le_pow_right (by omega) (by omega)
  omega

/-- two lists of one length that agree above place i -/
theorem val_lt_atB {B : Nat} {l m : List Nat} (hl : Dig B l) (hlen : l.length = m.length) {i : Nat} (hi : i < l.length)
    (hab : ∀ j, i < j → j < l.length → nth l j = nth m j) (hlt : nth l i < nth m i) : val B l < val B m := by
  have e : l.drop (i + 1) = m.drop (i + 1) := by
    apply ext_nth
    · simp [hlen]
    · intro j hj
      simp at hj
      rw [nth_drop, nth_drop]
      exact hab _ (by omega) (by omega)
  rw [val_split B l i (by omega), val_split B m i (by omega), val_drop B hi, val_drop B (by omega : i < m.length), e]
  have h1 := val_lt (hl.take i)
  rw [List.length_take, Nat.min_eq_left (by omega)] at h1
  have h2 : B ^ i * (nth l i + 1 + B * val B (m.drop (i + 1))) ≤ B ^ i * (nth m i + B * val B (m.drop (i + 1))) := Nat.mul_le_mul_left _ (by omega)
  have h3 : B ^ i * (nth l i + 1 + B * val B (m.drop (i + 1))) = B ^ i * (nth l i + B * val B (m.drop (i + 1))) + B ^ i := by
    rw [show nth l i + 1 + B * val B (m.drop (i + 1)) = (nth l i + B * val B (m.drop (i + 1))) + 1 by omega, Nat.mul_succ]
  omega
end Tw
namespace Go.Proofs.YtkbhchlecokpiaaGreat
open Go Go.RowKit Tw
set_option linter.unusedVariables false
set_option linter.unusedSimpArgs false

/-- a row of ints of the call's own -/
abbrev OwnD (base : Nat) (w : World) (v : Value) (l : List Nat) := Own .i64 3 256 base w v l

theorem rtrim_c (a : Option Addr) (cap : Nat) (l : List Nat) (w : World) (h : SdS w a cap l) :
    Calls Tryz.prog 201 #[.slice a l.length cap] w fun e w' => e = .returned (.slice a (digs 256 (val 256 l)).length cap) ∧ w = w' := by
  obtain ⟨h1, h2, h3, h4⟩ := h
  unfold maxLen at h2
  by_cases hl : l = []
  · subst hl
    have hd : (digs 256 (val 256 [])).length = 0 := by rw [val_nil, digs_zero]; rfl
    go_enter Tryz.func201, Tryz.ntmps201
    go_wp2
    go_loopg [3] 0 (fun k s wr => s = .int .i64 0 ∧ wr = w)
    case atStart => exact ⟨rfl, rfl⟩
    case round =>
      obtain ⟨rfl, rfl⟩ := hrel
      go_wp2
      go_ret
      exact ⟨ret_slice hd.symm, rfl⟩
  · obtain ⟨b, off, rfl, hc⟩ := h4 hl
    have HL := Lib.hid hl; clear hl h4
    go_enter Tryz.func201, Tryz.ntmps201
    go_wp2
    go_loopg [3] l.length (fun k s wr => k ≤ l.length ∧ s = .int .i64 k ∧ wr = w ∧ Hid (∀ i, k ≤ i → i < l.length → nth l i = 0))
    case atStart => exact ⟨Nat.le_refl _, rfl, rfl, fun i h1 h2 => absurd h2 (by omega)⟩
    case round =>
      obtain ⟨hk, rfl, rfl, hz⟩ := hrel
      by_cases hk0 : gk = 0
      · subst hk0
        have hd := digs_take two56 h3 hk hz.out (.inl rfl)
        have hd' : (digs 256 (val 256 l)).length = 0 := by rw [hd]; simp
        have HD := Lib.hid hd'; clear hd hd'
        clear hc
        go_wp2
        go_ret
        exact ⟨ret_slice HD.out.symm, rfl⟩
      · have hc' : wr.cell? ⟨b, off + (gk - 1), none⟩ = some (.int .i64 ((nth l (gk - 1) : Nat) : Int)) := hc (gk - 1) (by omega)
        have hg : 0 < gk := by omega
        have hi1 : ((gk : Int) - 1).toNat = gk - 1 := by omega
        clear hc hk0
        by_cases h0 : nth l (gk - 1) = 0
        · have H0 := Lib.hid h0
          have hb : (((nth l (gk - 1) : Nat) : Int) == 0) = true := by rw [h0]; rfl
          clear h0
          go_wp2
          go_roundg (gk - 1)
          case measure => omega
          case rel =>
            refine ⟨by omega, by go_num, rfl, fun i h1 h2 => ?_⟩
            by_cases e : i = gk - 1
            · subst e; exact H0.out
            · exact hz.out i (by omega) h2
        · have hd := digs_take two56 h3 hk hz.out (.inr h0)
          have hd' : (digs 256 (val 256 l)).length = gk := by rw [hd]; simp [hk]
          have HD := Lib.hid hd'; clear hd hd'
          have hb : (((nth l (gk - 1) : Nat) : Int) == 0) = false := by rw [beq_eq_false_iff_ne]; omega
          clear h0
          go_wp2
          go_ret
          exact ⟨ret_slice HD.out.symm, rfl⟩

theorem rtrim_n (a : Option Addr) (n cap : Nat) (l : List Nat) (w : World) (hn : n = l.length) (h : SdS w a cap l) :
    Calls Tryz.prog 201 #[.slice a n cap] w fun e w' => e = .returned (.slice a (digs 256 (val 256 l)).length cap) ∧ w = w' := by
  subst hn; exact rtrim_c a cap l w h

set_option maxHeartbeats 400000 in
theorem rcmp_c (v1 v2 : Value) (m1 m2 : Nat) (w : World) (h1 : Sd w v1 (digs 256 m1)) (h2 : Sd w v2 (digs 256 m2)) :
    Calls Tryz.prog 181 #[v1, v2] w fun e w' => e = .returned (.int .i64 (cmpN m1 m2)) ∧ ∃ n, w' = w.drewN n := by
  obtain ⟨a1, c1, rfl, t1⟩ := h1
  obtain ⟨a2, c2, rfl, t2⟩ := h2
  have hv1 := val_digs two56 m1
  have hv2 := val_digs two56 m2
  have k1 := @lt_of_lengthB 256 m1 m2 two56
  have k2 := @lt_of_lengthB 256 m2 m1 two56
  have kk : digs 256 m1 = digs 256 m2 → m1 = m2 := digs_inj two56
  obtain ⟨hc1, hm1, hd1, hp1⟩ := t1
  obtain ⟨hc2, hm2, hd2, hp2⟩ := t2
  generalize digs 256 m1 = d1 at *
  generalize digs 256 m2 = d2 at *
  unfold maxLen at hm1 hm2
  have K1 := Lib.hid k1; have K2 := Lib.hid k2; have KK := Lib.hid kk
  have V1 := Lib.hid hv1; have V2 := Lib.hid hv2
  clear k1 k2 kk hv1 hv2
  rcases Nat.lt_trichotomy d1.length d2.length with hlt | heq | hgt
  · have hne : ((d1.length : Int) != (d2.length : Int)) = true := by simp; omega
    have HR := Lib.hid (cmpN_lt (K1.out hlt))
    clear hp1 hp2
    go_enter Tryz.func181, Tryz.ntmps181
    go_wp2
    go_ret
    exact ⟨ret_int HR.out.symm, 0, rfl⟩
  · by_cases hl : d1 = []
    · have hl2 : d2 = [] := by subst hl; exact List.eq_nil_of_length_eq_zero heq.symm
      have HR := Lib.hid (show cmpN m1 m2 = 0 by rw [KK.out (by rw [hl, hl2]), cmpN_eq])
      subst hl hl2
      clear hp1 hp2 heq
      go_enter Tryz.func181, Tryz.ntmps181
      go_wp2
      go_loopg [5] 0 (fun k s wr => s = .int .i64 (-1) ∧ wr = w)
      case atStart => exact ⟨rfl, rfl⟩
      case round =>
        obtain ⟨rfl, rfl⟩ := hrel
        go_wp2
        go_ret
        exact ⟨ret_int HR.out.symm, 0, rfl⟩
    · obtain ⟨b1, o1, rfl, hx1⟩ := hp1 hl
      obtain ⟨b2, o2, rfl, hx2⟩ := hp2 (by intro e; rw [e] at heq; simp at heq; exact hl heq)
      have hpos : 0 < d1.length := List.length_pos_iff.2 hl
      have HE := Lib.hid heq
      have hle1 : d1.length ≤ d2.length := by omega
      have hle2 : d2.length ≤ d1.length := by omega
      have hne : ((d1.length : Int) != (d2.length : Int)) = false := by simp; omega
      clear hp1 hp2 hl heq
      go_enter Tryz.func181, Tryz.ntmps181
      go_wp2
      go_loopg [5] d1.length (fun k s wr => ∃ n : Nat, k ≤ d1.length ∧ s = .int .i64 ((k : Int) - 1) ∧ wr = w.drewN n ∧ Hid (∀ j, k ≤ j → j < d1.length → nth d1 j = nth d2 j))
      case atStart => exact ⟨0, Nat.le_refl _, rfl, rfl, fun j h1 h2 => absurd h2 (by omega)⟩
      case round =>
        obtain ⟨n, hk, rfl, rfl, hab⟩ := hrel
        by_cases hk0 : 0 < gk
        · have g1 := hx1 (gk - 1) (by omega)
          have g2 := hx2 (gk - 1) (by omega)
          have eidx : ((gk : Int) - 1).toNat = gk - 1 := by omega
          have r1 := nth_dig hd1 (show gk - 1 < d1.length by omega)
          have r2 := nth_dig hd2 (show gk - 1 < d2.length by omega)
          clear hx1 hx2
          rcases Nat.lt_trichotomy (nth d1 (gk - 1)) (nth d2 (gk - 1)) with h | h | h
          · have hv : m1 < m2 := by
              rw [← V1.out, ← V2.out]
              exact val_lt_atB hd1 HE.out (show gk - 1 < d1.length by omega) (fun j h1 h2 => hab.out j (by omega) h2) h
            have HR := Lib.hid (cmpN_lt hv); clear hv
            go_wp2
            go_quiet (fail)
            go_wp2
            go_ret
            exact ⟨ret_int HR.out.symm, n + nq, by simp⟩
          · have H := Lib.hid h
            have q1 : ¬ ((nth d1 (gk - 1) : Nat) : Int) < ((nth d2 (gk - 1) : Nat) : Int) := by omega
            have q2 : ¬ ((nth d2 (gk - 1) : Nat) : Int) < ((nth d1 (gk - 1) : Nat) : Int) := by omega
            clear h
            go_wp2
            go_quiet (fail)
            go_wp2
            go_quiet (fail)
            go_wp2
            go_roundg (gk - 1)
            case measure => omega
            case rel =>
              refine ⟨_, by omega, by go_num, rfl, fun j h1 h2 => ?_⟩
              by_cases e : j = gk - 1
              · subst e; exact H.out
              · exact hab.out j (by omega) h2
          · have hv : m2 < m1 := by
              rw [← V1.out, ← V2.out]
              exact val_lt_atB hd2 HE.out.symm (show gk - 1 < d2.length by omega) (fun j h1 h2 => (hab.out j (by omega) (by omega)).symm) h
            have HR := Lib.hid (cmpN_gt hv); clear hv
            have q1 : ¬ ((nth d1 (gk - 1) : Nat) : Int) < ((nth d2 (gk - 1) : Nat) : Int) := by omega
            go_wp2
            go_quiet (fail)
            go_wp2
            go_quiet (fail)
            go_wp2
            go_ret
            exact ⟨ret_int HR.out.symm, _, by rw [World.drewN_drewN, World.drewN_drewN]⟩
        · have hg : gk = 0 := by omega
          have HR := Lib.hid (show cmpN m1 m2 = 0 by
            rw [KK.out (ext_nth HE.out fun j hj => hab.out j (by omega) hj), cmpN_eq])
          clear hg hx1 hx2
          go_wp2
          go_ret
          exact ⟨ret_int HR.out.symm, n, rfl⟩
  · have hne : ((d1.length : Int) != (d2.length : Int)) = true := by simp; omega
    have HR := Lib.hid (cmpN_gt (K2.out hgt))
    have q1 : ¬ (d1.length : Int) < (d2.length : Int) := by omega
    clear hp1 hp2
    go_enter Tryz.func181, Tryz.ntmps181
    go_wp2
    go_ret
    exact ⟨ret_int HR.out.symm, 0, rfl⟩

end Go.Proofs.YtkbhchlecokpiaaGreat

/-! ## RDig: The reference of layer 1: digits of 8 bits out of words (Small), and back (Large). -/
set_option linter.unusedVariables false
set_option linter.unusedSimpArgs false
namespace Tw
open Go Go.RowKit
theorem W256 (k : Nat) : W ^ k = 256 ^ (8 * k) := by
  rw [show W = 256 ^ 8 by decide +kernel, ← Nat.pow_mul]

theorem val_take_drop (b : Nat) (d : List Nat) (n m : Nat) : val b ((d.drop n).take (m + 1)) = nth d n + b * val b ((d.drop (n + 1)).take m) := by
  rcases Nat.lt_or_ge n d.length with h | h
  · rw [drop_nth h, List.take_succ_cons, val_cons]
  · rw [List.drop_of_length_le h, List.drop_of_length_le (by omega), nth_ge h]; simp [val]

/-- one digit taken off -/
theorem small_step {o : List Nat} {n x v : Nat} (ho : o.length = n) (hv : val 256 o + 256 ^ n * x = v) :
    val 256 (o ++ [x % 256]) + 256 ^ (n + 1) * (x / 256) = v := by
  rw [val_snoc, ho, ← hv, Nat.pow_succ, Nat.mul_assoc, Nat.add_assoc, ← Nat.mul_add, Nat.mod_add_div]

theorem large_step {o d : List Nat} {j X : Nat} (ho : o.length = j) (hv : val W o + W ^ j * val 256 (d.drop (8 * j)) = X) :
    val W (o ++ [val 256 ((d.drop (8 * j)).take 8)]) + W ^ (j + 1) * val 256 (d.drop (8 * (j + 1))) = X := by
  rw [val_snoc, ho, ← hv, Nat.pow_succ, Nat.mul_assoc, Nat.add_assoc, ← Nat.mul_add]
  congr 2
  rcases Nat.lt_or_ge (d.drop (8 * j)).length 8 with h | h
  · rw [List.take_of_length_le (by omega)]
    simp at h
    rw [List.drop_of_length_le (by omega : d.length ≤ 8 * (j + 1))]; simp [val]
  · rw [val_split 256 (d.drop (8 * j)) 8 h, List.drop_drop, show W = 256 ^ 8 by decide +kernel]
    rfl

/-- the words that Large has made are the one form -/
theorem large_end {o : List Nat} {X n : Nat} (hd : Dig W o) (hv : val W o = X) (hn : n = (digs 256 X).length) (ho : o = [] ∨ 8 * (o.length - 1) < n) : digs W X = o := by
  rw [← hv]
  refine digs_val W_two hd ?_
  rcases ho with rfl | ho
  · exact .inl rfl
  · by_cases he : o = []
    · exact .inl he
    · right
      intro h0
      have hl := List.length_pos_iff.2 he
      have h1 : val W o = val W (o.take (o.length - 1)) := by
        have := val_take_step W o (o.length - 1)
        rw [h0, Nat.mul_zero, Nat.add_zero, show o.length - 1 + 1 = o.length by omega, List.take_of_length_le (Nat.le_refl _)] at this
        exact this
      have h2 := val_lt (hd.take (o.length - 1))
      rw [← h1, List.length_take, Nat.min_eq_left (by omega), hv, W256] at h2
      have hX : 0 < X := by
        rcases Nat.eq_zero_or_pos X with e | e
        · subst e; rw [digs_zero] at hn; simp at hn; omega
        · exact e
      have h3 := le_of_length_digs two56 hX
      rw [← hn] at h3
      have h4 : 256 ^ (8 * (o.length - 1)) ≤ 256 ^ (n - 1) := Nat.pow_le_pow_right (by omega) (by omega)
      omega
end Tw
namespace Go.Proofs.YtkbhchlecokpiaaGreat
open Go Go.RowKit Tw
set_option linter.unusedVariables false
set_option linter.unusedSimpArgs false

theorem info_i64 : (Tryz.prog.info? 3).map (fun i => (i.zero, i.size, i.bytes)) = some (some (.int .i64 0), 1, 8) := by kernel_rfl

set_option maxRecDepth 100000 in
set_option maxHeartbeats 1000000 in
theorem small_c (v : Value) (l : List Nat) (w : World) (h : Wd w v l) (hs : l.length ≤ 20000) :
    Calls Tryz.prog 171 #[v] w fun e w' => ∃ v', e = .returned v' ∧ OwnD w.heap.size w' v' (digs 256 (val W l)) ∧ Below w.heap.size w w' := by
  have D := h.dig
  have HH := Lib.hid h
  obtain ⟨a, cap, rfl, hw⟩ := h
  have HX := Lib.hid hw
  clear hw
  obtain ⟨n, hn⟩ : ∃ n, n = l.length := ⟨_, rfl⟩
  have HN := Lib.hid hn
  rw [← hn] at hs ⊢
  clear hn HH
  go_enter Tryz.func171, Tryz.ntmps171
  go_wp2_with fail
  go_loopg [3, 4] n (fun k s i wr => ∃ (j : Nat) (o : List Nat), j ≤ n ∧ k = n - j ∧ i = .int .i64 j ∧ OwnD w.heap.size wr s o ∧ Hid (o.length = 8 * j) ∧ Hid (val 256 o = val W (l.take j)) ∧ Below w.heap.size w wr)
  case atStart => exact ⟨0, [], Nat.zero_le _, rfl, rfl, Own.nil _ _ _ _ _, rfl, rfl, Below.refl _ _⟩
  case round =>
    obtain ⟨j, o, hj, hk, rfl, hown, hol, hv, hbel⟩ := hrel
    obtain ⟨wo, rfl⟩ : ∃ wo : World, wo = wr := ⟨_, rfl⟩
    have HK := Lib.hid hk; have HO := Lib.hid hown; have HB := Lib.hid hbel
    clear hk hown
    by_cases hlt : j < n
    · obtain ⟨b1, o1, rfl, hcl⟩ := HX.out.2.2.2 (by intro e; have := HN.out; rw [e] at this; simp at this; omega)
      have hlt' : j < l.length := by have := HN.out; omega
      have g1 : wo.cell? ⟨b1, o1 + j, none⟩ = some (.int .u64 ((nth l j : Nat) : Int)) := hcl.below (hcl.lt (by omega)) hbel _ hlt'
      have hxW := nth_dig D hlt'
      have HXW := Lib.hid hxW
      have HT := Lib.hid (val_take_step W l j)
      generalize hxx : nth l j = x0 at *
      clear hcl hbel hxx hxW hlt'
      go_wp2_with fail
      go_loopg [3, 5, 6] 8 (fun k s x i wr => ∃ (m y : Nat) (o' : List Nat), m ≤ 8 ∧ k = 8 - m ∧ i = .int .i64 m ∧ x = .int .u64 y ∧ Hid (y < 256 ^ (8 - m)) ∧ OwnD w.heap.size wr s o' ∧ Hid (o'.length = 8 * j + m) ∧
        Hid (val 256 o' + 256 ^ (8 * j + m) * y = val W (l.take (j + 1))) ∧ Below w.heap.size w wr)
      case atStart =>
        exact ⟨0, x0, o, Nat.zero_le _, rfl, rfl, rfl, by have := HXW.out; show x0 < 256 ^ 8; unfold W at this; omega, HO.out, hol, by show val 256 o + 256 ^ (8 * j + 0) * x0 = _; rw [hv.out, HT.out, W256]; rfl, HB.out⟩
      case round =>
        obtain ⟨m, y, o', hm, hk, rfl, rfl, hy, hown, hol', hv', hbel⟩ := hrel
        obtain ⟨wi, rfl⟩ : ∃ wi : World, wi = wr := ⟨_, rfl⟩
        have HK2 := Lib.hid hk; have HO2 := Lib.hid hown; have HB2 := Lib.hid hbel
        clear hk hown hbel g1
        by_cases hlt2 : m < 8
        · have hym : y % 256 < 256 := Nat.mod_lt _ (by omega)
          have HM := Lib.hid hym
          have HY : Hid (y / 256 < 256 ^ (8 - (m + 1))) := Lib.hid (by
            rw [Nat.div_lt_iff_lt_mul (by omega), ← Nat.pow_succ, show (8 - (m + 1)).succ = 8 - m by omega]; exact hy.out)
          have HS : Hid _ := Lib.hid (small_step hol'.out hv'.out)
          have q1 : IntKind.i64.wrap ((y : Int) % 256) = ((y % 256 : Nat) : Int) := by rw [IntKind.wrap_i64] <;> omega
          have q2 : IntKind.u64.wrap ((y : Int) / 256) = ((y / 256 : Nat) : Int) := by
            have h1 : y < 18446744073709551616 := Nat.lt_of_lt_of_le hy.out (Nat.le_trans (Nat.pow_le_pow_right (by omega) (show 8 - m ≤ 8 by omega)) (by decide +kernel))
            rw [IntKind.wrap_u64]; omega
          clear hy hv'
          go_wp2_with (at_builtin; refine wpList_app _ rfl _ _ 65 rfl 3 .i64 8 Tryz.underlying65 info_i64 256 w.heap.size _ o' [y % 256] rfl ?_ wi.heap.size 0 1 rfl (CellsG.one _ (y % 256) _ _) ?_ ?_ ?_ ?_ ?_)
          · exact HO2.out.alloc _
          · exact Dig.one HM.out
          · have := hol'.out; simp; unfold maxLen; omega
          · have := hol'.out; simp; omega
          · have := HB2.out.size; simp; omega
          · intro l' v' w' HL' ho hb hg
            obtain ⟨a', cap', rfl, hls⟩ := ho.ls; have HO' := Lib.hid ho; have HB' := Lib.hid hb; clear hg ho hb hls
            go_wp2_with fail
            go_roundg (8 - (m + 1))
            case measure => have := HK2.out; omega
            case rel =>
              refine ⟨m + 1, y / 256, l', by omega, rfl, by go_num, by simp, HY.out, HO'.out, ?_, ?_, ?_⟩
              · have := hol'.out; show l'.length = _; rw [HL'.out]; simp; omega
              · rw [HL'.out, ← Nat.add_assoc]; exact HS.out
              · exact (HB2.out.alloc HB2.out.size _).trans HB'.out
        · obtain rfl : m = 8 := by omega
          have HV : Hid (val 256 o' = val W (l.take (j + 1))) := Lib.hid (by
            have h1 := hy.out
            have h2 := hv'.out
            rw [show y = 0 by omega, Nat.mul_zero, Nat.add_zero] at h2
            exact h2)
          clear hy hv'
          go_wp2_with fail
          go_roundg (n - (j + 1))
          case measure => have := HK.out; omega
          case rel =>
            exact ⟨j + 1, o', by omega, rfl, by go_num, HO2.out, by rw [hol'.out]; show 8 * j + 8 = 8 * (j + 1); omega, HV.out, HB2.out⟩
    · obtain rfl : j = n := by omega
      obtain ⟨a', cap', rfl, hls⟩ := HO.out.ls
      have HLS := Lib.hid hls
      have HV : Hid (val 256 o = val W l) := Lib.hid (by rw [hv.out, List.take_of_length_le (by have := HN.out; omega)])
      clear hls hbel hv
      go_wp2_with fail
      refine Calls.mono (rtrim_c a' cap' o wo HLS.out) ?_; rintro e w'' ⟨rfl, rfl⟩
      go_wp2_with fail
      go_ret
      refine ⟨_, rfl, ?_, HB.out⟩
      rw [← HV.out]; exact HO.out.trim two56 rfl

set_option maxRecDepth 100000 in
set_option maxHeartbeats 1000000 in
theorem large_c (v : Value) (s : List Nat) (w : World) (h : Sd w v s) (hs : s.length ≤ 200000) :
    Calls Tryz.prog 170 #[v] w fun e w' => ∃ v', e = .returned v' ∧ OwnW w.heap.size w' v' (digs W (val 256 s)) ∧ Below w.heap.size w w' := by
  obtain ⟨a, cap, rfl, hw⟩ := h
  have HT := Lib.hid (rtrim_c a cap s w hw)
  have hx := hw.trim two56
  have hle := length_digs_val two56 hw.2.2.1
  have hE := Lib.hid (val_digs two56 (val 256 s))
  clear hw
  generalize hX : val 256 s = X at *
  have HX := Lib.hid hx
  have HD : Hid (digs 256 X = digs 256 X) := rfl
  obtain ⟨d, hd⟩ : ∃ d, d = digs 256 X := ⟨_, rfl⟩
  have HDD := Lib.hid hd
  rw [← hd] at HX hle hE HT
  obtain ⟨n, hn⟩ : ∃ n, n = d.length := ⟨_, rfl⟩
  have HN := Lib.hid hn
  rw [← hn] at hle HT
  have hn2 : n ≤ 200000 := by omega
  clear hn hle hx hd hX HD
  go_enter Tryz.func170, Tryz.ntmps170
  go_wp2_with fail
  refine Calls.mono HT.out ?_; rintro e w' ⟨rfl, rfl⟩
  clear HT
  go_wp2_with fail
  go_loopg [3, 4] (n + 8) (fun k s i wr => ∃ (j i' : Nat) (o : List Nat), k = n + 8 - i' ∧ Hid (i' = 8 * j) ∧ i' < n + 8 ∧ i = .int .i64 i' ∧ OwnW w.heap.size wr s o ∧ Hid (o.length = j) ∧ Hid (val W o + W ^ j * val 256 (d.drop (8 * j)) = X) ∧ Below w.heap.size w wr)
  case atStart => exact ⟨0, 0, [], rfl, rfl, by omega, rfl, Own.nil _ _ _ _ _, rfl, by show val W [] + W ^ 0 * val 256 (d.drop 0) = X; rw [List.drop_zero, hE.out, Nat.pow_zero, Nat.one_mul, val_nil, Nat.zero_add], Below.refl _ _⟩
  case round =>
    obtain ⟨j, i, o, hk, hij, hi, rfl, hown, hol, hv, hbel⟩ := hrel
    obtain ⟨wo, rfl⟩ : ∃ wo : World, wo = wr := ⟨_, rfl⟩
    have HK := Lib.hid hk; have HO := Lib.hid hown; have HB := Lib.hid hbel
    clear hk hown
    by_cases hlt : i < n
    · obtain ⟨b1, o1, rfl, hcl⟩ := HX.out.2.2.2 (by intro e; have := HN.out; rw [e] at this; simp at this; omega)
      have hcl' := Lib.hid (hcl.below (hcl.lt (by have := HN.out; omega)) hbel)
      have hdg := Lib.hid HX.out.2.2.1
      clear hcl hbel
      go_wp2_with fail
      go_loopg [5, 6] 8 (fun k x q wr => ∃ (c : Int) (y : Nat), k ≤ 8 ∧ q = .int .i64 c ∧ c = (k : Int) - 1 ∧ x = .int .u64 y ∧ Hid (y = val 256 ((d.drop (8 * j + k)).take (8 - k))) ∧ wr = wo)
      case atStart => exact ⟨7, 0, Nat.le_refl _, rfl, rfl, rfl, by show 0 = val 256 ((d.drop (8 * j + 8)).take 0); simp [val], rfl⟩
      case round =>
        obtain ⟨c, y, hk8, rfl, hc, rfl, hy, rfl⟩ := hrel
        by_cases hk0 : 0 < gk
        · obtain ⟨m, rfl⟩ : ∃ m, gk = m + 1 := ⟨gk - 1, by omega⟩
          obtain rfl : c = (m : Int) := by omega
          have hyl : y < 256 ^ (8 - (m + 1)) := by
            rw [hy.out]
            refine Nat.lt_of_lt_of_le (val_lt ((hdg.out.drop _).take _)) (Nat.pow_le_pow_right (by omega) ?_)
            simp; omega
          have hy7 : y < 72057594037927936 := Nat.lt_of_lt_of_le hyl (by
            refine Nat.le_trans (Nat.pow_le_pow_right (by omega) (show 8 - (m + 1) ≤ 7 by omega)) (by decide +kernel))
          have HY2 : Hid (y * 256 + nth d (i + m) = val 256 ((d.drop (8 * j + m)).take (8 - m))) := Lib.hid (by
            rw [show 8 - m = (8 - (m + 1)) + 1 by omega, val_take_drop, hij.out, hy.out, show 8 * j + m + 1 = 8 * j + (m + 1) by omega]; omega)
          have q1 : IntKind.u64.wrap ((y : Int) * 256) = ((y * 256 : Nat) : Int) := by rw [IntKind.wrap_u64]; omega
          clear hc hyl
          by_cases him : i + m < n
          · have hz := nth_dig hdg.out (show i + m < d.length by have := HN.out; omega)
            have g1 : wr.cell? ⟨b1, o1 + (i + m), none⟩ = some (.int .i64 ((nth d (i + m) : Nat) : Int)) := hcl'.out _ (by have := HN.out; omega)
            generalize nth d (i + m) = z at *
            have q2 : IntKind.u64.wrap (z : Int) = (z : Int) := by rw [IntKind.wrap_u64]; omega
            have q3 : IntKind.u64.wrap (((y * 256 : Nat) : Int) + (z : Int)) = ((y * 256 + z : Nat) : Int) := by rw [IntKind.wrap_u64]; omega
            go_wp2_with fail
            go_roundg m
            case measure => omega
            case rel =>
              exact ⟨(m : Int) - 1, y * 256 + z, by omega, by go_num, by omega, by go_num, HY2.out, rfl⟩
          · have hz := nth_ge (l := d) (i := i + m) (by have := HN.out; omega)
            rw [hz] at HY2
            clear hz
            go_wp2_with fail
            go_roundg m
            case measure => omega
            case rel =>
              exact ⟨(m : Int) - 1, y * 256, by omega, by go_num, by omega, by go_num, HY2.out, rfl⟩
        · obtain rfl : gk = 0 := by omega
          obtain rfl : c = -1 := by omega
          have HY3 : Hid (y = val 256 ((d.drop (8 * j)).take 8)) := Lib.hid hy.out
          have HYW : Hid (y < W) := Lib.hid (by
            rw [HY3.out, show W = 256 ^ 8 by decide +kernel]
            refine Nat.lt_of_lt_of_le (val_lt ((hdg.out.drop _).take _)) (Nat.pow_le_pow_right (by omega) ?_)
            simp; omega)
          have HS := Lib.hid (large_step hol.out hv.out)
          have HIJ : Hid (i + 8 = 8 * (j + 1)) := Lib.hid (by rw [hij.out]; omega)
          have hjm : Hid (o.length ≤ 200000) := Lib.hid (by rw [hol.out]; have := hij.out; omega)
          clear hy hc hk0 hv
          go_wp2_with (at_builtin; refine wpList_app _ rfl _ _ 29 rfl 158 .u64 8 Tryz.underlying29 info_u64 W w.heap.size _ o [y] rfl ?_ wr.heap.size 0 1 rfl (CellsG.one _ y _ _) ?_ ?_ ?_ ?_ ?_)
          · exact HO.out.alloc _
          · exact Dig.one HYW.out
          · have := hjm.out; simp; unfold maxLen; omega
          · have := hjm.out; simp; omega
          · have := HB.out.size; simp; omega
          · intro l' v' w' HL' ho hb hg
            obtain ⟨a', cap', rfl, hls⟩ := ho.ls; have HO' := Lib.hid ho; have HB' := Lib.hid hb; clear hg ho hb hls
            go_wp2_with fail
            go_roundg (n + 8 - (i + 8))
            case measure => have := HK.out; omega
            case rel =>
              refine ⟨j + 1, i + 8, l', rfl, HIJ.out, by omega, by go_num, HO'.out, ?_, ?_, ?_⟩
              · have := hol.out; show l'.length = _; rw [HL'.out]; simp; omega
              · rw [HL'.out, HY3.out]; exact HS.out
              · exact (HB.out.alloc HB.out.size _).trans HB'.out
    · have HR : Hid (digs W X = o) := Lib.hid (by
        refine large_end (n := n) HO.out.dig ?_ (by rw [HN.out, HDD.out]) ?_
        · have := hv.out
          rw [List.drop_of_length_le (by have := HN.out; have := hij.out; omega), val_nil, Nat.mul_zero, Nat.add_zero] at this
          exact this
        · rcases Nat.eq_zero_or_pos j with e | e
          · left; exact List.eq_nil_of_length_eq_zero (by rw [hol.out, e])
          · right; rw [hol.out]; have := hij.out; omega)
      obtain ⟨a', cap', rfl, hls⟩ := HO.out.ls
      clear hls hbel hv
      go_wp2_with fail
      go_ret
      exact ⟨_, rfl, by rw [HR.out]; exact HO.out, HB.out⟩

end Go.Proofs.YtkbhchlecokpiaaGreat

/-! ## RSub: The reference of layer 1: sub and twice, of digits of 8 bits. -/
set_option linter.unusedVariables false
set_option linter.unusedSimpArgs false
namespace Tw
open Go Go.RowKit
theorem rsub_step {o l1 l2 : List Nat} {j bo bo' dg : Nat} (ho : o.length = j) (hv : val 256 (l1.take j) + 256 ^ j * bo = val 256 o + val 256 (l2.take j))
    (e : nth l1 j + 256 * bo' = dg + nth l2 j + bo) : val 256 (l1.take (j + 1)) + 256 ^ (j + 1) * bo' = val 256 (o ++ [dg]) + val 256 (l2.take (j + 1)) := by
  rw [val_take_step, val_take_step, val_snoc, ho, Nat.pow_succ]
  generalize 256 ^ j = p at *
  have h1 : p * nth l1 j + p * 256 * bo' = p * dg + p * nth l2 j + p * bo := by
    rw [Nat.mul_assoc, ← Nat.mul_add, e, Nat.mul_add, Nat.mul_add]
  omega
theorem rsub_end {o l1 l2 : List Nat} {bo : Nat} (hd : Dig 256 o) (ho : o.length = l1.length) (hl : l2.length ≤ l1.length) (hle : val 256 l2 ≤ val 256 l1)
    (hv : val 256 (l1.take l1.length) + 256 ^ l1.length * bo = val 256 o + val 256 (l2.take l1.length)) : val 256 o = val 256 l1 - val 256 l2 := by
  rw [List.take_of_length_le (Nat.le_refl _), List.take_of_length_le hl] at hv
  have h1 := val_lt hd
  rw [ho] at h1
  rcases Nat.eq_zero_or_pos bo with e | e
  · subst e; omega
  · have := Nat.mul_le_mul_left (256 ^ l1.length) e
    omega
theorem rtwice_step {o l : List Nat} {j c b0 s : Nat} (ho : o.length = j) (hv : val 256 o + 256 ^ j * c = 2 * val 256 (l.take j) + b0) (hs : s = 2 * nth l j + c) :
    val 256 (o ++ [s % 256]) + 256 ^ (j + 1) * (s / 256) = 2 * val 256 (l.take (j + 1)) + b0 := by
  rw [val_take_step, val_snoc, ho, Nat.pow_succ]
  generalize 256 ^ j = p at *
  have h1 : p * (s % 256) + p * 256 * (s / 256) = p * s := by rw [Nat.mul_assoc, ← Nat.mul_add, Nat.mod_add_div]
  have h2 : p * s = 2 * (p * nth l j) + p * c := by rw [hs, Nat.mul_add, Nat.mul_left_comm]
  omega
end Tw
namespace Go.Proofs.YtkbhchlecokpiaaGreat
open Go Go.RowKit Tw
set_option linter.unusedVariables false
set_option linter.unusedSimpArgs false

set_option maxRecDepth 100000 in
set_option maxHeartbeats 1000000 in
theorem rtwice_c (v : Value) (l : List Nat) (b0 : Nat) (w : World) (h : Sd w v l) (hs : l.length ≤ 100000) (hb : b0 ≤ 1) :
    Calls Tryz.prog 180 #[v, .int .i64 b0] w fun e w' => ∃ v', e = .returned v' ∧ OwnD w.heap.size w' v' (digs 256 (2 * val 256 l + b0)) ∧ Below w.heap.size w w' := by
  have D := Lib.hid h.dig
  obtain ⟨a, cap, rfl, hw⟩ := h
  have HX := Lib.hid hw
  clear hw
  obtain ⟨n, hn⟩ : ∃ n, n = l.length := ⟨_, rfl⟩
  have HN := Lib.hid hn
  rw [← hn] at hs ⊢
  clear hn
  go_enter Tryz.func180, Tryz.ntmps180
  go_wp2_with fail
  go_loopg [1, 5, 6] n (fun k c s i wr => ∃ (j cy : Nat) (o : List Nat), j ≤ n ∧ k = n - j ∧ i = .int .i64 j ∧ c = .int .i64 cy ∧ cy ≤ 1 ∧ OwnD w.heap.size wr s o ∧ Hid (o.length = j) ∧
    Hid (val 256 o + 256 ^ j * cy = 2 * val 256 (l.take j) + b0) ∧ Below w.heap.size w wr)
  case atStart => exact ⟨0, b0, [], Nat.zero_le _, rfl, rfl, rfl, hb, Own.nil _ _ _ _ _, rfl, by show _ = _; simp [val], Below.refl _ _⟩
  case round =>
    obtain ⟨j, cy, o, hj, hk, rfl, rfl, hcy, hown, hol, hv, hbel⟩ := hrel
    have HK := Lib.hid hk; have HO := Lib.hid hown; have HB := Lib.hid hbel
    clear hk hown
    by_cases hlt : j < n
    · obtain ⟨b1, o1, rfl, hcl⟩ := HX.out.2.2.2 (by intro e; have := HN.out; rw [e] at this; simp at this; omega)
      have hlt' : j < l.length := by have := HN.out; omega
      have g1 : wr.cell? ⟨b1, o1 + j, none⟩ = some (.int .i64 ((nth l j : Nat) : Int)) := hcl.below (hcl.lt (by omega)) hbel _ hlt'
      have hx := nth_dig D.out hlt'
      obtain ⟨s, hs2⟩ : ∃ s, s = 2 * nth l j + cy := ⟨_, rfl⟩
      have HS := Lib.hid (rtwice_step hol.out hv.out hs2)
      have hsi : 2 * ((nth l j : Nat) : Int) + (cy : Int) = (s : Int) := by omega
      have hsb : s ≤ 511 := by omega
      have t1 : (s : Int).tmod 256 = ((s % 256 : Nat) : Int) := rfl
      have t2 : (s : Int).tdiv 256 = ((s / 256 : Nat) : Int) := rfl
      clear hcl hbel hv hs2 hlt'
      go_wp2_with (at_builtin; refine wpList_app _ rfl _ _ 65 rfl 3 .i64 8 Tryz.underlying65 info_i64 256 w.heap.size _ o [s % 256] rfl ?_ wr.heap.size 0 1 rfl (CellsG.one _ (s % 256) _ _) ?_ ?_ ?_ ?_ ?_)
      · exact HO.out.alloc _
      · exact Dig.one (Nat.mod_lt _ (by omega))
      · have := hol.out; simp; unfold maxLen; omega
      · have := hol.out; simp; omega
      · have := HB.out.size; simp; omega
      · intro l' v' w' HL' ho hb2 hg
        obtain ⟨a', cap', rfl, hls⟩ := ho.ls; have HO' := Lib.hid ho; have HB' := Lib.hid hb2; clear hg ho hb2 hls
        go_wp2_with fail
        go_roundg (n - (j + 1))
        case measure => have := HK.out; omega
        case rel =>
          refine ⟨j + 1, s / 256, l', by omega, rfl, by go_num, by go_num, by omega, HO'.out, ?_, ?_, ?_⟩
          · have := hol.out; show l'.length = _; rw [HL'.out]; simp; omega
          · rw [HL'.out]; exact HS.out
          · exact (HB.out.alloc HB.out.size _).trans HB'.out
    · obtain rfl : j = n := by omega
      have HV : Hid (val 256 (o ++ [cy]) = 2 * val 256 l + b0) := Lib.hid (by
        rw [val_snoc, hol.out, hv.out, List.take_of_length_le (by have := HN.out; omega)])
      clear hbel hv
      go_wp2_with (at_builtin; refine wpList_app _ rfl _ _ 65 rfl 3 .i64 8 Tryz.underlying65 info_i64 256 w.heap.size _ o [cy] rfl ?_ wr.heap.size 0 1 rfl (CellsG.one _ cy _ _) ?_ ?_ ?_ ?_ ?_)
      · exact HO.out.alloc _
      · exact Dig.one (by omega)
      · have := hol.out; simp; unfold maxLen; omega
      · have := hol.out; simp; omega
      · have := HB.out.size; simp; omega
      · intro l' v' w' HL' ho hb2 hg
        obtain ⟨a', cap', rfl, hls⟩ := ho.ls; have HO' := Lib.hid ho; have HB' := Lib.hid hb2; have HLS := Lib.hid hls; clear hg ho hb2 hls
        go_wp2_with fail
        refine Calls.mono (rtrim_c a' cap' l' w' HLS.out) ?_; rintro e w'' ⟨rfl, rfl⟩
        go_wp2_with fail
        go_ret
        refine ⟨_, rfl, ?_, (HB.out.alloc HB.out.size _).trans HB'.out⟩
        rw [← HV.out, ← HL'.out]; exact HO'.out.trim two56 rfl

set_option maxRecDepth 100000 in
set_option maxHeartbeats 1000000 in
theorem rsub_c (v1 v2 : Value) (l1 l2 : List Nat) (w : World) (h1 : Sd w v1 l1) (h2 : Sd w v2 l2) (hs : l1.length ≤ 100000) (hl : l2.length ≤ l1.length) (hle : val 256 l2 ≤ val 256 l1) :
    Calls Tryz.prog 182 #[v1, v2] w fun e w' => ∃ v', e = .returned v' ∧ OwnD w.heap.size w' v' (digs 256 (val 256 l1 - val 256 l2)) ∧ Below w.heap.size w w' := by
  have D1 := Lib.hid h1.dig; have D2 := Lib.hid h2.dig
  obtain ⟨a1, c1, rfl, hw1⟩ := h1
  obtain ⟨a2, c2, rfl, hw2⟩ := h2
  have HX1 := Lib.hid hw1; have HX2 := Lib.hid hw2
  have HLE := Lib.hid hle; have HL0 := Lib.hid hl
  clear hw1 hw2 hle
  obtain ⟨n, hn⟩ : ∃ n, n = l1.length := ⟨_, rfl⟩
  have HN := Lib.hid hn
  obtain ⟨n2, hn2⟩ : ∃ n, n = l2.length := ⟨_, rfl⟩
  have HN2 := Lib.hid hn2
  rw [← hn, ← hn2] at hl
  rw [← hn] at hs ⊢
  rw [← hn2]
  clear hn hn2
  go_enter Tryz.func182, Tryz.ntmps182
  go_wp2_with fail
  go_loopg [5, 6, 7] n (fun k s c i wr => ∃ (j bo : Nat) (o : List Nat), j ≤ n ∧ k = n - j ∧ i = .int .i64 j ∧ c = .int .i64 bo ∧ bo ≤ 1 ∧ OwnD w.heap.size wr s o ∧ Hid (o.length = j) ∧
    Hid (val 256 (l1.take j) + 256 ^ j * bo = val 256 o + val 256 (l2.take j)) ∧ Below w.heap.size w wr)
  case atStart => exact ⟨0, 0, [], Nat.zero_le _, rfl, rfl, rfl, Nat.zero_le _, Own.nil _ _ _ _ _, rfl, by show _ = _; simp [val], Below.refl _ _⟩
  case round =>
    obtain ⟨j, bo, o, hj, hk, rfl, rfl, hbo, hown, hol, hv, hbel⟩ := hrel
    have HK := Lib.hid hk; have HO := Lib.hid hown; have HB := Lib.hid hbel
    clear hk hown
    by_cases hlt : j < n
    · obtain ⟨b1, o1, rfl, hcl⟩ := HX1.out.2.2.2 (by intro e; have := HN.out; rw [e] at this; simp at this; omega)
      have hlt' : j < l1.length := by have := HN.out; omega
      have g1 : wr.cell? ⟨b1, o1 + j, none⟩ = some (.int .i64 ((nth l1 j : Nat) : Int)) := hcl.below (hcl.lt (by omega)) hbel _ hlt'
      have hx := nth_dig D1.out hlt'
      have hy := nth_digW (by omega) D2.out j
      have key : ∀ bo' dg, nth l1 j + 256 * bo' = dg + nth l2 j + bo → _ := fun bo' dg e => rsub_step (dg := dg) (bo' := bo') hol.out hv.out e
      have KEY := Lib.hid key
      clear hcl hv hlt' key
      generalize hxe : nth l1 j = x at *
      clear hxe
      by_cases hlt2 : j < n2
      · obtain ⟨b2, o2, rfl, hcl⟩ := HX2.out.2.2.2 (by intro e; have := HN2.out; rw [e] at this; simp at this; omega)
        have hlt' : j < l2.length := by have := HN2.out; omega
        have g2 : wr.cell? ⟨b2, o2 + j, none⟩ = some (.int .i64 ((nth l2 j : Nat) : Int)) := hcl.below (hcl.lt (by omega)) hbel _ hlt'
        generalize hye : nth l2 j = y at *
        clear hcl hlt' hye hbel
        by_cases hd : x < bo + y
        · obtain ⟨dg, hdg⟩ : ∃ dg, dg = x + 256 - bo - y := ⟨_, rfl⟩
          have HS := Lib.hid (KEY.out 1 dg (by omega))
          have q1 : (x : Int) - (bo : Int) - (y : Int) + 256 = (dg : Int) := by omega
          have q2 : (x : Int) - (bo : Int) - (y : Int) < 0 := by omega
          have hdl : Hid (dg < 256) := Lib.hid (by omega)
          clear hdg KEY
          go_wp2_with (at_builtin; refine wpList_app _ rfl _ _ 65 rfl 3 .i64 8 Tryz.underlying65 info_i64 256 w.heap.size _ o [dg] rfl ?_ wr.heap.size 0 1 rfl (CellsG.one _ dg _ _) ?_ ?_ ?_ ?_ ?_)
          · exact HO.out.alloc _
          · exact Dig.one hdl.out
          · have := hol.out; simp; unfold maxLen; omega
          · have := hol.out; simp; omega
          · have := HB.out.size; simp; omega
          · intro l' v' w' HL' ho hb2 hg
            obtain ⟨a', cap', rfl, hls⟩ := ho.ls; have HO' := Lib.hid ho; have HB' := Lib.hid hb2; clear hg ho hb2 hls
            go_wp2_with fail
            go_roundg (n - (j + 1))
            case measure => have := HK.out; omega
            case rel =>
              refine ⟨j + 1, 1, l', by omega, rfl, by go_num, rfl, Nat.le_refl _, HO'.out, ?_, ?_, ?_⟩
              · have := hol.out; show l'.length = _; rw [HL'.out]; simp; omega
              · rw [HL'.out]; exact HS.out
              · exact (HB.out.alloc HB.out.size _).trans HB'.out
        · obtain ⟨dg, hdg⟩ : ∃ dg, dg = x - bo - y := ⟨_, rfl⟩
          have HS := Lib.hid (KEY.out 0 dg (by omega))
          have q1 : (x : Int) - (bo : Int) - (y : Int) = (dg : Int) := by omega
          have hdl : Hid (dg < 256) := Lib.hid (by omega)
          clear hdg KEY
          go_wp2_with (at_builtin; refine wpList_app _ rfl _ _ 65 rfl 3 .i64 8 Tryz.underlying65 info_i64 256 w.heap.size _ o [dg] rfl ?_ wr.heap.size 0 1 rfl (CellsG.one _ dg _ _) ?_ ?_ ?_ ?_ ?_)
          · exact HO.out.alloc _
          · exact Dig.one hdl.out
          · have := hol.out; simp; unfold maxLen; omega
          · have := hol.out; simp; omega
          · have := HB.out.size; simp; omega
          · intro l' v' w' HL' ho hb2 hg
            obtain ⟨a', cap', rfl, hls⟩ := ho.ls; have HO' := Lib.hid ho; have HB' := Lib.hid hb2; clear hg ho hb2 hls
            go_wp2_with fail
            go_roundg (n - (j + 1))
            case measure => have := HK.out; omega
            case rel =>
              refine ⟨j + 1, 0, l', by omega, rfl, by go_num, rfl, Nat.zero_le _, HO'.out, ?_, ?_, ?_⟩
              · have := hol.out; show l'.length = _; rw [HL'.out]; simp; omega
              · rw [HL'.out]; exact HS.out
              · exact (HB.out.alloc HB.out.size _).trans HB'.out
      · have hz : nth l2 j = 0 := nth_ge (by have := HN2.out; omega)
        rw [hz] at KEY
        clear hz hbel hy
        by_cases hd : x < bo
        · obtain ⟨dg, hdg⟩ : ∃ dg, dg = x + 256 - bo := ⟨_, rfl⟩
          have HS := Lib.hid (KEY.out 1 dg (by omega))
          have q1 : (x : Int) - (bo : Int) + 256 = (dg : Int) := by omega
          have q2 : (x : Int) - (bo : Int) < 0 := by omega
          have hdl : Hid (dg < 256) := Lib.hid (by omega)
          clear hdg KEY
          go_wp2_with (at_builtin; refine wpList_app _ rfl _ _ 65 rfl 3 .i64 8 Tryz.underlying65 info_i64 256 w.heap.size _ o [dg] rfl ?_ wr.heap.size 0 1 rfl (CellsG.one _ dg _ _) ?_ ?_ ?_ ?_ ?_)
          · exact HO.out.alloc _
          · exact Dig.one hdl.out
          · have := hol.out; simp; unfold maxLen; omega
          · have := hol.out; simp; omega
          · have := HB.out.size; simp; omega
          · intro l' v' w' HL' ho hb2 hg
            obtain ⟨a', cap', rfl, hls⟩ := ho.ls; have HO' := Lib.hid ho; have HB' := Lib.hid hb2; clear hg ho hb2 hls
            go_wp2_with fail
            go_roundg (n - (j + 1))
            case measure => have := HK.out; omega
            case rel =>
              refine ⟨j + 1, 1, l', by omega, rfl, by go_num, rfl, Nat.le_refl _, HO'.out, ?_, ?_, ?_⟩
              · have := hol.out; show l'.length = _; rw [HL'.out]; simp; omega
              · rw [HL'.out]; exact HS.out
              · exact (HB.out.alloc HB.out.size _).trans HB'.out
        · obtain ⟨dg, hdg⟩ : ∃ dg, dg = x - bo := ⟨_, rfl⟩
          have HS := Lib.hid (KEY.out 0 dg (by omega))
          have q1 : (x : Int) - (bo : Int) = (dg : Int) := by omega
          have hdl : Hid (dg < 256) := Lib.hid (by omega)
          clear hdg KEY
          go_wp2_with (at_builtin; refine wpList_app _ rfl _ _ 65 rfl 3 .i64 8 Tryz.underlying65 info_i64 256 w.heap.size _ o [dg] rfl ?_ wr.heap.size 0 1 rfl (CellsG.one _ dg _ _) ?_ ?_ ?_ ?_ ?_)
          · exact HO.out.alloc _
          · exact Dig.one hdl.out
          · have := hol.out; simp; unfold maxLen; omega
          · have := hol.out; simp; omega
          · have := HB.out.size; simp; omega
          · intro l' v' w' HL' ho hb2 hg
            obtain ⟨a', cap', rfl, hls⟩ := ho.ls; have HO' := Lib.hid ho; have HB' := Lib.hid hb2; clear hg ho hb2 hls
            go_wp2_with fail
            go_roundg (n - (j + 1))
            case measure => have := HK.out; omega
            case rel =>
              refine ⟨j + 1, 0, l', by omega, rfl, by go_num, rfl, Nat.zero_le _, HO'.out, ?_, ?_, ?_⟩
              · have := hol.out; show l'.length = _; rw [HL'.out]; simp; omega
              · rw [HL'.out]; exact HS.out
              · exact (HB.out.alloc HB.out.size _).trans HB'.out
    · obtain rfl : j = n := by omega
      obtain ⟨a', cap', rfl, hls⟩ := HO.out.ls
      have HLS := Lib.hid hls
      have HV : Hid (val 256 o = val 256 l1 - val 256 l2) := Lib.hid (rsub_end HO.out.dig (by rw [hol.out, HN.out]) HL0.out HLE.out (bo := bo) (by rw [← HN.out]; exact hv.out))
      clear hls hbel hv
      go_wp2_with fail
      refine Calls.mono (rtrim_c a' cap' o wr HLS.out) ?_; rintro e w'' ⟨rfl, rfl⟩
      go_wp2_with fail
      go_ret
      refine ⟨_, rfl, ?_, HB.out⟩
      rw [← HV.out]; exact HO.out.trim two56 rfl

end Go.Proofs.YtkbhchlecokpiaaGreat

/-! ## RAdd: The reference of layer 1: Add, Sub, Cmp. -/
set_option linter.unusedVariables false
set_option linter.unusedSimpArgs false
namespace Tw
open Go Go.RowKit
theorem radd_step {o l1 l2 : List Nat} {j c s : Nat} (ho : o.length = j) (hv : val 256 o + 256 ^ j * c = val 256 (l1.take j) + val 256 (l2.take j)) (hs : s = c + nth l1 j + nth l2 j) :
    val 256 (o ++ [s % 256]) + 256 ^ (j + 1) * (s / 256) = val 256 (l1.take (j + 1)) + val 256 (l2.take (j + 1)) := by
  rw [val_take_step, val_take_step, val_snoc, ho, Nat.pow_succ]
  generalize 256 ^ j = p at *
  have h1 : p * (s % 256) + p * 256 * (s / 256) = p * s := by rw [Nat.mul_assoc, ← Nat.mul_add, Nat.mod_add_div]
  have h2 : p * s = p * c + p * nth l1 j + p * nth l2 j := by rw [hs, Nat.mul_add, Nat.mul_add]
  omega
end Tw
namespace Go.Proofs.YtkbhchlecokpiaaGreat
open Go Go.RowKit Tw
set_option linter.unusedVariables false
set_option linter.unusedSimpArgs false

set_option maxRecDepth 100000 in
set_option maxHeartbeats 2000000 in
theorem radd_c (v1 v2 : Value) (l1 l2 : List Nat) (w : World) (h1 : Wd w v1 l1) (h2 : Wd w v2 l2) (hs1 : l1.length ≤ 2000) (hs2 : l2.length ≤ 2000) :
    Calls Tryz.prog 144 #[v1, v2] w fun e w' => ∃ v', e = .returned v' ∧ OwnW w.heap.size w' v' (digs W (val W l1 + val W l2)) ∧ Below w.heap.size w w' := by
  have H1 := Lib.hid h1; have H2 := Lib.hid h2
  have hle1 := length_digs_le (b := 256) (k := 8 * l1.length) two56 (by rw [← W256]; exact val_lt h1.dig)
  have hle2 := length_digs_le (b := 256) (k := 8 * l2.length) two56 (by rw [← W256]; exact val_lt h2.dig)
  clear h1 h2
  go_enter Tryz.func144, Tryz.ntmps144
  go_wp2_with fail
  refine Calls.mono (small_c _ l1 _ H1.out (by omega)) ?_; rintro e wa ⟨t1, rfl, g1, hba⟩
  have H2a := Lib.hid (H2.out.below hba); clear H1 H2
  have BA := Lib.hid hba; have G1 := Lib.hid g1; clear hba g1
  go_wp2_with fail
  refine Calls.mono (small_c _ l2 _ H2a.out (by omega)) ?_; rintro e wb ⟨t2, rfl, g2, hbb⟩
  have G1b := Lib.hid (G1.out.below hbb).ls
  have G2b := Lib.hid g2.ls
  have BB := Lib.hid (bel_trans BA.out hbb); clear hbb g2 G1 H2a BA
  have E1 := Lib.hid (val_digs two56 (val W l1)); have E2 := Lib.hid (val_digs two56 (val W l2))
  generalize hA : val W l1 = A at *
  generalize hB : val W l2 = B at *
  generalize digs 256 A = d1 at *
  generalize digs 256 B = d2 at *
  have D1 := Lib.hid G1b.out.dig; have D2 := Lib.hid G2b.out.dig
  obtain ⟨a1, c1, rfl, hx1⟩ := G1b
  obtain ⟨a2, c2, rfl, hx2⟩ := G2b
  have HX1 := Lib.hid hx1; have HX2 := Lib.hid hx2
  obtain ⟨n1, hn1⟩ : ∃ n, n = d1.length := ⟨_, rfl⟩
  obtain ⟨n2, hn2⟩ : ∃ n, n = d2.length := ⟨_, rfl⟩
  have HN1 := Lib.hid hn1; have HN2 := Lib.hid hn2
  have hm1 : n1 ≤ 16000 := by omega
  have hm2 : n2 ≤ 16000 := by omega
  rw [← hn1, ← hn2]
  have HA := Lib.hid hA; have HB0 := Lib.hid hB
  clear hx1 hx2 hn1 hn2 hA hB hle1 hle2
  go_wp2_with fail
  go_loopg [7, 8, 9] (max n1 n2 + 1) (fun k s c i wr => ∃ (j cy : Nat) (o : List Nat), Hid (j ≤ max n1 n2 + 1) ∧ j ≤ 16001 ∧ k = max n1 n2 + 1 - j ∧ i = .int .i64 j ∧ c = .int .i64 cy ∧ cy ≤ 1 ∧ Hid (j = max n1 n2 + 1 → cy = 0) ∧ OwnD wb.heap.size wr s o ∧ Hid (o.length = j) ∧
    Hid (val 256 o + 256 ^ j * cy = val 256 (d1.take j) + val 256 (d2.take j)) ∧ Hid (Below wb.heap.size wb wr))
  case atStart => exact ⟨0, 0, [], by show 0 ≤ _; omega, by omega, rfl, rfl, rfl, by omega, fun _ => rfl, Own.nil _ _ _ _ _, rfl, by show _ = _; simp [val], Below.refl _ _⟩
  case round =>
    obtain ⟨j, cy, o, hj0, hj, hk, rfl, rfl, hcy, hz, hown, hol, hv, HBB⟩ := hrel
    have HK := Lib.hid hk; have HO := Lib.hid hown
    clear hk hown
    have key : ∀ s, s = cy + nth d1 j + nth d2 j → val 256 (o ++ [s % 256]) + 256 ^ (j + 1) * (s / 256) = val 256 (d1.take (j + 1)) + val 256 (d2.take (j + 1)) := fun s e => radd_step hol.out hv.out e
    have KEY := Lib.hid key
    have x1 := nth_digW (by omega) D1.out j
    have x2 := nth_digW (by omega) D2.out j
    have hz1 : n1 ≤ j → nth d1 j = 0 := fun h => nth_ge (by have := HN1.out; omega)
    have hz2 : n2 ≤ j → nth d2 j = 0 := fun h => nth_ge (by have := HN2.out; omega)
    have HZ1 := Lib.hid hz1; have HZ2 := Lib.hid hz2
    clear key hz1 hz2
    by_cases hlt1 : j < n1
    · by_cases hlt2 : j < n2
      · obtain ⟨b1, o1, rfl, hcl⟩ := HX1.out.2.2.2 (by intro e; have := HN1.out; rw [e] at this; simp at this; omega)
        have g1 : wr.cell? ⟨b1, o1 + j, none⟩ = some (.int .i64 ((nth d1 j : Nat) : Int)) := hcl.below (hcl.lt (by have := HN1.out; omega)) HBB.out _ (by have := HN1.out; omega)
        clear hcl
        obtain ⟨b2, o2, rfl, hcl⟩ := HX2.out.2.2.2 (by intro e; have := HN2.out; rw [e] at this; simp at this; omega)
        have g2 : wr.cell? ⟨b2, o2 + j, none⟩ = some (.int .i64 ((nth d2 j : Nat) : Int)) := hcl.below (hcl.lt (by have := HN2.out; omega)) HBB.out _ (by have := HN2.out; omega)
        clear hcl
        obtain ⟨s, hse⟩ : ∃ s, s = cy + nth d1 j + nth d2 j := ⟨_, rfl⟩
        have HS := Lib.hid (KEY.out s hse)
        have hsi : (cy : Int) + ((nth d1 j : Nat) : Int) + ((nth d2 j : Nat) : Int) = (s : Int) := by omega
        have hsb : s ≤ 511 := by omega
        have HMZ : Hid (j + 1 = max n1 n2 + 1 → s / 256 = 0) := Lib.hid (fun h => by omega)
        have HMX : Hid (j + 1 ≤ max n1 n2 + 1) := Lib.hid (by have := hz.out; have := hj0.out; omega)
        have t1 : (s : Int).tmod 256 = ((s % 256 : Nat) : Int) := rfl
        have t2 : (s : Int).tdiv 256 = ((s / 256 : Nat) : Int) := rfl
        clear hse KEY
        go_wp2_with (at_builtin; refine wpList_app _ rfl _ _ 65 rfl 3 .i64 8 Tryz.underlying65 info_i64 256 wb.heap.size _ o [s % 256] rfl ?_ wr.heap.size 0 1 rfl (CellsG.one _ (s % 256) _ _) ?_ ?_ ?_ ?_ ?_)
        · exact HO.out.alloc _
        · exact Dig.one (Nat.mod_lt _ (by omega))
        · have := hol.out; simp; unfold maxLen; omega
        · have := hol.out; simp; omega
        · have := HBB.out.size; simp; omega
        · intro l' v' w' HL' ho hb2 hg
          obtain ⟨a', cap', rfl, hls⟩ := ho.ls; have HO' := Lib.hid ho; have HB' := Lib.hid hb2; have HLS := Lib.hid hls; clear hg ho hb2 hls
          go_wp2_with fail
          go_roundg (max n1 n2 + 1 - (j + 1))
          case measure => have := HK.out; have := hj0.out; have := HMX.out; omega
          case rel =>
            refine ⟨j + 1, s / 256, l', ?_, by have := HMX.out; omega, rfl, by go_num, by go_num, by omega, ?_, HO'.out, ?_, ?_, ?_⟩
            · have := HMX.out; show _ ≤ _; omega
            · have := HMZ.out; intro h; omega
            · have := hol.out; show l'.length = _; rw [HL'.out]; simp; omega
            · rw [HL'.out]; exact HS.out
            · exact (HBB.out.alloc HBB.out.size _).trans HB'.out
      · obtain ⟨b1, o1, rfl, hcl⟩ := HX1.out.2.2.2 (by intro e; have := HN1.out; rw [e] at this; simp at this; omega)
        have g1 : wr.cell? ⟨b1, o1 + j, none⟩ = some (.int .i64 ((nth d1 j : Nat) : Int)) := hcl.below (hcl.lt (by have := HN1.out; omega)) HBB.out _ (by have := HN1.out; omega)
        clear hcl
        have e2 := HZ2.out (by omega)
        obtain ⟨s, hse⟩ : ∃ s, s = cy + nth d1 j + nth d2 j := ⟨_, rfl⟩
        have HS := Lib.hid (KEY.out s hse)
        have hsi : (cy : Int) + ((nth d1 j : Nat) : Int) = (s : Int) := by omega
        have hsb : s ≤ 511 := by omega
        have HMZ : Hid (j + 1 = max n1 n2 + 1 → s / 256 = 0) := Lib.hid (fun h => by omega)
        have HMX : Hid (j + 1 ≤ max n1 n2 + 1) := Lib.hid (by have := hz.out; have := hj0.out; omega)
        have t1 : (s : Int).tmod 256 = ((s % 256 : Nat) : Int) := rfl
        have t2 : (s : Int).tdiv 256 = ((s / 256 : Nat) : Int) := rfl
        clear hse KEY e2
        go_wp2_with (at_builtin; refine wpList_app _ rfl _ _ 65 rfl 3 .i64 8 Tryz.underlying65 info_i64 256 wb.heap.size _ o [s % 256] rfl ?_ wr.heap.size 0 1 rfl (CellsG.one _ (s % 256) _ _) ?_ ?_ ?_ ?_ ?_)
        · exact HO.out.alloc _
        · exact Dig.one (Nat.mod_lt _ (by omega))
        · have := hol.out; simp; unfold maxLen; omega
        · have := hol.out; simp; omega
        · have := HBB.out.size; simp; omega
        · intro l' v' w' HL' ho hb2 hg
          obtain ⟨a', cap', rfl, hls⟩ := ho.ls; have HO' := Lib.hid ho; have HB' := Lib.hid hb2; have HLS := Lib.hid hls; clear hg ho hb2 hls
          go_wp2_with fail
          go_roundg (max n1 n2 + 1 - (j + 1))
          case measure => have := HK.out; have := hj0.out; have := HMX.out; omega
          case rel =>
            refine ⟨j + 1, s / 256, l', ?_, by have := HMX.out; omega, rfl, by go_num, by go_num, by omega, ?_, HO'.out, ?_, ?_, ?_⟩
            · have := HMX.out; show _ ≤ _; omega
            · have := HMZ.out; intro h; omega
            · have := hol.out; show l'.length = _; rw [HL'.out]; simp; omega
            · rw [HL'.out]; exact HS.out
            · exact (HBB.out.alloc HBB.out.size _).trans HB'.out
    · by_cases hlt2 : j < n2
      · have e1 := HZ1.out (by omega)
        obtain ⟨b2, o2, rfl, hcl⟩ := HX2.out.2.2.2 (by intro e; have := HN2.out; rw [e] at this; simp at this; omega)
        have g2 : wr.cell? ⟨b2, o2 + j, none⟩ = some (.int .i64 ((nth d2 j : Nat) : Int)) := hcl.below (hcl.lt (by have := HN2.out; omega)) HBB.out _ (by have := HN2.out; omega)
        clear hcl
        obtain ⟨s, hse⟩ : ∃ s, s = cy + nth d1 j + nth d2 j := ⟨_, rfl⟩
        have HS := Lib.hid (KEY.out s hse)
        have hsi : (cy : Int) + ((nth d2 j : Nat) : Int) = (s : Int) := by omega
        have hsb : s ≤ 511 := by omega
        have HMZ : Hid (j + 1 = max n1 n2 + 1 → s / 256 = 0) := Lib.hid (fun h => by omega)
        have HMX : Hid (j + 1 ≤ max n1 n2 + 1) := Lib.hid (by have := hz.out; have := hj0.out; omega)
        have t1 : (s : Int).tmod 256 = ((s % 256 : Nat) : Int) := rfl
        have t2 : (s : Int).tdiv 256 = ((s / 256 : Nat) : Int) := rfl
        clear hse KEY e1
        go_wp2_with (at_builtin; refine wpList_app _ rfl _ _ 65 rfl 3 .i64 8 Tryz.underlying65 info_i64 256 wb.heap.size _ o [s % 256] rfl ?_ wr.heap.size 0 1 rfl (CellsG.one _ (s % 256) _ _) ?_ ?_ ?_ ?_ ?_)
        · exact HO.out.alloc _
        · exact Dig.one (Nat.mod_lt _ (by omega))
        · have := hol.out; simp; unfold maxLen; omega
        · have := hol.out; simp; omega
        · have := HBB.out.size; simp; omega
        · intro l' v' w' HL' ho hb2 hg
          obtain ⟨a', cap', rfl, hls⟩ := ho.ls; have HO' := Lib.hid ho; have HB' := Lib.hid hb2; have HLS := Lib.hid hls; clear hg ho hb2 hls
          go_wp2_with fail
          go_roundg (max n1 n2 + 1 - (j + 1))
          case measure => have := HK.out; have := hj0.out; have := HMX.out; omega
          case rel =>
            refine ⟨j + 1, s / 256, l', ?_, by have := HMX.out; omega, rfl, by go_num, by go_num, by omega, ?_, HO'.out, ?_, ?_, ?_⟩
            · have := HMX.out; show _ ≤ _; omega
            · have := HMZ.out; intro h; omega
            · have := hol.out; show l'.length = _; rw [HL'.out]; simp; omega
            · rw [HL'.out]; exact HS.out
            · exact (HBB.out.alloc HBB.out.size _).trans HB'.out
      · by_cases hc0 : cy = 0
        · have HV : Hid (val 256 o = A + B) := Lib.hid (by
            have := hv.out
            rw [hc0, Nat.mul_zero, Nat.add_zero, List.take_of_length_le (by have := HN1.out; omega), List.take_of_length_le (by have := HN2.out; omega), E1.out, E2.out] at this
            exact this)
          subst hc0
          clear x1 x2 hv
          go_wp2_with fail
          refine Calls.mono (large_c _ o _ HO.out.ls (by have := hol.out; omega)) ?_; rintro e wc ⟨v', rfl, hr, hbc⟩
          have HR := Lib.hid hr; have HBC := Lib.hid hbc; clear hr hbc
          go_wp2_with fail
          go_ret
          refine ⟨v', rfl, ?_, bel_trans (bel_trans BB.out HBB.out) HBC.out⟩
          rw [HA.out, HB0.out, ← HV.out]; exact HR.out.mono (bel_trans BB.out HBB.out).size
        · have hcp : 0 < cy := by omega
          have e1 := HZ1.out (by omega)
          have e2 := HZ2.out (by omega)
          have HS := Lib.hid (KEY.out cy (by omega))
          have HMZ : Hid (j + 1 = max n1 n2 + 1 → cy / 256 = 0) := Lib.hid (fun _ => by omega)
          have HMX : Hid (j + 1 ≤ max n1 n2 + 1) := Lib.hid (by have := hz.out; have := hj0.out; omega)
          have t1 : (cy : Int).tmod 256 = ((cy % 256 : Nat) : Int) := rfl
          have t2 : (cy : Int).tdiv 256 = ((cy / 256 : Nat) : Int) := rfl
          clear KEY e1 e2
          go_wp2_with (at_builtin; refine wpList_app _ rfl _ _ 65 rfl 3 .i64 8 Tryz.underlying65 info_i64 256 wb.heap.size _ o [cy % 256] rfl ?_ wr.heap.size 0 1 rfl (CellsG.one _ (cy % 256) _ _) ?_ ?_ ?_ ?_ ?_)
          · exact HO.out.alloc _
          · exact Dig.one (Nat.mod_lt _ (by omega))
          · have := hol.out; simp; unfold maxLen; omega
          · have := hol.out; simp; omega
          · have := HBB.out.size; simp; omega
          · intro l' v' w' HL' ho hb2 hg
            obtain ⟨a', cap', rfl, hls⟩ := ho.ls; have HO' := Lib.hid ho; have HB' := Lib.hid hb2; have HLS := Lib.hid hls; clear hg ho hb2 hls
            go_wp2_with fail
            go_roundg (max n1 n2 + 1 - (j + 1))
            case measure => have := HK.out; have := hj0.out; have := HMX.out; omega
            case rel =>
              refine ⟨j + 1, cy / 256, l', ?_, by have := HMX.out; omega, rfl, by go_num, by go_num, by omega, ?_, HO'.out, ?_, ?_, ?_⟩
              · have := HMX.out; show _ ≤ _; omega
              · have := HMZ.out; intro h; omega
              · have := hol.out; show l'.length = _; rw [HL'.out]; simp; omega
              · rw [HL'.out]; exact HS.out
              · exact (HBB.out.alloc HBB.out.size _).trans HB'.out

theorem rcmpw_c (v1 v2 : Value) (l1 l2 : List Nat) (w : World) (h1 : Wd w v1 l1) (h2 : Wd w v2 l2) (hs1 : l1.length ≤ 2000) (hs2 : l2.length ≤ 2000) :
    Calls Tryz.prog 177 #[v1, v2] w fun e w' => e = .returned (.int .i64 (cmpN (val W l1) (val W l2))) ∧ Below w.heap.size w w' := by
  have H1 := Lib.hid h1; have H2 := Lib.hid h2
  clear h1 h2
  go_enter Tryz.func177, Tryz.ntmps177
  go_wp2_with fail
  refine Calls.mono (small_c _ l1 _ H1.out (by omega)) ?_; rintro e wa ⟨t1, rfl, g1, hba⟩
  have H2a := Lib.hid (H2.out.below hba); clear H1 H2
  have BA := Lib.hid hba; have G1 := Lib.hid g1; clear hba g1
  go_wp2_with fail
  refine Calls.mono (small_c _ l2 _ H2a.out (by omega)) ?_; rintro e wb ⟨t2, rfl, g2, hbb⟩
  have G1b := Lib.hid (G1.out.below hbb).ls
  have G2b := Lib.hid g2.ls
  have BB := Lib.hid (bel_trans BA.out hbb); clear hbb g2 G1 H2a BA
  go_wp2_with fail
  refine Calls.mono (rcmp_c _ _ _ _ _ G1b.out G2b.out) ?_; rintro e wc ⟨rfl, nd, rfl⟩
  go_wp2_with fail
  go_ret
  exact ⟨rfl, bel_drawn BB.out nd⟩

theorem rsubw_c (v1 v2 : Value) (l1 l2 : List Nat) (w : World) (h1 : Wd w v1 l1) (h2 : Wd w v2 l2) (hs1 : l1.length ≤ 2000) (hs2 : l2.length ≤ 2000) :
    Calls Tryz.prog 178 #[v1, v2] w fun e w' => ∃ v', e = .returned v' ∧ OwnW w.heap.size w' v' (digs W (val W l1 - val W l2)) ∧ Below w.heap.size w w' := by
  have H1 := Lib.hid h1; have H2 := Lib.hid h2
  have hle1 := length_digs_le (b := 256) (k := 8 * l1.length) two56 (by rw [← W256]; exact val_lt h1.dig)
  have hle2 := length_digs_le (b := 256) (k := 8 * l2.length) two56 (by rw [← W256]; exact val_lt h2.dig)
  clear h1 h2
  by_cases hlt : val W l1 < val W l2
  · have HC := Lib.hid (cmpN_lt hlt)
    have HR : Hid (digs W (val W l1 - val W l2) = []) := Lib.hid (by rw [show val W l1 - val W l2 = 0 by omega, digs_zero])
    clear hlt
    go_enter Tryz.func178, Tryz.ntmps178
    go_wp2_with fail
    refine Calls.mono (small_c _ l1 _ H1.out (by omega)) ?_; rintro e wa ⟨t1, rfl, g1, hba⟩
    have H2a := Lib.hid (H2.out.below hba); clear H1 H2
    have BA := Lib.hid hba; have G1 := Lib.hid g1; clear hba g1
    go_wp2_with fail
    refine Calls.mono (small_c _ l2 _ H2a.out (by omega)) ?_; rintro e wb ⟨t2, rfl, g2, hbb⟩
    have G1b := Lib.hid (G1.out.below hbb).ls
    have G2b := Lib.hid g2.ls
    have BB := Lib.hid (bel_trans BA.out hbb); clear hbb g2 G1 H2a BA
    go_wp2_with fail
    refine Calls.mono (rcmp_c _ _ _ _ _ G1b.out G2b.out) ?_; rintro e wc ⟨rfl, nd, rfl⟩
    rw [HC.out]
    go_wp2_with fail
    go_ret
    exact ⟨_, rfl, by rw [HR.out]; exact Own.nil _ _ _ _ _, bel_drawn BB.out nd⟩
  · have HC : Hid (∃ c : Int, cmpN (val W l1) (val W l2) = c ∧ 0 ≤ c) := Lib.hid (cmp_ge (by omega))
    obtain ⟨c, hc, hc0⟩ := HC.out
    have hc1 : ¬ c < 0 := by omega
    have HC := Lib.hid hc
    have HLT := Lib.hid hlt
    clear hc hlt
    go_enter Tryz.func178, Tryz.ntmps178
    go_wp2_with fail
    refine Calls.mono (small_c _ l1 _ H1.out (by omega)) ?_; rintro e wa ⟨t1, rfl, g1, hba⟩
    have H2a := Lib.hid (H2.out.below hba); clear H1 H2
    have BA := Lib.hid hba; have G1 := Lib.hid g1; clear hba g1
    go_wp2_with fail
    refine Calls.mono (small_c _ l2 _ H2a.out (by omega)) ?_; rintro e wb ⟨t2, rfl, g2, hbb⟩
    have G1b := Lib.hid (G1.out.below hbb).ls
    have G2b := Lib.hid g2.ls
    have BB := Lib.hid (bel_trans BA.out hbb); clear hbb g2 G1 H2a BA
    go_wp2_with fail
    refine Calls.mono (rcmp_c _ _ _ _ _ G1b.out G2b.out) ?_; rintro e wc ⟨rfl, nd, rfl⟩
    rw [HC.out]
    go_wp2_with fail
    refine Calls.mono (rsub_c _ _ _ _ _ (G1b.out.drawn nd) (G2b.out.drawn nd) (by omega) ?_ ?_) ?_
    · rcases Nat.lt_or_ge (digs 256 (val W l1)).length (digs 256 (val W l2)).length with h | h
      · exact absurd (lt_of_lengthB two56 h) HLT.out
      · exact h
    · rw [val_digs two56, val_digs two56]; have := HLT.out; omega
    rintro e wd ⟨t3, rfl, g3, hbd⟩
    rw [val_digs two56, val_digs two56] at g3
    have G3 := Lib.hid g3.ls
    have hle3 := length_digs_le (b := 256) (n := val W l1 - val W l2) (k := (digs 256 (val W l1)).length) two56 (Nat.lt_of_le_of_lt (Nat.sub_le _ _) (lt_pow_length two56 _))
    have BD := Lib.hid (bel_trans (bel_drawn BB.out nd) hbd); clear hbd g3 G1b G2b
    have HL3 : Hid ((digs 256 (val W l1 - val W l2)).length ≤ 200000) := Lib.hid (by omega)
    clear hle1 hle2 hle3 hc0 hc1 BB
    go_wp2_with fail
    refine Calls.mono (large_c _ _ _ G3.out HL3.out) ?_; rintro e we ⟨v', rfl, g4, hbe⟩
    rw [val_digs two56] at g4
    have G4 := Lib.hid g4; have BE := Lib.hid hbe; clear g4 hbe
    go_wp2_with fail
    go_ret
    exact ⟨v', rfl, G4.out.mono BD.out.size, bel_trans BD.out BE.out⟩

end Go.Proofs.YtkbhchlecokpiaaGreat
