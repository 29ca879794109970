/- The document's answer for layer 2, by the logic over data. -/
import Derived.Test.YtkbhchlecokpiaaGreatFwRG
import Derived.Test.YtkbhchlecokpiaaGreatFwL2
set_option linter.unusedVariables false
set_option linter.unusedSimpArgs false
namespace Go.Proofs.YtkbhchlecokpiaaGreat
open Go Go.RowKit Fw Tw
set_option linter.unusedVariables false
set_option linter.unusedSimpArgs false
theorem mk_r {neg : Bool} {l : List Nat} (hd : Dig W l) (hl : l.length ≤ 900) : Ret Tryz.prog 138 [.bool neg, mW l] (mI (sg neg (Tw.val W l))) := by
  have hb := val_lt hd
  have s1 := rsmall_r hd (by omega)
  have g1 := rlarge_r (dig_digs two56 (Tw.val W l)) (Nat.le_trans (length_digs_le (k := 8 * l.length) two56 (by rw [← W256]; exact hb)) (by omega))
  rw [val_digs two56] at g1
  rw [mI_sg]
  generalize Tw.val W l = X at *
  refine ret_of (L := L) lay_ok Tryz.func138 rfl Tryz.ntmps138 rfl ?_
  refine go ?_
  refine cl (by exact rfl) plain171 rfl s1 ?_
  refine go ?_
  refine cl (by exact rfl) plain170 rfl g1 ?_
  refine go ?_
  refine awp_cond rfl (fun hb => ?_) (fun hb => ?_)
  · refine go ?_
    refine ⟨_, rfl, ?_⟩
    have : (digs W X).length = 0 := by simp at hb; simp [hb]
    simp [tupM, this]
  · refine go ?_
    refine ⟨_, rfl, ?_⟩
    have : 0 < (digs W X).length := by simp at hb; exact List.length_pos_iff.2 hb
    simp [tupM, this]
theorem mkm_r {neg : Bool} {X k : Nat} (h : X < W ^ k) (hk : k ≤ 900) : Ret Tryz.prog 138 [.bool neg, mN X] (mI (sg neg X)) := by
  have := mk_r (neg := neg) (dig_digs W_two X) (len_W h hk)
  rwa [val_digs W_two] at this
theorem rof_r {n : Int} (h1 : -9223372036854775808 ≤ n) (h2 : n ≤ 9223372036854775807) : Ret Tryz.prog 107 [.int .i64 n] (mI n) := by
  have hm : ∀ b, Ret Tryz.prog 138 [.bool b, mW [n.natAbs]] (mI (sg b n.natAbs)) := fun b => by
    have := mk_r (neg := b) (l := [n.natAbs]) (Dig.one (by unfold W; omega)) (by simp)
    rwa [val_one] at this
  refine ret_of (L := L) lay_ok Tryz.func107 rfl Tryz.ntmps107 rfl ?_
  refine go ?_
  refine awp_cond rfl (fun hb => ?_) (fun hb => ?_)
  · have hn : 0 ≤ n := by simpa using hb
    have e1 : IntKind.u64.wrap n = (n.natAbs : Int) := by rw [IntKind.wrap_u64]; omega
    refine go ?_
    refine clz (by exact rfl) plain138 rfl (show Ret _ _ [.bool false, .seq 1 [.int .u64 (IntKind.u64.wrap n)]] _ by rw [e1]; exact hm false) ?_
    refine go ?_
    refine ⟨_, rfl, ?_⟩
    have : sg false n.natAbs = n := by simp [sg]; omega
    rw [this]; rfl
  · have hn : n < 0 := by simpa using hb
    have e1 : IntKind.u64.wrap (IntKind.u64.wrap (IntKind.i64.wrap (0 - (n + 1))) + 1) = (n.natAbs : Int) := by rw [IntKind.wrap_u64, IntKind.wrap_u64, IntKind.wrap_i64]; omega
    refine go ?_
    refine clz (by exact rfl) plain138 rfl (show Ret _ _ [.bool true, .seq 1 [.int .u64 (IntKind.u64.wrap (IntKind.u64.wrap (IntKind.i64.wrap (0 - (n + 1))) + 1))]] _ by rw [e1]; exact hm true) ?_
    refine go ?_
    refine ⟨_, rfl, ?_⟩
    have : sg true n.natAbs = n := by simp [sg]; omega
    rw [this]; rfl
theorem rnorm_r {m : M} {z : Int} {k : Nat} (h : IsZ m z k) (hk : k ≤ 900) : Ret Tryz.prog 110 [m] (mI z) := by
  obtain ⟨b, l, rfl, hd, hl, rfl⟩ := h
  refine ret_of (L := L) lay_ok Tryz.func110 rfl Tryz.ntmps110 rfl ?_
  refine go ?_
  refine cl (by exact rfl) plain138 rfl (mk_r hd (by omega)) ?_
  refine go ?_
  refine ⟨_, rfl, ?_⟩
  rfl
theorem rneg_r {m : M} {z : Int} {k : Nat} (h : IsZ m z k) (hk : k ≤ 900) : Ret Tryz.prog 111 [m] (mI (-z)) := by
  obtain ⟨b, l, rfl, hd, hl, rfl⟩ := h
  refine ret_of (L := L) lay_ok Tryz.func111 rfl Tryz.ntmps111 rfl ?_
  refine go ?_
  refine cl (by exact rfl) plain138 rfl (mk_r hd (by omega)) ?_
  refine go ?_
  refine ⟨_, rfl, ?_⟩
  have : -sg b (Tw.val W l) = sg (!b) (Tw.val W l) := by cases b <;> simp [sg]
  rw [this]; rfl
theorem rsign_r {m : M} {z : Int} {k : Nat} (h : IsZ m z k) (hk : k ≤ 900) : Ret Tryz.prog 108 [m] (.int .i64 (signZ z)) := by
  obtain ⟨b, l, rfl, hd, hl, rfl⟩ := h
  refine ret_of (L := L) lay_ok Tryz.func108 rfl Tryz.ntmps108 rfl ?_
  refine go ?_
  refine cl (by exact rfl) plain145 rfl (rbits_r hd (by omega)) ?_
  refine go ?_
  refine awp_cond rfl (fun hb => ?_) (fun hb => ?_)
  · refine go ?_
    refine ⟨_, rfl, ?_⟩
    have : Tw.val W l = 0 := by rw [← bits_zero]; simpa using hb
    simp [tupM, signZ, sg, this]
  · have : Tw.val W l ≠ 0 := fun h => by rw [← bits_zero] at h; simp [h] at hb
    cases b
    all_goals
      refine go ?_
      refine ⟨_, rfl, ?_⟩
      simp [tupM, signZ, sg]
      omega
theorem cmp_lt {X Y : Nat} (h : decide (cmpN X Y ≥ 0) = false) : X < Y := by
  simp only [decide_eq_false_iff_not] at h
  unfold cmpN at h
  split at h
  · assumption
  · exact absurd (by split <;> omega) h
theorem cmp_gt {X Y : Nat} (h : decide (cmpN X Y ≥ 0) = true) : Y ≤ X := by
  simp only [decide_eq_true_eq] at h
  unfold cmpN at h
  split at h
  · omega
  · omega
theorem rzadd_r {m1 m2 : M} {z1 z2 : Int} {k1 k2 : Nat} (h1 : IsZ m1 z1 k1) (h2 : IsZ m2 z2 k2) (hk1 : k1 ≤ 400) (hk2 : k2 ≤ 400) : Ret Tryz.prog 149 [m1, m2] (mI (z1 + z2)) := by
  have q1 := sz_mono h1.sz (show k1 ≤ k1 + k2 by omega)
  have q2 := sz_mono h2.sz (show k2 ≤ k1 + k2 by omega)
  have hz : z1.natAbs + z2.natAbs < W ^ (k1 + k2 + 1) := by
    rw [Nat.pow_succ]
    have := Nat.mul_le_mul_left (W ^ (k1 + k2)) W_two
    omega
  have n1 := rnorm_r h1 (by omega)
  have n2 := rnorm_r h2 (by omega)
  obtain ⟨b1, l1, rfl, hd1, hl1, -⟩ := h1
  obtain ⟨b2, l2, rfl, hd2, hl2, -⟩ := h2
  refine ret_of (L := L) lay_ok Tryz.func149 rfl Tryz.ntmps149 rfl ?_
  refine go ?_
  refine cl (by exact rfl) plain110 rfl n1 ?_
  refine go ?_
  refine cl (by exact rfl) plain110 rfl n2 ?_
  refine go ?_
  refine awp_cond rfl (fun hb => ?_) (fun hb => ?_)
  · refine go ?_
    refine cl (by exact rfl) plain144 rfl (raddm q1 q2 (by omega)) ?_
    refine go ?_
    refine cl (by exact rfl) plain138 rfl (mkm_r hz (by omega)) ?_
    refine go ?_
    refine ⟨_, rfl, ?_⟩
    have : z1 + z2 = sg (decide (z1 < 0)) (z1.natAbs + z2.natAbs) := by
      simp only [beq_iff_eq] at hb
      by_cases g : z1 < 0
      · have g2 : z2 < 0 := by rw [decide_eq_true g] at hb; simpa using hb.symm
        simp [sg, g]; omega
      · have g2 : ¬ z2 < 0 := by rw [decide_eq_false g] at hb; simpa using hb.symm
        simp [sg, g]; omega
    rw [this]; rfl
  · have hne : ¬ ((z1 < 0) ↔ (z2 < 0)) := by
      intro h
      rw [beq_eq_false_iff_ne] at hb
      exact hb (decide_eq_decide.2 h)
    refine go ?_
    refine cl (by exact rfl) plain177 rfl (rcmpm q1 q2 (by omega)) ?_
    refine go ?_
    refine awp_cond rfl (fun hb2 => ?_) (fun hb2 => ?_)
    · have hle := cmp_gt hb2
      refine go ?_
      refine cl (by exact rfl) plain178 rfl (rsubm q1 q2 (by omega)) ?_
      refine go ?_
      refine cl (by exact rfl) plain138 rfl (mkm_r (k := k1 + k2) (by omega) (by omega)) ?_
      refine go ?_
      refine ⟨_, rfl, ?_⟩
      have : z1 + z2 = sg (decide (z1 < 0)) (z1.natAbs - z2.natAbs) := by
        by_cases g : z1 < 0 <;> simp [sg, g] <;> omega
      rw [this]; rfl
    · have hle := cmp_lt hb2
      refine go ?_
      refine cl (by exact rfl) plain178 rfl (rsubm q2 q1 (by omega)) ?_
      refine go ?_
      refine cl (by exact rfl) plain138 rfl (mkm_r (k := k1 + k2) (by omega) (by omega)) ?_
      refine go ?_
      refine ⟨_, rfl, ?_⟩
      have : z1 + z2 = sg (decide (z2 < 0)) (z2.natAbs - z1.natAbs) := by
        by_cases g : z2 < 0 <;> simp [sg, g] <;> omega
      rw [this]; rfl
theorem rzsub_r {m1 m2 : M} {z1 z2 : Int} {k1 k2 : Nat} (h1 : IsZ m1 z1 k1) (h2 : IsZ m2 z2 k2) (hk1 : k1 ≤ 400) (hk2 : k2 ≤ 400) : Ret Tryz.prog 137 [m1, m2] (mI (z1 - z2)) := by
  have hn := rneg_r h2 (by omega)
  have q2 : IsZ (mI (-z2)) (-z2) k2 := isZ_mI (by have := h2.sz; omega)
  have ha := rzadd_r h1 q2 hk1 hk2
  obtain ⟨b1, l1, rfl, hd1, hl1, rfl⟩ := h1
  obtain ⟨b2, l2, rfl, hd2, hl2, rfl⟩ := h2
  refine ret_of (L := L) lay_ok Tryz.func137 rfl Tryz.ntmps137 rfl ?_
  refine go ?_
  refine cl (by exact rfl) plain111 rfl hn ?_
  refine go ?_
  refine cl (by exact rfl) plain149 rfl ha ?_
  refine go ?_
  refine ⟨_, rfl, ?_⟩
  rfl
theorem rzmul_r {m1 m2 : M} {z1 z2 : Int} {k1 k2 : Nat} (h1 : IsZ m1 z1 k1) (h2 : IsZ m2 z2 k2) (hk1 : k1 ≤ 400) (hk2 : k2 ≤ 400) : Ret Tryz.prog 95 [m1, m2] (mI (z1 * z2)) := by
  have hz := sz_mul h1.sz h2.sz
  obtain ⟨b1, l1, rfl, hd1, hl1, rfl⟩ := h1
  obtain ⟨b2, l2, rfl, hd2, hl2, rfl⟩ := h2
  rw [Int.natAbs_mul, sg_abs, sg_abs] at hz
  refine ret_of (L := L) lay_ok Tryz.func95 rfl Tryz.ntmps95 rfl ?_
  refine go ?_
  refine cl (by exact rfl) plain139 rfl (rmul_r hd1 hd2 (by omega) (by omega)) ?_
  refine go ?_
  refine cl (by exact rfl) plain138 rfl (mkm_r hz (by omega)) ?_
  refine go ?_
  refine ⟨_, rfl, ?_⟩
  have : sg b1 (Tw.val W l1) * sg b2 (Tw.val W l2) = sg (!(b1 == b2)) (Tw.val W l1 * Tw.val W l2) := by
    cases b1 <;> cases b2 <;> simp [sg, Int.neg_mul, Int.mul_neg]
  rw [this]; rfl
theorem rzcmp_r {m1 m2 : M} {z1 z2 : Int} {k1 k2 : Nat} (h1 : IsZ m1 z1 k1) (h2 : IsZ m2 z2 k2) (hk1 : k1 ≤ 400) (hk2 : k2 ≤ 400) : Ret Tryz.prog 94 [m1, m2] (.int .i64 (signZ (z1 - z2))) := by
  have hs := rzsub_r h1 h2 hk1 hk2
  have hg := rsign_r (isZ_mI (sz_sub' h1.sz h2.sz)) (by omega)
  obtain ⟨b1, l1, rfl, hd1, hl1, rfl⟩ := h1
  obtain ⟨b2, l2, rfl, hd2, hl2, rfl⟩ := h2
  refine ret_of (L := L) lay_ok Tryz.func94 rfl Tryz.ntmps94 rfl ?_
  refine go ?_
  refine cl (by exact rfl) plain137 rfl hs ?_
  refine go ?_
  refine cl (by exact rfl) plain108 rfl hg ?_
  refine go ?_
  refine ⟨_, rfl, ?_⟩
  rfl
theorem rzgcd_r {m1 m2 : M} {z1 z2 : Int} {k1 k2 : Nat} (h1 : IsZ m1 z1 k1) (h2 : IsZ m2 z2 k2) (hk1 : k1 ≤ 100) (hk2 : k2 ≤ 100) : Ret Tryz.prog 112 [m1, m2] (mI ((Int.gcd z1 z2 : Nat) : Int)) := by
  have q1 := sz_mono h1.sz hk1
  have q2 := sz_mono h2.sz hk2
  have hz := sz_gcd h1.sz h2.sz
  obtain ⟨b1, l1, rfl, hd1, hl1, rfl⟩ := h1
  obtain ⟨b2, l2, rfl, hd2, hl2, rfl⟩ := h2
  have e : Int.gcd (sg b1 (Tw.val W l1)) (sg b2 (Tw.val W l2)) = Nat.gcd (Tw.val W l1) (Tw.val W l2) := by
    unfold Int.gcd; rw [sg_abs, sg_abs]
  rw [e] at hz ⊢
  rw [sg_abs] at q1 q2
  refine ret_of (L := L) lay_ok Tryz.func112 rfl Tryz.ntmps112 rfl ?_
  refine go ?_
  refine cl (by exact rfl) plain147 rfl (rgcdm q1 q2 hd1 hd2 (by omega) (by omega) rfl rfl) ?_
  refine go ?_
  refine cl (by exact rfl) plain138 rfl (mkm_r (k := k1 + k2) (by simpa using hz) (by omega)) ?_
  refine go ?_
  refine ⟨_, rfl, ?_⟩
  rfl
end Go.Proofs.YtkbhchlecokpiaaGreat
