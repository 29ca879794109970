/- The document's quotient, rest and small numbers of layer 2, by the logic over data. -/
import Derived.Test.YtbofdldkiooegaaFwR2
namespace Go.Proofs.Ytbofdldkiooegaa
open Go Go.RowKit Fw Tw
set_option linter.unusedVariables false
set_option linter.unusedSimpArgs false
theorem sign_cases' (z : Int) : (signZ z = -1 ∧ z < 0) ∨ (signZ z = 0 ∧ z = 0) ∨ (signZ z = 1 ∧ 0 < z) := by
  unfold signZ
  split
  · exact .inl ⟨rfl, by assumption⟩
  · split
    · exact .inr (.inr ⟨rfl, by assumption⟩)
    · exact .inr (.inl ⟨rfl, by omega⟩)
/-- a whole number in a box -/
def boxZ (z : Int) : O := .box 42 [.im (.bool (decide (z < 0))), .im (mN z.natAbs)]
theorem mI_zero : mI 0 = .agg [.bool false, mW []] := by
  have : digs W (Int.natAbs 0) = [] := digs_zero W
  unfold mI mN
  rw [this]
  rfl
theorem ediv_uniq {a : Int} {b2 : Bool} {Y : Nat} (hY : Y ≠ 0) {q r : Int} (h : a - q * sg b2 Y = r) (h0 : 0 ≤ r) (h1 : r < Y) : a / sg b2 Y = q ∧ modZ a (sg b2 Y) = r := by
  cases b2
  · have := ediv_core (a := a) (b2 := false) hY (q := q) (r := r) (by rw [← h]; simp only [sg]; rw [if_neg (by decide), Int.mul_comm q]; omega) h0 h1
    simpa using this
  · have := ediv_core (a := a) (b2 := true) hY (q := -q) (r := r) (by rw [← h]; simp only [sg]; rw [if_pos trivial, Int.mul_neg, Int.mul_neg, Int.mul_comm q]; omega) h0 h1
    simpa using this
theorem trunc_rest {b1 b2 : Bool} {X Y : Nat} (hY : Y ≠ 0) : -(Y : Int) < sg b1 X - sg (!(b1 == b2)) (X / Y) * sg b2 Y ∧ sg b1 X - sg (!(b1 == b2)) (X / Y) * sg b2 Y < Y ∧ (sg (!(b1 == b2)) (X / Y)).natAbs ≤ X := by
  have h1 := Nat.div_add_mod X Y
  have h2 := Nat.mod_lt X (Nat.pos_of_ne_zero hY)
  have h3 : ((X / Y : Nat) : Int) * (Y : Int) = ((X / Y * Y : Nat) : Int) := by simp
  have h4 : X / Y * Y + X % Y = X := by rw [Nat.mul_comm]; exact h1
  have h5 := Nat.div_le_self X Y
  refine ⟨?_, ?_, by rw [sg_abs]; exact h5⟩
  · cases b1 <;> cases b2 <;> simp only [sg, Bool.not_true, Bool.not_false, beq_self_eq_true, if_true, if_false, Bool.false_eq_true, Int.neg_mul, Int.mul_neg, Int.neg_neg, h3, beq_iff_eq, reduceCtorEq, show (false == true) = false from rfl, show (true == false) = false from rfl] <;> omega
  · cases b1 <;> cases b2 <;> simp only [sg, Bool.not_true, Bool.not_false, beq_self_eq_true, if_true, if_false, Bool.false_eq_true, Int.neg_mul, Int.mul_neg, Int.neg_neg, h3, beq_iff_eq, reduceCtorEq, show (false == true) = false from rfl, show (true == false) = false from rfl] <;> omega
set_option maxHeartbeats 1000000 in
theorem rzdivmod_r {m1 m2 : M} {z1 z2 : Int} {k1 k2 : Nat} (h1 : IsZ m1 z1 k1) (h2 : IsZ m2 z2 k2) (hk1 : k1 ≤ 100) (hk2 : k2 ≤ 100) : Ret Try.prog 64 [m1, m2] (.tup [mI (z1 / z2), mI (modZ z1 z2)]) := by
  have hs := rsign_r h2 (by omega)
  have hz1 := h1.sz
  have i1 := h1
  have i2 := h2
  obtain ⟨b1, l1, rfl, hd1, hl1, e1⟩ := h1
  obtain ⟨b2, l2, rfl, hd2, hl2, e2⟩ := h2
  by_cases hz : z2 = 0
  · have e3 : z1 / z2 = 0 := by rw [hz, Int.ediv_zero]
    have e4 : modZ z1 z2 = 0 := if_pos hz
    rw [e3, e4, mI_zero]
    refine Ret.weak (m := .tup [.agg [.bool false, .nil], .agg [.bool false, .nil]]) ?_ (LeL.refl _) (le_tup (.cons (le_agg (.cons (Le.refl _) (.cons le_nil .nil))) (.cons (le_agg (.cons (Le.refl _) (.cons le_nil .nil))) .nil)))
    rw [hz] at hs
    clear e1 e2 i1 i2
    refine ret_of (L := L) lay_ok Try.func64 rfl Try.ntmps64 rfl ?_
    repeat (first | refine ar_addN rfl rfl rfl rfl (by omega) ?_ | refine ar_subN rfl rfl rfl rfl (by omega) ?_ | refine ar_op rfl ?_ | refine ar_div (wantF_ok rfl) rfl rfl rfl rfl (by decide) ?_ | refine ar_nil ?_ | refine awp_seq ?_ | refine awp_region lay_ok ?_ | refine awp_drawn lay_ok follows_ok (by kernel_rfl) ?_ | refine And.intro (by kernel_rfl) ?_ | refine awp_block ?_ | refine awp_skip ?_ | refine awp_ret ?_ | refine awp_exit ?_ | refine awp_scope ?_ | refine awp_condT rfl ?_ | refine awp_condF rfl ?_)
    refine ar_call' (f := 74) rfl rfl rfl rfl plain74 hs ?_
    repeat (first | refine ar_addN rfl rfl rfl rfl (by omega) ?_ | refine ar_subN rfl rfl rfl rfl (by omega) ?_ | refine ar_op rfl ?_ | refine ar_div (wantF_ok rfl) rfl rfl rfl rfl (by decide) ?_ | refine ar_nil ?_ | refine awp_seq ?_ | refine awp_region lay_ok ?_ | refine awp_drawn lay_ok follows_ok (by kernel_rfl) ?_ | refine And.intro (by kernel_rfl) ?_ | refine awp_block ?_ | refine awp_skip ?_ | refine awp_ret ?_ | refine awp_exit ?_ | refine awp_scope ?_ | refine awp_condT rfl ?_ | refine awp_condF rfl ?_)
    refine ⟨_, rfl, ?_⟩
    rfl
  · have hY : Tw.val W l2 ≠ 0 := by rintro h; rw [h] at e2; apply hz; rw [e2]; cases b2 <;> rfl
    have hsn : (signZ z2 == 0) = false := by
      rw [beq_eq_false_iff_ne]; unfold signZ; split
      · omega
      · split <;> omega
    have hdm := rdivmod_r hd1 hd2 (by omega) (by omega)
    have hX := val_lt hd1
    have hXk : Tw.val W l1 < W ^ k1 := Nat.lt_of_lt_of_le hX (Nat.pow_le_pow_right W_pos hl1)
    have hq0 : Tw.val W l1 / Tw.val W l2 < W ^ k1 := Nat.lt_of_le_of_lt (Nat.div_le_self _ _) hXk
    obtain ⟨t1, t2, t3⟩ := trunc_rest (b1 := b1) (b2 := b2) (X := Tw.val W l1) hY
    rw [← e1, ← e2] at t1 t2
    have hXz : Tw.val W l1 = z1.natAbs := by rw [e1, sg_abs]
    have hYz : Tw.val W l2 = z2.natAbs := by rw [e2, sg_abs]
    have hmk := mkm_r (neg := !(b1 == b2)) hq0 (by omega)
    generalize hQ : sg (!(b1 == b2)) (Tw.val W l1 / Tw.val W l2) = q0 at *
    have iq : IsZ (mI q0) q0 k1 := isZ_mI (by rw [← hQ, sg_abs]; exact hq0)
    have hm0 := rzmul_r iq i2 (by omega) (by omega)
    have hr0 := rzsub_r i1 (isZ_mI (sz_mul iq.sz i2.sz)) (by omega) (by omega)
    refine ret_of (L := L) lay_ok Try.func64 rfl Try.ntmps64 rfl ?_
    repeat (first | refine ar_addN rfl rfl rfl rfl (by omega) ?_ | refine ar_subN rfl rfl rfl rfl (by omega) ?_ | refine ar_op rfl ?_ | refine ar_div (wantF_ok rfl) rfl rfl rfl rfl (by decide) ?_ | refine ar_nil ?_ | refine awp_seq ?_ | refine awp_region lay_ok ?_ | refine awp_drawn lay_ok follows_ok (by kernel_rfl) ?_ | refine And.intro (by kernel_rfl) ?_ | refine awp_block ?_ | refine awp_skip ?_ | refine awp_ret ?_ | refine awp_exit ?_ | refine awp_scope ?_ | refine awp_condT rfl ?_ | refine awp_condF rfl ?_)
    refine ar_call' (f := 74) rfl rfl rfl rfl plain74 hs ?_
    repeat (first | refine ar_addN rfl rfl rfl rfl (by omega) ?_ | refine ar_subN rfl rfl rfl rfl (by omega) ?_ | refine ar_op rfl ?_ | refine ar_div (wantF_ok rfl) rfl rfl rfl rfl (by decide) ?_ | refine ar_nil ?_ | refine awp_seq ?_ | refine awp_region lay_ok ?_ | refine awp_drawn lay_ok follows_ok (by kernel_rfl) ?_ | refine And.intro (by kernel_rfl) ?_ | refine awp_block ?_ | refine awp_skip ?_ | refine awp_ret ?_ | refine awp_exit ?_ | refine awp_scope ?_ | refine awp_condT rfl ?_ | refine awp_condF rfl ?_)
    refine awp_cond rfl (fun hb => ?_) (fun hb => ?_)
    · rw [hsn] at hb; cases hb
    repeat (first | refine ar_addN rfl rfl rfl rfl (by omega) ?_ | refine ar_subN rfl rfl rfl rfl (by omega) ?_ | refine ar_op rfl ?_ | refine ar_div (wantF_ok rfl) rfl rfl rfl rfl (by decide) ?_ | refine ar_nil ?_ | refine awp_seq ?_ | refine awp_region lay_ok ?_ | refine awp_drawn lay_ok follows_ok (by kernel_rfl) ?_ | refine And.intro (by kernel_rfl) ?_ | refine awp_block ?_ | refine awp_skip ?_ | refine awp_ret ?_ | refine awp_exit ?_ | refine awp_scope ?_ | refine awp_condT rfl ?_ | refine awp_condF rfl ?_)
    refine ar_call' (f := 32) rfl rfl rfl rfl plain32 hdm ?_
    repeat (first | refine ar_addN rfl rfl rfl rfl (by omega) ?_ | refine ar_subN rfl rfl rfl rfl (by omega) ?_ | refine ar_op rfl ?_ | refine ar_div (wantF_ok rfl) rfl rfl rfl rfl (by decide) ?_ | refine ar_nil ?_ | refine awp_seq ?_ | refine awp_region lay_ok ?_ | refine awp_drawn lay_ok follows_ok (by kernel_rfl) ?_ | refine And.intro (by kernel_rfl) ?_ | refine awp_block ?_ | refine awp_skip ?_ | refine awp_ret ?_ | refine awp_exit ?_ | refine awp_scope ?_ | refine awp_condT rfl ?_ | refine awp_condF rfl ?_)
    refine ar_call' (f := 94) rfl rfl rfl rfl plain94 hmk ?_
    repeat (first | refine ar_addN rfl rfl rfl rfl (by omega) ?_ | refine ar_subN rfl rfl rfl rfl (by omega) ?_ | refine ar_op rfl ?_ | refine ar_div (wantF_ok rfl) rfl rfl rfl rfl (by decide) ?_ | refine ar_nil ?_ | refine awp_seq ?_ | refine awp_region lay_ok ?_ | refine awp_drawn lay_ok follows_ok (by kernel_rfl) ?_ | refine And.intro (by kernel_rfl) ?_ | refine awp_block ?_ | refine awp_skip ?_ | refine awp_ret ?_ | refine awp_exit ?_ | refine awp_scope ?_ | refine awp_condT rfl ?_ | refine awp_condF rfl ?_)
    refine ar_call' (f := 68) rfl rfl rfl rfl plain68 hm0 ?_
    repeat (first | refine ar_addN rfl rfl rfl rfl (by omega) ?_ | refine ar_subN rfl rfl rfl rfl (by omega) ?_ | refine ar_op rfl ?_ | refine ar_div (wantF_ok rfl) rfl rfl rfl rfl (by decide) ?_ | refine ar_nil ?_ | refine awp_seq ?_ | refine awp_region lay_ok ?_ | refine awp_drawn lay_ok follows_ok (by kernel_rfl) ?_ | refine And.intro (by kernel_rfl) ?_ | refine awp_block ?_ | refine awp_skip ?_ | refine awp_ret ?_ | refine awp_exit ?_ | refine awp_scope ?_ | refine awp_condT rfl ?_ | refine awp_condF rfl ?_)
    refine ar_call' (f := 67) rfl rfl rfl rfl plain67 hr0 ?_
    repeat (first | refine ar_addN rfl rfl rfl rfl (by omega) ?_ | refine ar_subN rfl rfl rfl rfl (by omega) ?_ | refine ar_op rfl ?_ | refine ar_div (wantF_ok rfl) rfl rfl rfl rfl (by decide) ?_ | refine ar_nil ?_ | refine awp_seq ?_ | refine awp_region lay_ok ?_ | refine awp_drawn lay_ok follows_ok (by kernel_rfl) ?_ | refine And.intro (by kernel_rfl) ?_ | refine awp_block ?_ | refine awp_skip ?_ | refine awp_ret ?_ | refine awp_exit ?_ | refine awp_scope ?_ | refine awp_condT rfl ?_ | refine awp_condF rfl ?_)
    refine awp_loopC (A := Int) (B := Int) (fun q => -(z2.natAbs : Int) < z1 - q * z2 ∧ z1 - q * z2 < z2.natAbs ∧ q.natAbs ≤ z1.natAbs + 1 ∧ (z1 - q * z2 < 0 → q.natAbs ≤ z1.natAbs))
      (fun q => [(2, some (.ptr 2 0)), (3, some (.ptr 3 0)), (4, some (.ptr 4 0)), (5, some (.ptr 5 0)), (8, some (.ptr 8 0)), (9, some (.ptr 9 0))])
      (fun q => [(2, some (.box 42 [.im (.bool b1), .im (mW l1)])), (3, some (.box 42 [.im (.bool b2), .im (mW l2)])), (4, some (.box 42 [.im (.bool false), .im .nil])), (5, some (.box 42 [.im (.bool false), .im .nil])), (8, some (boxZ q)), (9, some (boxZ (z1 - q * z2)))])
      (fun q => if z1 - q * z2 < 0 then 1 else 0)
      (fun q => 0 ≤ z1 - q * z2 ∧ z1 - q * z2 < z2.natAbs)
      (fun q => [(2, some (.ptr 2 0)), (3, some (.ptr 3 0)), (4, some (.ptr 4 0)), (5, some (.ptr 5 0)), (8, some (.ptr 8 0)), (9, some (.ptr 9 0))])
      (fun q => [(4, some (.box 42 [.im (.bool false), .im .nil])), (5, some (.box 42 [.im (.bool false), .im .nil])), (8, some (boxZ q)), (9, some (boxZ (z1 - q * z2)))])
      q0 ⟨by omega, by omega, by omega, fun _ => by omega⟩ ?_ ?_ ?_
    · repeat (first | exact sub_nil _ _ | refine sub_t rfl ?_ | refine sub_h rfl ?_)
    · rintro q ⟨g1, g2, g3, g4⟩
      have ir : IsZ (mI (z1 - q * z2)) (z1 - q * z2) k2 := isZ_mI (by have := i2.sz; omega)
      repeat (first | refine ar_addN rfl rfl rfl rfl (by omega) ?_ | refine ar_subN rfl rfl rfl rfl (by omega) ?_ | refine ar_op rfl ?_ | refine ar_div (wantF_ok rfl) rfl rfl rfl rfl (by decide) ?_ | refine ar_nil ?_ | refine awp_seq ?_ | refine awp_region lay_ok ?_ | refine awp_drawn lay_ok follows_ok (by kernel_rfl) ?_ | refine And.intro (by kernel_rfl) ?_ | refine awp_block ?_ | refine awp_skip ?_ | refine awp_ret ?_ | refine awp_exit ?_ | refine awp_scope ?_ | refine awp_condT rfl ?_ | refine awp_condF rfl ?_)
      refine ar_call' (f := 74) rfl rfl rfl rfl plain74 (rsign_r ir (by omega)) ?_
      repeat (first | refine ar_addN rfl rfl rfl rfl (by omega) ?_ | refine ar_subN rfl rfl rfl rfl (by omega) ?_ | refine ar_op rfl ?_ | refine ar_div (wantF_ok rfl) rfl rfl rfl rfl (by decide) ?_ | refine ar_nil ?_ | refine awp_seq ?_ | refine awp_region lay_ok ?_ | refine awp_drawn lay_ok follows_ok (by kernel_rfl) ?_ | refine And.intro (by kernel_rfl) ?_ | refine awp_block ?_ | refine awp_skip ?_ | refine awp_ret ?_ | refine awp_exit ?_ | refine awp_scope ?_ | refine awp_condT rfl ?_ | refine awp_condF rfl ?_)
      refine awp_cond rfl (fun hb => ?_) (fun hb => ?_)
      · have hneg : z1 - q * z2 < 0 := by
          rcases sign_cases' (z1 - q * z2) with ⟨g, g'⟩ | ⟨g, g'⟩ | ⟨g, g'⟩
          · exact g'
          · rw [g] at hb; exact absurd hb (by decide)
          · rw [g] at hb; exact absurd hb (by decide)
        have g5 := g4 hneg
        have iq' : IsZ (mI q) q k1 := isZ_mI (by omega)
        have io : IsZ (mI 1) 1 1 := of_z (by omega) (by omega)
        repeat (first | refine ar_addN rfl rfl rfl rfl (by omega) ?_ | refine ar_subN rfl rfl rfl rfl (by omega) ?_ | refine ar_op rfl ?_ | refine ar_div (wantF_ok rfl) rfl rfl rfl rfl (by decide) ?_ | refine ar_nil ?_ | refine awp_seq ?_ | refine awp_region lay_ok ?_ | refine awp_drawn lay_ok follows_ok (by kernel_rfl) ?_ | refine And.intro (by kernel_rfl) ?_ | refine awp_block ?_ | refine awp_skip ?_ | refine awp_ret ?_ | refine awp_exit ?_ | refine awp_scope ?_ | refine awp_condT rfl ?_ | refine awp_condF rfl ?_)
        refine ar_call' (f := 74) rfl rfl rfl rfl plain74 hs ?_
        repeat (first | refine ar_addN rfl rfl rfl rfl (by omega) ?_ | refine ar_subN rfl rfl rfl rfl (by omega) ?_ | refine ar_op rfl ?_ | refine ar_div (wantF_ok rfl) rfl rfl rfl rfl (by decide) ?_ | refine ar_nil ?_ | refine awp_seq ?_ | refine awp_region lay_ok ?_ | refine awp_drawn lay_ok follows_ok (by kernel_rfl) ?_ | refine And.intro (by kernel_rfl) ?_ | refine awp_block ?_ | refine awp_skip ?_ | refine awp_ret ?_ | refine awp_exit ?_ | refine awp_scope ?_ | refine awp_condT rfl ?_ | refine awp_condF rfl ?_)
        refine awp_cond rfl (fun hb2 => ?_) (fun hb2 => ?_)
        · have hpos : 0 < z2 := by
            rcases sign_cases' z2 with ⟨g, g'⟩ | ⟨g, g'⟩ | ⟨g, g'⟩
            · rw [g] at hb2; exact absurd hb2 (by decide)
            · rw [g] at hb2; exact absurd hb2 (by decide)
            · exact g'
          have hq1 : (q - 1) * z2 = q * z2 - z2 := by rw [Int.sub_mul, Int.one_mul]
          have iq2 : IsZ (mI (q - 1)) (q - 1) (k1 + 1) := isZ_mI (by have := W_powl hz1; omega)
          repeat (first | refine ar_addN rfl rfl rfl rfl (by omega) ?_ | refine ar_subN rfl rfl rfl rfl (by omega) ?_ | refine ar_op rfl ?_ | refine ar_div (wantF_ok rfl) rfl rfl rfl rfl (by decide) ?_ | refine ar_nil ?_ | refine awp_seq ?_ | refine awp_region lay_ok ?_ | refine awp_drawn lay_ok follows_ok (by kernel_rfl) ?_ | refine And.intro (by kernel_rfl) ?_ | refine awp_block ?_ | refine awp_skip ?_ | refine awp_ret ?_ | refine awp_exit ?_ | refine awp_scope ?_ | refine awp_condT rfl ?_ | refine awp_condF rfl ?_)
          refine ar_call' (f := 70) rfl rfl rfl rfl plain70 (rof_r (by omega) (by omega)) ?_
          repeat (first | refine ar_addN rfl rfl rfl rfl (by omega) ?_ | refine ar_subN rfl rfl rfl rfl (by omega) ?_ | refine ar_op rfl ?_ | refine ar_div (wantF_ok rfl) rfl rfl rfl rfl (by decide) ?_ | refine ar_nil ?_ | refine awp_seq ?_ | refine awp_region lay_ok ?_ | refine awp_drawn lay_ok follows_ok (by kernel_rfl) ?_ | refine And.intro (by kernel_rfl) ?_ | refine awp_block ?_ | refine awp_skip ?_ | refine awp_ret ?_ | refine awp_exit ?_ | refine awp_scope ?_ | refine awp_condT rfl ?_ | refine awp_condF rfl ?_)
          refine ar_call' (f := 67) rfl rfl rfl rfl plain67 (rzsub_r iq' io (by omega) (by omega)) ?_
          repeat (first | refine ar_addN rfl rfl rfl rfl (by omega) ?_ | refine ar_subN rfl rfl rfl rfl (by omega) ?_ | refine ar_op rfl ?_ | refine ar_div (wantF_ok rfl) rfl rfl rfl rfl (by decide) ?_ | refine ar_nil ?_ | refine awp_seq ?_ | refine awp_region lay_ok ?_ | refine awp_drawn lay_ok follows_ok (by kernel_rfl) ?_ | refine And.intro (by kernel_rfl) ?_ | refine awp_block ?_ | refine awp_skip ?_ | refine awp_ret ?_ | refine awp_exit ?_ | refine awp_scope ?_ | refine awp_condT rfl ?_ | refine awp_condF rfl ?_)
          refine ar_call' (f := 68) rfl rfl rfl rfl plain68 (rzmul_r iq2 i2 (by omega) (by omega)) ?_
          repeat (first | refine ar_addN rfl rfl rfl rfl (by omega) ?_ | refine ar_subN rfl rfl rfl rfl (by omega) ?_ | refine ar_op rfl ?_ | refine ar_div (wantF_ok rfl) rfl rfl rfl rfl (by decide) ?_ | refine ar_nil ?_ | refine awp_seq ?_ | refine awp_region lay_ok ?_ | refine awp_drawn lay_ok follows_ok (by kernel_rfl) ?_ | refine And.intro (by kernel_rfl) ?_ | refine awp_block ?_ | refine awp_skip ?_ | refine awp_ret ?_ | refine awp_exit ?_ | refine awp_scope ?_ | refine awp_condT rfl ?_ | refine awp_condF rfl ?_)
          refine ar_call' (f := 67) rfl rfl rfl rfl plain67 (rzsub_r i1 (isZ_mI (sz_mul iq2.sz i2.sz)) (by omega) (by omega)) ?_
          repeat (first | refine ar_addN rfl rfl rfl rfl (by omega) ?_ | refine ar_subN rfl rfl rfl rfl (by omega) ?_ | refine ar_op rfl ?_ | refine ar_div (wantF_ok rfl) rfl rfl rfl rfl (by decide) ?_ | refine ar_nil ?_ | refine awp_seq ?_ | refine awp_region lay_ok ?_ | refine awp_drawn lay_ok follows_ok (by kernel_rfl) ?_ | refine And.intro (by kernel_rfl) ?_ | refine awp_block ?_ | refine awp_skip ?_ | refine awp_ret ?_ | refine awp_exit ?_ | refine awp_scope ?_ | refine awp_condT rfl ?_ | refine awp_condF rfl ?_)
          refine ⟨q - 1, ⟨by rw [hq1]; omega, by rw [hq1]; omega, by omega, fun h => by rw [hq1] at h; omega⟩, ?_, ?_⟩
          · repeat (first | exact sub_nil _ _ | refine sub_t rfl ?_ | refine sub_h rfl ?_)
          · rw [if_pos hneg, if_neg (by rw [hq1]; omega)]; omega
        · have hpos : z2 < 0 := by
            rcases sign_cases' z2 with ⟨g, g'⟩ | ⟨g, g'⟩ | ⟨g, g'⟩
            · exact g'
            · exact absurd g' hz
            · rw [g] at hb2; exact absurd hb2 (by decide)
          have hq1 : (q + 1) * z2 = q * z2 + z2 := by rw [Int.add_mul, Int.one_mul]
          have iq2 : IsZ (mI (q + 1)) (q + 1) (k1 + 1) := isZ_mI (by have := W_powl hz1; omega)
          repeat (first | refine ar_addN rfl rfl rfl rfl (by omega) ?_ | refine ar_subN rfl rfl rfl rfl (by omega) ?_ | refine ar_op rfl ?_ | refine ar_div (wantF_ok rfl) rfl rfl rfl rfl (by decide) ?_ | refine ar_nil ?_ | refine awp_seq ?_ | refine awp_region lay_ok ?_ | refine awp_drawn lay_ok follows_ok (by kernel_rfl) ?_ | refine And.intro (by kernel_rfl) ?_ | refine awp_block ?_ | refine awp_skip ?_ | refine awp_ret ?_ | refine awp_exit ?_ | refine awp_scope ?_ | refine awp_condT rfl ?_ | refine awp_condF rfl ?_)
          refine ar_call' (f := 70) rfl rfl rfl rfl plain70 (rof_r (by omega) (by omega)) ?_
          repeat (first | refine ar_addN rfl rfl rfl rfl (by omega) ?_ | refine ar_subN rfl rfl rfl rfl (by omega) ?_ | refine ar_op rfl ?_ | refine ar_div (wantF_ok rfl) rfl rfl rfl rfl (by decide) ?_ | refine ar_nil ?_ | refine awp_seq ?_ | refine awp_region lay_ok ?_ | refine awp_drawn lay_ok follows_ok (by kernel_rfl) ?_ | refine And.intro (by kernel_rfl) ?_ | refine awp_block ?_ | refine awp_skip ?_ | refine awp_ret ?_ | refine awp_exit ?_ | refine awp_scope ?_ | refine awp_condT rfl ?_ | refine awp_condF rfl ?_)
          refine ar_call' (f := 66) rfl rfl rfl rfl plain66 (rzadd_r iq' io (by omega) (by omega)) ?_
          repeat (first | refine ar_addN rfl rfl rfl rfl (by omega) ?_ | refine ar_subN rfl rfl rfl rfl (by omega) ?_ | refine ar_op rfl ?_ | refine ar_div (wantF_ok rfl) rfl rfl rfl rfl (by decide) ?_ | refine ar_nil ?_ | refine awp_seq ?_ | refine awp_region lay_ok ?_ | refine awp_drawn lay_ok follows_ok (by kernel_rfl) ?_ | refine And.intro (by kernel_rfl) ?_ | refine awp_block ?_ | refine awp_skip ?_ | refine awp_ret ?_ | refine awp_exit ?_ | refine awp_scope ?_ | refine awp_condT rfl ?_ | refine awp_condF rfl ?_)
          refine ar_call' (f := 68) rfl rfl rfl rfl plain68 (rzmul_r iq2 i2 (by omega) (by omega)) ?_
          repeat (first | refine ar_addN rfl rfl rfl rfl (by omega) ?_ | refine ar_subN rfl rfl rfl rfl (by omega) ?_ | refine ar_op rfl ?_ | refine ar_div (wantF_ok rfl) rfl rfl rfl rfl (by decide) ?_ | refine ar_nil ?_ | refine awp_seq ?_ | refine awp_region lay_ok ?_ | refine awp_drawn lay_ok follows_ok (by kernel_rfl) ?_ | refine And.intro (by kernel_rfl) ?_ | refine awp_block ?_ | refine awp_skip ?_ | refine awp_ret ?_ | refine awp_exit ?_ | refine awp_scope ?_ | refine awp_condT rfl ?_ | refine awp_condF rfl ?_)
          refine ar_call' (f := 67) rfl rfl rfl rfl plain67 (rzsub_r i1 (isZ_mI (sz_mul iq2.sz i2.sz)) (by omega) (by omega)) ?_
          repeat (first | refine ar_addN rfl rfl rfl rfl (by omega) ?_ | refine ar_subN rfl rfl rfl rfl (by omega) ?_ | refine ar_op rfl ?_ | refine ar_div (wantF_ok rfl) rfl rfl rfl rfl (by decide) ?_ | refine ar_nil ?_ | refine awp_seq ?_ | refine awp_region lay_ok ?_ | refine awp_drawn lay_ok follows_ok (by kernel_rfl) ?_ | refine And.intro (by kernel_rfl) ?_ | refine awp_block ?_ | refine awp_skip ?_ | refine awp_ret ?_ | refine awp_exit ?_ | refine awp_scope ?_ | refine awp_condT rfl ?_ | refine awp_condF rfl ?_)
          refine ⟨q + 1, ⟨by rw [hq1]; omega, by rw [hq1]; omega, by omega, fun h => by rw [hq1] at h; omega⟩, ?_, ?_⟩
          · repeat (first | exact sub_nil _ _ | refine sub_t rfl ?_ | refine sub_h rfl ?_)
          · rw [if_pos hneg, if_neg (by rw [hq1]; omega)]; omega
      · have hnn : 0 ≤ z1 - q * z2 := by
          rcases sign_cases' (z1 - q * z2) with ⟨g, g'⟩ | ⟨g, g'⟩ | ⟨g, g'⟩
          · rw [g] at hb; exact absurd hb (by decide)
          · omega
          · omega
        repeat (first | refine ar_addN rfl rfl rfl rfl (by omega) ?_ | refine ar_subN rfl rfl rfl rfl (by omega) ?_ | refine ar_op rfl ?_ | refine ar_div (wantF_ok rfl) rfl rfl rfl rfl (by decide) ?_ | refine ar_nil ?_ | refine awp_seq ?_ | refine awp_region lay_ok ?_ | refine awp_drawn lay_ok follows_ok (by kernel_rfl) ?_ | refine And.intro (by kernel_rfl) ?_ | refine awp_block ?_ | refine awp_skip ?_ | refine awp_ret ?_ | refine awp_exit ?_ | refine awp_scope ?_ | refine awp_condT rfl ?_ | refine awp_condF rfl ?_)
        refine .inl ⟨rfl, q, ⟨hnn, g2⟩, ?_⟩
        repeat (first | exact sub_nil _ _ | refine sub_t rfl ?_ | refine sub_h rfl ?_)
    · rintro q ⟨g1, g2⟩
      obtain ⟨f1, f2⟩ := ediv_uniq (a := z1) (b2 := b2) hY (q := q) (r := z1 - q * z2) (by rw [← e2]) g1 (by rw [hYz]; exact g2)
      rw [← e2] at f1 f2
      repeat (first | refine ar_addN rfl rfl rfl rfl (by omega) ?_ | refine ar_subN rfl rfl rfl rfl (by omega) ?_ | refine ar_op rfl ?_ | refine ar_div (wantF_ok rfl) rfl rfl rfl rfl (by decide) ?_ | refine ar_nil ?_ | refine awp_seq ?_ | refine awp_region lay_ok ?_ | refine awp_drawn lay_ok follows_ok (by kernel_rfl) ?_ | refine And.intro (by kernel_rfl) ?_ | refine awp_block ?_ | refine awp_skip ?_ | refine awp_ret ?_ | refine awp_exit ?_ | refine awp_scope ?_ | refine awp_condT rfl ?_ | refine awp_condF rfl ?_)
      refine ⟨_, rfl, ?_⟩
      rw [f1, f2]
      rfl
theorem rzsmall_r {m : M} {z : Int} {k : Nat} (h : IsZ m z k) (hk : k ≤ 100) : Ret Try.prog 65 [m] (.tup [.int .i64 (smallZ z), .bool (smallOk z)]) := by
  have o1 := rof_r (n := -9223372036854775808) (by omega) (by omega)
  have o2 := rof_r (n := 9223372036854775807) (by omega) (by omega)
  have c1 := rzcmp_r h (of_z (n := -9223372036854775808) (by omega) (by omega)) (by omega) (by omega)
  have c2 := rzcmp_r h (of_z (n := 9223372036854775807) (by omega) (by omega)) (by omega) (by omega)
  have n1 := rnorm_r h (by omega)
  obtain ⟨b, l, rfl, hd, hl, -⟩ := h
  by_cases g1 : z < -9223372036854775808
  · have e1 : signZ (z - -9223372036854775808) = -1 := if_pos (by omega)
    rw [e1] at c1
    obtain ⟨q1, q2⟩ := small_out (z := z) (by omega)
    rw [q1, q2]
    refine ret_of (L := L) lay_ok Try.func65 rfl Try.ntmps65 rfl ?_
    repeat (first | refine ar_addN rfl rfl rfl rfl (by omega) ?_ | refine ar_subN rfl rfl rfl rfl (by omega) ?_ | refine ar_op rfl ?_ | refine ar_div (wantF_ok rfl) rfl rfl rfl rfl (by decide) ?_ | refine ar_nil ?_ | refine awp_seq ?_ | refine awp_region lay_ok ?_ | refine awp_drawn lay_ok follows_ok (by kernel_rfl) ?_ | refine And.intro (by kernel_rfl) ?_ | refine awp_block ?_ | refine awp_skip ?_ | refine awp_ret ?_ | refine awp_exit ?_ | refine awp_scope ?_ | refine awp_condT rfl ?_ | refine awp_condF rfl ?_)
    refine ar_call' (f := 70) rfl rfl rfl rfl plain70 o1 ?_
    repeat (first | refine ar_addN rfl rfl rfl rfl (by omega) ?_ | refine ar_subN rfl rfl rfl rfl (by omega) ?_ | refine ar_op rfl ?_ | refine ar_div (wantF_ok rfl) rfl rfl rfl rfl (by decide) ?_ | refine ar_nil ?_ | refine awp_seq ?_ | refine awp_region lay_ok ?_ | refine awp_drawn lay_ok follows_ok (by kernel_rfl) ?_ | refine And.intro (by kernel_rfl) ?_ | refine awp_block ?_ | refine awp_skip ?_ | refine awp_ret ?_ | refine awp_exit ?_ | refine awp_scope ?_ | refine awp_condT rfl ?_ | refine awp_condF rfl ?_)
    refine ar_call' (f := 75) rfl rfl rfl rfl plain75 c1 ?_
    repeat (first | refine ar_addN rfl rfl rfl rfl (by omega) ?_ | refine ar_subN rfl rfl rfl rfl (by omega) ?_ | refine ar_op rfl ?_ | refine ar_div (wantF_ok rfl) rfl rfl rfl rfl (by decide) ?_ | refine ar_nil ?_ | refine awp_seq ?_ | refine awp_region lay_ok ?_ | refine awp_drawn lay_ok follows_ok (by kernel_rfl) ?_ | refine And.intro (by kernel_rfl) ?_ | refine awp_block ?_ | refine awp_skip ?_ | refine awp_ret ?_ | refine awp_exit ?_ | refine awp_scope ?_ | refine awp_condT rfl ?_ | refine awp_condF rfl ?_)
    refine ⟨_, rfl, ?_⟩
    rfl
  have e1 : decide (signZ (z - -9223372036854775808) < 0) = false := by
    rw [decide_eq_false_iff_not]
    rcases sign_cases' (z - -9223372036854775808) with ⟨g, g'⟩ | ⟨g, g'⟩ | ⟨g, g'⟩ <;> omega
  by_cases g2 : 9223372036854775807 < z
  · have e2 : decide (signZ (z - 9223372036854775807) > 0) = true := by
      rw [decide_eq_true_eq]
      rcases sign_cases' (z - 9223372036854775807) with ⟨g, g'⟩ | ⟨g, g'⟩ | ⟨g, g'⟩ <;> omega
    obtain ⟨q1, q2⟩ := small_out (z := z) (by omega)
    rw [q1, q2]
    refine ret_of (L := L) lay_ok Try.func65 rfl Try.ntmps65 rfl ?_
    repeat (first | refine ar_addN rfl rfl rfl rfl (by omega) ?_ | refine ar_subN rfl rfl rfl rfl (by omega) ?_ | refine ar_op rfl ?_ | refine ar_div (wantF_ok rfl) rfl rfl rfl rfl (by decide) ?_ | refine ar_nil ?_ | refine awp_seq ?_ | refine awp_region lay_ok ?_ | refine awp_drawn lay_ok follows_ok (by kernel_rfl) ?_ | refine And.intro (by kernel_rfl) ?_ | refine awp_block ?_ | refine awp_skip ?_ | refine awp_ret ?_ | refine awp_exit ?_ | refine awp_scope ?_ | refine awp_condT rfl ?_ | refine awp_condF rfl ?_)
    refine ar_call' (f := 70) rfl rfl rfl rfl plain70 o1 ?_
    repeat (first | refine ar_addN rfl rfl rfl rfl (by omega) ?_ | refine ar_subN rfl rfl rfl rfl (by omega) ?_ | refine ar_op rfl ?_ | refine ar_div (wantF_ok rfl) rfl rfl rfl rfl (by decide) ?_ | refine ar_nil ?_ | refine awp_seq ?_ | refine awp_region lay_ok ?_ | refine awp_drawn lay_ok follows_ok (by kernel_rfl) ?_ | refine And.intro (by kernel_rfl) ?_ | refine awp_block ?_ | refine awp_skip ?_ | refine awp_ret ?_ | refine awp_exit ?_ | refine awp_scope ?_ | refine awp_condT rfl ?_ | refine awp_condF rfl ?_)
    refine ar_call' (f := 75) rfl rfl rfl rfl plain75 c1 ?_
    repeat (first | refine ar_addN rfl rfl rfl rfl (by omega) ?_ | refine ar_subN rfl rfl rfl rfl (by omega) ?_ | refine ar_op rfl ?_ | refine ar_div (wantF_ok rfl) rfl rfl rfl rfl (by decide) ?_ | refine ar_nil ?_ | refine awp_seq ?_ | refine awp_region lay_ok ?_ | refine awp_drawn lay_ok follows_ok (by kernel_rfl) ?_ | refine And.intro (by kernel_rfl) ?_ | refine awp_block ?_ | refine awp_skip ?_ | refine awp_ret ?_ | refine awp_exit ?_ | refine awp_scope ?_ | refine awp_condT rfl ?_ | refine awp_condF rfl ?_)
    refine ar_eq 9 rfl (d' := .im (.bool false)) (eqt e1) ?_
    repeat (first | refine ar_addN rfl rfl rfl rfl (by omega) ?_ | refine ar_subN rfl rfl rfl rfl (by omega) ?_ | refine ar_op rfl ?_ | refine ar_div (wantF_ok rfl) rfl rfl rfl rfl (by decide) ?_ | refine ar_nil ?_ | refine awp_seq ?_ | refine awp_region lay_ok ?_ | refine awp_drawn lay_ok follows_ok (by kernel_rfl) ?_ | refine And.intro (by kernel_rfl) ?_ | refine awp_block ?_ | refine awp_skip ?_ | refine awp_ret ?_ | refine awp_exit ?_ | refine awp_scope ?_ | refine awp_condT rfl ?_ | refine awp_condF rfl ?_)
    refine ar_call' (f := 70) rfl rfl rfl rfl plain70 o2 ?_
    repeat (first | refine ar_addN rfl rfl rfl rfl (by omega) ?_ | refine ar_subN rfl rfl rfl rfl (by omega) ?_ | refine ar_op rfl ?_ | refine ar_div (wantF_ok rfl) rfl rfl rfl rfl (by decide) ?_ | refine ar_nil ?_ | refine awp_seq ?_ | refine awp_region lay_ok ?_ | refine awp_drawn lay_ok follows_ok (by kernel_rfl) ?_ | refine And.intro (by kernel_rfl) ?_ | refine awp_block ?_ | refine awp_skip ?_ | refine awp_ret ?_ | refine awp_exit ?_ | refine awp_scope ?_ | refine awp_condT rfl ?_ | refine awp_condF rfl ?_)
    refine ar_call' (f := 75) rfl rfl rfl rfl plain75 c2 ?_
    repeat (first | refine ar_addN rfl rfl rfl rfl (by omega) ?_ | refine ar_subN rfl rfl rfl rfl (by omega) ?_ | refine ar_op rfl ?_ | refine ar_div (wantF_ok rfl) rfl rfl rfl rfl (by decide) ?_ | refine ar_nil ?_ | refine awp_seq ?_ | refine awp_region lay_ok ?_ | refine awp_drawn lay_ok follows_ok (by kernel_rfl) ?_ | refine And.intro (by kernel_rfl) ?_ | refine awp_block ?_ | refine awp_skip ?_ | refine awp_ret ?_ | refine awp_exit ?_ | refine awp_scope ?_ | refine awp_condT rfl ?_ | refine awp_condF rfl ?_)
    refine awp_cond rfl (fun hb => ?_) (fun hb => ?_)
    · repeat (first | refine ar_addN rfl rfl rfl rfl (by omega) ?_ | refine ar_subN rfl rfl rfl rfl (by omega) ?_ | refine ar_op rfl ?_ | refine ar_div (wantF_ok rfl) rfl rfl rfl rfl (by decide) ?_ | refine ar_nil ?_ | refine awp_seq ?_ | refine awp_region lay_ok ?_ | refine awp_drawn lay_ok follows_ok (by kernel_rfl) ?_ | refine And.intro (by kernel_rfl) ?_ | refine awp_block ?_ | refine awp_skip ?_ | refine awp_ret ?_ | refine awp_exit ?_ | refine awp_scope ?_ | refine awp_condT rfl ?_ | refine awp_condF rfl ?_)
      refine ⟨_, rfl, ?_⟩
      rfl
    · exact absurd (hb.symm.trans e2) (by decide)
  have e2 : decide (signZ (z - 9223372036854775807) > 0) = false := by
    rw [decide_eq_false_iff_not]
    rcases sign_cases' (z - 9223372036854775807) with ⟨g, g'⟩ | ⟨g, g'⟩ | ⟨g, g'⟩ <;> omega
  obtain ⟨q1, q2⟩ := small_in (z := z) (by omega) (by omega)
  rw [q1, q2]
  have hlt : z.natAbs < W := by unfold W; omega
  by_cases h0 : z = 0
  · subst h0
    rw [mI_zero] at n1
    refine ret_of (L := L) lay_ok Try.func65 rfl Try.ntmps65 rfl ?_
    repeat (first | refine ar_addN rfl rfl rfl rfl (by omega) ?_ | refine ar_subN rfl rfl rfl rfl (by omega) ?_ | refine ar_op rfl ?_ | refine ar_div (wantF_ok rfl) rfl rfl rfl rfl (by decide) ?_ | refine ar_nil ?_ | refine awp_seq ?_ | refine awp_region lay_ok ?_ | refine awp_drawn lay_ok follows_ok (by kernel_rfl) ?_ | refine And.intro (by kernel_rfl) ?_ | refine awp_block ?_ | refine awp_skip ?_ | refine awp_ret ?_ | refine awp_exit ?_ | refine awp_scope ?_ | refine awp_condT rfl ?_ | refine awp_condF rfl ?_)
    refine ar_call' (f := 70) rfl rfl rfl rfl plain70 o1 ?_
    repeat (first | refine ar_addN rfl rfl rfl rfl (by omega) ?_ | refine ar_subN rfl rfl rfl rfl (by omega) ?_ | refine ar_op rfl ?_ | refine ar_div (wantF_ok rfl) rfl rfl rfl rfl (by decide) ?_ | refine ar_nil ?_ | refine awp_seq ?_ | refine awp_region lay_ok ?_ | refine awp_drawn lay_ok follows_ok (by kernel_rfl) ?_ | refine And.intro (by kernel_rfl) ?_ | refine awp_block ?_ | refine awp_skip ?_ | refine awp_ret ?_ | refine awp_exit ?_ | refine awp_scope ?_ | refine awp_condT rfl ?_ | refine awp_condF rfl ?_)
    refine ar_call' (f := 75) rfl rfl rfl rfl plain75 c1 ?_
    repeat (first | refine ar_addN rfl rfl rfl rfl (by omega) ?_ | refine ar_subN rfl rfl rfl rfl (by omega) ?_ | refine ar_op rfl ?_ | refine ar_div (wantF_ok rfl) rfl rfl rfl rfl (by decide) ?_ | refine ar_nil ?_ | refine awp_seq ?_ | refine awp_region lay_ok ?_ | refine awp_drawn lay_ok follows_ok (by kernel_rfl) ?_ | refine And.intro (by kernel_rfl) ?_ | refine awp_block ?_ | refine awp_skip ?_ | refine awp_ret ?_ | refine awp_exit ?_ | refine awp_scope ?_ | refine awp_condT rfl ?_ | refine awp_condF rfl ?_)
    refine ar_call' (f := 70) rfl rfl rfl rfl plain70 o2 ?_
    repeat (first | refine ar_addN rfl rfl rfl rfl (by omega) ?_ | refine ar_subN rfl rfl rfl rfl (by omega) ?_ | refine ar_op rfl ?_ | refine ar_div (wantF_ok rfl) rfl rfl rfl rfl (by decide) ?_ | refine ar_nil ?_ | refine awp_seq ?_ | refine awp_region lay_ok ?_ | refine awp_drawn lay_ok follows_ok (by kernel_rfl) ?_ | refine And.intro (by kernel_rfl) ?_ | refine awp_block ?_ | refine awp_skip ?_ | refine awp_ret ?_ | refine awp_exit ?_ | refine awp_scope ?_ | refine awp_condT rfl ?_ | refine awp_condF rfl ?_)
    refine ar_call' (f := 75) rfl rfl rfl rfl plain75 c2 ?_
    repeat (first | refine ar_addN rfl rfl rfl rfl (by omega) ?_ | refine ar_subN rfl rfl rfl rfl (by omega) ?_ | refine ar_op rfl ?_ | refine ar_div (wantF_ok rfl) rfl rfl rfl rfl (by decide) ?_ | refine ar_nil ?_ | refine awp_seq ?_ | refine awp_region lay_ok ?_ | refine awp_drawn lay_ok follows_ok (by kernel_rfl) ?_ | refine And.intro (by kernel_rfl) ?_ | refine awp_block ?_ | refine awp_skip ?_ | refine awp_ret ?_ | refine awp_exit ?_ | refine awp_scope ?_ | refine awp_condT rfl ?_ | refine awp_condF rfl ?_)
    refine ar_call' (f := 71) rfl rfl rfl rfl plain71 n1 ?_
    repeat (first | refine ar_addN rfl rfl rfl rfl (by omega) ?_ | refine ar_subN rfl rfl rfl rfl (by omega) ?_ | refine ar_op rfl ?_ | refine ar_div (wantF_ok rfl) rfl rfl rfl rfl (by decide) ?_ | refine ar_nil ?_ | refine awp_seq ?_ | refine awp_region lay_ok ?_ | refine awp_drawn lay_ok follows_ok (by kernel_rfl) ?_ | refine And.intro (by kernel_rfl) ?_ | refine awp_block ?_ | refine awp_skip ?_ | refine awp_ret ?_ | refine awp_exit ?_ | refine awp_scope ?_ | refine awp_condT rfl ?_ | refine awp_condF rfl ?_)
    refine ⟨_, rfl, ?_⟩
    rfl
  have hone : digs W z.natAbs = [z.natAbs] := by rw [digs_pos W_two (by omega), Nat.mod_eq_of_lt hlt, Nat.div_eq_of_lt hlt, digs_zero]
  have n2 : Ret Try.prog 71 [.agg [.bool b, mW l]] (.agg [.bool (decide (z < 0)), mW [z.natAbs]]) := by
    have := n1
    unfold mI mN at this
    rwa [hone] at this
  clear n1
  generalize hB : decide (z < 0) = B at *
  cases B
  · have hz : 0 ≤ z := by simpa using hB
    refine ret_of (L := L) lay_ok Try.func65 rfl Try.ntmps65 rfl ?_
    repeat (first | refine ar_addN rfl rfl rfl rfl (by omega) ?_ | refine ar_subN rfl rfl rfl rfl (by omega) ?_ | refine ar_op rfl ?_ | refine ar_div (wantF_ok rfl) rfl rfl rfl rfl (by decide) ?_ | refine ar_nil ?_ | refine awp_seq ?_ | refine awp_region lay_ok ?_ | refine awp_drawn lay_ok follows_ok (by kernel_rfl) ?_ | refine And.intro (by kernel_rfl) ?_ | refine awp_block ?_ | refine awp_skip ?_ | refine awp_ret ?_ | refine awp_exit ?_ | refine awp_scope ?_ | refine awp_condT rfl ?_ | refine awp_condF rfl ?_)
    refine ar_call' (f := 70) rfl rfl rfl rfl plain70 o1 ?_
    repeat (first | refine ar_addN rfl rfl rfl rfl (by omega) ?_ | refine ar_subN rfl rfl rfl rfl (by omega) ?_ | refine ar_op rfl ?_ | refine ar_div (wantF_ok rfl) rfl rfl rfl rfl (by decide) ?_ | refine ar_nil ?_ | refine awp_seq ?_ | refine awp_region lay_ok ?_ | refine awp_drawn lay_ok follows_ok (by kernel_rfl) ?_ | refine And.intro (by kernel_rfl) ?_ | refine awp_block ?_ | refine awp_skip ?_ | refine awp_ret ?_ | refine awp_exit ?_ | refine awp_scope ?_ | refine awp_condT rfl ?_ | refine awp_condF rfl ?_)
    refine ar_call' (f := 75) rfl rfl rfl rfl plain75 c1 ?_
    repeat (first | refine ar_addN rfl rfl rfl rfl (by omega) ?_ | refine ar_subN rfl rfl rfl rfl (by omega) ?_ | refine ar_op rfl ?_ | refine ar_div (wantF_ok rfl) rfl rfl rfl rfl (by decide) ?_ | refine ar_nil ?_ | refine awp_seq ?_ | refine awp_region lay_ok ?_ | refine awp_drawn lay_ok follows_ok (by kernel_rfl) ?_ | refine And.intro (by kernel_rfl) ?_ | refine awp_block ?_ | refine awp_skip ?_ | refine awp_ret ?_ | refine awp_exit ?_ | refine awp_scope ?_ | refine awp_condT rfl ?_ | refine awp_condF rfl ?_)
    refine ar_eq 9 rfl (d' := .im (.bool false)) (eqt e1) ?_
    repeat (first | refine ar_addN rfl rfl rfl rfl (by omega) ?_ | refine ar_subN rfl rfl rfl rfl (by omega) ?_ | refine ar_op rfl ?_ | refine ar_div (wantF_ok rfl) rfl rfl rfl rfl (by decide) ?_ | refine ar_nil ?_ | refine awp_seq ?_ | refine awp_region lay_ok ?_ | refine awp_drawn lay_ok follows_ok (by kernel_rfl) ?_ | refine And.intro (by kernel_rfl) ?_ | refine awp_block ?_ | refine awp_skip ?_ | refine awp_ret ?_ | refine awp_exit ?_ | refine awp_scope ?_ | refine awp_condT rfl ?_ | refine awp_condF rfl ?_)
    refine ar_call' (f := 70) rfl rfl rfl rfl plain70 o2 ?_
    repeat (first | refine ar_addN rfl rfl rfl rfl (by omega) ?_ | refine ar_subN rfl rfl rfl rfl (by omega) ?_ | refine ar_op rfl ?_ | refine ar_div (wantF_ok rfl) rfl rfl rfl rfl (by decide) ?_ | refine ar_nil ?_ | refine awp_seq ?_ | refine awp_region lay_ok ?_ | refine awp_drawn lay_ok follows_ok (by kernel_rfl) ?_ | refine And.intro (by kernel_rfl) ?_ | refine awp_block ?_ | refine awp_skip ?_ | refine awp_ret ?_ | refine awp_exit ?_ | refine awp_scope ?_ | refine awp_condT rfl ?_ | refine awp_condF rfl ?_)
    refine ar_call' (f := 75) rfl rfl rfl rfl plain75 c2 ?_
    repeat (first | refine ar_addN rfl rfl rfl rfl (by omega) ?_ | refine ar_subN rfl rfl rfl rfl (by omega) ?_ | refine ar_op rfl ?_ | refine ar_div (wantF_ok rfl) rfl rfl rfl rfl (by decide) ?_ | refine ar_nil ?_ | refine awp_seq ?_ | refine awp_region lay_ok ?_ | refine awp_drawn lay_ok follows_ok (by kernel_rfl) ?_ | refine And.intro (by kernel_rfl) ?_ | refine awp_block ?_ | refine awp_skip ?_ | refine awp_ret ?_ | refine awp_exit ?_ | refine awp_scope ?_ | refine awp_condT rfl ?_ | refine awp_condF rfl ?_)
    refine awp_cond rfl (fun hb => ?_) (fun hb => ?_)
    · exact absurd (hb.symm.trans e2) (by decide)
    repeat (first | refine ar_addN rfl rfl rfl rfl (by omega) ?_ | refine ar_subN rfl rfl rfl rfl (by omega) ?_ | refine ar_op rfl ?_ | refine ar_div (wantF_ok rfl) rfl rfl rfl rfl (by decide) ?_ | refine ar_nil ?_ | refine awp_seq ?_ | refine awp_region lay_ok ?_ | refine awp_drawn lay_ok follows_ok (by kernel_rfl) ?_ | refine And.intro (by kernel_rfl) ?_ | refine awp_block ?_ | refine awp_skip ?_ | refine awp_ret ?_ | refine awp_exit ?_ | refine awp_scope ?_ | refine awp_condT rfl ?_ | refine awp_condF rfl ?_)
    refine ar_call' (f := 71) rfl rfl rfl rfl plain71 n2 ?_
    repeat (first | refine ar_addN rfl rfl rfl rfl (by omega) ?_ | refine ar_subN rfl rfl rfl rfl (by omega) ?_ | refine ar_op rfl ?_ | refine ar_div (wantF_ok rfl) rfl rfl rfl rfl (by decide) ?_ | refine ar_nil ?_ | refine awp_seq ?_ | refine awp_region lay_ok ?_ | refine awp_drawn lay_ok follows_ok (by kernel_rfl) ?_ | refine And.intro (by kernel_rfl) ?_ | refine awp_block ?_ | refine awp_skip ?_ | refine awp_ret ?_ | refine awp_exit ?_ | refine awp_scope ?_ | refine awp_condT rfl ?_ | refine awp_condF rfl ?_)
    refine ar_at (enc := mw) (l := [z.natAbs]) 0 rfl rfl rfl rfl rfl (fun _ => rfl) rfl rfl (by simp) ?_
    repeat (first | refine ar_addN rfl rfl rfl rfl (by omega) ?_ | refine ar_subN rfl rfl rfl rfl (by omega) ?_ | refine ar_op rfl ?_ | refine ar_div (wantF_ok rfl) rfl rfl rfl rfl (by decide) ?_ | refine ar_nil ?_ | refine awp_seq ?_ | refine awp_region lay_ok ?_ | refine awp_drawn lay_ok follows_ok (by kernel_rfl) ?_ | refine And.intro (by kernel_rfl) ?_ | refine awp_block ?_ | refine awp_skip ?_ | refine awp_ret ?_ | refine awp_exit ?_ | refine awp_scope ?_ | refine awp_condT rfl ?_ | refine awp_condF rfl ?_)
    refine ⟨_, rfl, ?_⟩
    have : IntKind.i64.wrap (z.natAbs : Int) = z := by rw [IntKind.wrap_i64]; omega
    simp [tupM, this]
  · have hz : z < 0 := by simpa using hB
    refine ret_of (L := L) lay_ok Try.func65 rfl Try.ntmps65 rfl ?_
    repeat (first | refine ar_addN rfl rfl rfl rfl (by omega) ?_ | refine ar_subN rfl rfl rfl rfl (by omega) ?_ | refine ar_op rfl ?_ | refine ar_div (wantF_ok rfl) rfl rfl rfl rfl (by decide) ?_ | refine ar_nil ?_ | refine awp_seq ?_ | refine awp_region lay_ok ?_ | refine awp_drawn lay_ok follows_ok (by kernel_rfl) ?_ | refine And.intro (by kernel_rfl) ?_ | refine awp_block ?_ | refine awp_skip ?_ | refine awp_ret ?_ | refine awp_exit ?_ | refine awp_scope ?_ | refine awp_condT rfl ?_ | refine awp_condF rfl ?_)
    refine ar_call' (f := 70) rfl rfl rfl rfl plain70 o1 ?_
    repeat (first | refine ar_addN rfl rfl rfl rfl (by omega) ?_ | refine ar_subN rfl rfl rfl rfl (by omega) ?_ | refine ar_op rfl ?_ | refine ar_div (wantF_ok rfl) rfl rfl rfl rfl (by decide) ?_ | refine ar_nil ?_ | refine awp_seq ?_ | refine awp_region lay_ok ?_ | refine awp_drawn lay_ok follows_ok (by kernel_rfl) ?_ | refine And.intro (by kernel_rfl) ?_ | refine awp_block ?_ | refine awp_skip ?_ | refine awp_ret ?_ | refine awp_exit ?_ | refine awp_scope ?_ | refine awp_condT rfl ?_ | refine awp_condF rfl ?_)
    refine ar_call' (f := 75) rfl rfl rfl rfl plain75 c1 ?_
    repeat (first | refine ar_addN rfl rfl rfl rfl (by omega) ?_ | refine ar_subN rfl rfl rfl rfl (by omega) ?_ | refine ar_op rfl ?_ | refine ar_div (wantF_ok rfl) rfl rfl rfl rfl (by decide) ?_ | refine ar_nil ?_ | refine awp_seq ?_ | refine awp_region lay_ok ?_ | refine awp_drawn lay_ok follows_ok (by kernel_rfl) ?_ | refine And.intro (by kernel_rfl) ?_ | refine awp_block ?_ | refine awp_skip ?_ | refine awp_ret ?_ | refine awp_exit ?_ | refine awp_scope ?_ | refine awp_condT rfl ?_ | refine awp_condF rfl ?_)
    refine ar_eq 9 rfl (d' := .im (.bool false)) (eqt e1) ?_
    repeat (first | refine ar_addN rfl rfl rfl rfl (by omega) ?_ | refine ar_subN rfl rfl rfl rfl (by omega) ?_ | refine ar_op rfl ?_ | refine ar_div (wantF_ok rfl) rfl rfl rfl rfl (by decide) ?_ | refine ar_nil ?_ | refine awp_seq ?_ | refine awp_region lay_ok ?_ | refine awp_drawn lay_ok follows_ok (by kernel_rfl) ?_ | refine And.intro (by kernel_rfl) ?_ | refine awp_block ?_ | refine awp_skip ?_ | refine awp_ret ?_ | refine awp_exit ?_ | refine awp_scope ?_ | refine awp_condT rfl ?_ | refine awp_condF rfl ?_)
    refine ar_call' (f := 70) rfl rfl rfl rfl plain70 o2 ?_
    repeat (first | refine ar_addN rfl rfl rfl rfl (by omega) ?_ | refine ar_subN rfl rfl rfl rfl (by omega) ?_ | refine ar_op rfl ?_ | refine ar_div (wantF_ok rfl) rfl rfl rfl rfl (by decide) ?_ | refine ar_nil ?_ | refine awp_seq ?_ | refine awp_region lay_ok ?_ | refine awp_drawn lay_ok follows_ok (by kernel_rfl) ?_ | refine And.intro (by kernel_rfl) ?_ | refine awp_block ?_ | refine awp_skip ?_ | refine awp_ret ?_ | refine awp_exit ?_ | refine awp_scope ?_ | refine awp_condT rfl ?_ | refine awp_condF rfl ?_)
    refine ar_call' (f := 75) rfl rfl rfl rfl plain75 c2 ?_
    repeat (first | refine ar_addN rfl rfl rfl rfl (by omega) ?_ | refine ar_subN rfl rfl rfl rfl (by omega) ?_ | refine ar_op rfl ?_ | refine ar_div (wantF_ok rfl) rfl rfl rfl rfl (by decide) ?_ | refine ar_nil ?_ | refine awp_seq ?_ | refine awp_region lay_ok ?_ | refine awp_drawn lay_ok follows_ok (by kernel_rfl) ?_ | refine And.intro (by kernel_rfl) ?_ | refine awp_block ?_ | refine awp_skip ?_ | refine awp_ret ?_ | refine awp_exit ?_ | refine awp_scope ?_ | refine awp_condT rfl ?_ | refine awp_condF rfl ?_)
    refine awp_cond rfl (fun hb => ?_) (fun hb => ?_)
    · exact absurd (hb.symm.trans e2) (by decide)
    repeat (first | refine ar_addN rfl rfl rfl rfl (by omega) ?_ | refine ar_subN rfl rfl rfl rfl (by omega) ?_ | refine ar_op rfl ?_ | refine ar_div (wantF_ok rfl) rfl rfl rfl rfl (by decide) ?_ | refine ar_nil ?_ | refine awp_seq ?_ | refine awp_region lay_ok ?_ | refine awp_drawn lay_ok follows_ok (by kernel_rfl) ?_ | refine And.intro (by kernel_rfl) ?_ | refine awp_block ?_ | refine awp_skip ?_ | refine awp_ret ?_ | refine awp_exit ?_ | refine awp_scope ?_ | refine awp_condT rfl ?_ | refine awp_condF rfl ?_)
    refine ar_call' (f := 71) rfl rfl rfl rfl plain71 n2 ?_
    repeat (first | refine ar_addN rfl rfl rfl rfl (by omega) ?_ | refine ar_subN rfl rfl rfl rfl (by omega) ?_ | refine ar_op rfl ?_ | refine ar_div (wantF_ok rfl) rfl rfl rfl rfl (by decide) ?_ | refine ar_nil ?_ | refine awp_seq ?_ | refine awp_region lay_ok ?_ | refine awp_drawn lay_ok follows_ok (by kernel_rfl) ?_ | refine And.intro (by kernel_rfl) ?_ | refine awp_block ?_ | refine awp_skip ?_ | refine awp_ret ?_ | refine awp_exit ?_ | refine awp_scope ?_ | refine awp_condT rfl ?_ | refine awp_condF rfl ?_)
    refine ar_at (enc := mw) (l := [z.natAbs]) 0 rfl rfl rfl rfl rfl (fun _ => rfl) rfl rfl (by simp) ?_
    repeat (first | refine ar_addN rfl rfl rfl rfl (by omega) ?_ | refine ar_subN rfl rfl rfl rfl (by omega) ?_ | refine ar_op rfl ?_ | refine ar_div (wantF_ok rfl) rfl rfl rfl rfl (by decide) ?_ | refine ar_nil ?_ | refine awp_seq ?_ | refine awp_region lay_ok ?_ | refine awp_drawn lay_ok follows_ok (by kernel_rfl) ?_ | refine And.intro (by kernel_rfl) ?_ | refine awp_block ?_ | refine awp_skip ?_ | refine awp_ret ?_ | refine awp_exit ?_ | refine awp_scope ?_ | refine awp_condT rfl ?_ | refine awp_condF rfl ?_)
    refine ⟨_, rfl, ?_⟩
    have : IntKind.i64.wrap (-IntKind.i64.wrap (z.natAbs : Int)) = z := by rw [IntKind.wrap_i64, IntKind.wrap_i64]; omega
    simp [tupM, this]
end Go.Proofs.Ytbofdldkiooegaa
