/- The document's quotient, rest and small numbers of layer 2, by the logic over data. -/
import Derived.Test.YtkbhchlecokpiaaGreatFwR2
set_option linter.unusedVariables false
set_option linter.unusedSimpArgs false
namespace Go.Proofs.YtkbhchlecokpiaaGreat
open Go Go.RowKit Fw Tw
set_option linter.unusedVariables false
set_option linter.unusedSimpArgs false
theorem sign_cases' (z : Int) : (signZ z = -1 ∧ z < 0) ∨ (signZ z = 0 ∧ z = 0) ∨ (signZ z = 1 ∧ 0 < z) := by
  unfold signZ
  split
  · exact .inl ⟨rfl, by assumption⟩
  · split
    · exact .inr (.inr ⟨rfl, by assumption⟩)
    · exact .inr (.inl ⟨rfl, by omega⟩)
/-- a whole number in a box -/
def boxZ (z : Int) : O := .box 31 [.im (.bool (decide (z < 0))), .im (mN z.natAbs)]
theorem ediv_uniq {a : Int} {b2 : Bool} {Y : Nat} (hY : Y ≠ 0) {q r : Int} (h : a - q * sg b2 Y = r) (h0 : 0 ≤ r) (h1 : r < Y) : a / sg b2 Y = q ∧ modZ a (sg b2 Y) = r := by
  cases b2
  · have := ediv_core (a := a) (b2 := false) hY (q := q) (r := r) (by rw [← h]; simp only [sg]; rw [if_neg (by decide), Int.mul_comm q]; omega) h0 h1
    simpa using this
  · have := ediv_core (a := a) (b2 := true) hY (q := -q) (r := r) (by rw [← h]; simp only [sg]; rw [if_pos trivial, Int.mul_neg, Int.mul_neg, Int.mul_comm q]; omega) h0 h1
    simpa using this
theorem trunc_rest {b1 b2 : Bool} {X Y : Nat} (hY : Y ≠ 0) : -(Y : Int) < sg b1 X - sg (!(b1 == b2)) (X / Y) * sg b2 Y ∧ sg b1 X - sg (!(b1 == b2)) (X / Y) * sg b2 Y < Y ∧ (sg (!(b1 == b2)) (X / Y)).natAbs ≤ X := by
  have h1 := Nat.div_add_mod X Y
  have h2 := Nat.mod_lt X (Nat.pos_of_ne_zero hY)
  have h3 : ((X / Y : Nat) : Int) * (Y : Int) = ((X / Y * Y : Nat) : Int) := by simp
  have h4 : X / Y * Y + X % Y = X := by rw [Nat.mul_comm]; exact h1
  have h5 := Nat.div_le_self X Y
  refine ⟨?_, ?_, by rw [sg_abs]; exact h5⟩
  · cases b1 <;> cases b2 <;> simp only [sg, Bool.not_true, Bool.not_false, beq_self_eq_true, if_true, if_false, Bool.false_eq_true, Int.neg_mul, Int.mul_neg, Int.neg_neg, h3, beq_iff_eq, reduceCtorEq, show (false == true) = false from rfl, show (true == false) = false from rfl] <;> omega
  · cases b1 <;> cases b2 <;> simp only [sg, Bool.not_true, Bool.not_false, beq_self_eq_true, if_true, if_false, Bool.false_eq_true, Int.neg_mul, Int.mul_neg, Int.neg_neg, h3, beq_iff_eq, reduceCtorEq, show (false == true) = false from rfl, show (true == false) = false from rfl] <;> omega
set_option maxHeartbeats 1000000 in
theorem rzdivmod_r {m1 m2 : M} {z1 z2 : Int} {k1 k2 : Nat} (h1 : IsZ m1 z1 k1) (h2 : IsZ m2 z2 k2) (hk1 : k1 ≤ 100) (hk2 : k2 ≤ 100) : Ret Tryz.prog 113 [m1, m2] (.tup [mI (z1 / z2), mI (modZ z1 z2)]) := by
  have hs := rsign_r h2 (by omega)
  have hz1 := h1.sz
  have i1 := h1
  have i2 := h2
  obtain ⟨b1, l1, rfl, hd1, hl1, e1⟩ := h1
  obtain ⟨b2, l2, rfl, hd2, hl2, e2⟩ := h2
  by_cases hz : z2 = 0
  · have e3 : z1 / z2 = 0 := by rw [hz, Int.ediv_zero]
    have e4 : modZ z1 z2 = 0 := if_pos hz
    rw [e3, e4, mI_zero]
    refine Ret.weak (m := .tup [.agg [.bool false, .nil], .agg [.bool false, .nil]]) ?_ (LeL.refl _) (le_tup (.cons (le_agg (.cons (Le.refl _) (.cons le_nil .nil))) (.cons (le_agg (.cons (Le.refl _) (.cons le_nil .nil))) .nil)))
    rw [hz] at hs
    clear e1 e2 i1 i2
    refine ret_of (L := L) lay_ok Tryz.func113 rfl Tryz.ntmps113 rfl ?_
    refine go ?_
    refine cl (by exact rfl) plain108 rfl hs ?_
    refine go ?_
    refine ⟨_, rfl, ?_⟩
    rfl
  · have hY : Tw.val W l2 ≠ 0 := by rintro h; rw [h] at e2; apply hz; rw [e2]; cases b2 <;> rfl
    have hsn : (signZ z2 == 0) = false := by
      rw [beq_eq_false_iff_ne]; unfold signZ; split
      · omega
      · split <;> omega
    have hdm := rdivmod_r hd1 hd2 (by omega) (by omega)
    have hX := val_lt hd1
    have hXk : Tw.val W l1 < W ^ k1 := Nat.lt_of_lt_of_le hX (Nat.pow_le_pow_right W_pos hl1)
    have hq0 : Tw.val W l1 / Tw.val W l2 < W ^ k1 := Nat.lt_of_le_of_lt (Nat.div_le_self _ _) hXk
    obtain ⟨t1, t2, t3⟩ := trunc_rest (b1 := b1) (b2 := b2) (X := Tw.val W l1) hY
    rw [← e1, ← e2] at t1 t2
    have hXz : Tw.val W l1 = z1.natAbs := by rw [e1, sg_abs]
    have hYz : Tw.val W l2 = z2.natAbs := by rw [e2, sg_abs]
    have hmk := mkm_r (neg := !(b1 == b2)) hq0 (by omega)
    generalize hQ : sg (!(b1 == b2)) (Tw.val W l1 / Tw.val W l2) = q0 at *
    have iq : IsZ (mI q0) q0 k1 := isZ_mI (by rw [← hQ, sg_abs]; exact hq0)
    have hm0 := rzmul_r iq i2 (by omega) (by omega)
    have hr0 := rzsub_r i1 (isZ_mI (sz_mul iq.sz i2.sz)) (by omega) (by omega)
    refine ret_of (L := L) lay_ok Tryz.func113 rfl Tryz.ntmps113 rfl ?_
    refine go ?_
    refine cl (by exact rfl) plain108 rfl hs ?_
    refine go ?_
    refine awp_cond rfl (fun hb => ?_) (fun hb => ?_)
    · rw [hsn] at hb; cases hb
    refine go ?_
    refine cl (by exact rfl) plain148 rfl hdm ?_
    refine go ?_
    refine cl (by exact rfl) plain138 rfl hmk ?_
    refine go ?_
    refine cl (by exact rfl) plain95 rfl hm0 ?_
    refine go ?_
    refine cl (by exact rfl) plain137 rfl hr0 ?_
    refine go ?_
    refine awp_loopC (A := Int) (B := Int) (fun q => -(z2.natAbs : Int) < z1 - q * z2 ∧ z1 - q * z2 < z2.natAbs ∧ q.natAbs ≤ z1.natAbs + 1 ∧ (z1 - q * z2 < 0 → q.natAbs ≤ z1.natAbs))
      (fun q => [(2, some (.ptr 2 0)), (3, some (.ptr 3 0)), (4, some (.ptr 4 0)), (5, some (.ptr 5 0)), (8, some (.ptr 8 0)), (9, some (.ptr 9 0))])
      (fun q => [(2, some (.box 31 [.im (.bool b1), .im (mW l1)])), (3, some (.box 31 [.im (.bool b2), .im (mW l2)])), (4, some (.box 31 [.im (.bool false), .im .nil])), (5, some (.box 31 [.im (.bool false), .im .nil])), (8, some (boxZ q)), (9, some (boxZ (z1 - q * z2)))])
      (fun q => if z1 - q * z2 < 0 then 1 else 0)
      (fun q => 0 ≤ z1 - q * z2 ∧ z1 - q * z2 < z2.natAbs)
      (fun q => [(2, some (.ptr 2 0)), (3, some (.ptr 3 0)), (4, some (.ptr 4 0)), (5, some (.ptr 5 0)), (8, some (.ptr 8 0)), (9, some (.ptr 9 0))])
      (fun q => [(4, some (.box 31 [.im (.bool false), .im .nil])), (5, some (.box 31 [.im (.bool false), .im .nil])), (8, some (boxZ q)), (9, some (boxZ (z1 - q * z2)))])
      q0 ⟨by omega, by omega, by omega, fun _ => by omega⟩ ?_ ?_ ?_
    · exact gou0
    · rintro q ⟨g1, g2, g3, g4⟩
      have ir : IsZ (mI (z1 - q * z2)) (z1 - q * z2) k2 := isZ_mI (by have := i2.sz; omega)
      refine go ?_
      refine cl (by exact rfl) plain108 rfl (rsign_r ir (by omega)) ?_
      refine go ?_
      refine awp_cond rfl (fun hb => ?_) (fun hb => ?_)
      · have hneg : z1 - q * z2 < 0 := by
          rcases sign_cases' (z1 - q * z2) with ⟨g, g'⟩ | ⟨g, g'⟩ | ⟨g, g'⟩
          · exact g'
          · rw [g] at hb; exact absurd hb (by decide)
          · rw [g] at hb; exact absurd hb (by decide)
        have g5 := g4 hneg
        have iq' : IsZ (mI q) q k1 := isZ_mI (by omega)
        have io : IsZ (mI 1) 1 1 := of_z (by omega) (by omega)
        refine go ?_
        refine cl (by exact rfl) plain108 rfl hs ?_
        refine go ?_
        refine awp_cond rfl (fun hb2 => ?_) (fun hb2 => ?_)
        · have hpos : 0 < z2 := by
            rcases sign_cases' z2 with ⟨g, g'⟩ | ⟨g, g'⟩ | ⟨g, g'⟩
            · rw [g] at hb2; exact absurd hb2 (by decide)
            · rw [g] at hb2; exact absurd hb2 (by decide)
            · exact g'
          have hq1 : (q - 1) * z2 = q * z2 - z2 := by rw [Int.sub_mul, Int.one_mul]
          have iq2 : IsZ (mI (q - 1)) (q - 1) (k1 + 1) := isZ_mI (by have := W_powl hz1; omega)
          refine go ?_
          refine cl (by exact rfl) plain107 rfl (rof_r (by omega) (by omega)) ?_
          refine go ?_
          refine cl (by exact rfl) plain137 rfl (rzsub_r iq' io (by omega) (by omega)) ?_
          refine go ?_
          refine cl (by exact rfl) plain95 rfl (rzmul_r iq2 i2 (by omega) (by omega)) ?_
          refine go ?_
          refine cl (by exact rfl) plain137 rfl (rzsub_r i1 (isZ_mI (sz_mul iq2.sz i2.sz)) (by omega) (by omega)) ?_
          refine go ?_
          refine ⟨q - 1, ⟨by rw [hq1]; omega, by rw [hq1]; omega, by omega, fun h => by rw [hq1] at h; omega⟩, ?_, ?_⟩
          · exact gou0
          · rw [if_pos hneg, if_neg (by rw [hq1]; omega)]; omega
        · have hpos : z2 < 0 := by
            rcases sign_cases' z2 with ⟨g, g'⟩ | ⟨g, g'⟩ | ⟨g, g'⟩
            · exact g'
            · exact absurd g' hz
            · rw [g] at hb2; exact absurd hb2 (by decide)
          have hq1 : (q + 1) * z2 = q * z2 + z2 := by rw [Int.add_mul, Int.one_mul]
          have iq2 : IsZ (mI (q + 1)) (q + 1) (k1 + 1) := isZ_mI (by have := W_powl hz1; omega)
          refine go ?_
          refine cl (by exact rfl) plain107 rfl (rof_r (by omega) (by omega)) ?_
          refine go ?_
          refine cl (by exact rfl) plain149 rfl (rzadd_r iq' io (by omega) (by omega)) ?_
          refine go ?_
          refine cl (by exact rfl) plain95 rfl (rzmul_r iq2 i2 (by omega) (by omega)) ?_
          refine go ?_
          refine cl (by exact rfl) plain137 rfl (rzsub_r i1 (isZ_mI (sz_mul iq2.sz i2.sz)) (by omega) (by omega)) ?_
          refine go ?_
          refine ⟨q + 1, ⟨by rw [hq1]; omega, by rw [hq1]; omega, by omega, fun h => by rw [hq1] at h; omega⟩, ?_, ?_⟩
          · exact gou0
          · rw [if_pos hneg, if_neg (by rw [hq1]; omega)]; omega
      · have hnn : 0 ≤ z1 - q * z2 := by
          rcases sign_cases' (z1 - q * z2) with ⟨g, g'⟩ | ⟨g, g'⟩ | ⟨g, g'⟩
          · rw [g] at hb; exact absurd hb (by decide)
          · omega
          · omega
        refine go ?_
        refine .inl ⟨rfl, q, ⟨hnn, g2⟩, ?_⟩
        exact gou0
    · rintro q ⟨g1, g2⟩
      obtain ⟨f1, f2⟩ := ediv_uniq (a := z1) (b2 := b2) hY (q := q) (r := z1 - q * z2) (by rw [← e2]) g1 (by rw [hYz]; exact g2)
      rw [← e2] at f1 f2
      refine go ?_
      refine ⟨_, rfl, ?_⟩
      rw [f1, f2]
      rfl
end Go.Proofs.YtkbhchlecokpiaaGreat
