/- The reference of layer 1: DivMod. -/
import Derived.Test.YtbofdldkiooegaaRMul
namespace Tw
open Go Go.RowKit
theorem and1_all : ∀ n : Fin 256, bits .and .i64 ((n.val : Nat) : Int) 1 = ((n.val % 2 : Nat) : Int) := by decide +kernel
theorem and1_small {n : Nat} (h : n < 256) : bits .and .i64 (n : Int) 1 = ((n % 2 : Nat) : Int) := and1_all ⟨n, h⟩

section
variable {k : IntKind} {e : TypeId} {B base : Nat} {w w' : World} {v : Value} {l : List Nat}
/-- a store into a block below the row's own -/
theorem Own.setLow (h : Own k e B base w v l) {p : Addr} (hp : p.block < base) (u : Value) : Own k e B base (w.setCell p u) v l := by
  refine ⟨⟨h.1.1, ?_⟩, h.2⟩
  rcases h.1.2 with h1 | ⟨g, cap, cur, h1, h2, h3, r⟩
  · exact .inl h1
  · refine .inr ⟨g, cap, cur, h1, h2, ?_, r⟩
    rw [Below.heap_setCell w p u g (by omega)]
    exact h3
end

/-- one bit of the division -/
theorem rdiv_bit {P Q R Y b : Nat} (h : P = Q * Y + R) (hR : R < Y) : (Y ≤ 2 * R + b → 2 * P + b = (2 * Q + 1) * Y + (2 * R + b - Y)) ∧ 2 * P + b = 2 * Q * Y + (2 * R + b) := by
  have e : 2 * Q * Y = 2 * (Q * Y) := Nat.mul_assoc 2 Q Y
  constructor
  · intro h1
    rw [Nat.add_mul, Nat.one_mul, e]
    omega
  · rw [e]; omega
theorem rdiv_step {D x m Qn ql Y R : Nat} (hm : m < 8) (h : D * 2 ^ (8 - (m + 1)) + x / 2 ^ (m + 1) = (Qn * 2 ^ (8 - (m + 1)) + ql) * Y + R) :
    D * 2 ^ (8 - m) + x / 2 ^ m = (Qn * 2 ^ (8 - m) + 2 * ql) * Y + (2 * R + x / 2 ^ m % 2) := by
  have e1 : 2 ^ (8 - m) = 2 * 2 ^ (8 - (m + 1)) := by rw [show 8 - m = (8 - (m + 1)) + 1 by omega, Nat.pow_succ, Nat.mul_comm]
  have e2 : x / 2 ^ (m + 1) = x / 2 ^ m / 2 := by rw [Nat.pow_succ, Nat.div_div_eq_div_mul]
  rw [e2] at h
  rw [e1]
  generalize 2 ^ (8 - (m + 1)) = p at *
  have e3 : (Qn * (2 * p) + 2 * ql) * Y = 2 * ((Qn * p + ql) * Y) := by
    rw [← Nat.mul_assoc 2, show Qn * (2 * p) + 2 * ql = 2 * (Qn * p + ql) by rw [Nat.mul_add, Nat.mul_left_comm]]
  rw [e3, Nat.mul_left_comm]
  omega
theorem rdiv_step1 {D x m Qn ql Y R : Nat} (hm : m < 8) (h : D * 2 ^ (8 - (m + 1)) + x / 2 ^ (m + 1) = (Qn * 2 ^ (8 - (m + 1)) + ql) * Y + R) (hY : Y ≤ 2 * R + x / 2 ^ m % 2) :
    D * 2 ^ (8 - m) + x / 2 ^ m = (Qn * 2 ^ (8 - m) + (2 * ql + 1)) * Y + (2 * R + x / 2 ^ m % 2 - Y) := by
  rw [rdiv_step hm h, ← Nat.add_assoc (Qn * 2 ^ (8 - m)), Nat.add_mul _ 1 Y, Nat.one_mul]
  omega
theorem wrap64_nat {n : Nat} (h : n < 65536) : wrap64 (n : Int) = (n : Int) := by unfold wrap64; omega
theorem ql_lt {ql m : Nat} (hm : m < 8) (h : ql < 2 ^ (8 - (m + 1))) : (2 * ql + 1) < 2 ^ (8 - m) := by
  rw [show 8 - m = (8 - (m + 1)) + 1 by omega, Nat.pow_succ]; omega
theorem ql_byte {c m : Nat} (hm : m < 8) (h : c < 2 ^ (8 - m)) : c * 2 ^ m < 256 := by
  have := Nat.mul_lt_mul_of_pos_right h (Nat.two_pow_pos m)
  rw [← Nat.pow_add, show 8 - m + m = 8 by omega] at this
  exact this
end Tw
namespace Go.Proofs.Ytbofdldkiooegaa
open Go Go.RowKit Tw
set_option linter.unusedVariables false
set_option linter.unusedSimpArgs false

set_option maxRecDepth 100000 in
set_option maxHeartbeats 4000000 in
theorem rdivmod_c (v1 v2 : Value) (l1 l2 : List Nat) (w : World) (h1 : Wd w v1 l1) (h2 : Wd w v2 l2) (hs1 : l1.length ≤ 1000) (hs2 : l2.length ≤ 1000) :
    Calls Try.prog 32 #[v1, v2] w fun e w' => ∃ u1 u2, e = .returned (.tuple #[u1, u2]) ∧ (OwnW w.heap.size w' u1 (digs W (val W l1 / val W l2)) ∧ OwnW w.heap.size w' u2 (digs W (remN (val W l1) (val W l2)))) ∧ Below w.heap.size w w' := by
  have H1 := Lib.hid h1; have H2 := Lib.hid h2
  have hle1 := length_digs_le (b := 256) (k := 8 * l1.length) two56 (by rw [← W256]; exact val_lt h1.dig)
  have hle2 := length_digs_le (b := 256) (k := 8 * l2.length) two56 (by rw [← W256]; exact val_lt h2.dig)
  clear h1 h2
  go_enter Try.func32, Try.ntmps32
  go_wp2_with fail
  refine Calls.mono (small_c _ l1 _ H1.out (by omega)) ?_; rintro e wa ⟨t1, rfl, g1, hba⟩
  have H2a := Lib.hid (H2.out.below hba); clear H1 H2
  have BA := Lib.hid hba; have G1 := Lib.hid g1; clear hba g1
  go_wp2_with fail
  refine Calls.mono (small_c _ l2 _ H2a.out (by omega)) ?_; rintro e wb ⟨t2, rfl, g2, hbb⟩
  have G1b := Lib.hid (G1.out.below hbb).ls
  have G2b := Lib.hid g2.ls
  have BB := Lib.hid (bel_trans BA.out hbb); clear hbb g2 G1 H2a BA
  obtain ⟨X, hX⟩ : ∃ X, X = val W l1 := ⟨_, rfl⟩
  obtain ⟨Y, hY⟩ : ∃ Y, Y = val W l2 := ⟨_, rfl⟩
  have HX := Lib.hid hX; have HY := Lib.hid hY
  rw [← hX] at G1b hle1
  rw [← hY] at G2b hle2
  clear hX hY
  by_cases hy0 : Y = 0
  · have HQ : Hid (digs W (val W l1 / val W l2) = []) := Lib.hid (by rw [← HY.out, hy0, Nat.div_zero, digs_zero])
    have HR : Hid (digs W (remN (val W l1) (val W l2)) = []) := Lib.hid (by rw [← HY.out, hy0]; unfold remN; rw [if_pos rfl, digs_zero])
    rw [hy0, digs_zero] at G2b
    obtain ⟨a2, c2, rfl, hx2⟩ := G2b
    clear hx2 hy0 hle2
    go_wp2_with fail
    go_ret2
    exact ⟨_, _, rfl, ⟨by rw [HQ.out]; exact Own.nil _ _ _ _ _, by rw [HR.out]; exact Own.nil _ _ _ _ _⟩, BB.out⟩
  · have hyp : 0 < Y := by omega
    have E1 := Lib.hid (val_digs two56 X)
    have hdy : 0 < (digs 256 Y).length := by rw [digs_pos two56 hyp]; simp
    have HYP := Lib.hid hyp
    generalize hd1 : digs 256 X = d1 at *
    have D1 := Lib.hid G1b.out.dig
    have HS2 := G2b
    obtain ⟨a1, c1, rfl, hx1⟩ := G1b
    obtain ⟨a2, c2, rfl, hx2⟩ := G2b
    have HX1 := Lib.hid hx1
    obtain ⟨n1, hn1⟩ : ∃ n, n = d1.length := ⟨_, rfl⟩
    obtain ⟨n2, hn2⟩ : ∃ n, n = (digs 256 Y).length := ⟨_, rfl⟩
    have HN1 := Lib.hid hn1; have HN2 := Lib.hid hn2
    have hm1 : n1 ≤ 8000 := by omega
    have hm2 : n2 ≤ 8000 := by omega
    have hm3 : 0 < n2 := by omega
    have hm4 : ((n2 : Int) == 0) = false := by rw [beq_eq_false_iff_ne]; omega
    rw [← hn1, ← hn2]
    rw [← hn2] at HS2
    clear hx1 hx2 hn1 hn2 hd1 hle1 hle2 hdy hy0 hyp
    go_wp2_with (at_make; refine wpList_make_z _ rfl _ _ 38 rfl wb.heap.size 3 .i64 8 256 Try.underlying38 info_i64 .i64 .i64 _ _ n1 n1 rfl rfl rfl rfl (by omega) (by omega) (by unfold maxLen; omega) (Nat.le_refl _) (by omega) ?_; intro wm hown hbel hsz; have Hsz := Lib.hid hsz; clear hsz)
    go_loopg [9, 10] n1 (fun k rv i wr => ∃ (R : Nat) (q : List Nat) (c : Int), k ≤ n1 ∧ i = .int .i64 c ∧ c = (k : Int) - 1 ∧ OwnD (wb.heap.size + 1) wr rv (digs 256 R) ∧ Hid (R < Y) ∧
      OwnD wb.heap.size wr (.slice (some ⟨wb.heap.size, 0, none⟩) n1 n1) q ∧ Hid (q.length = n1) ∧ Hid (val 256 (d1.drop k) = val 256 (q.drop k) * Y + R) ∧ Hid (Below wb.heap.size wb wr) ∧ Hid (∀ t, t < k → nth q t = 0) ∧ Hid (wb.heap.size < wr.heap.size))
    case atStart =>
      refine ⟨0, List.replicate n1 0, (n1 : Int) - 1, Nat.le_refl _, rfl, rfl, ?_, HYP.out, hown, by show _ = _; simp, ?_, hbel, fun t _ => by simp [nth, List.getD, List.getElem?_replicate]; split <;> rfl, by have := Hsz.out; show _ < _; omega⟩
      · rw [digs_zero]; exact Own.nil _ _ _ _ _
      · show _ = _
        rw [List.drop_of_length_le (by have := HN1.out; omega), List.drop_of_length_le (by simp)]; simp [val]
    case round =>
      clear hown hbel
      obtain ⟨R, q, c, hk, rfl, hc, hr, hR, hown, hol, hv, HBB, hz, hsz⟩ := hrel
      have HO := Lib.hid hown; have HRR := Lib.hid hr
      clear hown hr
      by_cases hk0 : 0 < gk
      · obtain ⟨i, rfl⟩ : ∃ i, gk = i + 1 := ⟨gk - 1, by omega⟩
        obtain rfl : c = (i : Int) := by omega
        obtain ⟨b1, o1, rfl, hcl1⟩ := HX1.out.2.2.2 (by intro e; have := HN1.out; rw [e] at this; simp at this; omega)
        have HC1 := Lib.hid hcl1
        have hb1 : Hid (b1 < wb.heap.size) := Lib.hid (hcl1.lt (by have := HN1.out; omega))
        have X1 := Lib.hid (nth_dig D1.out (show i < d1.length by have := HN1.out; omega))
        have HV0 := hv
        clear hcl1 hc
        obtain ⟨x, hx⟩ : ∃ x, x = nth d1 i := ⟨_, rfl⟩
        have HXX := Lib.hid hx
        obtain ⟨Qn, hQn⟩ : ∃ Qn, Qn = val 256 (q.drop (i + 1)) := ⟨_, rfl⟩
        have HQN := Lib.hid hQn
        clear hx hQn
        go_wp2_with fail
        go_loopg [9, 11] 8 (fun b rv s wr => ∃ (R2 ql : Nat) (q2 : List Nat) (c : Int), b ≤ 8 ∧ s = .int .i64 c ∧ c = (b : Int) - 1 ∧ OwnD (wb.heap.size + 1) wr rv (digs 256 R2) ∧ Hid (R2 < Y) ∧
          OwnD wb.heap.size wr (.slice (some ⟨wb.heap.size, 0, none⟩) n1 n1) q2 ∧ Hid (q2.length = n1) ∧ Hid (val 256 (d1.drop (i + 1)) * 2 ^ (8 - b) + x / 2 ^ b = (Qn * 2 ^ (8 - b) + ql) * Y + R2) ∧ Hid (ql < 2 ^ (8 - b)) ∧ Hid (nth q2 i = ql * 2 ^ b) ∧ Hid (q2.drop (i + 1) = q.drop (i + 1)) ∧
          Hid (Below wb.heap.size wb wr) ∧ Hid (∀ t, t < i → nth q2 t = 0) ∧ Hid (wb.heap.size < wr.heap.size))
        case atStart =>
          refine ⟨R, 0, q, 7, Nat.le_refl _, rfl, rfl, HRR.out, hR, HO.out, hol, ?_, by show 0 < 2 ^ 0; omega, ?_, rfl, HBB, fun t ht => hz.out t (by omega), hsz⟩
          · show _ = _
            have : x / 2 ^ 8 = 0 := Nat.div_eq_of_lt (by have := X1.out; rw [← HXX.out] at this; omega)
            rw [this, hv.out, HQN.out]; simp
          · show _ = _; rw [hz.out i (by omega), Nat.zero_mul]
        case round =>
          clear HO HRR hR hol hv hz HBB hsz
          obtain ⟨R2, ql, q2, c, hb, rfl, hc, hr, hR, hown, hol, hv, hql, hqi, hqd, HBB, hz, hsz⟩ := hrel
          have HO := Lib.hid hown; have HRR := Lib.hid hr
          clear hown hr
          by_cases hb0 : 0 < gk
          · obtain ⟨m, rfl⟩ : ∃ m, gk = m + 1 := ⟨gk - 1, by omega⟩
            obtain rfl : c = (m : Int) := by omega
            have g1 : wr.cell? ⟨b1, o1 + i, none⟩ = some (.int .i64 ((x : Nat) : Int)) := by rw [HXX.out]; exact HC1.out.below hb1.out HBB.out _ (by have := HN1.out; omega)
            have hx2 : x < 256 := by rw [HXX.out]; exact X1.out
            obtain ⟨y, hy⟩ : ∃ y, y = x / 2 ^ m := ⟨_, rfl⟩
            have hyi : (x : Int) / 2 ^ m = (y : Int) := by rw [hy]; simp
            have hy2 : y < 256 := by rw [hy]; exact Nat.lt_of_le_of_lt (Nat.div_le_self _ _) hx2
            have hyb := and1_small hy2
            have hm8 : m < 8 := by omega
            have HYY := Lib.hid hy
            have hbit : y % 2 ≤ 1 := by omega
            obtain ⟨bt, hbt⟩ : ∃ bt, bt = y % 2 := ⟨_, rfl⟩
            rw [← hbt] at hyb hbit
            have HBT := Lib.hid hbt
            clear hc hy hbt
            have hlr := length_digs_le (b := 256) (n := R2) (k := n2) two56 (Nat.lt_trans hR.out (by rw [HN2.out]; exact lt_pow_length two56 Y))
            have HVR := Lib.hid (val_digs two56 R2)
            have HLR : Hid ((digs 256 R2).length ≤ 100000) := Lib.hid (by omega)
            have HQL1 := Lib.hid (ql_lt hm8 hql.out)
            obtain ⟨Z, hZ⟩ : ∃ Z, Z = 2 * R2 + bt := ⟨_, rfl⟩
            have HZ := Lib.hid hZ
            have HZB : Hid (Z = 2 * R2 + x / 2 ^ m % 2) := Lib.hid (by rw [hZ, HBT.out, HYY.out])
            have hlz := length_digs_le (b := 256) (n := Z) (k := n2 + 1) two56 (by
              have h1 : R2 < 256 ^ n2 := Nat.lt_trans hR.out (by rw [HN2.out]; exact lt_pow_length two56 Y)
              rw [Nat.pow_succ]; omega)
            have HLZ : Hid ((digs 256 Z).length ≤ 100000) := Lib.hid (by omega)
            clear hlr hlz hZ
            go_wp2_with fail
            refine Calls.mono (rtwice_c _ _ bt _ HRR.out.ls HLR.out hbit) ?_; rintro e w1 ⟨v', rfl, hr1, hb1'⟩
            rw [HVR.out, ← HZ.out] at hr1
            have HR1 := Lib.hid hr1; have HB1 := Lib.hid hb1'
            have HO1 := Lib.hid (HO.out.below hb1'); have HBB1 := Lib.hid (bel_trans HBB.out hb1')
            have HSY := Lib.hid ((Ls.below HS2 (bel_trans HBB.out hb1') : Sd w1 (.slice a2 n2 c2) (digs 256 Y)))
            have HSZ : Hid (wb.heap.size < w1.heap.size) := Lib.hid (Nat.lt_of_lt_of_le hsz.out hb1'.size)
            clear hr1 hb1' g1 HO HRR
            by_cases hcmp : Z < Y
            · have HC := Lib.hid (cmpN_lt hcmp)
              have HCP := Lib.hid hcmp
              clear hcmp
              go_wp2_with fail
              refine Calls.mono (rcmp_c _ _ _ _ _ HR1.out.ls HSY.out) ?_; rintro e w2 ⟨rfl, nd, rfl⟩
              rw [HC.out]
              go_wp2_with fail
              go_roundg m
              case measure => omega
              case rel =>
                refine ⟨Z, 2 * ql, q2, (m : Int) - 1, by omega, by go_num, rfl, ?_, HCP.out, ?_, hol, ?_, ?_, ?_, hqd, ?_, hz, HSZ⟩
                · exact (HR1.out.mono (by have := hsz.out; omega)).drawn nd
                · exact HO1.out.drawn nd
                · rw [HZB.out]; exact rdiv_step hm8 hv.out
                · have := HQL1.out; show _ < _; omega
                · show _ = _; rw [hqi.out, Nat.pow_succ, Nat.mul_comm (2 ^ m) 2, ← Nat.mul_assoc, Nat.mul_comm 2 ql]
                · exact bel_drawn HBB1.out nd
            · obtain ⟨cc, hcc, hc0⟩ := @cmp_ge Z Y (by omega)
              have HC := Lib.hid hcc
              have HCP : Hid (Y ≤ Z) := Lib.hid (by omega)
              have HLL : Hid ((digs 256 Y).length ≤ (digs 256 Z).length) := Lib.hid (by
                rcases Nat.lt_or_ge (digs 256 Z).length (digs 256 Y).length with h | h
                · exact absurd (lt_of_lengthB two56 h) hcmp
                · exact h)
              clear hcmp hcc
              go_wp2_with fail
              refine Calls.mono (rcmp_c _ _ _ _ _ HR1.out.ls HSY.out) ?_; rintro e w2 ⟨rfl, nd, rfl⟩
              rw [HC.out]
              go_wp2_with fail
              refine Calls.mono (rsub_c _ _ _ _ _ (HR1.out.drawn nd).ls (HSY.out.drawn nd) HLZ.out HLL.out (by rw [val_digs two56, val_digs two56]; exact HCP.out)) ?_; rintro e w3 ⟨v3, rfl, hr3, hb3⟩
              rw [val_digs two56, val_digs two56] at hr3
              have HR3 : Hid (OwnD (wb.heap.size + 1) w3 v3 (digs 256 (Z - Y))) := Lib.hid (hr3.mono HSZ.out)
              have HO3 := Lib.hid ((HO1.out.drawn nd).below hb3); have HBB3 := Lib.hid (bel_trans (bel_drawn HBB1.out nd) hb3)
              have HSZ3 : Hid (wb.heap.size < w3.heap.size) := Lib.hid (Nat.lt_of_lt_of_le HSZ.out hb3.size)
              clear hr3 hb3 HR1 HO1 HBB1 HSY
              have hin : i < n1 := by omega
              have hcell := (show OwnD wb.heap.size w3 (.slice (some ⟨wb.heap.size, 0, none⟩) q2.length n1) q2 by rw [hol.out]; exact HO3.out).cell (i := i) (by have := hol.out; omega)
              have hfree := HO3.out.free hol.out.symm i
              obtain ⟨z, hzq⟩ : ∃ z, z = nth q2 i := ⟨_, rfl⟩
              rw [← hzq] at hcell
              have HZQ := Lib.hid hzq
              obtain ⟨z2, hz2⟩ : ∃ z2, z2 = (2 * ql + 1) * 2 ^ m := ⟨_, rfl⟩
              have HZ2 : Hid (z2 < 256) := Lib.hid (by rw [hz2]; exact ql_byte hm8 HQL1.out)
              have HZ2E := Lib.hid hz2
              have hzs : z2 = z + 2 ^ m := by rw [hz2, hzq, hqi.out, Nat.pow_succ, Nat.add_mul, Nat.one_mul, Nat.mul_comm (2 ^ m) 2, ← Nat.mul_assoc, Nat.mul_comm 2 ql]
              obtain ⟨p, hp⟩ : ∃ p, p = 2 ^ m := ⟨_, rfl⟩
              have hpi : (2 : Int) ^ m = (p : Int) := by rw [hp]; simp
              rw [← hp] at hzs
              have hsum : (z : Int) + (p : Int) = (z2 : Int) := by omega
              have hpb : p ≤ 255 := by have := HZ2.out; omega
              clear hzq hz2 hzs hp
              have hwz : wrap64 (z2 : Int) = (z2 : Int) := wrap64_nat (Nat.lt_trans HZ2.out (by decide))
              have hwp : wrap64 (p : Int) = (p : Int) := wrap64_nat (Nat.lt_of_le_of_lt hpb (by decide))
              have HWZ := Lib.hid hwz; have HWP := Lib.hid hwp; have HSUM := Lib.hid hsum
              clear hwz hwp
              go_wp2_with fail
              (try rw [HWP.out]); (try rw [HSUM.out]); (try rw [HWZ.out])
              go_roundg m
              case measure => omega
              case rel =>
                refine ⟨Z - Y, 2 * ql + 1, q2.set i z2, (m : Int) - 1, by omega, by go_num, rfl, ?_, ?_, ?_, ?_, ?_, HQL1.out, ?_, ?_, ?_, ?_, ?_⟩
                · exact HR3.out.setLow (Nat.lt_succ_self _) _
                · have := hR.out; have := HZ.out; show _ < _; omega
                · exact HO3.out.set hol.out.symm _ _ HZ2.out
                · have := hol.out; show _ = _; simpa using this
                · rw [HZB.out]; exact rdiv_step1 hm8 hv.out (by rw [← HZB.out]; exact HCP.out)
                · show _ = _; rw [nth_set_eq (by rw [hol.out]; exact hin), HZ2E.out]
                · show _ = _; rw [List.drop_set_of_lt (Nat.lt_succ_self _)]; exact hqd.out
                · exact HBB3.out.setCell (Nat.le_refl _) _
                · intro t ht; rw [nth_set_ne (by omega)]; exact hz.out t ht
                · have := HSZ3.out; show _ < _; simpa [World.setCell] using this
          · obtain rfl : gk = 0 := by omega
            obtain rfl : c = -1 := by omega
            have HVN : Hid (val 256 (d1.drop i) = val 256 (q2.drop i) * Y + R2) := Lib.hid (by
              have h1 := hv.out
              rw [val_drop 256 (show i < d1.length by have := HN1.out; omega), val_drop 256 (show i < q2.length by have := hol.out; omega), hqi.out, hqd.out, ← HQN.out, ← HXX.out]
              rw [Nat.pow_zero, Nat.div_one, show (2 : Nat) ^ (8 - 0) = 256 by rfl] at h1
              rw [Nat.pow_zero, Nat.mul_one, Nat.mul_comm 256 Qn, Nat.add_comm ql, ← h1]; omega)
            clear hv hb0 hc
            go_wp2_with fail
            go_roundg i
            case measure => omega
            case rel => exact ⟨R2, q2, (i : Int) - 1, by omega, by go_num, rfl, HRR.out, hR, HO.out, hol, HVN, HBB, hz, hsz⟩
      · obtain rfl : gk = 0 := by omega
        obtain rfl : c = -1 := by omega
        have HV : Hid (X = val 256 q * Y + R) := Lib.hid (by have := hv.out; rw [List.drop_zero, List.drop_zero, E1.out] at this; exact this)
        have HQ : Hid (val W l1 / val W l2 = val 256 q) := Lib.hid (by rw [← HX.out, ← HY.out, HV.out, Nat.mul_comm, Nat.mul_add_div HYP.out, Nat.div_eq_of_lt hR.out, Nat.add_zero])
        have HRM : Hid (remN (val W l1) (val W l2) = R) := Lib.hid (by rw [← HX.out, ← HY.out, remN_pos (by have := HYP.out; omega), HV.out, Nat.mul_comm, Nat.mul_add_mod, Nat.mod_eq_of_lt hR.out])
        have HSd : Hid (Sd wr (.slice (some ⟨wb.heap.size, 0, none⟩) n1 n1) q) := Lib.hid ⟨_, _, by rw [hol.out], HO.out.lsS⟩
        have hlr := length_digs_le (b := 256) (n := R) (k := n2) two56 (Nat.lt_trans hR.out (by rw [HN2.out]; exact lt_pow_length two56 Y))
        have HLR : Hid ((digs 256 R).length ≤ 200000) := Lib.hid (by omega)
        clear hv hlr hc
        go_wp2_with fail
        refine Calls.mono (large_c _ q _ HSd.out (by have := hol.out; omega)) ?_; rintro e wc ⟨u1, rfl, hr1, hbc⟩
        have HR1 := Lib.hid hr1; have HBC := Lib.hid (bel_trans HBB.out hbc); have HRB := Lib.hid ((HRR.out.below hbc).ls); clear hr1 hbc
        go_wp2_with fail
        refine Calls.mono (large_c _ _ _ HRB.out HLR.out) ?_; rintro e wd ⟨u2, rfl, hr2, hbd⟩
        rw [val_digs two56] at hr2
        have HR2 := Lib.hid hr2; have HBD := Lib.hid (bel_trans HBC.out hbd); have HR1b := Lib.hid (HR1.out.below hbd); clear hr2 hbd
        go_wp2_with fail
        go_ret2
        refine ⟨_, _, rfl, ⟨?_, ?_⟩, bel_trans BB.out HBD.out⟩
        · rw [HQ.out]; exact HR1b.out.mono (bel_trans BB.out HBB.out).size
        · rw [HRM.out]; exact HR2.out.mono (bel_trans BB.out HBC.out).size

theorem rdivmod_n (v1 v2 : Value) (X Y k1 k2 : Nat) (w : World) (h1 : Nv w v1 X k1) (h2 : Nv w v2 Y k2) (hk1 : k1 ≤ 1000) (hk2 : k2 ≤ 1000) :
    Calls Try.prog 32 #[v1, v2] w (Ret2 w fun v u w' => Nc w' v (X / Y) k1 ∧ Nc w' u (remN X Y) k2) := by
  have a1 := h1.lt; have a2 := h2.lt
  obtain ⟨l1, g1, rfl, i1⟩ := h1
  obtain ⟨l2, g2, rfl, i2⟩ := h2
  refine (rdivmod_c v1 v2 l1 l2 w g1 g2 (by omega) (by omega)).mono ?_
  rintro e w' ⟨u1, u2, rfl, ⟨h4, h5⟩, h6⟩
  refine ⟨u1, u2, rfl, ⟨Nc.of h4.ls (Nat.lt_of_le_of_lt (Nat.div_le_self _ _) a1), Nc.of h5.ls ?_⟩, h6⟩
  unfold remN
  split
  · exact Nat.pow_pos W_pos
  · rename_i h0; exact Nat.lt_trans (Nat.mod_lt _ (by omega)) a2

end Go.Proofs.Ytbofdldkiooegaa
