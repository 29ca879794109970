/- limbs.Mul by its contract: the product. -/
import Derived.Test.YtbofdldkiooegaaClone
namespace Tw
theorem val_take_zero {b : Nat} {l : List Nat} {n : Nat} (hz : ∀ t, n ≤ t → nth l t = 0) : val b l = val b (l.take n) := by
  rcases Nat.le_total l.length n with h | h
  · rw [List.take_of_length_le h]
  · have hr : l.drop n = List.replicate (l.length - n) 0 := by
      apply ext_nth
      · simp
      · intro i hi
        rw [nth_drop, hz _ (by omega)]
        simp [nth, List.getD, List.getElem?_replicate]
        split <;> rfl
    rw [val_split b l n h, hr, val_zeros]; simp
end Tw
namespace Go.Proofs.Ytbofdldkiooegaa
open Go Go.RowKit Tw
set_option linter.unusedVariables false
set_option linter.unusedSimpArgs false

/-- the digit and the carry of one step of a row -/
def rowH (x y c : Nat) : Nat := mulH x y + addC (mulL x y) c 0
def rowL (x y c : Nat) : Nat := addS (mulL x y) c 0
def rowS (x y c o : Nat) : Nat := addS o (rowL x y c) 0
def rowC (x y c o : Nat) : Nat := rowH x y c + addC o (rowL x y c) 0

theorem wrap_u64 {a b : Nat} (h : a + b < W) : IntKind.u64.wrap (((a : Nat) : Int) + ((b : Nat) : Int)) = (((a + b : Nat)) : Int) := by
  rw [IntWalk.u64_in _ (by unfold W at h; omega)]; omega

theorem row_eq1 (x y c : Nat) : rowL x y c + W * rowH x y c = x * y + c := by
  have e1 := mul_eq x y
  have e2 := add_eq (mulL x y) c 0
  unfold rowL rowH
  rw [Nat.mul_add]; omega
theorem row_eq (x y c o : Nat) : rowS x y c o + W * rowC x y c o = x * y + c + o := by
  have e1 := row_eq1 x y c
  have e2 := add_eq o (rowL x y c) 0
  unfold rowS rowC
  rw [Nat.mul_add]; omega
theorem prod_lt {x y : Nat} (hx : x < W) (hy : y < W) : x * y + 2 * W ≤ W * W + 1 := by
  have h : x * y ≤ (W - 1) * (W - 1) := Nat.mul_le_mul (by omega) (by omega)
  have h2 : (W - 1) * (W - 1) + 2 * W = W * W + 1 := by
    obtain ⟨v, hv⟩ : ∃ v, W = v + 1 := ⟨W - 1, by have := W_pos; omega⟩
    rw [hv]; simp only [Nat.add_sub_cancel, Nat.add_mul, Nat.mul_add, Nat.one_mul, Nat.mul_one]; omega
  omega
theorem rowC_lt {x y c o : Nat} (hx : x < W) (hy : y < W) (hc : c < W) (ho : o < W) : rowC x y c o < W := by
  have h := row_eq x y c o
  have hp := prod_lt hx hy
  rcases Nat.lt_or_ge (rowC x y c o) W with h1 | h1
  · exact h1
  · have := Nat.mul_le_mul_left W h1
    have : W ≤ W * W := Nat.le_mul_of_pos_left W W_pos
    omega
theorem rowH_lt {x y c : Nat} (hx : x < W) (hy : y < W) (hc : c < W) : rowH x y c < W := by
  have h := row_eq1 x y c
  have hp := prod_lt hx hy
  rcases Nat.lt_or_ge (rowH x y c) W with h1 | h1
  · exact h1
  · have := Nat.mul_le_mul_left W h1
    omega

theorem mul_step {o o' b : List Nat} {i k x c : Nat} (hl : i + k < o'.length) (hs : nth o' (i + k) = nth o (i + k))
    (hv : val W (o'.take (i + k)) + W ^ (i + k) * c = val W (o.take (i + k)) + W ^ i * (x * val W (b.take k))) :
    val W ((o'.set (i + k) (rowS x (nth b k) c (nth o' (i + k)))).take (i + k + 1)) + W ^ (i + k + 1) * rowC x (nth b k) c (nth o' (i + k)) = val W (o.take (i + k + 1)) + W ^ i * (x * val W (b.take (k + 1))) := by
  have e := row_eq x (nth b k) c (nth o' (i + k))
  rw [val_take_step W _ (i + k), val_take_step W o (i + k), val_take_step W b k, nth_set_eq hl, List.take_set_of_le (Nat.le_refl _), Nat.pow_succ, ← hs]
  generalize rowS x (nth b k) c (nth o' (i + k)) = s at *
  generalize rowC x (nth b k) c (nth o' (i + k)) = d at *
  have hp : W ^ (i + k) = W ^ i * W ^ k := Nat.pow_add _ _ _
  have e2 : W ^ i * (x * (val W (b.take k) + W ^ k * nth b k)) = W ^ i * (x * val W (b.take k)) + W ^ (i + k) * (x * nth b k) := by
    rw [hp, Nat.mul_add, Nat.mul_add]
    congr 1
    rw [Nat.mul_assoc, Nat.mul_left_comm x]
  rw [e2]
  generalize W ^ (i + k) = p at *
  have : p * s + p * W * d = p * (x * nth b k) + p * c + p * nth o' (i + k) := by
    rw [Nat.mul_assoc, ← Nat.mul_add, e, Nat.mul_add, Nat.mul_add]
  omega

theorem mul_row {a b o o' : List Nat} {i c : Nat} (hl : i + b.length < o'.length) (hz : ∀ t, i + b.length ≤ t → nth o t = 0)
    (hs : ∀ t, i + b.length ≤ t → nth o' t = nth o t) (h0 : val W o = val W (a.take i) * val W b)
    (hv : val W (o'.take (i + b.length)) + W ^ (i + b.length) * c = val W (o.take (i + b.length)) + W ^ i * (nth a i * val W (b.take b.length))) :
    val W (o'.set (i + b.length) c) = val W (a.take (i + 1)) * val W b ∧ ∀ t, i + 1 + b.length ≤ t → nth (o'.set (i + b.length) c) t = 0 := by
  have hz' : ∀ t, i + b.length + 1 ≤ t → nth (o'.set (i + b.length) c) t = 0 := by
    intro t ht
    rw [nth_set_ne (by omega), hs t (by omega), hz t (by omega)]
  refine ⟨?_, fun t ht => hz' t (by omega)⟩
  rw [val_take_zero hz', val_take_step, nth_set_eq hl, List.take_set_of_le (Nat.le_refl _), hv, ← val_take_zero hz, h0, val_take_step, List.take_of_length_le (Nat.le_refl _), Nat.add_mul, Nat.mul_assoc]

set_option maxRecDepth 100000 in
set_option maxHeartbeats 1000000 in
theorem mul_c (v1 v2 : Value) (l1 l2 : List Nat) (w : World) (h1 : Wd w v1 l1) (h2 : Wd w v2 l2) (hs1 : l1.length ≤ 30000) (hs2 : l2.length ≤ 30000) :
    Calls Try.prog 22 #[v1, v2] w fun e w' => ∃ v, e = .returned v ∧ OwnW w.heap.size w' v (digs W (val W l1 * val W l2)) ∧ Below w.heap.size w w' := by
  have H1 := Lib.hid h1; have H2 := Lib.hid h2
  have hle1 := length_digs_val W_two h1.dig
  have hle2 := length_digs_val W_two h2.dig
  clear h1 h2
  go_enter Try.func22, Try.ntmps22
  go_wp2_with fail
  refine Calls.mono (trimmed_v _ _ _ H1.out) ?_; rintro e w' ⟨t1, rfl, g1, rfl⟩
  have G1 := Lib.hid g1; clear g1
  go_wp2_with fail
  refine Calls.mono (trimmed_v _ _ _ H2.out) ?_; rintro e w' ⟨t2, rfl, g2, rfl⟩
  have G2 := Lib.hid g2; clear g2
  have E1 := Lib.hid (val_digs W_two (val W l1)); have E2 := Lib.hid (val_digs W_two (val W l2))
  clear H1 H2
  generalize digs W (val W l1) = d1 at *
  generalize digs W (val W l2) = d2 at *
  obtain ⟨a1, c1, rfl, hx1⟩ := G1
  obtain ⟨a2, c2, rfl, hx2⟩ := G2
  have HX1 := Lib.hid hx1; have HX2 := Lib.hid hx2
  clear hx1 hx2
  obtain ⟨n, hn⟩ : ∃ n, n = d1.length + d2.length := ⟨_, rfl⟩
  have HN := Lib.hid hn
  have hn6 : n ≤ 60000 := by omega
  have hnn : ((d1.length : Int) + (d2.length : Int)) = (n : Int) := by omega
  clear hn
  go_wp2_with (at_make; refine wpList_make_z _ rfl _ _ 22 rfl w.heap.size 29 .u64 8 W Try.underlying22 info_u64 .i64 .i64 _ _ n n rfl rfl rfl rfl (by omega) (by omega) (by unfold maxLen; omega) (Nat.le_refl _) (by have := W_two; omega) ?_; intro wm hown hbel hsz; have Hsz := Lib.hid hsz; clear hsz)
  go_loopg [26] d1.length (fun k i wr => ∃ (j : Nat) (o : List Nat), j ≤ d1.length ∧ k = d1.length - j ∧ i = .int .i64 j ∧
    OwnW w.heap.size wr (.slice (some ⟨w.heap.size, 0, none⟩) n n) o ∧ o.length = n ∧ val W o = val W (d1.take j) * val W d2 ∧ Below w.heap.size w wr ∧ (∀ t, j + d2.length ≤ t → nth o t = 0))
  case atStart =>
    exact ⟨0, List.replicate n 0, Nat.zero_le _, rfl, rfl, hown, by simp, by simp [val, val_zeros], hbel, fun t _ => by simp [nth, List.getD, List.getElem?_replicate]; split <;> rfl⟩
  case round =>
    clear hown hbel
    obtain ⟨i, o, hi, hk, rfl, hown, hol, hv, hbel, hz⟩ := hrel
    obtain ⟨wo, rfl⟩ : ∃ wo : World, wo = wr := ⟨_, rfl⟩
    have HK := Lib.hid hk; have HL := Lib.hid hol; have HV := Lib.hid hv; have HO := Lib.hid hown; have HB := Lib.hid hbel; have HZ := Lib.hid hz
    clear hk hol hv hown hz
    by_cases hlt : i < d1.length
    · obtain ⟨b1, o1, rfl, hcl⟩ := HX1.out.2.2.2 (by intro e; rw [e] at hlt; simp at hlt)
      have g1 : wo.cell? ⟨b1, o1 + i, none⟩ = some (.int .u64 ((nth d1 i : Nat) : Int)) := hcl.below (hcl.lt (by omega)) hbel i hlt
      have x1 := Lib.hid (nth_dig HX1.out.2.2.1 hlt)
      have hin : i + d2.length < n := by have := HN.out; omega
      clear hcl hbel
      generalize hxx : nth d1 i = x at *
      have HXX := Lib.hid hxx; clear hxx
      go_wp2_with fail
      go_loopg [8, 33] d2.length (fun k c i2 wr => ∃ (j cy : Nat) (o' : List Nat), j ≤ d2.length ∧ k = d2.length - j ∧ i2 = .int .i64 j ∧ c = .int .u64 cy ∧ cy < W ∧
        OwnW w.heap.size wr (.slice (some ⟨w.heap.size, 0, none⟩) n n) o' ∧ o'.length = n ∧
        val W (o'.take (i + j)) + W ^ (i + j) * cy = val W (o.take (i + j)) + W ^ i * (x * val W (d2.take j)) ∧ Below w.heap.size w wr ∧ (∀ t, i + j ≤ t → nth o' t = nth o t))
      case atStart => exact ⟨0, 0, o, Nat.zero_le _, rfl, rfl, rfl, W_pos, HO.out, HL.out, by simp [val], HB.out, fun _ _ => rfl⟩
      case round =>
        obtain ⟨j, cy, o', hj, hk, rfl, rfl, hcy, hown, hol, hv, hbel, hsm⟩ := hrel
        have HK2 := Lib.hid hk; have HL2 := Lib.hid hol; have HV2 := Lib.hid hv; have HO2 := Lib.hid hown; have HB2 := Lib.hid hbel; have HS2 := Lib.hid hsm
        clear hk g1
        by_cases hlt2 : j < d2.length
        · obtain ⟨b2, o2, rfl, hcl⟩ := HX2.out.2.2.2 (by intro e; rw [e] at hlt2; simp at hlt2)
          have g2 : wr.cell? ⟨b2, o2 + j, none⟩ = some (.int .u64 ((nth d2 j : Nat) : Int)) := hcl.below (hcl.lt (by omega)) hbel j hlt2
          have x2 := nth_dig HX2.out.2.2.1 hlt2
          have x3 := nth_digW W_pos hown.dig (i + j)
          have hij : i + j < n := by omega
          have hcell := (show OwnW w.heap.size wr (.slice (some ⟨w.heap.size, 0, none⟩) o'.length n) o' by rw [hol]; exact hown).cell (i := i + j) (by omega)
          have hfree := hown.free hol.symm (i + j)
          have hfin := Lib.hid (mul_step (by rw [hol]; exact hij) (hsm _ (Nat.le_refl _)) hv)
          have S1 := Lib.hid (rowC_lt x1.out x2 hcy x3)
          have hadd1 := add64_run0 (mulL x (nth d2 j)) cy
          have hadd2 := add64_run0 (nth o' (i + j)) (rowL x (nth d2 j) cy)
          have hw1 : IntKind.u64.wrap (((mulH x (nth d2 j) : Nat) : Int) + ((addC (mulL x (nth d2 j)) cy 0 : Nat) : Int)) = ((rowH x (nth d2 j) cy : Nat) : Int) := wrap_u64 (rowH_lt x1.out x2 hcy)
          have hw2 : IntKind.u64.wrap (((rowH x (nth d2 j) cy : Nat) : Int) + ((addC (nth o' (i + j)) (rowL x (nth d2 j) cy) 0 : Nat) : Int)) = ((rowC x (nth d2 j) cy (nth o' (i + j)) : Nat) : Int) := wrap_u64 S1.out
          have hf1 : addS (mulL x (nth d2 j)) cy 0 = rowL x (nth d2 j) cy := rfl
          have hf2 : addS (nth o' (i + j)) (rowL x (nth d2 j) cy) 0 = rowS x (nth d2 j) cy (nth o' (i + j)) := rfl
          have X2 := Lib.hid x2
          clear hol hv hown hbel hcl hsm hcy x2 x3
          go_wp2_with fail
          refine Calls.mono (mul64_c _ _ x1.out X2.out _) ?_; rintro e w' ⟨rfl, rfl⟩
          go_wp2_with fail
          go_roundg (d2.length - (j + 1))
          case measure => have := HK2.out; omega
          case rel =>
            refine ⟨j + 1, rowC x (nth d2 j) cy (nth o' (i + j)), o'.set (i + j) (rowS x (nth d2 j) cy (nth o' (i + j))), by omega, rfl, by go_num, rfl, S1.out, ?_, ?_, hfin.out, ?_, ?_⟩
            · exact HO2.out.set HL2.out.symm _ _ (addS_lt _ _ _)
            · simpa using HL2.out
            · exact HB2.out.setCell (Nat.le_refl _) _
            · intro t ht; rw [nth_set_ne (by omega)]; exact HS2.out t (by omega)
        · obtain rfl : j = d2.length := by omega
          have hcell := (show OwnW w.heap.size wr (.slice (some ⟨w.heap.size, 0, none⟩) o'.length n) o' by rw [hol]; exact hown).cell (i := i + d2.length) (by omega)
          have hfree := hown.free hol.symm (i + d2.length)
          have hfin := Lib.hid (mul_row (a := d1) (by rw [hol]; exact hin) HZ.out hsm HV.out (by rw [HXX.out]; exact hv))
          have HCY := Lib.hid hcy
          clear hol hv hown hbel hsm hcy
          go_wp2_with fail
          go_roundg (d1.length - (i + 1))
          case measure => have := HK.out; omega
          case rel =>
            refine ⟨i + 1, o'.set (i + d2.length) cy, by omega, rfl, by go_num, ?_, ?_, hfin.out.1, ?_, hfin.out.2⟩
            · exact HO2.out.set HL2.out.symm _ _ HCY.out
            · simpa using HL2.out
            · exact HB2.out.setCell (Nat.le_refl _) _
    · obtain rfl : i = d1.length := by omega
      have hfin := Lib.hid (show val W o = val W l1 * val W l2 by rw [HV.out, List.take_of_length_le (Nat.le_refl _), E1.out, E2.out])
      clear hbel
      go_wp2_with fail
      refine Calls.mono (trimmed_n _ n n o _ HL.out.symm HO.out.lsS) ?_; rintro e w'' ⟨rfl, rfl⟩
      go_wp2_with fail
      go_ret
      refine ⟨_, rfl, ?_, HB.out⟩
      rw [← hfin.out]
      exact HO.out.trim W_two HL.out.symm

end Go.Proofs.Ytbofdldkiooegaa
