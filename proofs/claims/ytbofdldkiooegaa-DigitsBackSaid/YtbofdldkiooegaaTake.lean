/- limbs.take, giveBack by their contracts: they write a part of a row that the caller owns. -/
import Derived.Test.YtbofdldkiooegaaMul
namespace Tw
/-- what i digits from place j on count -/
def vr (U : List Nat) (j i : Nat) : Nat := val W ((U.drop j).take i)
theorem vr_zero (U : List Nat) (j : Nat) : vr U j 0 = 0 := by simp [vr, val]
theorem vr_step (U : List Nat) (j i : Nat) : vr U j (i + 1) = vr U j i + W ^ i * nth U (j + i) := by
  unfold vr; rw [val_take_step, nth_drop]
theorem vr_congr {U V : List Nat} {j i : Nat} (h : ∀ t, j ≤ t → t < j + i → nth U t = nth V t) : vr U j i = vr V j i := by
  induction i with
  | zero => rw [vr_zero, vr_zero]
  | succ i ih => rw [vr_step, vr_step, ih (fun t h1 h2 => h t h1 (by omega)), h (j + i) (by omega) (by omega)]
theorem vr_set {U : List Nat} {j i x : Nat} : vr (U.set (j + i) x) j i = vr U j i :=
  vr_congr fun t h1 h2 => nth_set_ne (by omega)
theorem vr_lt {U : List Nat} (h : Dig W U) (j i : Nat) : vr U j i < W ^ i := by
  unfold vr
  have h1 := val_lt ((h.drop j).take i)
  refine Nat.lt_of_lt_of_le h1 (Nat.pow_le_pow_right W_pos ?_)
  simp; omega
end Tw
namespace Go.Proofs.Ytbofdldkiooegaa
open Go Go.RowKit Tw
set_option linter.unusedVariables false
set_option linter.unusedSimpArgs false

theorem take_step {U U' V : List Nat} {j i d c br : Nat} (hl : j + i < U'.length) (hx : nth U' (j + i) < W) (hbr : br ≤ 1) (hsame : nth U' (j + i) = nth U (j + i))
    (hv : vr U' j i + val W (V.take i) * d = vr U j i + W ^ i * (c + br)) (hlo : rowL (nth V i) d c < W) :
    vr (U'.set (j + i) (subS (nth U' (j + i)) (rowL (nth V i) d c) br)) j (i + 1) + val W (V.take (i + 1)) * d =
      vr U j (i + 1) + W ^ (i + 1) * (rowH (nth V i) d c + subB (nth U' (j + i)) (rowL (nth V i) d c) br) := by
  have e1 := row_eq1 (nth V i) d c
  have e2 := sub_eq hx hlo hbr
  rw [vr_step, vr_step, vr_set, nth_set_eq hl, val_take_step, Nat.pow_succ, Nat.add_mul, ← hsame]
  generalize subS (nth U' (j + i)) (rowL (nth V i) d c) br = s at *
  generalize subB (nth U' (j + i)) (rowL (nth V i) d c) br = b' at *
  generalize rowL (nth V i) d c = lo at *
  generalize rowH (nth V i) d c = hi at *
  generalize nth U' (j + i) = u at *
  generalize nth V i = x at *
  generalize W ^ i = p at *
  have e3 : p * s + p * x * d + p * (c + br) = p * u + p * W * (hi + b') := by
    rw [Nat.mul_assoc, Nat.mul_assoc, ← Nat.mul_add, ← Nat.mul_add, ← Nat.mul_add]
    congr 1
    rw [Nat.mul_add]; omega
  omega

/-- what a call has written: row g alone -/
abbrev OnlyG (g : Nat) (w w' : World) : Prop := w.grownBy w' (some g)

theorem only_refl (g : Nat) (w : World) : OnlyG g w w := ⟨rfl, rfl, rfl, Nat.le_refl _, fun _ _ _ => rfl⟩
theorem only_set {g : Nat} {w w' : World} (h : OnlyG g w w') (i : Nat) (u : Value) : OnlyG g w (w'.setCell ⟨g, i, none⟩ u) :=
  ⟨h.os, h.tape, h.output, by have := h.size; simp [World.setCell]; omega, fun k hk hne => by
    rw [Below.heap_setCell _ _ _ _ (by intro e; exact hne (by rw [e]))]; exact h.block k hk hne⟩
theorem only_drawn {g : Nat} {w w' : World} (h : OnlyG g w w') (n : Nat) : OnlyG g w (w'.drewN n) := ⟨h.os, h.tape, h.output, h.size, h.block⟩
theorem only_below {g B : Nat} {w w' : World} (h : OnlyG g w w') (hB : B ≤ g) (hs : g < w.heap.size) : Below B w w' :=
  ⟨h.os, h.tape, h.output, h.size, fun k hk => h.block k (by omega) (by intro e; simp at e; omega)⟩
theorem only_trans {g : Nat} {a b c : World} (h : OnlyG g a b) (k : OnlyG g b c) : OnlyG g a c :=
  ⟨k.os.trans h.os, k.tape.trans h.tape, k.output.trans h.output, Nat.le_trans h.size k.size, fun i hi hne => (k.block i (Nat.lt_of_lt_of_le hi h.size) hne).trans (h.block i hi hne)⟩
theorem only_cells {k : IntKind} {g b off : Nat} {w w' : World} {l : List Nat} (hc : CellsG k w b off l) (h : OnlyG g w w') (hb : b ≠ g) : CellsG k w' b off l := by
  intro i hi
  have hlt := hc.lt (by omega)
  rw [World.cell?_of_block (w := w) (h.block b hlt (by simp; exact hb))]
  exact hc i hi

set_option maxRecDepth 100000 in
set_option maxHeartbeats 1000000 in
theorem take_c (g N cap base j c b off c2 : Nat) (U V : List Nat) (d : Nat) (w : World)
    (hO : OwnW base w (.slice (some ⟨g, 0, none⟩) N cap) U) (hUN : U.length = N) (hN : N ≤ 60000) (hV : CellsG .u64 w b off V) (hVd : Dig W V) (hne : b ≠ g) (hj : j + V.length < N) (hd : d < W) :
    Calls Try.prog 82 #[.slice (some ⟨g, j, none⟩) (V.length + 1) c, .slice (some ⟨b, off, none⟩) V.length c2, .int .u64 d] w fun e w' =>
      ∃ (U' : List Nat) (br : Nat), e = .returned (.bool (decide (br ≠ 0))) ∧ OwnW base w' (.slice (some ⟨g, 0, none⟩) N cap) U' ∧ U'.length = N ∧ br ≤ 1 ∧
        vr U' j (V.length + 1) + val W V * d = vr U j (V.length + 1) + W ^ (V.length + 1) * br ∧ (∀ t, t < j ∨ j + V.length < t → nth U' t = nth U t) ∧ OnlyG g w w' := by
  have HO0 := Lib.hid hO; have HV := Lib.hid hV; have HU0 := Lib.hid hUN
  obtain ⟨n, hn⟩ : ∃ n, n = V.length := ⟨_, rfl⟩
  rw [← hn] at hj ⊢
  have HN := Lib.hid hn
  have HNE := Lib.hid hne
  clear hO hV hUN hn hne
  go_enter Try.func82, Try.ntmps82
  go_wp2_with fail
  go_loopg [7, 8, 16] n (fun k cv bv iv wr => ∃ (i cy br : Nat) (U' : List Nat), i ≤ n ∧ k = n - i ∧ iv = .int .i64 i ∧ cv = .int .u64 cy ∧ bv = .int .u64 br ∧ Hid (cy < W) ∧ br ≤ 1 ∧
    OwnW base wr (.slice (some ⟨g, 0, none⟩) N cap) U' ∧ U'.length = N ∧ Hid (vr U' j i + val W (V.take i) * d = vr U j i + W ^ i * (cy + br)) ∧ (∀ t, t < j ∨ j + i ≤ t → nth U' t = nth U t) ∧ OnlyG g w wr)
  case atStart => exact ⟨0, 0, 0, U, Nat.zero_le _, rfl, rfl, rfl, rfl, W_pos, Nat.zero_le _, HO0.out, HU0.out, by show _ = _; simp [vr_zero, val], fun _ _ => rfl, only_refl _ _⟩
  case round =>
    obtain ⟨i, cy, br, U', hi, hk, rfl, rfl, rfl, hcy, hbr, hown, hol, hv, hsm, honly⟩ := hrel
    have HK := Lib.hid hk; have HL := Lib.hid hol; have HO := Lib.hid hown; have HS := Lib.hid hsm; have HY := Lib.hid honly
    clear hk
    by_cases hlt : i < n
    · have hiV : i < V.length := by have := HN.out; omega
      have g1 : wr.cell? ⟨b, off + i, none⟩ = some (.int .u64 ((nth V i : Nat) : Int)) := only_cells HV.out honly HNE.out i hiV
      have x1 := nth_dig hVd hiV
      have x3 := nth_digW W_pos hown.dig (j + i)
      have hcell := (show OwnW base wr (.slice (some ⟨g, 0, none⟩) U'.length cap) U' by rw [hol]; exact hown).cell (i := j + i) (by omega)
      have hfree := hown.free hol.symm (j + i)
      have hlo : rowL (nth V i) d cy < W := addS_lt _ _ _
      have hfin := Lib.hid (take_step (U := U) (U' := U') (V := V) (j := j) (i := i) (d := d) (c := cy) (br := br) (by omega) x3 hbr (hsm _ (.inr (Nat.le_refl _))) hv.out hlo)
      have S1 := Lib.hid (rowH_lt x1 hd hcy.out)
      have S2 := Lib.hid (subB_le (nth U' (j + i)) (rowL (nth V i) d cy) br)
      have S3 := Lib.hid (subS_lt (nth U' (j + i)) (rowL (nth V i) d cy) br)
      have X1 := Lib.hid x1
      have hadd1 := add64_run0 (mulL (nth V i) d) cy
      have hw1 : IntKind.u64.wrap (((mulH (nth V i) d : Nat) : Int) + ((addC (mulL (nth V i) d) cy 0 : Nat) : Int)) = ((rowH (nth V i) d cy : Nat) : Int) := wrap_u64 S1.out
      have hf1 : addS (mulL (nth V i) d) cy 0 = rowL (nth V i) d cy := rfl
      have hsub := sub64_run (nth U' (j + i)) (rowL (nth V i) d cy) br hbr
      have HD := Lib.hid hd
      clear hol hown hsm honly hiV x1 x3 hlo
      go_wp2_with fail
      refine Calls.mono (mul64_c _ _ X1.out HD.out _) ?_; rintro e w' ⟨rfl, rfl⟩
      go_wp2_with fail
      go_roundg (n - (i + 1))
      case measure => have := HK.out; omega
      case rel =>
        refine ⟨i + 1, rowH (nth V i) d cy, subB (nth U' (j + i)) (rowL (nth V i) d cy) br, U'.set (j + i) (subS (nth U' (j + i)) (rowL (nth V i) d cy) br), by omega, rfl, by go_num, rfl, rfl, S1, S2.out, ?_, ?_, hfin, ?_, ?_⟩
        · exact HO.out.set HL.out.symm _ _ S3.out
        · simpa using HL.out
        · intro t ht; rw [nth_set_ne (by omega)]; exact HS.out t (by omega)
        · exact only_set HY.out _ _
    · obtain rfl : i = n := by omega
      have x3 := nth_digW W_pos hown.dig (j + i)
      have hcell := (show OwnW base wr (.slice (some ⟨g, 0, none⟩) U'.length cap) U' by rw [hol]; exact hown).cell (i := j + i) (by omega)
      have hfree := hown.free hol.symm (j + i)
      have hsub := sub64_run (nth U' (j + i)) cy br hbr
      have e2 := sub_eq x3 hcy.out hbr
      have hfin : Hid (vr (U'.set (j + i) (subS (nth U' (j + i)) cy br)) j (i + 1) + val W V * d = vr U j (i + 1) + W ^ (i + 1) * subB (nth U' (j + i)) cy br) := Lib.hid (by
        have h := hv.out
        rw [List.take_of_length_le (by have := HN.out; omega)] at h
        rw [vr_step, vr_step, vr_set, nth_set_eq (by omega), Nat.pow_succ, ← hsm (j + i) (.inr (Nat.le_refl _))]
        have e3 : W ^ i * subS (nth U' (j + i)) cy br + W ^ i * (cy + br) = W ^ i * nth U' (j + i) + W ^ i * W * subB (nth U' (j + i)) cy br := by
          rw [Nat.mul_assoc, ← Nat.mul_add, ← Nat.mul_add]
          congr 1; omega
        omega)
      have S2 := Lib.hid (subB_le (nth U' (j + i)) cy br)
      have S3 := Lib.hid (subS_lt (nth U' (j + i)) cy br)
      have hdec : (((subB (nth U' (j + i)) cy br : Nat) : Int) != 0) = decide (subB (nth U' (j + i)) cy br ≠ 0) := by
        rw [Bool.eq_iff_iff]; simp
      have HDEC := Lib.hid hdec
      clear hol hown hsm honly x3 e2 hdec hlt
      go_wp2_with fail
      go_ret
      refine ⟨U'.set (j + i) (subS (nth U' (j + i)) cy br), subB (nth U' (j + i)) cy br, ?_, ?_, ?_, S2.out, hfin.out, ?_, ?_⟩
      · exact ret_bool HDEC.out
      · exact HO.out.set HL.out.symm _ _ S3.out
      · simpa using HL.out
      · intro t ht; rw [nth_set_ne (by omega)]; exact HS.out t (by omega)
      · exact only_set HY.out _ _

end Go.Proofs.Ytbofdldkiooegaa
