/- limbs.giveBack by its contract. -/
import Derived.Test.YtbofdldkiooegaaTake
namespace Go.Proofs.Ytbofdldkiooegaa
open Go Go.RowKit Tw
set_option linter.unusedVariables false
set_option linter.unusedSimpArgs false

theorem give_step {U U' V : List Nat} {j i c : Nat} (hl : j + i < U'.length) (hsame : nth U' (j + i) = nth U (j + i))
    (hv : vr U' j i + W ^ i * c = vr U j i + val W (V.take i)) :
    vr (U'.set (j + i) (addS (nth U' (j + i)) (nth V i) c)) j (i + 1) + W ^ (i + 1) * addC (nth U' (j + i)) (nth V i) c = vr U j (i + 1) + val W (V.take (i + 1)) := by
  have e := add_eq (nth U' (j + i)) (nth V i) c
  rw [vr_step, vr_step, vr_set, nth_set_eq hl, val_take_step, Nat.pow_succ, ← hsame]
  generalize addS (nth U' (j + i)) (nth V i) c = s at *
  generalize addC (nth U' (j + i)) (nth V i) c = b' at *
  generalize nth U' (j + i) = u at *
  generalize nth V i = x at *
  generalize W ^ i = p at *
  have e3 : p * s + p * W * b' = p * u + p * x + p * c := by
    rw [Nat.mul_assoc, ← Nat.mul_add, e, Nat.mul_add, Nat.mul_add]
  omega

set_option maxRecDepth 100000 in
set_option maxHeartbeats 1000000 in
theorem give_c (g N cap base j c b off c2 : Nat) (U V : List Nat) (w : World)
    (hO : OwnW base w (.slice (some ⟨g, 0, none⟩) N cap) U) (hUN : U.length = N) (hN : N ≤ 60000) (hV : CellsG .u64 w b off V) (hVd : Dig W V) (hne : b ≠ g) (hj : j + V.length < N) :
    Calls Try.prog 83 #[.slice (some ⟨g, j, none⟩) (V.length + 1) c, .slice (some ⟨b, off, none⟩) V.length c2] w fun e w' =>
      ∃ (U' : List Nat) (k : Nat), e = .returned (.tuple #[]) ∧ OwnW base w' (.slice (some ⟨g, 0, none⟩) N cap) U' ∧ U'.length = N ∧
        vr U' j (V.length + 1) + W ^ (V.length + 1) * k = vr U j (V.length + 1) + val W V ∧ (∀ t, t < j ∨ j + V.length < t → nth U' t = nth U t) ∧ OnlyG g w w' := by
  have HO0 := Lib.hid hO; have HV := Lib.hid hV; have HU0 := Lib.hid hUN
  obtain ⟨n, hn⟩ : ∃ n, n = V.length := ⟨_, rfl⟩
  rw [← hn] at hj ⊢
  have HN := Lib.hid hn
  have HNE := Lib.hid hne
  clear hO hV hUN hn hne
  go_enter Try.func83, Try.ntmps83
  go_wp2_with fail
  go_loopg [4, 9] n (fun k cv iv wr => ∃ (i cy : Nat) (U' : List Nat), i ≤ n ∧ k = n - i ∧ iv = .int .i64 i ∧ cv = .int .u64 cy ∧ cy ≤ 1 ∧
    OwnW base wr (.slice (some ⟨g, 0, none⟩) N cap) U' ∧ U'.length = N ∧ Hid (vr U' j i + W ^ i * cy = vr U j i + val W (V.take i)) ∧ (∀ t, t < j ∨ j + i ≤ t → nth U' t = nth U t) ∧ OnlyG g w wr)
  case atStart => exact ⟨0, 0, U, Nat.zero_le _, rfl, rfl, rfl, Nat.zero_le _, HO0.out, HU0.out, by show _ = _; simp [vr_zero, val], fun _ _ => rfl, only_refl _ _⟩
  case round =>
    obtain ⟨i, cy, U', hi, hk, rfl, rfl, hcy, hown, hol, hv, hsm, honly⟩ := hrel
    have HK := Lib.hid hk; have HL := Lib.hid hol; have HO := Lib.hid hown; have HS := Lib.hid hsm; have HY := Lib.hid honly
    clear hk
    by_cases hlt : i < n
    · have hiV : i < V.length := by have := HN.out; omega
      have g1 : wr.cell? ⟨b, off + i, none⟩ = some (.int .u64 ((nth V i : Nat) : Int)) := only_cells HV.out honly HNE.out i hiV
      have x1 := nth_dig hVd hiV
      have x3 := nth_digW W_pos hown.dig (j + i)
      have hcell := (show OwnW base wr (.slice (some ⟨g, 0, none⟩) U'.length cap) U' by rw [hol]; exact hown).cell (i := j + i) (by omega)
      have hfree := hown.free hol.symm (j + i)
      have hfin := Lib.hid (give_step (U := U) (U' := U') (V := V) (j := j) (i := i) (c := cy) (by omega) (hsm _ (.inr (Nat.le_refl _))) hv.out)
      have S2 := Lib.hid (addC_le x3 x1 hcy)
      have S3 := Lib.hid (addS_lt (nth U' (j + i)) (nth V i) cy)
      have hadd := add64_run (nth U' (j + i)) (nth V i) cy hcy
      clear hol hown hsm honly hiV x1 x3
      go_wp2_with fail
      go_roundg (n - (i + 1))
      case measure => have := HK.out; omega
      case rel =>
        refine ⟨i + 1, addC (nth U' (j + i)) (nth V i) cy, U'.set (j + i) (addS (nth U' (j + i)) (nth V i) cy), by omega, rfl, by go_num, rfl, S2.out, ?_, ?_, hfin, ?_, ?_⟩
        · exact HO.out.set HL.out.symm _ _ S3.out
        · simpa using HL.out
        · intro t ht; rw [nth_set_ne (by omega)]; exact HS.out t (by omega)
        · exact only_set HY.out _ _
    · obtain rfl : i = n := by omega
      have hcell := (show OwnW base wr (.slice (some ⟨g, 0, none⟩) U'.length cap) U' by rw [hol]; exact hown).cell (i := j + i) (by omega)
      have hfree := hown.free hol.symm (j + i)
      obtain ⟨s, hs⟩ : ∃ s, s = (nth U' (j + i) + cy) % W := ⟨_, rfl⟩
      have hw : IntKind.u64.wrap (((nth U' (j + i) : Nat) : Int) + (cy : Int)) = (s : Int) := by rw [IntKind.wrap_u64, hs]; unfold W; omega
      have hfin : Hid (vr (U'.set (j + i) s) j (i + 1) + W ^ (i + 1) * ((nth U' (j + i) + cy) / W) = vr U j (i + 1) + val W V) := Lib.hid (by
        have h := hv.out
        have e := Nat.mod_add_div (nth U' (j + i) + cy) W
        rw [← hs] at e
        rw [List.take_of_length_le (by have := HN.out; omega)] at h
        rw [vr_step, vr_step, vr_set, nth_set_eq (by omega), Nat.pow_succ, ← hsm (j + i) (.inr (Nat.le_refl _))]
        have e3 : W ^ i * s + W ^ i * W * ((nth U' (j + i) + cy) / W) = W ^ i * nth U' (j + i) + W ^ i * cy := by
          rw [Nat.mul_assoc, ← Nat.mul_add, e, Nat.mul_add]
        omega)
      have S3 : Hid (s < W) := Lib.hid (by rw [hs]; exact Nat.mod_lt _ W_pos)
      clear hol hown hsm honly hs hlt
      go_wp2_with fail
      go_end0
      refine ⟨U'.set (j + i) s, _, rfl, ?_, ?_, hfin.out, ?_, ?_⟩
      · exact HO.out.set HL.out.symm _ _ S3.out
      · simpa using HL.out
      · intro t ht; rw [nth_set_ne (by omega)]; exact HS.out t (by omega)
      · exact only_set HY.out _ _

end Go.Proofs.Ytbofdldkiooegaa
