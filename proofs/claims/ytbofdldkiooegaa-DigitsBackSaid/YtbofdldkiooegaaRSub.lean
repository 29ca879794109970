/- The reference of layer 1: sub and twice, of digits of 8 bits. -/
import Derived.Test.YtbofdldkiooegaaRDig
namespace Tw
open Go Go.RowKit
theorem rsub_step {o l1 l2 : List Nat} {j bo bo' dg : Nat} (ho : o.length = j) (hv : val 256 (l1.take j) + 256 ^ j * bo = val 256 o + val 256 (l2.take j))
    (e : nth l1 j + 256 * bo' = dg + nth l2 j + bo) : val 256 (l1.take (j + 1)) + 256 ^ (j + 1) * bo' = val 256 (o ++ [dg]) + val 256 (l2.take (j + 1)) := by
  rw [val_take_step, val_take_step, val_snoc, ho, Nat.pow_succ]
  generalize 256 ^ j = p at *
  have h1 : p * nth l1 j + p * 256 * bo' = p * dg + p * nth l2 j + p * bo := by
    rw [Nat.mul_assoc, ← Nat.mul_add, e, Nat.mul_add, Nat.mul_add]
  omega
theorem rsub_end {o l1 l2 : List Nat} {bo : Nat} (hd : Dig 256 o) (ho : o.length = l1.length) (hl : l2.length ≤ l1.length) (hle : val 256 l2 ≤ val 256 l1)
    (hv : val 256 (l1.take l1.length) + 256 ^ l1.length * bo = val 256 o + val 256 (l2.take l1.length)) : val 256 o = val 256 l1 - val 256 l2 := by
  rw [List.take_of_length_le (Nat.le_refl _), List.take_of_length_le hl] at hv
  have h1 := val_lt hd
  rw [ho] at h1
  rcases Nat.eq_zero_or_pos bo with e | e
  · subst e; omega
  · have := Nat.mul_le_mul_left (256 ^ l1.length) e
    omega
theorem rtwice_step {o l : List Nat} {j c b0 s : Nat} (ho : o.length = j) (hv : val 256 o + 256 ^ j * c = 2 * val 256 (l.take j) + b0) (hs : s = 2 * nth l j + c) :
    val 256 (o ++ [s % 256]) + 256 ^ (j + 1) * (s / 256) = 2 * val 256 (l.take (j + 1)) + b0 := by
  rw [val_take_step, val_snoc, ho, Nat.pow_succ]
  generalize 256 ^ j = p at *
  have h1 : p * (s % 256) + p * 256 * (s / 256) = p * s := by rw [Nat.mul_assoc, ← Nat.mul_add, Nat.mod_add_div]
  have h2 : p * s = 2 * (p * nth l j) + p * c := by rw [hs, Nat.mul_add, Nat.mul_left_comm]
  omega
end Tw
namespace Go.Proofs.Ytbofdldkiooegaa
open Go Go.RowKit Tw
set_option linter.unusedVariables false
set_option linter.unusedSimpArgs false

set_option maxRecDepth 100000 in
set_option maxHeartbeats 1000000 in
theorem rtwice_c (v : Value) (l : List Nat) (b0 : Nat) (w : World) (h : Sd w v l) (hs : l.length ≤ 100000) (hb : b0 ≤ 1) :
    Calls Try.prog 89 #[v, .int .i64 b0] w fun e w' => ∃ v', e = .returned v' ∧ OwnD w.heap.size w' v' (digs 256 (2 * val 256 l + b0)) ∧ Below w.heap.size w w' := by
  have D := Lib.hid h.dig
  obtain ⟨a, cap, rfl, hw⟩ := h
  have HX := Lib.hid hw
  clear hw
  obtain ⟨n, hn⟩ : ∃ n, n = l.length := ⟨_, rfl⟩
  have HN := Lib.hid hn
  rw [← hn] at hs ⊢
  clear hn
  go_enter Try.func89, Try.ntmps89
  go_wp2_with fail
  go_loopg [1, 5, 6] n (fun k c s i wr => ∃ (j cy : Nat) (o : List Nat), j ≤ n ∧ k = n - j ∧ i = .int .i64 j ∧ c = .int .i64 cy ∧ cy ≤ 1 ∧ OwnD w.heap.size wr s o ∧ Hid (o.length = j) ∧
    Hid (val 256 o + 256 ^ j * cy = 2 * val 256 (l.take j) + b0) ∧ Below w.heap.size w wr)
  case atStart => exact ⟨0, b0, [], Nat.zero_le _, rfl, rfl, rfl, hb, Own.nil _ _ _ _ _, rfl, by show _ = _; simp [val], Below.refl _ _⟩
  case round =>
    obtain ⟨j, cy, o, hj, hk, rfl, rfl, hcy, hown, hol, hv, hbel⟩ := hrel
    have HK := Lib.hid hk; have HO := Lib.hid hown; have HB := Lib.hid hbel
    clear hk hown
    by_cases hlt : j < n
    · obtain ⟨b1, o1, rfl, hcl⟩ := HX.out.2.2.2 (by intro e; have := HN.out; rw [e] at this; simp at this; omega)
      have hlt' : j < l.length := by have := HN.out; omega
      have g1 : wr.cell? ⟨b1, o1 + j, none⟩ = some (.int .i64 ((nth l j : Nat) : Int)) := hcl.below (hcl.lt (by omega)) hbel _ hlt'
      have hx := nth_dig D.out hlt'
      obtain ⟨s, hs2⟩ : ∃ s, s = 2 * nth l j + cy := ⟨_, rfl⟩
      have HS := Lib.hid (rtwice_step hol.out hv.out hs2)
      have hsi : 2 * ((nth l j : Nat) : Int) + (cy : Int) = (s : Int) := by omega
      have hsb : s ≤ 511 := by omega
      have t1 : (s : Int).tmod 256 = ((s % 256 : Nat) : Int) := rfl
      have t2 : (s : Int).tdiv 256 = ((s / 256 : Nat) : Int) := rfl
      clear hcl hbel hv hs2 hlt'
      go_wp2_with (at_builtin; refine wpList_app _ rfl _ _ 38 rfl 3 .i64 8 Try.underlying38 info_i64 256 w.heap.size _ o [s % 256] rfl ?_ wr.heap.size 0 1 rfl (CellsG.one _ (s % 256) _ _) ?_ ?_ ?_ ?_ ?_)
      · exact HO.out.alloc _
      · exact Dig.one (Nat.mod_lt _ (by omega))
      · have := hol.out; simp; unfold maxLen; omega
      · have := hol.out; simp; omega
      · have := HB.out.size; simp; omega
      · intro l' v' w' HL' ho hb2 hg
        obtain ⟨a', cap', rfl, hls⟩ := ho.ls; have HO' := Lib.hid ho; have HB' := Lib.hid hb2; clear hg ho hb2 hls
        go_wp2_with fail
        go_roundg (n - (j + 1))
        case measure => have := HK.out; omega
        case rel =>
          refine ⟨j + 1, s / 256, l', by omega, rfl, by go_num, by go_num, by omega, HO'.out, ?_, ?_, ?_⟩
          · have := hol.out; show l'.length = _; rw [HL'.out]; simp; omega
          · rw [HL'.out]; exact HS.out
          · exact (HB.out.alloc HB.out.size _).trans HB'.out
    · obtain rfl : j = n := by omega
      have HV : Hid (val 256 (o ++ [cy]) = 2 * val 256 l + b0) := Lib.hid (by
        rw [val_snoc, hol.out, hv.out, List.take_of_length_le (by have := HN.out; omega)])
      clear hbel hv
      go_wp2_with (at_builtin; refine wpList_app _ rfl _ _ 38 rfl 3 .i64 8 Try.underlying38 info_i64 256 w.heap.size _ o [cy] rfl ?_ wr.heap.size 0 1 rfl (CellsG.one _ cy _ _) ?_ ?_ ?_ ?_ ?_)
      · exact HO.out.alloc _
      · exact Dig.one (by omega)
      · have := hol.out; simp; unfold maxLen; omega
      · have := hol.out; simp; omega
      · have := HB.out.size; simp; omega
      · intro l' v' w' HL' ho hb2 hg
        obtain ⟨a', cap', rfl, hls⟩ := ho.ls; have HO' := Lib.hid ho; have HB' := Lib.hid hb2; have HLS := Lib.hid hls; clear hg ho hb2 hls
        go_wp2_with fail
        refine Calls.mono (rtrim_c a' cap' l' w' HLS.out) ?_; rintro e w'' ⟨rfl, rfl⟩
        go_wp2_with fail
        go_ret
        refine ⟨_, rfl, ?_, (HB.out.alloc HB.out.size _).trans HB'.out⟩
        rw [← HV.out, ← HL'.out]; exact HO'.out.trim two56 rfl

set_option maxRecDepth 100000 in
set_option maxHeartbeats 1000000 in
theorem rsub_c (v1 v2 : Value) (l1 l2 : List Nat) (w : World) (h1 : Sd w v1 l1) (h2 : Sd w v2 l2) (hs : l1.length ≤ 100000) (hl : l2.length ≤ l1.length) (hle : val 256 l2 ≤ val 256 l1) :
    Calls Try.prog 91 #[v1, v2] w fun e w' => ∃ v', e = .returned v' ∧ OwnD w.heap.size w' v' (digs 256 (val 256 l1 - val 256 l2)) ∧ Below w.heap.size w w' := by
  have D1 := Lib.hid h1.dig; have D2 := Lib.hid h2.dig
  obtain ⟨a1, c1, rfl, hw1⟩ := h1
  obtain ⟨a2, c2, rfl, hw2⟩ := h2
  have HX1 := Lib.hid hw1; have HX2 := Lib.hid hw2
  have HLE := Lib.hid hle; have HL0 := Lib.hid hl
  clear hw1 hw2 hle
  obtain ⟨n, hn⟩ : ∃ n, n = l1.length := ⟨_, rfl⟩
  have HN := Lib.hid hn
  obtain ⟨n2, hn2⟩ : ∃ n, n = l2.length := ⟨_, rfl⟩
  have HN2 := Lib.hid hn2
  rw [← hn, ← hn2] at hl
  rw [← hn] at hs ⊢
  rw [← hn2]
  clear hn hn2
  go_enter Try.func91, Try.ntmps91
  go_wp2_with fail
  go_loopg [5, 6, 7] n (fun k s c i wr => ∃ (j bo : Nat) (o : List Nat), j ≤ n ∧ k = n - j ∧ i = .int .i64 j ∧ c = .int .i64 bo ∧ bo ≤ 1 ∧ OwnD w.heap.size wr s o ∧ Hid (o.length = j) ∧
    Hid (val 256 (l1.take j) + 256 ^ j * bo = val 256 o + val 256 (l2.take j)) ∧ Below w.heap.size w wr)
  case atStart => exact ⟨0, 0, [], Nat.zero_le _, rfl, rfl, rfl, Nat.zero_le _, Own.nil _ _ _ _ _, rfl, by show _ = _; simp [val], Below.refl _ _⟩
  case round =>
    obtain ⟨j, bo, o, hj, hk, rfl, rfl, hbo, hown, hol, hv, hbel⟩ := hrel
    have HK := Lib.hid hk; have HO := Lib.hid hown; have HB := Lib.hid hbel
    clear hk hown
    by_cases hlt : j < n
    · obtain ⟨b1, o1, rfl, hcl⟩ := HX1.out.2.2.2 (by intro e; have := HN.out; rw [e] at this; simp at this; omega)
      have hlt' : j < l1.length := by have := HN.out; omega
      have g1 : wr.cell? ⟨b1, o1 + j, none⟩ = some (.int .i64 ((nth l1 j : Nat) : Int)) := hcl.below (hcl.lt (by omega)) hbel _ hlt'
      have hx := nth_dig D1.out hlt'
      have hy := nth_digW (by omega) D2.out j
      have key : ∀ bo' dg, nth l1 j + 256 * bo' = dg + nth l2 j + bo → _ := fun bo' dg e => rsub_step (dg := dg) (bo' := bo') hol.out hv.out e
      have KEY := Lib.hid key
      clear hcl hv hlt' key
      generalize hxe : nth l1 j = x at *
      clear hxe
      by_cases hlt2 : j < n2
      · obtain ⟨b2, o2, rfl, hcl⟩ := HX2.out.2.2.2 (by intro e; have := HN2.out; rw [e] at this; simp at this; omega)
        have hlt' : j < l2.length := by have := HN2.out; omega
        have g2 : wr.cell? ⟨b2, o2 + j, none⟩ = some (.int .i64 ((nth l2 j : Nat) : Int)) := hcl.below (hcl.lt (by omega)) hbel _ hlt'
        generalize hye : nth l2 j = y at *
        clear hcl hlt' hye hbel
        by_cases hd : x < bo + y
        · obtain ⟨dg, hdg⟩ : ∃ dg, dg = x + 256 - bo - y := ⟨_, rfl⟩
          have HS := Lib.hid (KEY.out 1 dg (by omega))
          have q1 : (x : Int) - (bo : Int) - (y : Int) + 256 = (dg : Int) := by omega
          have q2 : (x : Int) - (bo : Int) - (y : Int) < 0 := by omega
          have hdl : Hid (dg < 256) := Lib.hid (by omega)
          clear hdg KEY
          go_wp2_with (at_builtin; refine wpList_app _ rfl _ _ 38 rfl 3 .i64 8 Try.underlying38 info_i64 256 w.heap.size _ o [dg] rfl ?_ wr.heap.size 0 1 rfl (CellsG.one _ dg _ _) ?_ ?_ ?_ ?_ ?_)
          · exact HO.out.alloc _
          · exact Dig.one hdl.out
          · have := hol.out; simp; unfold maxLen; omega
          · have := hol.out; simp; omega
          · have := HB.out.size; simp; omega
          · intro l' v' w' HL' ho hb2 hg
            obtain ⟨a', cap', rfl, hls⟩ := ho.ls; have HO' := Lib.hid ho; have HB' := Lib.hid hb2; clear hg ho hb2 hls
            go_wp2_with fail
            go_roundg (n - (j + 1))
            case measure => have := HK.out; omega
            case rel =>
              refine ⟨j + 1, 1, l', by omega, rfl, by go_num, rfl, Nat.le_refl _, HO'.out, ?_, ?_, ?_⟩
              · have := hol.out; show l'.length = _; rw [HL'.out]; simp; omega
              · rw [HL'.out]; exact HS.out
              · exact (HB.out.alloc HB.out.size _).trans HB'.out
        · obtain ⟨dg, hdg⟩ : ∃ dg, dg = x - bo - y := ⟨_, rfl⟩
          have HS := Lib.hid (KEY.out 0 dg (by omega))
          have q1 : (x : Int) - (bo : Int) - (y : Int) = (dg : Int) := by omega
          have hdl : Hid (dg < 256) := Lib.hid (by omega)
          clear hdg KEY
          go_wp2_with (at_builtin; refine wpList_app _ rfl _ _ 38 rfl 3 .i64 8 Try.underlying38 info_i64 256 w.heap.size _ o [dg] rfl ?_ wr.heap.size 0 1 rfl (CellsG.one _ dg _ _) ?_ ?_ ?_ ?_ ?_)
          · exact HO.out.alloc _
          · exact Dig.one hdl.out
          · have := hol.out; simp; unfold maxLen; omega
          · have := hol.out; simp; omega
          · have := HB.out.size; simp; omega
          · intro l' v' w' HL' ho hb2 hg
            obtain ⟨a', cap', rfl, hls⟩ := ho.ls; have HO' := Lib.hid ho; have HB' := Lib.hid hb2; clear hg ho hb2 hls
            go_wp2_with fail
            go_roundg (n - (j + 1))
            case measure => have := HK.out; omega
            case rel =>
              refine ⟨j + 1, 0, l', by omega, rfl, by go_num, rfl, Nat.zero_le _, HO'.out, ?_, ?_, ?_⟩
              · have := hol.out; show l'.length = _; rw [HL'.out]; simp; omega
              · rw [HL'.out]; exact HS.out
              · exact (HB.out.alloc HB.out.size _).trans HB'.out
      · have hz : nth l2 j = 0 := nth_ge (by have := HN2.out; omega)
        rw [hz] at KEY
        clear hz hbel hy
        by_cases hd : x < bo
        · obtain ⟨dg, hdg⟩ : ∃ dg, dg = x + 256 - bo := ⟨_, rfl⟩
          have HS := Lib.hid (KEY.out 1 dg (by omega))
          have q1 : (x : Int) - (bo : Int) + 256 = (dg : Int) := by omega
          have q2 : (x : Int) - (bo : Int) < 0 := by omega
          have hdl : Hid (dg < 256) := Lib.hid (by omega)
          clear hdg KEY
          go_wp2_with (at_builtin; refine wpList_app _ rfl _ _ 38 rfl 3 .i64 8 Try.underlying38 info_i64 256 w.heap.size _ o [dg] rfl ?_ wr.heap.size 0 1 rfl (CellsG.one _ dg _ _) ?_ ?_ ?_ ?_ ?_)
          · exact HO.out.alloc _
          · exact Dig.one hdl.out
          · have := hol.out; simp; unfold maxLen; omega
          · have := hol.out; simp; omega
          · have := HB.out.size; simp; omega
          · intro l' v' w' HL' ho hb2 hg
            obtain ⟨a', cap', rfl, hls⟩ := ho.ls; have HO' := Lib.hid ho; have HB' := Lib.hid hb2; clear hg ho hb2 hls
            go_wp2_with fail
            go_roundg (n - (j + 1))
            case measure => have := HK.out; omega
            case rel =>
              refine ⟨j + 1, 1, l', by omega, rfl, by go_num, rfl, Nat.le_refl _, HO'.out, ?_, ?_, ?_⟩
              · have := hol.out; show l'.length = _; rw [HL'.out]; simp; omega
              · rw [HL'.out]; exact HS.out
              · exact (HB.out.alloc HB.out.size _).trans HB'.out
        · obtain ⟨dg, hdg⟩ : ∃ dg, dg = x - bo := ⟨_, rfl⟩
          have HS := Lib.hid (KEY.out 0 dg (by omega))
          have q1 : (x : Int) - (bo : Int) = (dg : Int) := by omega
          have hdl : Hid (dg < 256) := Lib.hid (by omega)
          clear hdg KEY
          go_wp2_with (at_builtin; refine wpList_app _ rfl _ _ 38 rfl 3 .i64 8 Try.underlying38 info_i64 256 w.heap.size _ o [dg] rfl ?_ wr.heap.size 0 1 rfl (CellsG.one _ dg _ _) ?_ ?_ ?_ ?_ ?_)
          · exact HO.out.alloc _
          · exact Dig.one hdl.out
          · have := hol.out; simp; unfold maxLen; omega
          · have := hol.out; simp; omega
          · have := HB.out.size; simp; omega
          · intro l' v' w' HL' ho hb2 hg
            obtain ⟨a', cap', rfl, hls⟩ := ho.ls; have HO' := Lib.hid ho; have HB' := Lib.hid hb2; clear hg ho hb2 hls
            go_wp2_with fail
            go_roundg (n - (j + 1))
            case measure => have := HK.out; omega
            case rel =>
              refine ⟨j + 1, 0, l', by omega, rfl, by go_num, rfl, Nat.zero_le _, HO'.out, ?_, ?_, ?_⟩
              · have := hol.out; show l'.length = _; rw [HL'.out]; simp; omega
              · rw [HL'.out]; exact HS.out
              · exact (HB.out.alloc HB.out.size _).trans HB'.out
    · obtain rfl : j = n := by omega
      obtain ⟨a', cap', rfl, hls⟩ := HO.out.ls
      have HLS := Lib.hid hls
      have HV : Hid (val 256 o = val 256 l1 - val 256 l2) := Lib.hid (rsub_end HO.out.dig (by rw [hol.out, HN.out]) HL0.out HLE.out (bo := bo) (by rw [← HN.out]; exact hv.out))
      clear hls hbel hv
      go_wp2_with fail
      refine Calls.mono (rtrim_c a' cap' o wr HLS.out) ?_; rintro e w'' ⟨rfl, rfl⟩
      go_wp2_with fail
      go_ret
      refine ⟨_, rfl, ?_, HB.out⟩
      rw [← HV.out]; exact HO.out.trim two56 rfl

end Go.Proofs.Ytbofdldkiooegaa
