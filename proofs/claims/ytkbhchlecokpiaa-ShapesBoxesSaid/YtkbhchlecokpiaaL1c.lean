/- limbs.DivMod by its contract: quotient and rest. -/
import Derived.Test.YtkbhchlecokpiaaL1b
import Derived.Test.YtkbhchlecokpiaaL1a
/-! ## DivM: limbs.DivMod by its contract: quotient and rest. -/
set_option linter.unusedVariables false
set_option linter.unusedSimpArgs false
namespace Tw
/-- the rest; 0 by 0 -/
def remN (m n : Nat) : Nat := if n = 0 then 0 else m % n

theorem norm_len {d : List Nat} {m n s bl : Nat} (hd : Dig W d) (hn : d.length = n) (hm : m = val W d) (h1 : 1 ≤ n) (ht : nth d (n - 1) < 2 ^ bl) (h0 : 0 < nth d (n - 1)) (hbl : bl ≤ 64) (hs : s = 64 - bl) :
    m * 2 ^ s < W ^ n ∧ (digs W (m * 2 ^ s)).length = n ∧ W ^ (n - 1) ≤ m := by
  have hsp := val_split W d (n - 1) (by omega)
  rw [val_drop W (by omega), List.drop_of_length_le (by omega), val_nil, Nat.mul_zero, Nat.add_zero, ← hm] at hsp
  have hlo := val_lt (hd.take (n - 1))
  rw [List.length_take, Nat.min_eq_left (by omega)] at hlo
  have hm1 : m < W ^ (n - 1) * 2 ^ bl := by
    have : W ^ (n - 1) * (nth d (n - 1) + 1) ≤ W ^ (n - 1) * 2 ^ bl := Nat.mul_le_mul_left _ ht
    rw [Nat.mul_add, Nat.mul_one] at this; omega
  have hlt : m * 2 ^ s < W ^ n := by
    have h2 : m * 2 ^ s < W ^ (n - 1) * 2 ^ bl * 2 ^ s := Nat.mul_lt_mul_of_pos_right hm1 (Nat.two_pow_pos s)
    have h3 : W ^ (n - 1) * 2 ^ bl * 2 ^ s = W ^ n := by
      rw [Nat.mul_assoc, ← Nat.pow_add, show bl + s = 64 by omega]
      show W ^ (n - 1) * W = W ^ n
      rw [← Nat.pow_succ]; congr 1; omega
    omega
  have hge : W ^ (n - 1) ≤ m := by
    have := Nat.mul_le_mul_left (W ^ (n - 1)) h0
    omega
  refine ⟨hlt, ?_, hge⟩
  have h4 := length_digs_le W_two hlt
  have h5 := lt_pow_length W_two (m * 2 ^ s)
  have h6 : m ≤ m * 2 ^ s := Nat.le_mul_of_pos_right m (Nat.two_pow_pos s)
  have h7 : W ^ (n - 1) < W ^ (digs W (m * 2 ^ s)).length := by omega
  have h8 : n - 1 < (digs W (m * 2 ^ s)).length := (Nat.pow_lt_pow_iff_right W_two).1 h7
  omega

/-- the window of n + 1 digits at place j, when all above it is 0 -/
theorem window {U : List Nat} {j n V : Nat} (hd : Dig W U) (hV : V < W ^ n) (hlt : val W U < V * W ^ (j + 1)) :
    val W U = vr U 0 j + W ^ j * vr U j (n + 1) ∧ vr U j (n + 1) < W * V ∧ ∀ t, j + n < t → nth U t = 0 := by
  have hz : ∀ t, j + n < t → nth U t = 0 := by
    intro t ht
    rcases Nat.lt_or_ge t U.length with hl | hl
    · rcases Nat.eq_zero_or_pos (nth U t) with h | h
      · exact h
      · have h1 := val_split W U t (by omega)
        rw [val_drop W hl] at h1
        have h2 : W ^ t ≤ val W U := by
          have h3 : W ^ t * 1 ≤ W ^ t * (nth U t + W * val W (U.drop (t + 1))) := Nat.mul_le_mul_left _ (by omega)
          omega
        have h3 : V * W ^ (j + 1) ≤ W ^ n * W ^ (j + 1) := Nat.mul_le_mul_right _ (by omega)
        rw [← Nat.pow_add] at h3
        have h4 : W ^ (n + (j + 1)) ≤ W ^ t := Nat.pow_le_pow_right W_pos (by omega)
        omega
    · exact nth_ge hl
  have hv : val W U = vr U 0 (j + (n + 1)) := by
    unfold vr
    rw [List.drop_zero]
    have := val_take_zero (b := W) (l := U) (n := j + (n + 1)) (fun t ht => hz t (by omega))
    exact this
  have hsplit : ∀ i, vr U 0 (j + i) = vr U 0 j + W ^ j * vr U j i := by
    intro i
    induction i with
    | zero => simp [vr_zero]
    | succ i ih =>
      rw [← Nat.add_assoc, vr_step, ih, vr_step, Nat.zero_add, Nat.mul_add, Nat.pow_add, Nat.mul_assoc]; omega
  have he : val W U = vr U 0 j + W ^ j * vr U j (n + 1) := by rw [hv, hsplit]
  refine ⟨he, ?_, hz⟩
  have h1 : W ^ j * vr U j (n + 1) < W ^ j * (W * V) := by
    rw [Nat.pow_succ, Nat.mul_comm V, Nat.mul_assoc] at hlt
    omega
  exact Nat.lt_of_mul_lt_mul_left h1

/-- the digits on top of a window -/
theorem window_top {U : List Nat} {j n : Nat} (h2 : 2 ≤ n) :
    vr U j (n + 1) = ((nth U (j + n) * W + nth U (j + n - 1)) * W + nth U (j + n - 2)) * W ^ (n - 2) + vr U j (n - 2) := by
  obtain ⟨k, rfl⟩ : ∃ k, n = k + 2 := ⟨n - 2, by omega⟩
  rw [show k + 2 + 1 = k + 1 + 1 + 1 by omega, vr_step, vr_step, vr_step]
  rw [show j + (k + 2) = j + (k + 1 + 1) by omega, show j + (k + 1 + 1) - 1 = j + (k + 1) by omega, show j + (k + 1 + 1) - 2 = j + k by omega, show k + 2 - 2 = k by omega]
  simp only [Nat.pow_succ, Nat.add_mul]
  rw [Nat.mul_comm (W ^ k) (nth U (j + k)), Nat.mul_comm (W ^ k * W) _, Nat.mul_comm (W ^ k * W * W) _]
  rw [Nat.mul_assoc (nth U (j + (k + 1))) W, Nat.mul_comm W (W ^ k), Nat.mul_assoc (nth U (j + (k + 1 + 1)) * W), Nat.mul_assoc (nth U (j + (k + 1 + 1))) W, Nat.mul_left_comm W, Nat.mul_comm W (W ^ k), Nat.mul_comm W (W ^ k * W)]
  omega
theorem two_top {V : List Nat} {n : Nat} (h2 : 2 ≤ n) (hl : V.length = n) :
    val W V = (nth V (n - 1) * W + nth V (n - 2)) * W ^ (n - 2) + val W (V.take (n - 2)) := by
  obtain ⟨k, rfl⟩ : ∃ k, n = k + 2 := ⟨n - 2, by omega⟩
  have h := val_take_step W V (k + 1)
  have h' := val_take_step W V k
  rw [h', List.take_of_length_le (i := k + 1 + 1) (by omega)] at h
  rw [show k + 2 - 1 = k + 1 by omega, show k + 2 - 2 = k by omega, h, Nat.pow_succ, Nat.add_mul, Nat.mul_comm (W ^ k) (nth V k), Nat.mul_comm (W ^ k * W), Nat.mul_assoc (nth V (k + 1)) W, Nat.mul_comm W (W ^ k)]
  omega

theorem guess_ok {U V : List Nat} {j n : Nat} (h2 : 2 ≤ n) (hdU : Dig W U) (hdV : Dig W V) (hl : V.length = n) (ht : 0 < nth V (n - 1)) (hX : vr U j (n + 1) < W * val W V) :
    nth U (j + n) ≤ nth V (n - 1) ∧
      vr U j (n + 1) / val W V ≤ guessN (nth U (j + n)) (nth U (j + n - 1)) (nth U (j + n - 2)) (nth V (n - 1)) (nth V (n - 2)) ∧
      guessN (nth U (j + n)) (nth U (j + n - 1)) (nth U (j + n - 2)) (nth V (n - 1)) (nth V (n - 2)) ≤ vr U j (n + 1) / val W V + 1 ∧
      guessN (nth U (j + n)) (nth U (j + n - 1)) (nth U (j + n - 2)) (nth V (n - 1)) (nth V (n - 2)) < W := by
  have eU := window_top (U := U) (j := j) h2
  have eV := two_top h2 hl
  have lU := vr_lt hdU j (n - 2)
  have lV := val_lt (hdV.take (n - 2))
  rw [List.length_take, Nat.min_eq_left (by omega)] at lV
  have hbW := nth_digW W_pos hdV (n - 2)
  rw [eV] at hX ⊢
  rw [eU] at hX ⊢
  generalize nth U (j + n) = u2 at *
  generalize nth U (j + n - 1) = u1 at *
  generalize nth U (j + n - 2) = u0 at *
  generalize nth V (n - 1) = b1 at *
  generalize nth V (n - 2) = b0 at *
  generalize vr U j (n - 2) = ul at *
  generalize val W (V.take (n - 2)) = vl at *
  generalize W ^ (n - 2) = P at *
  have hv : W ≤ b1 * W + b0 := by
    have := Nat.mul_le_mul_right W ht
    omega
  refine ⟨?_, ?_, ?_, ?_⟩
  · have hP : 0 < P := by omega
    have h1 : u2 * W * W * P ≤ ((u2 * W + u1) * W + u0) * P + ul := by
      have : u2 * W * W * P ≤ ((u2 * W + u1) * W + u0) * P := Nat.mul_le_mul_right _ (by rw [Nat.add_mul]; omega)
      omega
    have h3 : W * ((b1 * W + b0) * P + vl) < W * ((b1 + 1) * W * P + P) := by
      refine Nat.mul_lt_mul_of_pos_left ?_ W_pos
      have : (b1 * W + b0) * P ≤ (b1 + 1) * W * P := Nat.mul_le_mul_right _ (by rw [Nat.add_mul]; omega)
      omega
    have h3' : W * ((b1 * W + b0) * P + vl) < W * ((b1 + 1) * W * P) := by
      refine Nat.mul_lt_mul_of_pos_left ?_ W_pos
      have h5 : (b1 * W + b0 + 1) * P ≤ (b1 + 1) * W * P := Nat.mul_le_mul_right _ (by rw [Nat.add_mul]; omega)
      rw [Nat.add_mul, Nat.one_mul] at h5
      omega
    have h4 : u2 * (W * W * P) < (b1 + 1) * (W * W * P) := by
      have e1 : u2 * W * W * P = u2 * (W * W * P) := by rw [Nat.mul_assoc, Nat.mul_assoc, Nat.mul_assoc W W P]
      have e2 : W * ((b1 + 1) * W * P) = (b1 + 1) * (W * W * P) := by rw [Nat.mul_assoc (b1 + 1), Nat.mul_left_comm, ← Nat.mul_assoc W W P]
      rw [← e1, ← e2]; omega
    have := Nat.lt_of_mul_lt_mul_right h4
    omega
  · exact guess_ge lU lV (by have := W_pos; omega) hX
  · exact guess_le lU lV hv
  · exact Nat.lt_of_le_of_lt (Nat.min_le_left _ _) (by have := W_pos; omega)
end Tw
namespace Go.Proofs.Ytkbhchlecokpiaa
open Go Go.RowKit Tw
set_option linter.unusedVariables false
set_option linter.unusedSimpArgs false

theorem own_only {base g : Nat} {w w' : World} {v : Value} {l : List Nat} (h : OwnW base w v l) (ho : OnlyG g w w') (hb : ∀ k, v.ownBlock = some k → k ≠ g) : OwnW base w' v l := by
  refine ⟨⟨h.1.1, ?_⟩, h.2⟩
  rcases h.1.2 with h1 | ⟨g', cap, cur, h1, h2, h3, r⟩
  · exact .inl h1
  · refine .inr ⟨g', cap, cur, h1, h2, ?_, r⟩
    have hlt : g' < w.heap.size := by
      rcases Nat.lt_or_ge g' w.heap.size with hlt | hge
      · exact hlt
      · rw [Array.getElem?_eq_none hge] at h3; simp at h3
    rw [ho.block g' hlt (by have := hb g' (by rw [h1]; rfl); simp; exact this)]; exact h3

theorem take_n (g N cap base j n c b off c2 : Nat) (U V : List Nat) (d : Nat) (w : World) (hn : n = V.length)
    (hO : OwnW base w (.slice (some ⟨g, 0, none⟩) N cap) U) (hUN : U.length = N) (hN : N ≤ 60000) (hV : CellsG .u64 w b off V) (hVd : Dig W V) (hne : b ≠ g) (hj : j + n < N) (hd : d < W) :
    Calls Try.prog 164 #[.slice (some ⟨g, j, none⟩) (n + 1) c, .slice (some ⟨b, off, none⟩) n c2, .int .u64 d] w fun e w' =>
      ∃ (U' : List Nat) (br : Nat), e = .returned (.bool (decide (br ≠ 0))) ∧ OwnW base w' (.slice (some ⟨g, 0, none⟩) N cap) U' ∧ U'.length = N ∧ br ≤ 1 ∧
        vr U' j (n + 1) + val W V * d = vr U j (n + 1) + W ^ (n + 1) * br ∧ (∀ t, t < j ∨ j + n < t → nth U' t = nth U t) ∧ OnlyG g w w' := by
  subst hn; exact take_c g N cap base j c b off c2 U V d w hO hUN hN hV hVd hne hj hd

theorem give_n (g N cap base j n c b off c2 : Nat) (U V : List Nat) (w : World) (hn : n = V.length)
    (hO : OwnW base w (.slice (some ⟨g, 0, none⟩) N cap) U) (hUN : U.length = N) (hN : N ≤ 60000) (hV : CellsG .u64 w b off V) (hVd : Dig W V) (hne : b ≠ g) (hj : j + n < N) :
    Calls Try.prog 165 #[.slice (some ⟨g, j, none⟩) (n + 1) c, .slice (some ⟨b, off, none⟩) n c2] w fun e w' =>
      ∃ (U' : List Nat) (k : Nat), e = .returned (.tuple #[]) ∧ OwnW base w' (.slice (some ⟨g, 0, none⟩) N cap) U' ∧ U'.length = N ∧
        vr U' j (n + 1) + W ^ (n + 1) * k = vr U j (n + 1) + val W V ∧ (∀ t, t < j ∨ j + n < t → nth U' t = nth U t) ∧ OnlyG g w w' := by
  subst hn; exact give_c g N cap base j c b off c2 U V w hO hUN hN hV hVd hne hj

/-- one digit of the quotient has been taken away -/
theorem digit_done {U U' Q : List Nat} {j n V T d : Nat} (hd : Dig W U) (hd' : Dig W U') (hV0 : 0 < V) (hV : V < W ^ n) (hlt : val W U < V * W ^ (j + 1)) (hjQ : j < Q.length)
    (hT : T = val W U + val W (Q.drop (j + 1)) * W ^ (j + 1) * V) (hx : vr U' j (n + 1) = vr U j (n + 1) % V) (hdd : d = vr U j (n + 1) / V) (hs : ∀ t, t < j ∨ j + n < t → nth U' t = nth U t) :
    val W U' < V * W ^ j ∧ T = val W U' + val W ((Q.set j d).drop j) * W ^ j * V := by
  obtain ⟨e1, e2, e3⟩ := window hd hV hlt
  have e0 : vr U' 0 j = vr U 0 j := vr_congr fun t _ h => hs t (by omega)
  have hv' : val W U' = vr U' 0 j + W ^ j * vr U' j (n + 1) := by
    have hz : ∀ t, j + (n + 1) ≤ t → nth U' t = 0 := fun t ht => by rw [hs t (by omega)]; exact e3 t (by omega)
    have hsplit : ∀ i, vr U' 0 (j + i) = vr U' 0 j + W ^ j * vr U' j i := by
      intro i
      induction i with
      | zero => simp [vr_zero]
      | succ i ih => rw [← Nat.add_assoc, vr_step, ih, vr_step, Nat.zero_add, Nat.mul_add, Nat.pow_add, Nat.mul_assoc]; omega
    rw [← hsplit]
    unfold vr
    rw [List.drop_zero]
    exact val_take_zero hz
  have hlo := vr_lt hd 0 j
  rw [hv', e0, hx]
  have hm := Nat.mod_lt (vr U j (n + 1)) hV0
  constructor
  · have h1 : W ^ j * (vr U j (n + 1) % V + 1) ≤ W ^ j * V := Nat.mul_le_mul_left _ hm
    rw [Nat.mul_add, Nat.mul_one] at h1
    rw [Nat.mul_comm V]; omega
  · have hdiv := Nat.div_add_mod (vr U j (n + 1)) V
    rw [hT, e1, val_drop W (l := Q.set j d) (by simpa using hjQ), nth_set_eq hjQ, List.drop_set_of_lt (by omega)]
    rw [← hdd] at hdiv
    generalize vr U j (n + 1) % V = r at *
    rw [← hdiv]
    rw [Nat.pow_succ]
    generalize val W (Q.drop (j + 1)) = z at *
    rw [Nat.add_mul d, Nat.add_mul (d * W ^ j), Nat.mul_add (W ^ j)]
    have a1 : W ^ j * (V * d) = d * W ^ j * V := by rw [Nat.mul_comm V, ← Nat.mul_assoc, Nat.mul_comm (W ^ j)]
    have a2 : z * (W ^ j * W) * V = W * z * W ^ j * V := by rw [Nat.mul_comm (W ^ j) W, ← Nat.mul_assoc, Nat.mul_comm z W]
    omega

/-- what the guess and the take-away leave -/
theorem taken {X X' V P d br : Nat} (hV : 0 < V) (hX' : X' < P) (hbr : br ≤ 1) (h : X' + V * d = X + P * br) (hlo : X / V ≤ d) (hhi : d ≤ X / V + 1) :
    (br = 0 ∧ d = X / V ∧ X' = X % V) ∨ (br = 1 ∧ d = X / V + 1 ∧ X' + V = X % V + P) := by
  have hd := Nat.div_add_mod X V
  have hm := Nat.mod_lt X hV
  rcases Nat.eq_or_lt_of_le hlo with h1 | h1
  · left
    rw [← h1] at h
    have : br = 0 := by
      rcases Nat.eq_zero_or_pos br with h0 | h0
      · exact h0
      · obtain rfl : br = 1 := by omega
        omega
    subst this
    exact ⟨rfl, h1.symm, by omega⟩
  · right
    have h2 : d = X / V + 1 := by omega
    rw [h2, Nat.mul_add, Nat.mul_one] at h
    have : br = 1 := by
      rcases Nat.eq_zero_or_pos br with h0 | h0
      · subst h0; omega
      · omega
    subst this
    exact ⟨rfl, h2, by omega⟩

theorem given {X' X'' V P R k : Nat} (hR : R < V) (hVP : V ≤ P) (hX'' : X'' < P) (h1 : X' + V = R + P) (h2 : X'' + P * k = X' + V) : X'' = R := by
  rw [h1] at h2
  rcases Nat.lt_or_ge k 1 with h | h
  · obtain rfl : k = 0 := by omega
    omega
  · rcases Nat.lt_or_ge k 2 with h' | h'
    · obtain rfl : k = 1 := by omega
      omega
    · have := Nat.mul_le_mul_left P h'
      omega

end Go.Proofs.Ytkbhchlecokpiaa

/-! ## DivMod: limbs.DivMod by its contract: quotient and rest. -/
set_option linter.unusedVariables false
set_option linter.unusedSimpArgs false
namespace Go.Proofs.Ytkbhchlecokpiaa
open Go Go.RowKit Tw
set_option linter.unusedVariables false
set_option linter.unusedSimpArgs false

set_option maxRecDepth 100000 in
set_option maxHeartbeats 4000000 in
theorem knuth_c (v1 v2 : Value) (l1 l2 : List Nat) (w : World) (h1 : Wd w v1 l1) (h2 : Wd w v2 l2) (hs1 : l1.length ≤ 20000) (hs2 : l2.length ≤ 20000)
    (hlen : 2 ≤ (digs W (val W l2)).length) (hge : val W l2 ≤ val W l1) :
    Calls Try.prog 132 #[v1, v2] w fun e w' => ∃ v1 v2, e = .returned (.tuple #[v1, v2]) ∧
      OwnW w.heap.size w' v1 (digs W (val W l1 / val W l2)) ∧ OwnW w.heap.size w' v2 (digs W (val W l1 % val W l2)) ∧ Below w.heap.size w w' := by
  have H1 := Lib.hid h1; have H2 := Lib.hid h2
  have hle1 := length_digs_val W_two h1.dig
  have hle2 := length_digs_val W_two h2.dig
  have E1 := Lib.hid (val_digs W_two (val W l1)); have E2 := Lib.hid (val_digs W_two (val W l2))
  have T2 := Lib.hid (top_digs W_two (val W l2))
  have HGE := Lib.hid hge
  have hn12 : (digs W (val W l2)).length ≤ (digs W (val W l1)).length := by
    rcases Nat.lt_or_ge (digs W (val W l1)).length (digs W (val W l2)).length with h | h
    · have := lt_of_length h; omega
    · exact h
  have C := fun t1 t2 w (g1 : Wd w t1 (digs W (val W l1))) (g2 : Wd w t2 (digs W (val W l2))) => cmp_c t1 t2 (digs W (val W l1)) (digs W (val W l2)) w g1 g2
  rw [E1.out, E2.out] at C
  have HC := Lib.hid C
  clear h1 h2 C
  have hcmp : ¬ cmpN (val W l1) (val W l2) < 0 := by unfold cmpN; rw [if_neg (by omega)]; split <;> omega
  clear hge
  go_enter Try.func132, Try.ntmps132
  go_wp2_with fail
  refine Calls.mono (trimmed_v _ _ _ H1.out) ?_; rintro e w' ⟨t1, rfl, g1, rfl⟩
  have G1 := Lib.hid g1; clear g1
  go_wp2_with fail
  refine Calls.mono (trimmed_v _ _ _ H2.out) ?_; rintro e w' ⟨t2, rfl, g2, rfl⟩
  have G2 := Lib.hid g2; clear g2
  clear H1 H2
  generalize digs W (val W l1) = d1 at *
  generalize digs W (val W l2) = d2 at *
  have G1' := Lib.hid G1.out
  obtain ⟨a1, c1, rfl, hx1⟩ := G1
  have G2' := Lib.hid G2.out
  obtain ⟨a2, c2, rfl, hx2⟩ := G2
  have HX1 := Lib.hid hx1; have HX2 := Lib.hid hx2
  obtain ⟨b2, o2, rfl, hcl2⟩ := hx2.2.2.2 (by intro e; rw [e] at hlen; simp at hlen)
  obtain ⟨n, hn⟩ : ∃ n, n = d2.length := ⟨_, rfl⟩
  obtain ⟨m, hm⟩ : ∃ m, m = d1.length := ⟨_, rfl⟩
  rw [← hn] at hlen hle2 ⊢
  rw [← hm, ← hn] at hn12
  rw [← hm] at hle1 ⊢
  have HN := Lib.hid hn; have HM := Lib.hid hm
  have hne0 : ((n : Int) == 0) = false := by rw [beq_eq_false_iff_ne]; omega
  have hne1 : ((n : Int) == 1) = false := by rw [beq_eq_false_iff_ne]; omega
  have htop : w.cell? ⟨b2, o2 + (n - 1), none⟩ = some (.int .u64 ((nth d2 (n - 1) : Nat) : Int)) := hcl2 (n - 1) (by omega)
  have htW : Hid (nth d2 (n - 1) < W) := Lib.hid (nth_dig hx2.2.2.1 (by omega))
  clear hx1 hx2 hcl2 hn hm
  go_wp2_with fail
  rw [HM.out, HN.out]
  refine Calls.mono (HC.out _ _ _ G1'.out G2'.out) ?_; rintro e w' ⟨rfl, nd, rfl⟩
  rw [← HM.out, ← HN.out]
  go_wp2_with fail
  refine Calls.mono (lz64_c _ _ htW.out) ?_; rintro e w' ⟨rfl, rfl⟩
  have htop0 : 0 < nth d2 (n - 1) := by
    rcases T2.out with h | h
    · have := HN.out; rw [h] at this; simp at this; omega
    · have := HN.out; rw [← this] at h; omega
  obtain ⟨hb1, hb2, hb3, hb4⟩ := bitLen_bounds htop0 htW.out
  generalize Lib.bitLen (nth d2 (n - 1)) = bl at *
  obtain ⟨s, hs⟩ : ∃ s, s = 64 - bl := ⟨_, rfl⟩
  rw [← hs]
  have hs63 : s ≤ 63 := by omega
  obtain ⟨hv1, hv2, hv3⟩ := norm_len HX2.out.2.2.1 HN.out.symm E2.out.symm (by omega) hb3 htop0 hb4 hs
  have HVLT := Lib.hid hv1; have HVLEN := Lib.hid hv2; have HVGE := Lib.hid hv3
  clear hs hb1 hb2 hb3 hb4 hv1 hv2 hv3 htop0 htop
  go_wp2_with fail
  refine Calls.mono (shl_c _ d2 s _ (by rw [HN.out]; exact G2'.out.drawn nd) (by have := HN.out; omega) (by omega)) ?_; rintro e w2 ⟨vv, rfl, hV, hbelV⟩
  rw [E2.out] at hV
  have hbel2 : Below w.heap.size w w2 := (bel_drewN w nd _).trans hbelV
  have HB2 := Lib.hid hbel2; have HV := Lib.hid hV
  have HG1 := Lib.hid (G1'.out.below hbel2)
  clear hV hbelV hbel2
  go_wp2_with fail
  refine Calls.mono (shl_c _ d1 s _ (by rw [HM.out]; exact HG1.out) (by have := HM.out; omega) (by omega)) ?_; rintro e w3 ⟨vu, rfl, hU, hbelU⟩
  rw [E1.out] at hU
  have HBU := Lib.hid hbelU; have HU := Lib.hid hU
  have HUV := Lib.hid (val_digs W_two (val W l1 * 2 ^ s)); have HVV := Lib.hid (val_digs W_two (val W l2 * 2 ^ s))
  have HUL : Hid ((digs W (val W l1 * 2 ^ s)).length ≤ m + 1) := Lib.hid (by
    refine length_digs_le W_two ?_
    have h1 := val_lt HX1.out.2.2.1
    rw [E1.out, ← HM.out] at h1
    rw [Nat.pow_succ]
    refine Nat.mul_lt_mul'' h1 ?_
    rw [W_pow]; exact Nat.pow_lt_pow_right (by omega) (by omega))
  have HTV := Lib.hid (top_digs W_two (val W l2 * 2 ^ s))
  generalize digs W (val W l1 * 2 ^ s) = U0 at *
  generalize digs W (val W l2 * 2 ^ s) = V at *
  -- V's place
  rcases HV.out.shape with ⟨rfl, h0⟩ | ⟨gv, capv, rfl, hgv1, hgv2, hgv3, hgv4⟩
  · have := HVLEN.out; rw [h0] at this; simp at this; omega
  rw [HVLEN.out] at hgv3 ⊢
  have HGV := Lib.hid hgv2
  clear hU hbelU hgv1 hgv2 hgv4
  go_wp2_with fail
  go_loopg [8] (m + 3 - U0.length) (fun k v wr => ∃ U : List Nat, k + U.length = m + 3 ∧ U.length ≤ m + 1 ∧ OwnW w2.heap.size wr v U ∧ Hid (val W U = val W l1 * 2 ^ s) ∧ Below w2.heap.size w2 wr)
  case atStart => exact ⟨U0, by have := HUL.out; omega, HUL.out, HU.out, HUV.out, HBU.out⟩
  case round =>
    obtain ⟨U, hk, hul, hown, hval, hbel⟩ := hrel
    obtain ⟨wo, rfl⟩ : ∃ wo : World, wo = wr := ⟨_, rfl⟩
    have HK := Lib.hid hk; have HO := Lib.hid hown; have HB := Lib.hid hbel
    clear hk
    obtain ⟨au, capu, rfl, hls⟩ := hown.ls
    obtain ⟨N, hN⟩ : ∃ N, N = U.length := ⟨_, rfl⟩
    rw [← hN] at hul hown HO ⊢
    have HNN := Lib.hid hN
    clear hown hbel hls hN
    by_cases hlt : N ≤ m
    · go_wp2_with (at_builtin; refine wpList_app _ rfl _ _ 22 rfl 49 .u64 8 Try.underlying22 info_u64 W w2.heap.size _ U [0] rfl ?_ wo.heap.size 0 1 rfl (CellsG.one _ _ _ _) ?_ ?_ ?_ ?_ ?_)
      · exact HO.out.alloc _
      · exact Dig.one W_pos
      · have := HNN.out; simp; unfold maxLen; omega
      · have := HNN.out; simp; omega
      · have := HB.out.size; simp; omega
      · intro l' v' w' HL' ho hb hg
        have HO' := Lib.hid ho; have HB' := Lib.hid hb; clear hg ho hb
        go_wp2_with fail
        go_roundg (gk - 1)
        case measure => have := HK.out; have := HNN.out; omega
        case rel =>
          refine ⟨l', ?_, ?_, HO'.out, ?_, ?_⟩
          · rw [HL'.out]; simp; have := HK.out; have := HNN.out; omega
          · rw [HL'.out]; simp; have := HNN.out; omega
          · show val W l' = _
            rw [HL'.out, val_snoc, Nat.mul_zero]; exact hval.out
          · exact (HB.out.alloc HB.out.size _).trans HB'.out
    · have hNm : N = m + 1 := by omega
      have HNM := Lib.hid hNm
      have hmN : m + 1 ≤ N := by omega
      have hNn : n < N := by omega
      have hN6 : N ≤ 60000 := by omega
      rcases HO.out.shape with ⟨h0, h00⟩ | ⟨gu, cu, h0, hgu1, hgu2, hgu3, hgu4⟩
      · exfalso; have := HNN.out; rw [h00] at this; simp at this; omega
      simp only [Value.slice.injEq, true_and] at h0
      obtain ⟨rfl, -, rfl⟩ := h0
      have hcu : N ≤ capu := by have := HNN.out; omega
      obtain ⟨r, hr⟩ : ∃ r, r = N - n := ⟨_, rfl⟩
      have HR := Lib.hid hr
      have hrI : ((N : Int) - (n : Int)) = (r : Int) := by omega
      have hr6 : r ≤ 60000 := by omega
      have hr0 : 0 < r := by omega
      have HGU := Lib.hid hgu2; have HGU1 := Lib.hid hgu1
      clear hlt hul hNm hgu1 hgu2 hgu3 hgu4 hr
      go_wp2_with (at_make; refine wpList_make_z _ rfl _ _ 22 rfl wo.heap.size 49 .u64 8 W Try.underlying22 info_u64 .i64 .i64 _ _ r r rfl rfl rfl rfl (by omega) (by omega) (by unfold maxLen; omega) (Nat.le_refl _) (by have := W_two; omega) ?_; intro wq hownq hbelq hszq; have Hszq := Lib.hid hszq; have HOQ := Lib.hid hownq; have HBQ := Lib.hid hbelq; clear hszq hownq hbelq)
      obtain ⟨VV, hVV⟩ : ∃ x, x = val W l2 * 2 ^ s := ⟨_, rfl⟩
      obtain ⟨TT, hTT⟩ : ∃ x, x = val W l1 * 2 ^ s := ⟨_, rfl⟩
      have HVQ : Hid (VV = val W l2 * 2 ^ s) := Lib.hid hVV
      have HTQ : Hid (TT = val W l1 * 2 ^ s) := Lib.hid hTT
      have HV1 : Hid (val W V = VV) := Lib.hid (by rw [HVV.out, hVV])
      have HV2 : Hid (VV < W ^ n) := Lib.hid (by rw [hVV]; exact HVLT.out)
      have HV3 : Hid (0 < VV) := Lib.hid (by
        rw [hVV]; exact Nat.mul_pos (Nat.lt_of_lt_of_le (Nat.pow_pos W_pos) HVGE.out) (Nat.two_pow_pos _))
      have HI1 : Hid (val W U < VV * W ^ r) := Lib.hid (by
        rw [hval.out, hVV, Nat.mul_right_comm]
        refine Nat.mul_lt_mul_of_pos_right ?_ (Nat.two_pow_pos _)
        have h1 := val_lt HX1.out.2.2.1
        rw [E1.out, ← HM.out] at h1
        have h2 := Nat.mul_le_mul_right (W ^ r) HVGE.out
        rw [← Nat.pow_add, show n - 1 + r = m by have := HR.out; have := HNM.out; omega] at h2
        omega)
      have HI2 : Hid (TT = val W U + val W ((List.replicate r 0).drop r) * W ^ r * VV) := Lib.hid (by
        rw [hval.out, hTT, List.drop_of_length_le (by simp)]; simp [val])
      have HBO : Hid (Below w2.heap.size w2 wq) := Lib.hid (HB.out.trans (HBQ.out.mono HB.out.size))
      have HOU : Hid (OwnW w2.heap.size wq (.slice (some ⟨gu, 0, none⟩) N capu) U) := Lib.hid (HO.out.below HBQ.out)
      have hVlen := HVLEN.out
      clear hVV hTT
      have HVL := Lib.hid hVlen; clear hVlen
      go_loopg [11] r (fun k jv wr' => ∃ (jz : Int) (U Q : List Nat), jv = .int .i64 jz ∧ Hid (jz = (k : Int) - 1) ∧ k ≤ r ∧ OwnW w2.heap.size wr' (.slice (some ⟨gu, 0, none⟩) N capu) U ∧ U.length = N ∧
        OwnW wo.heap.size wr' (.slice (some ⟨wo.heap.size, 0, none⟩) r r) Q ∧ Q.length = r ∧ Hid (val W U < VV * W ^ k) ∧ Hid (TT = val W U + val W (Q.drop k) * W ^ k * VV) ∧ Below w2.heap.size w2 wr' ∧ wo.heap.size < wr'.heap.size)
      case atStart => exact ⟨(r : Int) - 1, U, List.replicate r 0, rfl, rfl, Nat.le_refl _, HOU.out, HNN.out.symm, HOQ.out, by simp, HI1, HI2, HBO.out, by rw [Hszq.out]; omega⟩
      case round =>
        obtain ⟨jz, U', Q, rfl, hjz, hkr, hU', hUl, hQ, hQl, hlt', htot, hbel, hszr⟩ := hrel
        have HU' := Lib.hid hU'; have HUl := Lib.hid hUl; have HQ := Lib.hid hQ; have HQl := Lib.hid hQl; have HBr := Lib.hid hbel; have HSZ := Lib.hid hszr
        by_cases hk0 : 0 < gk
        · obtain ⟨j, rfl⟩ : ∃ j : Nat, jz = (j : Int) := ⟨gk - 1, by have := hjz.out; omega⟩
          have hgk : gk = j + 1 := by have := hjz.out; omega
          have HGK := Lib.hid hgk
          have hjr : j + 1 ≤ r := by omega
          have hjN : j + n < N := by have := HR.out; omega
          have hcellU := fun i (hi : i < N) => (show OwnW w2.heap.size wr (.slice (some ⟨gu, 0, none⟩) U'.length capu) U' by rw [hUl]; exact hU').cell (i := i) (by omega)
          have gV := HV.out.below (show Below w2.heap.size w2 wr from hbel)
          have hcellV := fun i (hi : i < n) => gV.cell (i := i) (by rw [HVL.out]; exact hi)
          have q1 := hcellU (j + n) hjN
          have q2 := hcellU (j + n - 1) (by omega)
          have q3 := hcellU (j + n - 2) (by omega)
          have q4 := hcellV (n - 1) (by omega)
          have q5 := hcellV (n - 2) (by omega)
          have i2 : ((j : Int) + (n : Int) - 1).toNat = j + n - 1 := by omega
          have i3 : ((j : Int) + (n : Int) - 2).toNat = j + n - 2 := by omega
          have i4 : ((n : Int) - 1).toNat = n - 1 := by omega
          have i5 : ((n : Int) - 2).toNat = n - 2 := by omega
          -- the guess
          have hdU := hU'.dig
          have hdV := HV.out.dig
          have hwin := window (j := j) (n := n) hdU HV2.out (by rw [← hgk]; exact hlt'.out)
          have hvt : 0 < nth V (n - 1) := by
            rcases HTV.out with h | h
            · have := HVL.out; rw [h] at this; simp at this; omega
            · rw [HVL.out] at h; omega
          obtain ⟨hg1, hg2, hg3, hg4⟩ := guess_ok hlen hdU hdV HVL.out hvt (by rw [HV1.out]; exact hwin.2.1)
          rw [HV1.out] at hg2 hg3
          have r1 := nth_digW W_pos hdU (j + n - 1)
          have r2 := nth_digW W_pos hdU (j + n - 2)
          have r3 := nth_digW W_pos hdV (n - 1)
          have r4 := nth_digW W_pos hdV (n - 2)
          have HGC := Lib.hid (fun w => guess_c (nth U' (j + n)) (nth U' (j + n - 1)) (nth U' (j + n - 2)) (nth V (n - 1)) (nth V (n - 2)) w hg1 r1 r2 hvt r3 r4)
          generalize guessN (nth U' (j + n)) (nth U' (j + n - 1)) (nth U' (j + n - 2)) (nth V (n - 1)) (nth V (n - 2)) = d at *
          have HGVc : Hid (CellsG .u64 wr gv 0 V) := Lib.hid (fun i hi => by rw [Nat.zero_add]; exact gV.cell hi)
          have hgvu : gv ≠ gu := by have := HGV.out; have := HGU1.out; omega
          have HVU := Lib.hid hgvu
          have HG2 := Lib.hid hg2; have HG3 := Lib.hid hg3; have HG4 := Lib.hid hg4
          clear hU' hUl hQ hQl hbel hcellU gV hcellV hgk hdU hdV hwin hvt hg1 hg2 hg3 hg4 r1 r2 r3 r4 hk0 hgvu
          go_wp2_with fail
          go_quiet ((go_at_call 163; exact Calls.quiet_of (HGC.out _)))
          go_wp2_with fail
          rw [show j + n + 1 - j = n + 1 by omega]
          refine Calls.mono (take_n gu N capu w2.heap.size j n _ gv 0 _ U' V d _ HVL.out.symm (HU'.out.drawn nq) HUl.out hN6 HGVc.out HV.out.dig HVU.out hjN HG4.out) ?_; rintro e w4 ⟨U2, br, rfl, hU2, hl2, hbr, hval2, hsm2, honly⟩
          have HO1 : Hid (OnlyG gu wr w4) := Lib.hid (only_trans (only_drawn (only_refl gu wr) nq) honly)
          have HU2 := Lib.hid hU2; have HL2 := Lib.hid hl2; have HS2 := Lib.hid hsm2
          rw [HV1.out] at hval2
          have htk := taken HV3.out (vr_lt hU2.dig j (n + 1)) hbr hval2 HG2.out HG3.out
          have hQ4 := own_only HQ.out HO1.out (by intro k hk; simp [Value.ownBlock] at hk; have := HGU.out; omega)
          have hcq := (show OwnW wo.heap.size w4 (.slice (some ⟨wo.heap.size, 0, none⟩) Q.length r) Q by rw [HQl.out]; exact hQ4).cell (i := j) (by have := HQl.out; omega)
          have hfq := hQ4.free HQl.out.symm j
          clear hU2 hl2 hbr hval2 hsm2 honly hQ4
          rcases htk with ⟨rfl, hdq, hxx⟩ | ⟨rfl, hdq, hxx⟩
          · have hdd := digit_done (T := TT) (Q := Q) (d := d) HU'.out.dig HU2.out.dig HV3.out HV2.out (by rw [← HGK.out]; exact hlt'.out) (by have := HQl.out; omega) (by rw [← HGK.out]; exact htot.out) hxx hdq HS2.out
            have HD1 : Hid (val W U2 < VV * W ^ (gk - 1)) := Lib.hid (by rw [HGK.out]; exact hdd.1)
            have HD2 : Hid (TT = val W U2 + val W ((Q.set j d).drop (gk - 1)) * W ^ (gk - 1) * VV) := Lib.hid (by rw [HGK.out]; exact hdd.2)
            have HDW : Hid (d < W) := HG4
            clear hdd hdq hxx
            go_wp2_with fail
            go_roundg (gk - 1)
            case measure => have := HGK.out; omega
            case rel =>
              refine ⟨(j : Int) - 1, U2, Q.set j d, rfl, ?_, by omega, ?_, HL2.out, ?_, by simpa using HQl.out, HD1, HD2, ?_, ?_⟩
              · show (j : Int) - 1 = ((gk - 1 : Nat) : Int) - 1
                have := HGK.out; omega
              · exact own_only HU2.out (only_set (only_refl _ _) j _) (by intro k hk; simp [Value.ownBlock] at hk; have := HGU.out; omega)
              · exact (own_only HQ.out HO1.out (by intro k hk; simp [Value.ownBlock] at hk; have := HGU.out; omega)).set HQl.out.symm j d HDW.out
              · exact (HBr.out.trans (only_below HO1.out HGU1.out (by have := HGU.out; have := HSZ.out; omega))).setCell (by have := HB.out.size; have := HBU.out.size; have := HGU.out; have := HGU1.out; omega) _
              · have h1 := (HO1.out).size; have h2 := HSZ.out
                show wo.heap.size < (World.setCell _ _ _).heap.size
                simp [World.setCell]
                exact Nat.lt_of_lt_of_le h2 h1
          · have hd1 : 0 < d := by rw [hdq]; exact Nat.succ_pos _
            obtain ⟨d', hd'⟩ : ∃ d', d' = d - 1 := ⟨_, rfl⟩
            have hdq' : d' = vr U' j (n + 1) / VV := by rw [hd', hdq, Nat.add_sub_cancel]
            have HDQ := Lib.hid hdq'; have HXX := Lib.hid hxx
            have HDW : Hid (d' < W) := Lib.hid (by have := HG4.out; omega)
            have hwd : IntKind.u64.wrap ((d : Int) - 1) = (d' : Int) := wrapN (by omega) HDW.out
            have hVc4 : Hid (CellsG .u64 w4 gv 0 V) := Lib.hid (only_cells HGVc.out HO1.out HVU.out)
            clear hd1 hd' hdq hdq' hxx
            go_wp2_with fail
            rw [show j + n + 1 - j = n + 1 by omega]
            refine Calls.mono (give_n gu N capu w2.heap.size j n _ gv 0 _ U2 V _ HVL.out.symm HU2.out HL2.out hN6 hVc4.out HV.out.dig HVU.out hjN) ?_; rintro e w5 ⟨U3, kk, rfl, hU3, hl3, hval3, hsm3, honly3⟩
            have HO2 : Hid (OnlyG gu wr w5) := Lib.hid (only_trans HO1.out honly3)
            have HU3 := Lib.hid hU3; have HL3 := Lib.hid hl3
            rw [HV1.out] at hval3
            have hx3 := given (Nat.mod_lt _ HV3.out) (by
              have := HV2.out; have h1 : W ^ n ≤ W ^ (n + 1) := Nat.pow_le_pow_right W_pos (by omega)
              omega) (vr_lt hU3.dig j (n + 1)) HXX.out hval3
            have hs3 : ∀ t, t < j ∨ j + n < t → nth U3 t = nth U' t := fun t ht => by rw [hsm3 t ht, HS2.out t ht]
            have hdd := digit_done (T := TT) (Q := Q) (d := d') HU'.out.dig hU3.dig HV3.out HV2.out (by rw [← HGK.out]; exact hlt'.out) (by have := HQl.out; omega) (by rw [← HGK.out]; exact htot.out) hx3 HDQ.out hs3
            have HD1 : Hid (val W U3 < VV * W ^ (gk - 1)) := Lib.hid (by rw [HGK.out]; exact hdd.1)
            have HD2 : Hid (TT = val W U3 + val W ((Q.set j d').drop (gk - 1)) * W ^ (gk - 1) * VV) := Lib.hid (by rw [HGK.out]; exact hdd.2)
            have hQ5 := own_only HQ.out HO2.out (by intro k hk; simp [Value.ownBlock] at hk; have := HGU.out; omega)
            have hcq5 := (show OwnW wo.heap.size w5 (.slice (some ⟨wo.heap.size, 0, none⟩) Q.length r) Q by rw [HQl.out]; exact hQ5).cell (i := j) (by have := HQl.out; omega)
            have hfq5 := hQ5.free HQl.out.symm j
            clear hU3 hl3 hval3 hsm3 honly3 hx3 hs3 hdd hQ5 hcq hfq
            go_wp2_with fail
            go_roundg (gk - 1)
            case measure => have := HGK.out; omega
            case rel =>
              refine ⟨(j : Int) - 1, U3, Q.set j d', rfl, ?_, by omega, ?_, HL3.out, ?_, by simpa using HQl.out, HD1, HD2, ?_, ?_⟩
              · show (j : Int) - 1 = ((gk - 1 : Nat) : Int) - 1
                have := HGK.out; omega
              · exact own_only HU3.out (only_set (only_refl _ _) j _) (by intro k hk; simp [Value.ownBlock] at hk; have := HGU.out; omega)
              · exact (own_only HQ.out HO2.out (by intro k hk; simp [Value.ownBlock] at hk; have := HGU.out; omega)).set HQl.out.symm j d' HDW.out
              · exact (HBr.out.trans (only_below HO2.out HGU1.out (by have := HGU.out; have := HSZ.out; omega))).setCell (by have := HB.out.size; have := HBU.out.size; have := HGU.out; have := HGU1.out; omega) _
              · have h1 := (HO2.out).size; have h2 := HSZ.out
                show wo.heap.size < (World.setCell _ _ _).heap.size
                simp [World.setCell]
                exact Nat.lt_of_lt_of_le h2 h1
        · obtain rfl : gk = 0 := by omega
          obtain rfl : jz = -1 := by have := hjz.out; omega
          have hl0 := hlt'.out
          have ht0 := htot.out
          rw [Nat.pow_zero, Nat.mul_one] at hl0 ht0
          rw [List.drop_zero] at ht0
          have hq0 : TT / VV = val W Q := by rw [ht0, Nat.add_mul_div_right _ _ HV3.out, Nat.div_eq_of_lt hl0]; omega
          have hr0' : TT % VV = val W U' := by rw [ht0, Nat.add_mul_mod_self_right, Nat.mod_eq_of_lt hl0]
          have HF1 : Hid (val W l1 / val W l2 = val W Q) := Lib.hid (by rw [← hq0, HTQ.out, HVQ.out, Nat.mul_div_mul_right _ _ (Nat.two_pow_pos s)])
          have HF2 : Hid (val W l1 % val W l2 = val W U' / 2 ^ s) := Lib.hid (by rw [← hr0', HTQ.out, HVQ.out, Nat.mul_mod_mul_right, Nat.mul_div_cancel _ (Nat.two_pow_pos s)])
          have HUL := Lib.hid hU'.ls
          have HWW : Hid (w.heap.size ≤ wo.heap.size) := Lib.hid (by have := HB2.out.size; have := HBU.out.size; have := HB.out.size; omega)
          clear hU' hUl hQ hQl hbel hszr hk0 hl0 ht0 hq0 hr0'
          go_wp2_with fail
          refine Calls.mono (trimmed_n _ r r Q _ HQl.out.symm HQ.out.lsS) ?_; rintro e w5 ⟨rfl, rfl⟩
          go_wp2_with fail
          refine Calls.mono (shr_c _ U' s _ HUL.out (by have := HUl.out; omega) (by omega)) ?_; rintro e w6 ⟨vr6, rfl, hR, hb6⟩
          have HR6 := Lib.hid hR; have HB6 := Lib.hid hb6; clear hR hb6
          go_wp2_with fail
          go_ret2
          refine ⟨_, _, rfl, ?_, ?_, ?_⟩
          · rw [HF1.out]
            exact ((HQ.out.trim W_two HQl.out.symm).below HB6.out).mono HWW.out
          · rw [HF2.out]
            exact HR6.out.mono (by have := HSZ.out; have := HWW.out; omega)
          · exact ((HB2.out.trans (HBr.out.mono (by have := HB2.out.size; omega)))).trans (HB6.out.mono (by have := HSZ.out; have := HWW.out; omega))

end Go.Proofs.Ytkbhchlecokpiaa

/-! ## Gcd: limbs.DivMod (all ways), Gcd, Bits by their contracts. -/
set_option linter.unusedVariables false
set_option linter.unusedSimpArgs false
namespace Go.Proofs.Ytkbhchlecokpiaa
open Go Go.RowKit Tw
set_option linter.unusedVariables false
set_option linter.unusedSimpArgs false

set_option maxRecDepth 100000 in
set_option maxHeartbeats 1000000 in
theorem divmod_c (v1 v2 : Value) (l1 l2 : List Nat) (w : World) (h1 : Wd w v1 l1) (h2 : Wd w v2 l2) (hs1 : l1.length ≤ 20000) (hs2 : l2.length ≤ 20000) :
    Calls Try.prog 132 #[v1, v2] w fun e w' => ∃ v1 v2, e = .returned (.tuple #[v1, v2]) ∧
      OwnW w.heap.size w' v1 (digs W (val W l1 / val W l2)) ∧ OwnW w.heap.size w' v2 (digs W (remN (val W l1) (val W l2))) ∧ Below w.heap.size w w' := by
  have H1 := Lib.hid h1; have H2 := Lib.hid h2
  have hle1 := length_digs_val W_two h1.dig
  have hle2 := length_digs_val W_two h2.dig
  have E1 := Lib.hid (val_digs W_two (val W l1)); have E2 := Lib.hid (val_digs W_two (val W l2))
  by_cases hz : digs W (val W l2) = []
  · have h0 := (length_digs_zero (n := val W l2) W_two).1 (by rw [hz]; rfl)
    have HR1 := Lib.hid (show digs W (val W l1 / val W l2) = [] by rw [h0, Nat.div_zero, digs_zero])
    have HR2 := Lib.hid (show digs W (remN (val W l1) (val W l2)) = [] by unfold remN; rw [if_pos h0, digs_zero])
    clear h1 h2 h0
    go_enter Try.func132, Try.ntmps132
    go_wp2_with fail
    refine Calls.mono (trimmed_v _ _ _ H1.out) ?_; rintro e w' ⟨t1, rfl, g1, rfl⟩
    go_wp2_with fail
    refine Calls.mono (trimmed_v _ _ _ H2.out) ?_; rintro e w' ⟨t2, rfl, g2, rfl⟩
    rw [hz] at g2
    obtain ⟨a1, c1, rfl, hx1⟩ := g1
    obtain ⟨a2, c2, rfl, hx2⟩ := g2
    clear hx1 hx2 hz
    go_wp2_with fail
    go_ret2
    refine ⟨_, _, rfl, ?_, ?_, Below.refl _ _⟩
    · rw [HR1.out]; exact Own.nil _ _ _ _ _
    · rw [HR2.out]; exact Own.nil _ _ _ _ _
  · have hpos : 0 < val W l2 := by
      rcases Nat.eq_zero_or_pos (val W l2) with h | h
      · rw [h, digs_zero] at hz; exact absurd rfl hz
      · exact h
    have HRM := Lib.hid (show remN (val W l1) (val W l2) = val W l1 % val W l2 by unfold remN; rw [if_neg (by omega)])
    have hlen : 0 < (digs W (val W l2)).length := List.length_pos_iff.2 hz
    clear hz
    by_cases hlt : val W l1 < val W l2
    · have C := fun t1 t2 w (g1 : Wd w t1 (digs W (val W l1))) (g2 : Wd w t2 (digs W (val W l2))) => cmp_c t1 t2 (digs W (val W l1)) (digs W (val W l2)) w g1 g2
      rw [E1.out, E2.out, cmpN_lt hlt] at C
      have HC := Lib.hid C
      have HR1 := Lib.hid (show digs W (val W l1 / val W l2) = [] by rw [Nat.div_eq_of_lt hlt, digs_zero])
      have HR2 := Lib.hid (show remN (val W l1) (val W l2) = val W l1 by rw [HRM.out, Nat.mod_eq_of_lt hlt])
      clear h1 h2 C hlt hpos
      go_enter Try.func132, Try.ntmps132
      go_wp2_with fail
      refine Calls.mono (trimmed_v _ _ _ H1.out) ?_; rintro e w' ⟨t1, rfl, g1, rfl⟩
      have G1 := Lib.hid g1; clear g1
      go_wp2_with fail
      refine Calls.mono (trimmed_v _ _ _ H2.out) ?_; rintro e w' ⟨t2, rfl, g2, rfl⟩
      have G2 := Lib.hid g2
      obtain ⟨a2, c2, rfl, hx2⟩ := g2
      clear hx2
      have hne0 : (((digs W (val W l2)).length : Int) == 0) = false := by rw [beq_eq_false_iff_ne]; omega
      go_wp2_with fail
      refine Calls.mono (HC.out _ _ _ G1.out G2.out) ?_; rintro e w' ⟨rfl, nd, rfl⟩
      go_wp2_with fail
      refine Calls.mono (clone_v _ _ _ (G1.out.drawn nd) (by omega)) ?_; rintro e w' ⟨v3, rfl, h3, hb⟩
      have H3 := Lib.hid h3; have HB := Lib.hid hb; clear h3 hb
      go_wp2_with fail
      go_ret2
      refine ⟨_, _, rfl, ?_, ?_, (bel_drewN w nd _).trans HB.out⟩
      · rw [HR1.out]; exact Own.nil _ _ _ _ _
      · rw [HR2.out]; exact H3.out
    · by_cases hl1 : (digs W (val W l2)).length = 1
      · have C := fun t1 t2 w (g1 : Wd w t1 (digs W (val W l1))) (g2 : Wd w t2 (digs W (val W l2))) => cmp_c t1 t2 (digs W (val W l1)) (digs W (val W l2)) w g1 g2
        rw [E1.out, E2.out] at C
        have HC := Lib.hid C
        have hcmp : ¬ cmpN (val W l1) (val W l2) < 0 := by unfold cmpN; rw [if_neg (by omega)]; split <;> omega
        have hd0 : Hid (nth (digs W (val W l2)) 0 = val W l2) := Lib.hid (by
          have h := val_take_step W (digs W (val W l2)) 0
          rw [List.take_of_length_le (by omega), E2.out] at h
          simp [val] at h; exact h.symm)
        have HDW : Hid (val W l2 < W) := Lib.hid (by rw [← hd0.out]; exact nth_digW W_pos (dig_digs W_two _) 0)
        have HP := Lib.hid hpos
        have HL1 := Lib.hid hl1
        clear h1 h2 C hlt hpos hl1
        go_enter Try.func132, Try.ntmps132
        go_wp2_with fail
        refine Calls.mono (trimmed_v _ _ _ H1.out) ?_; rintro e w' ⟨t1, rfl, g1, rfl⟩
        have G1 := Lib.hid g1; clear g1
        go_wp2_with fail
        refine Calls.mono (trimmed_v _ _ _ H2.out) ?_; rintro e w' ⟨t2, rfl, g2, rfl⟩
        have G2 := Lib.hid g2
        obtain ⟨a2, c2, rfl, hx2⟩ := g2
        obtain ⟨b2, o2, rfl, hcl⟩ := hx2.2.2.2 (List.length_pos_iff.1 hlen)
        have gc := hcl 0 hlen
        rw [hd0.out, Nat.add_zero] at gc
        have hne0 : ((1 : Int) == 0) = false := rfl
        clear hx2 hcl hlen
        rw [HL1.out]
        go_wp2_with fail
        refine Calls.mono (HC.out _ _ _ G1.out (by have := G2.out; rw [HL1.out] at this; exact this)) ?_; rintro e w' ⟨rfl, nd, rfl⟩
        go_wp2_with fail
        refine Calls.mono (byDigit_c _ _ (val W l2) _ (G1.out.drawn nd) (by omega) HP.out HDW.out) ?_; rintro e w' ⟨v3, v4, rfl, h3, h4, hb⟩
        have H3 := Lib.hid h3; have H4 := Lib.hid h4; have HB := Lib.hid hb; clear h3 h4 hb
        go_wp2_with fail
        go_ret2
        refine ⟨_, _, rfl, ?_, ?_, (bel_drewN w nd _).trans HB.out⟩
        · have := H3.out; rw [E1.out] at this; exact this
        · have := H4.out; rw [E1.out] at this; rw [HRM.out]; exact this
      · rw [HRM.out]
        exact knuth_c v1 v2 l1 l2 w h1 h2 hs1 hs2 (by omega) (by omega)

set_option maxHeartbeats 1000000 in
theorem gcd_c (v1 v2 : Value) (l1 l2 : List Nat) (w : World) (h1 : Wd w v1 l1) (h2 : Wd w v2 l2) (hs1 : l1.length ≤ 20000) (hs2 : l2.length ≤ 20000) :
    Calls Try.prog 134 #[v1, v2] w fun e w' => ∃ v, e = .returned v ∧ OwnW w.heap.size w' v (digs W (Nat.gcd (val W l1) (val W l2))) ∧ Below w.heap.size w w' := by
  have H1 := Lib.hid h1; have H2 := Lib.hid h2
  have hle1 := length_digs_val W_two h1.dig
  have hle2 := length_digs_val W_two h2.dig
  clear h1 h2
  go_enter Try.func134, Try.ntmps134
  go_wp2_with fail
  refine Calls.mono (trimmed_v _ _ _ H1.out) ?_; rintro e w' ⟨t1, rfl, g1, rfl⟩
  have G1 := Lib.hid g1; clear g1
  go_wp2_with fail
  refine Calls.mono (trimmed_v _ _ _ H2.out) ?_; rintro e w' ⟨t2, rfl, g2, rfl⟩
  have G2 := Lib.hid g2; clear g2
  go_wp2_with fail
  go_loopg [0, 1] (val W l2) (fun k va vb wr => ∃ x y : Nat, k = y ∧ Wd wr va (digs W x) ∧ Wd wr vb (digs W y) ∧ (digs W x).length ≤ 20000 ∧ (digs W y).length ≤ 20000 ∧ Hid (Nat.gcd x y = Nat.gcd (val W l1) (val W l2)) ∧ Below w.heap.size w wr)
  case atStart => exact ⟨val W l1, val W l2, rfl, G1.out, G2.out, by omega, by omega, rfl, Below.refl _ _⟩
  case round =>
    obtain ⟨x, y, hk, hA, hB, hx, hy, hg, hbel⟩ := hrel
    have HK := Lib.hid hk; have HA := Lib.hid hA; have HBB := Lib.hid hB; have HBE := Lib.hid hbel
    clear hk hA hbel
    obtain ⟨b, cb, rfl, hxb⟩ := hB
    clear hxb
    by_cases hy0 : 0 < (digs W y).length
    · have hyp : Hid (0 < y) := Lib.hid (by
        rcases Nat.eq_zero_or_pos y with h | h
        · subst h; rw [digs_zero] at hy0; simp at hy0
        · exact h)
      go_wp2_with fail
      refine Calls.mono (divmod_c _ _ _ _ _ HA.out HBB.out hx hy) ?_; rintro e w' ⟨v3, v4, rfl, h3, h4, hb⟩
      rw [val_digs W_two, val_digs W_two] at h4
      have hrem : remN x y = x % y := by unfold remN; rw [if_neg (by have := hyp.out; omega)]
      rw [hrem] at h4
      have H4 := Lib.hid h4.ls; have HB4 := Lib.hid hb
      have hlt := Nat.mod_lt x hyp.out
      have HLT := Lib.hid hlt
      have hl4 : (digs W (x % y)).length ≤ 20000 := by
        have h5 := lt_pow_length W_two y
        have := length_digs_le (n := x % y) W_two (Nat.lt_trans hlt h5)
        omega
      have HG' : Hid (Nat.gcd y (x % y) = Nat.gcd (val W l1) (val W l2)) := Lib.hid (by rw [← hg.out, Nat.gcd_comm x y, Nat.gcd_rec y x, Nat.gcd_comm])
      clear h3 h4 hb hrem hlt
      go_wp2_with fail
      go_roundg (x % y)
      case measure => have := HK.out; have := HLT.out; omega
      case rel => exact ⟨y, x % y, rfl, HBB.out.below HB4.out, H4.out, hy, hl4, HG', HBE.out.trans (HB4.out.mono HBE.out.size)⟩
    · have hyz : Hid (y = 0) := Lib.hid ((length_digs_zero W_two).1 (by omega))
      go_wp2_with fail
      refine Calls.mono (clone_v _ _ _ HA.out (by omega)) ?_; rintro e w' ⟨v3, rfl, h3, hb⟩
      have H3 := Lib.hid h3; have HB3 := Lib.hid hb; clear h3 hb
      go_wp2_with fail
      go_ret
      refine ⟨_, rfl, ?_, HBE.out.trans (HB3.out.mono HBE.out.size)⟩
      have := hg.out
      rw [hyz.out, Nat.gcd_zero_right] at this
      rw [← this]; exact H3.out.mono HBE.out.size

end Go.Proofs.Ytkbhchlecokpiaa

/-! ## Bitlen: limbs.Bits by its contract: how many bits. -/
set_option linter.unusedVariables false
set_option linter.unusedSimpArgs false
namespace Tw
/-- how many bits a number has -/
def bitsN (n : Nat) : Nat := if n = 0 then 0 else n.log2 + 1
theorem bitsN_zero : bitsN 0 = 0 := rfl
theorem bitsN_eq {n k : Nat} (h1 : 1 ≤ k) (h2 : 2 ^ (k - 1) ≤ n) (h3 : n < 2 ^ k) : bitsN n = k := by
  have hn : n ≠ 0 := by have := Nat.two_pow_pos (k - 1); omega
  unfold bitsN
  rw [if_neg hn]
  have := (Nat.log2_eq_iff hn (k := k - 1)).2 ⟨h2, by rw [show k - 1 + 1 = k by omega]; exact h3⟩
  omega
theorem bitsN_lt (n : Nat) : n < 2 ^ bitsN n := by
  unfold bitsN
  split
  · subst_vars; simp
  · exact Nat.lt_log2_self
theorem bitsN_ge {n : Nat} (h : n ≠ 0) : 1 ≤ bitsN n ∧ 2 ^ (bitsN n - 1) ≤ n := by
  unfold bitsN
  rw [if_neg h]
  exact ⟨by omega, by simpa using Nat.log2_self_le h⟩
theorem bitsN_pow (k : Nat) : bitsN (2 ^ k) = k + 1 := bitsN_eq (by omega) (by simp) (Nat.pow_lt_pow_right (by omega) (by omega))
theorem bitsN_pos {n : Nat} : bitsN n = 0 ↔ n = 0 := by
  constructor
  · intro h
    rcases Nat.eq_zero_or_pos n with h0 | h0
    · exact h0
    · have := (bitsN_ge (n := n) (by omega)).1; omega
  · rintro rfl; rfl
end Tw
namespace Go.Proofs.Ytkbhchlecokpiaa
open Go Go.RowKit Tw
set_option linter.unusedVariables false
set_option linter.unusedSimpArgs false

theorem bits_c (v1 : Value) (l1 : List Nat) (w : World) (h1 : Wd w v1 l1) (hs1 : l1.length ≤ 60000) :
    Calls Try.prog 110 #[v1] w fun e w' => e = .returned (.int .i64 ((bitsN (val W l1) : Nat) : Int)) ∧ w = w' := by
  have H1 := Lib.hid h1
  have hle1 := length_digs_val W_two h1.dig
  have E1 := Lib.hid (val_digs W_two (val W l1))
  have T1 := Lib.hid (top_digs W_two (val W l1))
  clear h1
  by_cases hz : digs W (val W l1) = []
  · have h0 := (length_digs_zero (n := val W l1) W_two).1 (by rw [hz]; rfl)
    have HR := Lib.hid (show bitsN (val W l1) = 0 by rw [h0]; rfl)
    clear h0
    go_enter Try.func110, Try.ntmps110
    go_wp2_with fail
    refine Calls.mono (trimmed_v _ _ _ H1.out) ?_; rintro e w' ⟨t1, rfl, g1, rfl⟩
    rw [hz] at g1
    obtain ⟨a1, c1, rfl, hx1⟩ := g1
    clear hx1 hz
    go_wp2_with fail
    go_ret
    exact ⟨ret_int (by rw [HR.out]; rfl), rfl⟩
  · have hlen : 0 < (digs W (val W l1)).length := List.length_pos_iff.2 hz
    clear hz
    go_enter Try.func110, Try.ntmps110
    go_wp2_with fail
    refine Calls.mono (trimmed_v _ _ _ H1.out) ?_; rintro e w' ⟨t1, rfl, g1, rfl⟩
    clear H1
    generalize digs W (val W l1) = d1 at *
    obtain ⟨a1, c1, rfl, hx1⟩ := g1
    obtain ⟨b, o, rfl, hcl⟩ := hx1.2.2.2 (List.length_pos_iff.1 hlen)
    obtain ⟨n, hn⟩ : ∃ n, n = d1.length := ⟨_, rfl⟩
    have g1 := hcl (n - 1) (by omega)
    have hd := Lib.hid hx1.2.2.1
    have htW := Lib.hid (nth_dig hx1.2.2.1 (show n - 1 < d1.length by omega))
    have ht : 0 < nth d1 (n - 1) := by
      rcases T1.out with h | h
      · rw [h] at hlen; simp at hlen
      · rw [← hn] at h; omega
    rw [← hn] at hlen hle1 ⊢
    have HN := Lib.hid hn
    have hne0 : ((n : Int) == 0) = false := by rw [beq_eq_false_iff_ne]; omega
    obtain ⟨hb1, hb2, hb3, hb4⟩ := bitLen_bounds ht htW.out
    have hres : Hid (bitsN (val W l1) = 64 * (n - 1) + Lib.bitLen (nth d1 (n - 1))) := Lib.hid (by
      have hsp := val_split W d1 (n - 1) (by omega)
      rw [val_drop W (by omega), List.drop_of_length_le (by omega), val_nil, Nat.mul_zero, Nat.add_zero, E1.out] at hsp
      have hlo := val_lt (hd.out.take (n - 1))
      rw [List.length_take, Nat.min_eq_left (by omega)] at hlo
      have hp : W ^ (n - 1) = 2 ^ (64 * (n - 1)) := W_powk _
      refine bitsN_eq (by omega) ?_ ?_
      · have h1 := Nat.mul_le_mul_left (W ^ (n - 1)) hb2
        rw [show 64 * (n - 1) + Lib.bitLen (nth d1 (n - 1)) - 1 = 64 * (n - 1) + (Lib.bitLen (nth d1 (n - 1)) - 1) by omega, Nat.pow_add, ← hp]
        omega
      · have h1 : W ^ (n - 1) * (nth d1 (n - 1) + 1) ≤ W ^ (n - 1) * 2 ^ Lib.bitLen (nth d1 (n - 1)) := Nat.mul_le_mul_left _ hb3
        rw [Nat.pow_add, ← hp]
        rw [Nat.mul_add, Nat.mul_one] at h1; omega)
    clear hx1 hcl hn ht hb1 hb2 hb3
    go_wp2_with fail
    refine Calls.mono (len64_c _ _ htW.out) ?_; rintro e w' ⟨rfl, rfl⟩
    generalize Lib.bitLen (nth d1 (n - 1)) = bl at *
    go_wp2_with fail
    go_ret
    refine ⟨?_, rfl⟩
    rw [hres.out]
    refine ret_int ?_
    show (64 * ((n : Int) - 1) + (bl : Int)) = _
    omega

end Go.Proofs.Ytkbhchlecokpiaa

/-! ## N: The contracts of package limbs over numbers: what a value counts, and how many digits it has at most. -/
set_option linter.unusedVariables false
set_option linter.unusedSimpArgs false
namespace Tw
open Go Go.RowKit
set_option linter.unusedVariables false
set_option linter.unusedSimpArgs false

/-- v reads as digits that count X, k of them at most -/
def Nv (w : World) (v : Value) (X k : Nat) : Prop := ∃ l, Wd w v l ∧ val W l = X ∧ l.length ≤ k
/-- v reads as the one form of X, of k digits at most -/
def Nc (w : World) (v : Value) (X k : Nat) : Prop := Wd w v (digs W X) ∧ (digs W X).length ≤ k

theorem Nc.nv {w : World} {v : Value} {X k : Nat} (h : Nc w v X k) : Nv w v X k := ⟨_, h.1, val_digs W_two X, h.2⟩
theorem Nv.below {w w' : World} {v : Value} {X k : Nat} (h : Nv w v X k) (hb : Below w.heap.size w w') : Nv w' v X k := by
  obtain ⟨l, h1, h2, h3⟩ := h
  exact ⟨l, h1.below hb, h2, h3⟩
theorem Nc.below {w w' : World} {v : Value} {X k : Nat} (h : Nc w v X k) (hb : Below w.heap.size w w') : Nc w' v X k := ⟨h.1.below hb, h.2⟩
theorem Nv.mono {w : World} {v : Value} {X k k' : Nat} (h : Nv w v X k) (hk : k ≤ k') : Nv w v X k' := by
  obtain ⟨l, h1, h2, h3⟩ := h
  exact ⟨l, h1, h2, by omega⟩
theorem Nv.lt {w : World} {v : Value} {X k : Nat} (h : Nv w v X k) : X < W ^ k := by
  obtain ⟨l, h1, h2, h3⟩ := h
  rw [← h2]
  exact Nat.lt_of_lt_of_le (val_lt h1.dig) (Nat.pow_le_pow_right W_pos h3)
theorem Nc.of {w : World} {v : Value} {X k : Nat} (h : Wd w v (digs W X)) (hk : X < W ^ k) : Nc w v X k := ⟨h, length_digs_le W_two hk⟩
theorem Nc.eq {w : World} {v : Value} {X Y k : Nat} (h : Nc w v X k) (e : X = Y) : Nc w v Y k := e ▸ h
theorem Nv.eq {w : World} {v : Value} {X Y k : Nat} (h : Nv w v X k) (e : X = Y) : Nv w v Y k := e ▸ h
/-- the value's shape: its length is 0 just where X is 0 -/
theorem Nc.shape {w : World} {v : Value} {X k : Nat} (h : Nc w v X k) : ∃ a c n, v = .slice a n c ∧ n = (digs W X).length ∧ n ≤ k := by
  obtain ⟨⟨a, c, rfl, _⟩, h2⟩ := h
  exact ⟨a, c, _, rfl, rfl, h2⟩

theorem bel_al {w X : World} (h : Below w.heap.size w X) (o : Obj) : Below w.heap.size w (X.alloc o) := h.alloc h.size o
theorem bel_trans {w X Y : World} (h1 : Below w.heap.size w X) (h2 : Below X.heap.size X Y) : Below w.heap.size w Y := h1.trans (h2.mono h1.size)
theorem heap_al (w : World) (o : Obj) : (w.alloc o).heap = w.heap.push o := rfl
theorem heap_dn (w : World) (n : Nat) : (w.drewN n).heap = w.heap := rfl

/-- a literal list -/
theorem lit_wd {w : World} {b n : Nat} {e : TypeId} (l : List Nat) (hb : w.heap[b]? = some (.cells (enc .u64 l).toArray e (0, 0))) (hn : n = l.length) (hm : n ≤ maxLen) (hd : Dig W l) : Wd w (.slice (some ⟨b, 0, none⟩) n n) l := by
  subst hn
  refine ⟨_, _, rfl, Nat.le_refl _, hm, hd, fun _ => ⟨b, 0, rfl, fun i hi => ?_⟩⟩
  rw [Nat.zero_add, cell_of_row w b i _ e (0, 0) hb, List.getElem?_toArray, enc_get hi]

theorem digs_is {l : List Nat} (hd : Dig W l) (ht : Top l) : digs W (val W l) = l := digs_val W_two hd ht

theorem lit_nv {w : World} {b n : Nat} {e : TypeId} (l : List Nat) (X : Nat) (hb : w.heap[b]? = some (.cells (enc .u64 l).toArray e (0, 0))) (hn : n = l.length) (hm : n ≤ 1000) (hd : l.all (fun x => decide (x < W)) = true) (hX : val W l = X) :
    Nv w (.slice (some ⟨b, 0, none⟩) n n) X n :=
  ⟨l, lit_wd l hb hn (by unfold maxLen; omega) (fun x hx => by have := List.all_eq_true.1 hd x hx; simpa using this), hX, by omega⟩

theorem lit_nc {w : World} {b n : Nat} {e : TypeId} (l : List Nat) (X : Nat) (hb : w.heap[b]? = some (.cells (enc .u64 l).toArray e (0, 0))) (hn : n = l.length) (hm : n ≤ 1000) (hd : l.all (fun x => decide (x < W)) = true) (ht : (l.isEmpty || nth l (l.length - 1) != 0) = true) (hX : val W l = X) :
    Nc w (.slice (some ⟨b, 0, none⟩) n n) X n := by
  have hd' : Dig W l := fun x hx => by have := List.all_eq_true.1 hd x hx; simpa using this
  have htop : Top l := by
    simp only [Bool.or_eq_true, List.isEmpty_iff, bne_iff_ne] at ht
    exact ht
  have e1 : digs W X = l := by rw [← hX]; exact digs_is hd' htop
  exact ⟨by rw [e1]; exact lit_wd l hb hn (by unfold maxLen; omega) hd', by rw [e1]; omega⟩

/-- what a call that only makes new things leaves -/
def Ret (w : World) (p : Value → World → Prop) (e : Ending) (w' : World) : Prop := ∃ v, e = .returned v ∧ p v w' ∧ Below w.heap.size w w'
def Ret2 (w : World) (p : Value → Value → World → Prop) (e : Ending) (w' : World) : Prop := ∃ v1 v2, e = .returned (.tuple #[v1, v2]) ∧ p v1 v2 w' ∧ Below w.heap.size w w'
def RetIs (w : World) (v : Value) (e : Ending) (w' : World) : Prop := e = .returned v ∧ Below w.heap.size w w'
end Tw
namespace Go.Proofs.Ytkbhchlecokpiaa
open Go Go.RowKit Tw
set_option linter.unusedVariables false
set_option linter.unusedSimpArgs false

theorem own_nc {base : Nat} {w : World} {v : Value} {X k : Nat} (h : OwnW base w v (digs W X)) (hk : X < W ^ k) : Nc w v X k := Nc.of h.ls hk

theorem trim_n (v : Value) (X k : Nat) (w : World) (h : Nv w v X k) (hk : k ≤ 60000) :
    Calls Try.prog 131 #[v] w (Ret w fun v w' => Nc w' v X k) := by
  have hl := h.lt
  obtain ⟨l, h1, rfl, h3⟩ := h
  refine (trim_c v l w h1 (by omega)).mono ?_
  rintro e w' ⟨v', rfl, h4, h5⟩
  exact ⟨v', rfl, own_nc h4 hl, h5⟩

theorem add_n (v1 v2 : Value) (X Y k1 k2 k : Nat) (w : World) (h1 : Nv w v1 X k1) (h2 : Nv w v2 Y k2) (hk1 : k1 < k) (hk2 : k2 < k) (hk : k ≤ 60000) :
    Calls Try.prog 112 #[v1, v2] w (Ret w fun v w' => Nc w' v (X + Y) k) := by
  have a1 := h1.lt; have a2 := h2.lt
  obtain ⟨l1, g1, rfl, i1⟩ := h1
  obtain ⟨l2, g2, rfl, i2⟩ := h2
  refine (add_c v1 v2 l1 l2 w g1 g2 (by omega) (by omega)).mono ?_
  rintro e w' ⟨v', rfl, h4, h5⟩
  refine ⟨v', rfl, own_nc h4 ?_, h5⟩
  have b1 : W ^ k1 ≤ W ^ (k - 1) := Nat.pow_le_pow_right W_pos (by omega)
  have b2 : W ^ k2 ≤ W ^ (k - 1) := Nat.pow_le_pow_right W_pos (by omega)
  have b3 : 2 * W ^ (k - 1) ≤ W ^ k := by
    rw [show k = k - 1 + 1 by omega, Nat.pow_succ, Nat.mul_comm]
    simp only [Nat.add_sub_cancel]
    exact Nat.mul_le_mul_left _ W_two
  omega

theorem sub_n (v1 v2 : Value) (X Y k1 k2 : Nat) (w : World) (h1 : Nv w v1 X k1) (h2 : Nv w v2 Y k2) (hk1 : k1 ≤ 60000) (hk2 : k2 ≤ 60000) :
    Calls Try.prog 114 #[v1, v2] w (Ret w fun v w' => Nc w' v (X - Y) k1) := by
  have a1 := h1.lt
  obtain ⟨l1, g1, rfl, i1⟩ := h1
  obtain ⟨l2, g2, rfl, i2⟩ := h2
  refine (sub_c v1 v2 l1 l2 w g1 g2 (by omega) (by omega)).mono ?_
  rintro e w' ⟨v', rfl, h4, h5⟩
  exact ⟨v', rfl, own_nc h4 (Nat.lt_of_le_of_lt (Nat.sub_le _ _) a1), h5⟩

theorem mul_n (v1 v2 : Value) (X Y k1 k2 : Nat) (w : World) (h1 : Nv w v1 X k1) (h2 : Nv w v2 Y k2) (hk1 : k1 ≤ 30000) (hk2 : k2 ≤ 30000) :
    Calls Try.prog 141 #[v1, v2] w (Ret w fun v w' => Nc w' v (X * Y) (k1 + k2)) := by
  have a1 := h1.lt; have a2 := h2.lt
  obtain ⟨l1, g1, rfl, i1⟩ := h1
  obtain ⟨l2, g2, rfl, i2⟩ := h2
  refine (mul_c v1 v2 l1 l2 w g1 g2 (by omega) (by omega)).mono ?_
  rintro e w' ⟨v', rfl, h4, h5⟩
  refine ⟨v', rfl, own_nc h4 ?_, h5⟩
  rw [Nat.pow_add]; exact Nat.mul_lt_mul'' a1 a2

theorem divmod_n (v1 v2 : Value) (X Y k1 k2 : Nat) (w : World) (h1 : Nv w v1 X k1) (h2 : Nv w v2 Y k2) (hk1 : k1 ≤ 20000) (hk2 : k2 ≤ 20000) :
    Calls Try.prog 132 #[v1, v2] w (Ret2 w fun v1 v2 w' => Nc w' v1 (X / Y) k1 ∧ Nc w' v2 (remN X Y) k2) := by
  have a1 := h1.lt; have a2 := h2.lt
  obtain ⟨l1, g1, rfl, i1⟩ := h1
  obtain ⟨l2, g2, rfl, i2⟩ := h2
  refine (divmod_c v1 v2 l1 l2 w g1 g2 (by omega) (by omega)).mono ?_
  rintro e w' ⟨v3, v4, rfl, h4, h5, h6⟩
  refine ⟨v3, v4, rfl, ⟨own_nc h4 (Nat.lt_of_le_of_lt (Nat.div_le_self _ _) a1), own_nc h5 ?_⟩, h6⟩
  unfold remN
  split
  · exact Nat.pow_pos W_pos
  · exact Nat.lt_trans (Nat.mod_lt _ (by omega)) a2

theorem gcd_n (v1 v2 : Value) (X Y k1 k2 k : Nat) (w : World) (h1 : Nv w v1 X k1) (h2 : Nv w v2 Y k2) (hk1 : k1 ≤ k) (hk2 : k2 ≤ k) (hk : k ≤ 20000) :
    Calls Try.prog 134 #[v1, v2] w (Ret w fun v w' => Nc w' v (Nat.gcd X Y) k) := by
  have a1 := h1.lt; have a2 := h2.lt
  obtain ⟨l1, g1, rfl, i1⟩ := h1
  obtain ⟨l2, g2, rfl, i2⟩ := h2
  refine (gcd_c v1 v2 l1 l2 w g1 g2 (by omega) (by omega)).mono ?_
  rintro e w' ⟨v', rfl, h4, h5⟩
  refine ⟨v', rfl, own_nc h4 ?_, h5⟩
  have b1 : W ^ k1 ≤ W ^ k := Nat.pow_le_pow_right W_pos hk1
  have b2 : W ^ k2 ≤ W ^ k := Nat.pow_le_pow_right W_pos hk2
  rcases Nat.eq_zero_or_pos (val W l1) with h | h
  · rw [h, Nat.gcd_zero_left]; omega
  · exact Nat.lt_of_le_of_lt (Nat.gcd_le_left _ h) (by omega)

theorem cmp_n (v1 v2 : Value) (X Y k1 k2 : Nat) (w : World) (h1 : Nv w v1 X k1) (h2 : Nv w v2 Y k2) :
    Calls Try.prog 113 #[v1, v2] w (RetIs w (.int .i64 (cmpN X Y))) := by
  obtain ⟨l1, g1, rfl, i1⟩ := h1
  obtain ⟨l2, g2, rfl, i2⟩ := h2
  refine (cmp_c v1 v2 l1 l2 w g1 g2).mono ?_
  rintro e w' ⟨rfl, n, rfl⟩
  exact ⟨rfl, bel_drewN _ _ _⟩

theorem cmp_v (v1 v2 : Value) (X Y k1 k2 : Nat) (c : Int) (w : World) (h1 : Nv w v1 X k1) (h2 : Nv w v2 Y k2) (hc : cmpN X Y = c) :
    Calls Try.prog 113 #[v1, v2] w (RetIs w (.int .i64 c)) := by
  subst hc; exact cmp_n v1 v2 X Y k1 k2 w h1 h2

theorem cmp_lo {X Y : Nat} (h : X < Y) : cmpN X Y = -1 := cmpN_lt h
theorem cmp_ge {X Y : Nat} (h : Y ≤ X) : ∃ c : Int, cmpN X Y = c ∧ 0 ≤ c := by
  refine ⟨_, rfl, ?_⟩
  unfold cmpN; rw [if_neg (by omega)]; split <;> omega

theorem bits_n (v1 : Value) (X k1 : Nat) (w : World) (h1 : Nv w v1 X k1) (hk : k1 ≤ 60000) :
    Calls Try.prog 110 #[v1] w (RetIs w (.int .i64 ((bitsN X : Nat) : Int))) := by
  obtain ⟨l1, g1, rfl, i1⟩ := h1
  refine (bits_c v1 l1 w g1 (by omega)).mono ?_
  rintro e w' ⟨rfl, rfl⟩
  exact ⟨rfl, Below.refl _ _⟩

theorem bits_v (v1 : Value) (X k1 m : Nat) (w : World) (h1 : Nv w v1 X k1) (hk : k1 ≤ 60000) (hm : bitsN X = m) :
    Calls Try.prog 110 #[v1] w (RetIs w (.int .i64 ((m : Nat) : Int))) := by
  subst hm; exact bits_n v1 X k1 w h1 hk

theorem remN_pos {X Y : Nat} (h : Y ≠ 0) : remN X Y = X % Y := if_neg h

theorem bitsN_le {X k : Nat} (h : X < W ^ k) : bitsN X ≤ 64 * k := by
  rcases Nat.eq_zero_or_pos X with h0 | h0
  · rw [h0]; exact Nat.zero_le _
  · have h1 := bitsN_ge (n := X) (by omega)
    rw [W_powk] at h
    have h2 : 2 ^ (bitsN X - 1) < 2 ^ (64 * k) := Nat.lt_of_le_of_lt h1.2 h
    have := (Nat.pow_lt_pow_iff_right (by omega)).1 h2
    omega

theorem shl_n (v1 : Value) (X k1 s k : Nat) (w : World) (h1 : Nv w v1 X k1) (hk1 : k1 ≤ 20000) (hs : s ≤ 1048576) (hk : 64 * k1 + s ≤ 64 * k) :
    Calls Try.prog 162 #[v1, .int .i64 s] w (Ret w fun v w' => Nc w' v (X * 2 ^ s) k) := by
  have a1 := h1.lt
  obtain ⟨l1, g1, rfl, i1⟩ := h1
  refine (shl_c v1 l1 s w g1 (by omega) hs).mono ?_
  rintro e w' ⟨v', rfl, h4, h5⟩
  refine ⟨v', rfl, own_nc h4 ?_, h5⟩
  rw [W_powk] at a1 ⊢
  have h6 := Nat.mul_lt_mul_of_pos_right a1 (Nat.two_pow_pos s)
  rw [← Nat.pow_add] at h6
  exact Nat.lt_of_lt_of_le h6 (Nat.pow_le_pow_right (by omega) hk)

theorem shr_n (v1 : Value) (X k1 s : Nat) (w : World) (h1 : Nv w v1 X k1) (hk1 : k1 ≤ 60000) (hs : s ≤ 9223372036854775807) :
    Calls Try.prog 166 #[v1, .int .i64 s] w (Ret w fun v w' => Nc w' v (X / 2 ^ s) k1) := by
  have a1 := h1.lt
  obtain ⟨l1, g1, rfl, i1⟩ := h1
  refine (shr_c v1 l1 s w g1 (by omega) hs).mono ?_
  rintro e w' ⟨v', rfl, h4, h5⟩
  exact ⟨v', rfl, own_nc h4 (Nat.lt_of_le_of_lt (Nat.div_le_self _ _) a1), h5⟩

theorem same_n (v1 v2 : Value) (X Y k1 k2 : Nat) (w : World) (h1 : Nc w v1 X k1) (h2 : Nc w v2 Y k2) (e : X = Y) :
    Calls Try.prog 124 #[v1, v2] w (RetIs w (.bool true)) := by
  subst e
  refine (same_c v1 v2 _ w h1.1 h2.1).mono ?_
  rintro e w' ⟨rfl, n, rfl⟩
  exact ⟨rfl, bel_drewN _ _ _⟩

end Go.Proofs.Ytkbhchlecokpiaa
