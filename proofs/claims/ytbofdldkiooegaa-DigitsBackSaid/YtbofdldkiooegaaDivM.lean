/- limbs.DivMod by its contract: quotient and rest. -/
import Derived.Test.YtbofdldkiooegaaGuess
import Derived.Test.YtbofdldkiooegaaGive
import Derived.Test.YtbofdldkiooegaaByDigit
import Derived.Test.YtbofdldkiooegaaCmp
import Derived.Test.YtbofdldkiooegaaShr
namespace Tw
/-- the rest; 0 by 0 -/
def remN (m n : Nat) : Nat := if n = 0 then 0 else m % n

theorem norm_len {d : List Nat} {m n s bl : Nat} (hd : Dig W d) (hn : d.length = n) (hm : m = val W d) (h1 : 1 ≤ n) (ht : nth d (n - 1) < 2 ^ bl) (h0 : 0 < nth d (n - 1)) (hbl : bl ≤ 64) (hs : s = 64 - bl) :
    m * 2 ^ s < W ^ n ∧ (digs W (m * 2 ^ s)).length = n ∧ W ^ (n - 1) ≤ m := by
  have hsp := val_split W d (n - 1) (by omega)
  rw [val_drop W (by omega), List.drop_of_length_le (by omega), val_nil, Nat.mul_zero, Nat.add_zero, ← hm] at hsp
  have hlo := val_lt (hd.take (n - 1))
  rw [List.length_take, Nat.min_eq_left (by omega)] at hlo
  have hm1 : m < W ^ (n - 1) * 2 ^ bl := by
    have : W ^ (n - 1) * (nth d (n - 1) + 1) ≤ W ^ (n - 1) * 2 ^ bl := Nat.mul_le_mul_left _ ht
    rw [Nat.mul_add, Nat.mul_one] at this; omega
  have hlt : m * 2 ^ s < W ^ n := by
    have h2 : m * 2 ^ s < W ^ (n - 1) * 2 ^ bl * 2 ^ s := Nat.mul_lt_mul_of_pos_right hm1 (Nat.two_pow_pos s)
    have h3 : W ^ (n - 1) * 2 ^ bl * 2 ^ s = W ^ n := by
      rw [Nat.mul_assoc, ← Nat.pow_add, show bl + s = 64 by omega]
      show W ^ (n - 1) * W = W ^ n
      rw [← Nat.pow_succ]; congr 1; omega
    omega
  have hge : W ^ (n - 1) ≤ m := by
    have := Nat.mul_le_mul_left (W ^ (n - 1)) h0
    omega
  refine ⟨hlt, ?_, hge⟩
  have h4 := length_digs_le W_two hlt
  have h5 := lt_pow_length W_two (m * 2 ^ s)
  have h6 : m ≤ m * 2 ^ s := Nat.le_mul_of_pos_right m (Nat.two_pow_pos s)
  have h7 : W ^ (n - 1) < W ^ (digs W (m * 2 ^ s)).length := by omega
  have h8 : n - 1 < (digs W (m * 2 ^ s)).length := (Nat.pow_lt_pow_iff_right W_two).1 h7
  omega

/-- the window of n + 1 digits at place j, when all above it is 0 -/
theorem window {U : List Nat} {j n V : Nat} (hd : Dig W U) (hV : V < W ^ n) (hlt : val W U < V * W ^ (j + 1)) :
    val W U = vr U 0 j + W ^ j * vr U j (n + 1) ∧ vr U j (n + 1) < W * V ∧ ∀ t, j + n < t → nth U t = 0 := by
  have hz : ∀ t, j + n < t → nth U t = 0 := by
    intro t ht
    rcases Nat.lt_or_ge t U.length with hl | hl
    · rcases Nat.eq_zero_or_pos (nth U t) with h | h
      · exact h
      · have h1 := val_split W U t (by omega)
        rw [val_drop W hl] at h1
        have h2 : W ^ t ≤ val W U := by
          have h3 : W ^ t * 1 ≤ W ^ t * (nth U t + W * val W (U.drop (t + 1))) := Nat.mul_le_mul_left _ (by omega)
          omega
        have h3 : V * W ^ (j + 1) ≤ W ^ n * W ^ (j + 1) := Nat.mul_le_mul_right _ (by omega)
        rw [← Nat.pow_add] at h3
        have h4 : W ^ (n + (j + 1)) ≤ W ^ t := Nat.pow_le_pow_right W_pos (by omega)
        omega
    · exact nth_ge hl
  have hv : val W U = vr U 0 (j + (n + 1)) := by
    unfold vr
    rw [List.drop_zero]
    have := val_take_zero (b := W) (l := U) (n := j + (n + 1)) (fun t ht => hz t (by omega))
    exact this
  have hsplit : ∀ i, vr U 0 (j + i) = vr U 0 j + W ^ j * vr U j i := by
    intro i
    induction i with
    | zero => simp [vr_zero]
    | succ i ih =>
      rw [← Nat.add_assoc, vr_step, ih, vr_step, Nat.zero_add, Nat.mul_add, Nat.pow_add, Nat.mul_assoc]; omega
  have he : val W U = vr U 0 j + W ^ j * vr U j (n + 1) := by rw [hv, hsplit]
  refine ⟨he, ?_, hz⟩
  have h1 : W ^ j * vr U j (n + 1) < W ^ j * (W * V) := by
    rw [Nat.pow_succ, Nat.mul_comm V, Nat.mul_assoc] at hlt
    omega
  exact Nat.lt_of_mul_lt_mul_left h1

/-- the digits on top of a window -/
theorem window_top {U : List Nat} {j n : Nat} (h2 : 2 ≤ n) :
    vr U j (n + 1) = ((nth U (j + n) * W + nth U (j + n - 1)) * W + nth U (j + n - 2)) * W ^ (n - 2) + vr U j (n - 2) := by
  obtain ⟨k, rfl⟩ : ∃ k, n = k + 2 := ⟨n - 2, by omega⟩
  rw [show k + 2 + 1 = k + 1 + 1 + 1 by omega, vr_step, vr_step, vr_step]
  rw [show j + (k + 2) = j + (k + 1 + 1) by omega, show j + (k + 1 + 1) - 1 = j + (k + 1) by omega, show j + (k + 1 + 1) - 2 = j + k by omega, show k + 2 - 2 = k by omega]
  simp only [Nat.pow_succ, Nat.add_mul]
  rw [Nat.mul_comm (W ^ k) (nth U (j + k)), Nat.mul_comm (W ^ k * W) _, Nat.mul_comm (W ^ k * W * W) _]
  rw [Nat.mul_assoc (nth U (j + (k + 1))) W, Nat.mul_comm W (W ^ k), Nat.mul_assoc (nth U (j + (k + 1 + 1)) * W), Nat.mul_assoc (nth U (j + (k + 1 + 1))) W, Nat.mul_left_comm W, Nat.mul_comm W (W ^ k), Nat.mul_comm W (W ^ k * W)]
  omega
theorem two_top {V : List Nat} {n : Nat} (h2 : 2 ≤ n) (hl : V.length = n) :
    val W V = (nth V (n - 1) * W + nth V (n - 2)) * W ^ (n - 2) + val W (V.take (n - 2)) := by
  obtain ⟨k, rfl⟩ : ∃ k, n = k + 2 := ⟨n - 2, by omega⟩
  have h := val_take_step W V (k + 1)
  have h' := val_take_step W V k
  rw [h', List.take_of_length_le (i := k + 1 + 1) (by omega)] at h
  rw [show k + 2 - 1 = k + 1 by omega, show k + 2 - 2 = k by omega, h, Nat.pow_succ, Nat.add_mul, Nat.mul_comm (W ^ k) (nth V k), Nat.mul_comm (W ^ k * W), Nat.mul_assoc (nth V (k + 1)) W, Nat.mul_comm W (W ^ k)]
  omega

theorem guess_ok {U V : List Nat} {j n : Nat} (h2 : 2 ≤ n) (hdU : Dig W U) (hdV : Dig W V) (hl : V.length = n) (ht : 0 < nth V (n - 1)) (hX : vr U j (n + 1) < W * val W V) :
    nth U (j + n) ≤ nth V (n - 1) ∧
      vr U j (n + 1) / val W V ≤ guessN (nth U (j + n)) (nth U (j + n - 1)) (nth U (j + n - 2)) (nth V (n - 1)) (nth V (n - 2)) ∧
      guessN (nth U (j + n)) (nth U (j + n - 1)) (nth U (j + n - 2)) (nth V (n - 1)) (nth V (n - 2)) ≤ vr U j (n + 1) / val W V + 1 ∧
      guessN (nth U (j + n)) (nth U (j + n - 1)) (nth U (j + n - 2)) (nth V (n - 1)) (nth V (n - 2)) < W := by
  have eU := window_top (U := U) (j := j) h2
  have eV := two_top h2 hl
  have lU := vr_lt hdU j (n - 2)
  have lV := val_lt (hdV.take (n - 2))
  rw [List.length_take, Nat.min_eq_left (by omega)] at lV
  have hbW := nth_digW W_pos hdV (n - 2)
  rw [eV] at hX ⊢
  rw [eU] at hX ⊢
  generalize nth U (j + n) = u2 at *
  generalize nth U (j + n - 1) = u1 at *
  generalize nth U (j + n - 2) = u0 at *
  generalize nth V (n - 1) = b1 at *
  generalize nth V (n - 2) = b0 at *
  generalize vr U j (n - 2) = ul at *
  generalize val W (V.take (n - 2)) = vl at *
  generalize W ^ (n - 2) = P at *
  have hv : W ≤ b1 * W + b0 := by
    have := Nat.mul_le_mul_right W ht
    omega
  refine ⟨?_, ?_, ?_, ?_⟩
  · have hP : 0 < P := by omega
    have h1 : u2 * W * W * P ≤ ((u2 * W + u1) * W + u0) * P + ul := by
      have : u2 * W * W * P ≤ ((u2 * W + u1) * W + u0) * P := Nat.mul_le_mul_right _ (by rw [Nat.add_mul]; omega)
      omega
    have h3 : W * ((b1 * W + b0) * P + vl) < W * ((b1 + 1) * W * P + P) := by
      refine Nat.mul_lt_mul_of_pos_left ?_ W_pos
      have : (b1 * W + b0) * P ≤ (b1 + 1) * W * P := Nat.mul_le_mul_right _ (by rw [Nat.add_mul]; omega)
      omega
    have h3' : W * ((b1 * W + b0) * P + vl) < W * ((b1 + 1) * W * P) := by
      refine Nat.mul_lt_mul_of_pos_left ?_ W_pos
      have h5 : (b1 * W + b0 + 1) * P ≤ (b1 + 1) * W * P := Nat.mul_le_mul_right _ (by rw [Nat.add_mul]; omega)
      rw [Nat.add_mul, Nat.one_mul] at h5
      omega
    have h4 : u2 * (W * W * P) < (b1 + 1) * (W * W * P) := by
      have e1 : u2 * W * W * P = u2 * (W * W * P) := by rw [Nat.mul_assoc, Nat.mul_assoc, Nat.mul_assoc W W P]
      have e2 : W * ((b1 + 1) * W * P) = (b1 + 1) * (W * W * P) := by rw [Nat.mul_assoc (b1 + 1), Nat.mul_left_comm, ← Nat.mul_assoc W W P]
      rw [← e1, ← e2]; omega
    have := Nat.lt_of_mul_lt_mul_right h4
    omega
  · exact guess_ge lU lV (by have := W_pos; omega) hX
  · exact guess_le lU lV hv
  · exact Nat.lt_of_le_of_lt (Nat.min_le_left _ _) (by have := W_pos; omega)
end Tw
namespace Go.Proofs.Ytbofdldkiooegaa
open Go Go.RowKit Tw
set_option linter.unusedVariables false
set_option linter.unusedSimpArgs false

theorem own_only {base g : Nat} {w w' : World} {v : Value} {l : List Nat} (h : OwnW base w v l) (ho : OnlyG g w w') (hb : ∀ k, v.ownBlock = some k → k ≠ g) : OwnW base w' v l := by
  refine ⟨⟨h.1.1, ?_⟩, h.2⟩
  rcases h.1.2 with h1 | ⟨g', cap, cur, h1, h2, h3, r⟩
  · exact .inl h1
  · refine .inr ⟨g', cap, cur, h1, h2, ?_, r⟩
    have hlt : g' < w.heap.size := by
      rcases Nat.lt_or_ge g' w.heap.size with hlt | hge
      · exact hlt
      · rw [Array.getElem?_eq_none hge] at h3; simp at h3
    rw [ho.block g' hlt (by have := hb g' (by rw [h1]; rfl); simp; exact this)]; exact h3

theorem take_n (g N cap base j n c b off c2 : Nat) (U V : List Nat) (d : Nat) (w : World) (hn : n = V.length)
    (hO : OwnW base w (.slice (some ⟨g, 0, none⟩) N cap) U) (hUN : U.length = N) (hN : N ≤ 60000) (hV : CellsG .u64 w b off V) (hVd : Dig W V) (hne : b ≠ g) (hj : j + n < N) (hd : d < W) :
    Calls Try.prog 82 #[.slice (some ⟨g, j, none⟩) (n + 1) c, .slice (some ⟨b, off, none⟩) n c2, .int .u64 d] w fun e w' =>
      ∃ (U' : List Nat) (br : Nat), e = .returned (.bool (decide (br ≠ 0))) ∧ OwnW base w' (.slice (some ⟨g, 0, none⟩) N cap) U' ∧ U'.length = N ∧ br ≤ 1 ∧
        vr U' j (n + 1) + val W V * d = vr U j (n + 1) + W ^ (n + 1) * br ∧ (∀ t, t < j ∨ j + n < t → nth U' t = nth U t) ∧ OnlyG g w w' := by
  subst hn; exact take_c g N cap base j c b off c2 U V d w hO hUN hN hV hVd hne hj hd

theorem give_n (g N cap base j n c b off c2 : Nat) (U V : List Nat) (w : World) (hn : n = V.length)
    (hO : OwnW base w (.slice (some ⟨g, 0, none⟩) N cap) U) (hUN : U.length = N) (hN : N ≤ 60000) (hV : CellsG .u64 w b off V) (hVd : Dig W V) (hne : b ≠ g) (hj : j + n < N) :
    Calls Try.prog 83 #[.slice (some ⟨g, j, none⟩) (n + 1) c, .slice (some ⟨b, off, none⟩) n c2] w fun e w' =>
      ∃ (U' : List Nat) (k : Nat), e = .returned (.tuple #[]) ∧ OwnW base w' (.slice (some ⟨g, 0, none⟩) N cap) U' ∧ U'.length = N ∧
        vr U' j (n + 1) + W ^ (n + 1) * k = vr U j (n + 1) + val W V ∧ (∀ t, t < j ∨ j + n < t → nth U' t = nth U t) ∧ OnlyG g w w' := by
  subst hn; exact give_c g N cap base j c b off c2 U V w hO hUN hN hV hVd hne hj

/-- one digit of the quotient has been taken away -/
theorem digit_done {U U' Q : List Nat} {j n V T d : Nat} (hd : Dig W U) (hd' : Dig W U') (hV0 : 0 < V) (hV : V < W ^ n) (hlt : val W U < V * W ^ (j + 1)) (hjQ : j < Q.length)
    (hT : T = val W U + val W (Q.drop (j + 1)) * W ^ (j + 1) * V) (hx : vr U' j (n + 1) = vr U j (n + 1) % V) (hdd : d = vr U j (n + 1) / V) (hs : ∀ t, t < j ∨ j + n < t → nth U' t = nth U t) :
    val W U' < V * W ^ j ∧ T = val W U' + val W ((Q.set j d).drop j) * W ^ j * V := by
  obtain ⟨e1, e2, e3⟩ := window hd hV hlt
  have e0 : vr U' 0 j = vr U 0 j := vr_congr fun t _ h => hs t (by omega)
  have hv' : val W U' = vr U' 0 j + W ^ j * vr U' j (n + 1) := by
    have hz : ∀ t, j + (n + 1) ≤ t → nth U' t = 0 := fun t ht => by rw [hs t (by omega)]; exact e3 t (by omega)
    have hsplit : ∀ i, vr U' 0 (j + i) = vr U' 0 j + W ^ j * vr U' j i := by
      intro i
      induction i with
      | zero => simp [vr_zero]
      | succ i ih => rw [← Nat.add_assoc, vr_step, ih, vr_step, Nat.zero_add, Nat.mul_add, Nat.pow_add, Nat.mul_assoc]; omega
    rw [← hsplit]
    unfold vr
    rw [List.drop_zero]
    exact val_take_zero hz
  have hlo := vr_lt hd 0 j
  rw [hv', e0, hx]
  have hm := Nat.mod_lt (vr U j (n + 1)) hV0
  constructor
  · have h1 : W ^ j * (vr U j (n + 1) % V + 1) ≤ W ^ j * V := Nat.mul_le_mul_left _ hm
    rw [Nat.mul_add, Nat.mul_one] at h1
    rw [Nat.mul_comm V]; omega
  · have hdiv := Nat.div_add_mod (vr U j (n + 1)) V
    rw [hT, e1, val_drop W (l := Q.set j d) (by simpa using hjQ), nth_set_eq hjQ, List.drop_set_of_lt (by omega)]
    rw [← hdd] at hdiv
    generalize vr U j (n + 1) % V = r at *
    rw [← hdiv]
    rw [Nat.pow_succ]
    generalize val W (Q.drop (j + 1)) = z at *
    rw [Nat.add_mul d, Nat.add_mul (d * W ^ j), Nat.mul_add (W ^ j)]
    have a1 : W ^ j * (V * d) = d * W ^ j * V := by rw [Nat.mul_comm V, ← Nat.mul_assoc, Nat.mul_comm (W ^ j)]
    have a2 : z * (W ^ j * W) * V = W * z * W ^ j * V := by rw [Nat.mul_comm (W ^ j) W, ← Nat.mul_assoc, Nat.mul_comm z W]
    omega

/-- what the guess and the take-away leave -/
theorem taken {X X' V P d br : Nat} (hV : 0 < V) (hX' : X' < P) (hbr : br ≤ 1) (h : X' + V * d = X + P * br) (hlo : X / V ≤ d) (hhi : d ≤ X / V + 1) :
    (br = 0 ∧ d = X / V ∧ X' = X % V) ∨ (br = 1 ∧ d = X / V + 1 ∧ X' + V = X % V + P) := by
  have hd := Nat.div_add_mod X V
  have hm := Nat.mod_lt X hV
  rcases Nat.eq_or_lt_of_le hlo with h1 | h1
  · left
    rw [← h1] at h
    have : br = 0 := by
      rcases Nat.eq_zero_or_pos br with h0 | h0
      · exact h0
      · obtain rfl : br = 1 := by omega
        omega
    subst this
    exact ⟨rfl, h1.symm, by omega⟩
  · right
    have h2 : d = X / V + 1 := by omega
    rw [h2, Nat.mul_add, Nat.mul_one] at h
    have : br = 1 := by
      rcases Nat.eq_zero_or_pos br with h0 | h0
      · subst h0; omega
      · omega
    subst this
    exact ⟨rfl, h2, by omega⟩

theorem given {X' X'' V P R k : Nat} (hR : R < V) (hVP : V ≤ P) (hX'' : X'' < P) (h1 : X' + V = R + P) (h2 : X'' + P * k = X' + V) : X'' = R := by
  rw [h1] at h2
  rcases Nat.lt_or_ge k 1 with h | h
  · obtain rfl : k = 0 := by omega
    omega
  · rcases Nat.lt_or_ge k 2 with h' | h'
    · obtain rfl : k = 1 := by omega
      omega
    · have := Nat.mul_le_mul_left P h'
      omega

end Go.Proofs.Ytbofdldkiooegaa
