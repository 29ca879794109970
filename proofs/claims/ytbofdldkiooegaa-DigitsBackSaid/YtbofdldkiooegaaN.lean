/- The contracts of package limbs over numbers: what a value counts, and how many digits it has at most. -/
import Derived.Test.YtbofdldkiooegaaGcd
import Derived.Test.YtbofdldkiooegaaBitlen
import Derived.Test.YtbofdldkiooegaaAdd
import Derived.Test.YtbofdldkiooegaaSub
import Derived.Test.YtbofdldkiooegaaSame
namespace Tw
open Go Go.RowKit
set_option linter.unusedVariables false
set_option linter.unusedSimpArgs false

/-- v reads as digits that count X, k of them at most -/
def Nv (w : World) (v : Value) (X k : Nat) : Prop := ∃ l, Wd w v l ∧ val W l = X ∧ l.length ≤ k
/-- v reads as the one form of X, of k digits at most -/
def Nc (w : World) (v : Value) (X k : Nat) : Prop := Wd w v (digs W X) ∧ (digs W X).length ≤ k

theorem Nc.nv {w : World} {v : Value} {X k : Nat} (h : Nc w v X k) : Nv w v X k := ⟨_, h.1, val_digs W_two X, h.2⟩
theorem Nv.below {w w' : World} {v : Value} {X k : Nat} (h : Nv w v X k) (hb : Below w.heap.size w w') : Nv w' v X k := by
  obtain ⟨l, h1, h2, h3⟩ := h
  exact ⟨l, h1.below hb, h2, h3⟩
theorem Nc.below {w w' : World} {v : Value} {X k : Nat} (h : Nc w v X k) (hb : Below w.heap.size w w') : Nc w' v X k := ⟨h.1.below hb, h.2⟩
theorem Nv.mono {w : World} {v : Value} {X k k' : Nat} (h : Nv w v X k) (hk : k ≤ k') : Nv w v X k' := by
  obtain ⟨l, h1, h2, h3⟩ := h
  exact ⟨l, h1, h2, by omega⟩
theorem Nv.lt {w : World} {v : Value} {X k : Nat} (h : Nv w v X k) : X < W ^ k := by
  obtain ⟨l, h1, h2, h3⟩ := h
  rw [← h2]
  exact Nat.lt_of_lt_of_le (val_lt h1.dig) (Nat.pow_le_pow_right W_pos h3)
theorem Nc.of {w : World} {v : Value} {X k : Nat} (h : Wd w v (digs W X)) (hk : X < W ^ k) : Nc w v X k := ⟨h, length_digs_le W_two hk⟩
theorem Nc.eq {w : World} {v : Value} {X Y k : Nat} (h : Nc w v X k) (e : X = Y) : Nc w v Y k := e ▸ h
theorem Nv.eq {w : World} {v : Value} {X Y k : Nat} (h : Nv w v X k) (e : X = Y) : Nv w v Y k := e ▸ h
/-- the value's shape: its length is 0 just where X is 0 -/
theorem Nc.shape {w : World} {v : Value} {X k : Nat} (h : Nc w v X k) : ∃ a c n, v = .slice a n c ∧ n = (digs W X).length ∧ n ≤ k := by
  obtain ⟨⟨a, c, rfl, _⟩, h2⟩ := h
  exact ⟨a, c, _, rfl, rfl, h2⟩

theorem bel_al {w X : World} (h : Below w.heap.size w X) (o : Obj) : Below w.heap.size w (X.alloc o) := h.alloc h.size o
theorem bel_trans {w X Y : World} (h1 : Below w.heap.size w X) (h2 : Below X.heap.size X Y) : Below w.heap.size w Y := h1.trans (h2.mono h1.size)
theorem heap_al (w : World) (o : Obj) : (w.alloc o).heap = w.heap.push o := rfl
theorem heap_dn (w : World) (n : Nat) : (w.drewN n).heap = w.heap := rfl

/-- a literal list -/
theorem lit_wd {w : World} {b n : Nat} {e : TypeId} (l : List Nat) (hb : w.heap[b]? = some (.cells (enc .u64 l).toArray e (0, 0))) (hn : n = l.length) (hm : n ≤ maxLen) (hd : Dig W l) : Wd w (.slice (some ⟨b, 0, none⟩) n n) l := by
  subst hn
  refine ⟨_, _, rfl, Nat.le_refl _, hm, hd, fun _ => ⟨b, 0, rfl, fun i hi => ?_⟩⟩
  rw [Nat.zero_add, cell_of_row w b i _ e (0, 0) hb, List.getElem?_toArray, enc_get hi]

theorem digs_is {l : List Nat} (hd : Dig W l) (ht : Top l) : digs W (val W l) = l := digs_val W_two hd ht

theorem lit_nv {w : World} {b n : Nat} {e : TypeId} (l : List Nat) (X : Nat) (hb : w.heap[b]? = some (.cells (enc .u64 l).toArray e (0, 0))) (hn : n = l.length) (hm : n ≤ 1000) (hd : l.all (fun x => decide (x < W)) = true) (hX : val W l = X) :
    Nv w (.slice (some ⟨b, 0, none⟩) n n) X n :=
  ⟨l, lit_wd l hb hn (by unfold maxLen; omega) (fun x hx => by have := List.all_eq_true.1 hd x hx; simpa using this), hX, by omega⟩

theorem lit_nc {w : World} {b n : Nat} {e : TypeId} (l : List Nat) (X : Nat) (hb : w.heap[b]? = some (.cells (enc .u64 l).toArray e (0, 0))) (hn : n = l.length) (hm : n ≤ 1000) (hd : l.all (fun x => decide (x < W)) = true) (ht : (l.isEmpty || nth l (l.length - 1) != 0) = true) (hX : val W l = X) :
    Nc w (.slice (some ⟨b, 0, none⟩) n n) X n := by
  have hd' : Dig W l := fun x hx => by have := List.all_eq_true.1 hd x hx; simpa using this
  have htop : Top l := by
    simp only [Bool.or_eq_true, List.isEmpty_iff, bne_iff_ne] at ht
    exact ht
  have e1 : digs W X = l := by rw [← hX]; exact digs_is hd' htop
  exact ⟨by rw [e1]; exact lit_wd l hb hn (by unfold maxLen; omega) hd', by rw [e1]; omega⟩

/-- what a call that only makes new things leaves -/
def Ret (w : World) (p : Value → World → Prop) (e : Ending) (w' : World) : Prop := ∃ v, e = .returned v ∧ p v w' ∧ Below w.heap.size w w'
def Ret2 (w : World) (p : Value → Value → World → Prop) (e : Ending) (w' : World) : Prop := ∃ v1 v2, e = .returned (.tuple #[v1, v2]) ∧ p v1 v2 w' ∧ Below w.heap.size w w'
def RetIs (w : World) (v : Value) (e : Ending) (w' : World) : Prop := e = .returned v ∧ Below w.heap.size w w'
end Tw
namespace Go.Proofs.Ytbofdldkiooegaa
open Go Go.RowKit Tw
set_option linter.unusedVariables false
set_option linter.unusedSimpArgs false

theorem own_nc {base : Nat} {w : World} {v : Value} {X k : Nat} (h : OwnW base w v (digs W X)) (hk : X < W ^ k) : Nc w v X k := Nc.of h.ls hk

theorem trim_n (v : Value) (X k : Nat) (w : World) (h : Nv w v X k) (hk : k ≤ 60000) :
    Calls Try.prog 20 #[v] w (Ret w fun v w' => Nc w' v X k) := by
  have hl := h.lt
  obtain ⟨l, h1, rfl, h3⟩ := h
  refine (trim_c v l w h1 (by omega)).mono ?_
  rintro e w' ⟨v', rfl, h4, h5⟩
  exact ⟨v', rfl, own_nc h4 hl, h5⟩

theorem add_n (v1 v2 : Value) (X Y k1 k2 k : Nat) (w : World) (h1 : Nv w v1 X k1) (h2 : Nv w v2 Y k2) (hk1 : k1 < k) (hk2 : k2 < k) (hk : k ≤ 60000) :
    Calls Try.prog 28 #[v1, v2] w (Ret w fun v w' => Nc w' v (X + Y) k) := by
  have a1 := h1.lt; have a2 := h2.lt
  obtain ⟨l1, g1, rfl, i1⟩ := h1
  obtain ⟨l2, g2, rfl, i2⟩ := h2
  refine (add_c v1 v2 l1 l2 w g1 g2 (by omega) (by omega)).mono ?_
  rintro e w' ⟨v', rfl, h4, h5⟩
  refine ⟨v', rfl, own_nc h4 ?_, h5⟩
  have b1 : W ^ k1 ≤ W ^ (k - 1) := Nat.pow_le_pow_right W_pos (by omega)
  have b2 : W ^ k2 ≤ W ^ (k - 1) := Nat.pow_le_pow_right W_pos (by omega)
  have b3 : 2 * W ^ (k - 1) ≤ W ^ k := by
    rw [show k = k - 1 + 1 by omega, Nat.pow_succ, Nat.mul_comm]
    simp only [Nat.add_sub_cancel]
    exact Nat.mul_le_mul_left _ W_two
  omega

theorem sub_n (v1 v2 : Value) (X Y k1 k2 : Nat) (w : World) (h1 : Nv w v1 X k1) (h2 : Nv w v2 Y k2) (hk1 : k1 ≤ 60000) (hk2 : k2 ≤ 60000) :
    Calls Try.prog 29 #[v1, v2] w (Ret w fun v w' => Nc w' v (X - Y) k1) := by
  have a1 := h1.lt
  obtain ⟨l1, g1, rfl, i1⟩ := h1
  obtain ⟨l2, g2, rfl, i2⟩ := h2
  refine (sub_c v1 v2 l1 l2 w g1 g2 (by omega) (by omega)).mono ?_
  rintro e w' ⟨v', rfl, h4, h5⟩
  exact ⟨v', rfl, own_nc h4 (Nat.lt_of_le_of_lt (Nat.sub_le _ _) a1), h5⟩

theorem mul_n (v1 v2 : Value) (X Y k1 k2 : Nat) (w : World) (h1 : Nv w v1 X k1) (h2 : Nv w v2 Y k2) (hk1 : k1 ≤ 30000) (hk2 : k2 ≤ 30000) :
    Calls Try.prog 22 #[v1, v2] w (Ret w fun v w' => Nc w' v (X * Y) (k1 + k2)) := by
  have a1 := h1.lt; have a2 := h2.lt
  obtain ⟨l1, g1, rfl, i1⟩ := h1
  obtain ⟨l2, g2, rfl, i2⟩ := h2
  refine (mul_c v1 v2 l1 l2 w g1 g2 (by omega) (by omega)).mono ?_
  rintro e w' ⟨v', rfl, h4, h5⟩
  refine ⟨v', rfl, own_nc h4 ?_, h5⟩
  rw [Nat.pow_add]; exact Nat.mul_lt_mul'' a1 a2

theorem divmod_n (v1 v2 : Value) (X Y k1 k2 : Nat) (w : World) (h1 : Nv w v1 X k1) (h2 : Nv w v2 Y k2) (hk1 : k1 ≤ 20000) (hk2 : k2 ≤ 20000) :
    Calls Try.prog 21 #[v1, v2] w (Ret2 w fun v1 v2 w' => Nc w' v1 (X / Y) k1 ∧ Nc w' v2 (remN X Y) k2) := by
  have a1 := h1.lt; have a2 := h2.lt
  obtain ⟨l1, g1, rfl, i1⟩ := h1
  obtain ⟨l2, g2, rfl, i2⟩ := h2
  refine (divmod_c v1 v2 l1 l2 w g1 g2 (by omega) (by omega)).mono ?_
  rintro e w' ⟨v3, v4, rfl, h4, h5, h6⟩
  refine ⟨v3, v4, rfl, ⟨own_nc h4 (Nat.lt_of_le_of_lt (Nat.div_le_self _ _) a1), own_nc h5 ?_⟩, h6⟩
  unfold remN
  split
  · exact Nat.pow_pos W_pos
  · exact Nat.lt_trans (Nat.mod_lt _ (by omega)) a2

theorem gcd_n (v1 v2 : Value) (X Y k1 k2 k : Nat) (w : World) (h1 : Nv w v1 X k1) (h2 : Nv w v2 Y k2) (hk1 : k1 ≤ k) (hk2 : k2 ≤ k) (hk : k ≤ 20000) :
    Calls Try.prog 18 #[v1, v2] w (Ret w fun v w' => Nc w' v (Nat.gcd X Y) k) := by
  have a1 := h1.lt; have a2 := h2.lt
  obtain ⟨l1, g1, rfl, i1⟩ := h1
  obtain ⟨l2, g2, rfl, i2⟩ := h2
  refine (gcd_c v1 v2 l1 l2 w g1 g2 (by omega) (by omega)).mono ?_
  rintro e w' ⟨v', rfl, h4, h5⟩
  refine ⟨v', rfl, own_nc h4 ?_, h5⟩
  have b1 : W ^ k1 ≤ W ^ k := Nat.pow_le_pow_right W_pos hk1
  have b2 : W ^ k2 ≤ W ^ k := Nat.pow_le_pow_right W_pos hk2
  rcases Nat.eq_zero_or_pos (val W l1) with h | h
  · rw [h, Nat.gcd_zero_left]; omega
  · exact Nat.lt_of_le_of_lt (Nat.gcd_le_left _ h) (by omega)

theorem cmp_n (v1 v2 : Value) (X Y k1 k2 : Nat) (w : World) (h1 : Nv w v1 X k1) (h2 : Nv w v2 Y k2) :
    Calls Try.prog 26 #[v1, v2] w (RetIs w (.int .i64 (cmpN X Y))) := by
  obtain ⟨l1, g1, rfl, i1⟩ := h1
  obtain ⟨l2, g2, rfl, i2⟩ := h2
  refine (cmp_c v1 v2 l1 l2 w g1 g2).mono ?_
  rintro e w' ⟨rfl, n, rfl⟩
  exact ⟨rfl, bel_drewN _ _ _⟩

theorem cmp_v (v1 v2 : Value) (X Y k1 k2 : Nat) (c : Int) (w : World) (h1 : Nv w v1 X k1) (h2 : Nv w v2 Y k2) (hc : cmpN X Y = c) :
    Calls Try.prog 26 #[v1, v2] w (RetIs w (.int .i64 c)) := by
  subst hc; exact cmp_n v1 v2 X Y k1 k2 w h1 h2

theorem cmp_lo {X Y : Nat} (h : X < Y) : cmpN X Y = -1 := cmpN_lt h
theorem cmp_ge {X Y : Nat} (h : Y ≤ X) : ∃ c : Int, cmpN X Y = c ∧ 0 ≤ c := by
  refine ⟨_, rfl, ?_⟩
  unfold cmpN; rw [if_neg (by omega)]; split <;> omega

theorem bits_n (v1 : Value) (X k1 : Nat) (w : World) (h1 : Nv w v1 X k1) (hk : k1 ≤ 60000) :
    Calls Try.prog 25 #[v1] w (RetIs w (.int .i64 ((bitsN X : Nat) : Int))) := by
  obtain ⟨l1, g1, rfl, i1⟩ := h1
  refine (bits_c v1 l1 w g1 (by omega)).mono ?_
  rintro e w' ⟨rfl, rfl⟩
  exact ⟨rfl, Below.refl _ _⟩

theorem bits_v (v1 : Value) (X k1 m : Nat) (w : World) (h1 : Nv w v1 X k1) (hk : k1 ≤ 60000) (hm : bitsN X = m) :
    Calls Try.prog 25 #[v1] w (RetIs w (.int .i64 ((m : Nat) : Int))) := by
  subst hm; exact bits_n v1 X k1 w h1 hk

theorem remN_pos {X Y : Nat} (h : Y ≠ 0) : remN X Y = X % Y := if_neg h

theorem bitsN_le {X k : Nat} (h : X < W ^ k) : bitsN X ≤ 64 * k := by
  rcases Nat.eq_zero_or_pos X with h0 | h0
  · rw [h0]; exact Nat.zero_le _
  · have h1 := bitsN_ge (n := X) (by omega)
    rw [W_powk] at h
    have h2 : 2 ^ (bitsN X - 1) < 2 ^ (64 * k) := Nat.lt_of_le_of_lt h1.2 h
    have := (Nat.pow_lt_pow_iff_right (by omega)).1 h2
    omega

theorem shl_n (v1 : Value) (X k1 s k : Nat) (w : World) (h1 : Nv w v1 X k1) (hk1 : k1 ≤ 20000) (hs : s ≤ 1048576) (hk : 64 * k1 + s ≤ 64 * k) :
    Calls Try.prog 24 #[v1, .int .i64 s] w (Ret w fun v w' => Nc w' v (X * 2 ^ s) k) := by
  have a1 := h1.lt
  obtain ⟨l1, g1, rfl, i1⟩ := h1
  refine (shl_c v1 l1 s w g1 (by omega) hs).mono ?_
  rintro e w' ⟨v', rfl, h4, h5⟩
  refine ⟨v', rfl, own_nc h4 ?_, h5⟩
  rw [W_powk] at a1 ⊢
  have h6 := Nat.mul_lt_mul_of_pos_right a1 (Nat.two_pow_pos s)
  rw [← Nat.pow_add] at h6
  exact Nat.lt_of_lt_of_le h6 (Nat.pow_le_pow_right (by omega) hk)

theorem shr_n (v1 : Value) (X k1 s : Nat) (w : World) (h1 : Nv w v1 X k1) (hk1 : k1 ≤ 60000) (hs : s ≤ 9223372036854775807) :
    Calls Try.prog 27 #[v1, .int .i64 s] w (Ret w fun v w' => Nc w' v (X / 2 ^ s) k1) := by
  have a1 := h1.lt
  obtain ⟨l1, g1, rfl, i1⟩ := h1
  refine (shr_c v1 l1 s w g1 (by omega) hs).mono ?_
  rintro e w' ⟨v', rfl, h4, h5⟩
  exact ⟨v', rfl, own_nc h4 (Nat.lt_of_le_of_lt (Nat.div_le_self _ _) a1), h5⟩

theorem same_n (v1 v2 : Value) (X Y k1 k2 : Nat) (w : World) (h1 : Nc w v1 X k1) (h2 : Nc w v2 Y k2) (e : X = Y) :
    Calls Try.prog 17 #[v1, v2] w (RetIs w (.bool true)) := by
  subst e
  refine (same_c v1 v2 _ w h1.1 h2.1).mono ?_
  rintro e w' ⟨rfl, n, rfl⟩
  exact ⟨rfl, bel_drewN _ _ _⟩

theorem is_n (v1 v2 : Value) (X Y k1 k2 : Nat) (w : World) (h1 : Nc w v1 X k1) (h2 : Nc w v2 Y k2) (e : X = Y) :
    Calls Try.prog 30 #[v1, v2] w (RetIs w (.bool true)) := by
  have H := Lib.hid (same_n v1 v2 X Y k1 k2 w h1 h2 e)
  clear h1 h2 e
  go_enter Try.func30, Try.ntmps30
  go_wp2_with fail
  refine Calls.mono H.out ?_; rintro e w' ⟨rfl, hb⟩
  have HB := Lib.hid hb; clear hb
  go_wp2_with fail
  go_ret
  exact ⟨rfl, HB.out⟩

end Go.Proofs.Ytbofdldkiooegaa
