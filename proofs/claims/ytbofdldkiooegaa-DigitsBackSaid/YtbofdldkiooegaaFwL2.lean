/- Statements of the whole numbers: what they ask of a number. -/
import Derived.Test.YtbofdldkiooegaaFwZ2
import Derived.Test.YtbofdldkiooegaaFwCe
namespace Go.Proofs.Ytbofdldkiooegaa
open Go Go.RowKit Fw Tw
set_option linter.unusedVariables false
set_option linter.unusedSimpArgs false

theorem small64 {n : Int} (h1 : -9223372036854775808 ≤ n) (h2 : n ≤ 9223372036854775807) : n.natAbs < W ^ 1 := by
  rw [Nat.pow_one]; unfold W; omega
theorem digs_le1 {X : Nat} (h : X < W ^ 1) : (digs W X).length ≤ 1 := length_digs_le W_two h
theorem mI_zero : mI 0 = .agg [.bool false, mW []] := by
  have : digs W (Int.natAbs 0) = [] := digs_zero W
  unfold mI mN
  rw [this]
  rfl
theorem is_r {z n : Int} (hz : z = n) (h1 : -9223372036854775808 ≤ n) (h2 : n ≤ 9223372036854775807) : Ret Try.prog 46 [mI z, .int .i64 n] (.bool true) := by
  subst hz
  have hs := zsmall_r (isZ_mI (small64 h1 h2)) (by omega)
  obtain ⟨e1, e2⟩ := small_in h1 h2
  rw [e1, e2] at hs
  have hl := digs_le1 (small64 h1 h2)
  have h0 : z = 0 → digs W z.natAbs = [] := fun h => by rw [h]; exact digs_zero W
  refine ret_of (L := L) lay_ok Try.func46 rfl Try.ntmps46 rfl ?_
  repeat (first | refine ar_addN rfl rfl rfl rfl (by omega) ?_ | refine ar_subN rfl rfl rfl rfl (by omega) ?_ | refine ar_op rfl ?_ | refine ar_div (wantF_ok rfl) rfl rfl rfl rfl (by decide) ?_ | refine ar_range rfl rfl rfl rfl rfl rfl ?_ | refine ar_nil ?_ | refine awp_seq ?_ | refine awp_region lay_ok ?_ | refine awp_drawn lay_ok follows_ok (by kernel_rfl) ?_ | refine And.intro (by kernel_rfl) ?_ | refine awp_block ?_ | refine awp_skip ?_ | refine awp_ret ?_ | refine awp_exit ?_ | refine awp_scope ?_ | refine awp_condT rfl ?_ | refine awp_condF rfl ?_)
  refine ar_call' (f := 61) rfl rfl rfl rfl plain61 hs ?_
  repeat (first | refine ar_addN rfl rfl rfl rfl (by omega) ?_ | refine ar_subN rfl rfl rfl rfl (by omega) ?_ | refine ar_op rfl ?_ | refine ar_div (wantF_ok rfl) rfl rfl rfl rfl (by decide) ?_ | refine ar_range rfl rfl rfl rfl rfl rfl ?_ | refine ar_nil ?_ | refine awp_seq ?_ | refine awp_region lay_ok ?_ | refine awp_drawn lay_ok follows_ok (by kernel_rfl) ?_ | refine And.intro (by kernel_rfl) ?_ | refine awp_block ?_ | refine awp_skip ?_ | refine awp_ret ?_ | refine awp_exit ?_ | refine awp_scope ?_ | refine awp_condT rfl ?_ | refine awp_condF rfl ?_)
  refine ar_eq 18 rfl (d' := .im (.bool true)) (eqt (by simp)) ?_
  repeat (first | refine ar_addN rfl rfl rfl rfl (by omega) ?_ | refine ar_subN rfl rfl rfl rfl (by omega) ?_ | refine ar_op rfl ?_ | refine ar_div (wantF_ok rfl) rfl rfl rfl rfl (by decide) ?_ | refine ar_range rfl rfl rfl rfl rfl rfl ?_ | refine ar_nil ?_ | refine awp_seq ?_ | refine awp_region lay_ok ?_ | refine awp_drawn lay_ok follows_ok (by kernel_rfl) ?_ | refine And.intro (by kernel_rfl) ?_ | refine awp_block ?_ | refine awp_skip ?_ | refine awp_ret ?_ | refine awp_exit ?_ | refine awp_scope ?_ | refine awp_condT rfl ?_ | refine awp_condF rfl ?_)
  refine ar_eq 25 rfl (d' := .im (.bool true)) (eqt (by simp)) ?_
  repeat (first | refine ar_addN rfl rfl rfl rfl (by omega) ?_ | refine ar_subN rfl rfl rfl rfl (by omega) ?_ | refine ar_op rfl ?_ | refine ar_div (wantF_ok rfl) rfl rfl rfl rfl (by decide) ?_ | refine ar_range rfl rfl rfl rfl rfl rfl ?_ | refine ar_nil ?_ | refine awp_seq ?_ | refine awp_region lay_ok ?_ | refine awp_drawn lay_ok follows_ok (by kernel_rfl) ?_ | refine And.intro (by kernel_rfl) ?_ | refine awp_block ?_ | refine awp_skip ?_ | refine awp_ret ?_ | refine awp_exit ?_ | refine awp_scope ?_ | refine awp_condT rfl ?_ | refine awp_condF rfl ?_)
  refine ar_eq 31 rfl (d' := .im (.bool true)) (eqt (by simp; omega)) ?_
  repeat (first | refine ar_addN rfl rfl rfl rfl (by omega) ?_ | refine ar_subN rfl rfl rfl rfl (by omega) ?_ | refine ar_op rfl ?_ | refine ar_div (wantF_ok rfl) rfl rfl rfl rfl (by decide) ?_ | refine ar_range rfl rfl rfl rfl rfl rfl ?_ | refine ar_nil ?_ | refine awp_seq ?_ | refine awp_region lay_ok ?_ | refine awp_drawn lay_ok follows_ok (by kernel_rfl) ?_ | refine And.intro (by kernel_rfl) ?_ | refine awp_block ?_ | refine awp_skip ?_ | refine awp_ret ?_ | refine awp_exit ?_ | refine awp_scope ?_ | refine awp_condT rfl ?_ | refine awp_condF rfl ?_)
  by_cases hn : z = 0
  · refine ar_eq 34 rfl (d' := .im (.bool false)) (eqt (by simp [hn])) ?_
    repeat (first | refine ar_addN rfl rfl rfl rfl (by omega) ?_ | refine ar_subN rfl rfl rfl rfl (by omega) ?_ | refine ar_op rfl ?_ | refine ar_div (wantF_ok rfl) rfl rfl rfl rfl (by decide) ?_ | refine ar_range rfl rfl rfl rfl rfl rfl ?_ | refine ar_nil ?_ | refine awp_seq ?_ | refine awp_region lay_ok ?_ | refine awp_drawn lay_ok follows_ok (by kernel_rfl) ?_ | refine And.intro (by kernel_rfl) ?_ | refine awp_block ?_ | refine awp_skip ?_ | refine awp_ret ?_ | refine awp_exit ?_ | refine awp_scope ?_ | refine awp_condT rfl ?_ | refine awp_condF rfl ?_)
    refine ⟨_, rfl, ?_⟩
    simp [tupM, h0 hn]
  · refine ar_eq 34 rfl (d' := .im (.bool true)) (eqt (by simp [hn])) ?_
    repeat (first | refine ar_addN rfl rfl rfl rfl (by omega) ?_ | refine ar_subN rfl rfl rfl rfl (by omega) ?_ | refine ar_op rfl ?_ | refine ar_div (wantF_ok rfl) rfl rfl rfl rfl (by decide) ?_ | refine ar_range rfl rfl rfl rfl rfl rfl ?_ | refine ar_nil ?_ | refine awp_seq ?_ | refine awp_region lay_ok ?_ | refine awp_drawn lay_ok follows_ok (by kernel_rfl) ?_ | refine And.intro (by kernel_rfl) ?_ | refine awp_block ?_ | refine awp_skip ?_ | refine awp_ret ?_ | refine awp_exit ?_ | refine awp_scope ?_ | refine awp_condT rfl ?_ | refine awp_condF rfl ?_)
    refine ⟨_, rfl, ?_⟩
    rfl
theorem sz_add' {a b : Int} {j k : Nat} (ha : a.natAbs < W ^ j) (hb : b.natAbs < W ^ k) : (a + b).natAbs < W ^ (j + k + 1) := sz_add ha hb (by omega) (by omega)
theorem sz_neg {a : Int} {j : Nat} (ha : a.natAbs < W ^ j) : (-a).natAbs < W ^ j := by rw [Int.natAbs_neg]; exact ha
theorem sz_sub' {a b : Int} {j k : Nat} (ha : a.natAbs < W ^ j) (hb : b.natAbs < W ^ k) : (a - b).natAbs < W ^ (j + k + 1) := sz_add' (b := -b) ha (sz_neg hb)
theorem sz_abs {a : Int} {j : Nat} (ha : a.natAbs < W ^ j) : ((a.natAbs : Nat) : Int).natAbs < W ^ j := by simpa using ha
theorem sz_gcd {a b : Int} {j k : Nat} (ha : a.natAbs < W ^ j) (hb : b.natAbs < W ^ k) : ((Int.gcd a b : Nat) : Int).natAbs < W ^ (j + k) := by
  have e1 : W ^ j ≤ W ^ (j + k) := Nat.pow_le_pow_right W_pos (by omega)
  have e2 : W ^ k ≤ W ^ (j + k) := Nat.pow_le_pow_right W_pos (by omega)
  show Nat.gcd a.natAbs b.natAbs < _
  rcases Nat.eq_zero_or_pos a.natAbs with h | h
  · rw [h, Nat.gcd_zero_left]; omega
  · exact Nat.lt_of_le_of_lt (Nat.gcd_le_left _ h) (by omega)
theorem sz_div {z1 z2 : Int} {k : Nat} (h : z1.natAbs < W ^ k) : (z1 / z2).natAbs < W ^ k := by
  have := Int.natAbs_ediv_le_natAbs z1 z2
  omega
theorem sz_mod {z1 z2 : Int} {k : Nat} (h : z2.natAbs < W ^ k) : (modZ z1 z2).natAbs < W ^ k := by
  unfold modZ
  split
  · have : 0 < W ^ k := Nat.pow_pos W_pos
    simpa using this
  · rename_i h0
    have h3 := Int.emod_nonneg z1 h0
    have h4 : z1 % z2 < z2.natAbs := by
      have := Int.emod_lt z1 h0
      omega
    omega
/-- a number of k words at most -/
structure Sz (z : Int) (k : Nat) : Prop where
  h : z.natAbs < W ^ k
theorem Sz.of {m : M} {z : Int} {k : Nat} (h : IsZ m z k) : Sz z k := ⟨h.sz⟩
theorem Sz.add {a b : Int} {j k : Nat} (ha : Sz a j) (hb : Sz b k) : Sz (a + b) (j + k + 1) := ⟨sz_add' ha.h hb.h⟩
theorem Sz.sub {a b : Int} {j k : Nat} (ha : Sz a j) (hb : Sz b k) : Sz (a - b) (j + k + 1) := ⟨sz_sub' ha.h hb.h⟩
theorem Sz.mul {a b : Int} {j k : Nat} (ha : Sz a j) (hb : Sz b k) : Sz (a * b) (j + k) := ⟨sz_mul ha.h hb.h⟩
theorem Sz.neg {a : Int} {j : Nat} (ha : Sz a j) : Sz (-a) j := ⟨sz_neg ha.h⟩
theorem Sz.abs {a : Int} {j : Nat} (ha : Sz a j) : Sz ((a.natAbs : Nat) : Int) j := ⟨sz_abs ha.h⟩
theorem Sz.gcd {a b : Int} {j k : Nat} (ha : Sz a j) (hb : Sz b k) : Sz ((Int.gcd a b : Nat) : Int) (j + k) := ⟨sz_gcd ha.h hb.h⟩
theorem Sz.div {a b : Int} {j : Nat} (ha : Sz a j) : Sz (a / b) j := ⟨sz_div ha.h⟩
theorem Sz.mod {a b : Int} {j : Nat} (ha : Sz b j) : Sz (modZ a b) j := ⟨sz_mod ha.h⟩
theorem Sz.lit {n : Int} (h1 : -9223372036854775808 ≤ n) (h2 : n ≤ 9223372036854775807) : Sz n 1 := ⟨small64 h1 h2⟩
theorem Sz.isZ {z : Int} {k : Nat} (h : Sz z k) : IsZ (mI z) z k := isZ_mI h.h
/-- the same number twice -/
theorem sameZ_r {z1 z2 : Int} {k : Nat} (h : z1 = z2) (hz : Sz z1 k) (hk : k ≤ 1000000) : Ret Try.prog 44 [mI z1, mI z2] (.bool true) := by
  subst h
  have := sameInt_r (b1 := decide (z1 < 0)) (b2 := decide (z1 < 0)) (l1 := digs W z1.natAbs) (l2 := digs W z1.natAbs) (Nat.le_trans (length_digs_le W_two hz.h) (by omega))
  simpa [mI] using this
theorem shortInt_t {b : Bool} {l : List Nat} {n : Int} (h : (l.length : Int) ≤ n) : Ret Try.prog 42 [.agg [.bool b, mW l], .int .i64 n] (.bool true) := by
  have := shortInt_r (b := b) (l := l) (n := n)
  rwa [decide_eq_true h] at this
theorem shortInt_f {b : Bool} {l : List Nat} {n : Int} (h : ¬ (l.length : Int) ≤ n) : Ret Try.prog 42 [.agg [.bool b, mW l], .int .i64 n] (.bool false) := by
  have := shortInt_r (b := b) (l := l) (n := n)
  rwa [decide_eq_false h] at this
theorem of_z {n : Int} (h1 : -9223372036854775808 ≤ n) (h2 : n ≤ 9223372036854775807) : IsZ (mI n) n 1 := isZ_mI (small64 h1 h2)
theorem by_r {a b q r : Int} (ha1 : -9223372036854775808 ≤ a) (ha2 : a ≤ 9223372036854775807) (hb1 : -9223372036854775808 ≤ b) (hb2 : b ≤ 9223372036854775807) (hq1 : -9223372036854775808 ≤ q) (hq2 : q ≤ 9223372036854775807) (hr1 : -9223372036854775808 ≤ r) (hr2 : r ≤ 9223372036854775807) (hq : a / b = q) (hr : modZ a b = r) : Ret Try.prog 62 [.int .i64 a, .int .i64 b, .int .i64 q, .int .i64 r] (.bool true) := by
  have hd := zdivmod_r (of_z ha1 ha2) (of_z hb1 hb2) (by omega) (by omega)
  refine ret_of (L := L) lay_ok Try.func62 rfl Try.ntmps62 rfl ?_
  repeat (first | refine ar_addN rfl rfl rfl rfl (by omega) ?_ | refine ar_subN rfl rfl rfl rfl (by omega) ?_ | refine ar_op rfl ?_ | refine ar_div (wantF_ok rfl) rfl rfl rfl rfl (by decide) ?_ | refine ar_range rfl rfl rfl rfl rfl rfl ?_ | refine ar_nil ?_ | refine awp_seq ?_ | refine awp_region lay_ok ?_ | refine awp_drawn lay_ok follows_ok (by kernel_rfl) ?_ | refine And.intro (by kernel_rfl) ?_ | refine awp_block ?_ | refine awp_skip ?_ | refine awp_ret ?_ | refine awp_exit ?_ | refine awp_scope ?_ | refine awp_condT rfl ?_ | refine awp_condF rfl ?_)
  refine ar_call' (f := 60) rfl rfl rfl rfl plain60 (of_r ha1 ha2) ?_
  repeat (first | refine ar_addN rfl rfl rfl rfl (by omega) ?_ | refine ar_subN rfl rfl rfl rfl (by omega) ?_ | refine ar_op rfl ?_ | refine ar_div (wantF_ok rfl) rfl rfl rfl rfl (by decide) ?_ | refine ar_range rfl rfl rfl rfl rfl rfl ?_ | refine ar_nil ?_ | refine awp_seq ?_ | refine awp_region lay_ok ?_ | refine awp_drawn lay_ok follows_ok (by kernel_rfl) ?_ | refine And.intro (by kernel_rfl) ?_ | refine awp_block ?_ | refine awp_skip ?_ | refine awp_ret ?_ | refine awp_exit ?_ | refine awp_scope ?_ | refine awp_condT rfl ?_ | refine awp_condF rfl ?_)
  refine ar_call' (f := 60) rfl rfl rfl rfl plain60 (of_r hb1 hb2) ?_
  repeat (first | refine ar_addN rfl rfl rfl rfl (by omega) ?_ | refine ar_subN rfl rfl rfl rfl (by omega) ?_ | refine ar_op rfl ?_ | refine ar_div (wantF_ok rfl) rfl rfl rfl rfl (by decide) ?_ | refine ar_range rfl rfl rfl rfl rfl rfl ?_ | refine ar_nil ?_ | refine awp_seq ?_ | refine awp_region lay_ok ?_ | refine awp_drawn lay_ok follows_ok (by kernel_rfl) ?_ | refine And.intro (by kernel_rfl) ?_ | refine awp_block ?_ | refine awp_skip ?_ | refine awp_ret ?_ | refine awp_exit ?_ | refine awp_scope ?_ | refine awp_condT rfl ?_ | refine awp_condF rfl ?_)
  refine ar_call' (f := 58) rfl rfl rfl rfl plain58 hd ?_
  repeat (first | refine ar_addN rfl rfl rfl rfl (by omega) ?_ | refine ar_subN rfl rfl rfl rfl (by omega) ?_ | refine ar_op rfl ?_ | refine ar_div (wantF_ok rfl) rfl rfl rfl rfl (by decide) ?_ | refine ar_range rfl rfl rfl rfl rfl rfl ?_ | refine ar_nil ?_ | refine awp_seq ?_ | refine awp_region lay_ok ?_ | refine awp_drawn lay_ok follows_ok (by kernel_rfl) ?_ | refine And.intro (by kernel_rfl) ?_ | refine awp_block ?_ | refine awp_skip ?_ | refine awp_ret ?_ | refine awp_exit ?_ | refine awp_scope ?_ | refine awp_condT rfl ?_ | refine awp_condF rfl ?_)
  refine ar_call' (f := 46) rfl rfl rfl rfl plain46 (is_r hq hq1 hq2) ?_
  repeat (first | refine ar_addN rfl rfl rfl rfl (by omega) ?_ | refine ar_subN rfl rfl rfl rfl (by omega) ?_ | refine ar_op rfl ?_ | refine ar_div (wantF_ok rfl) rfl rfl rfl rfl (by decide) ?_ | refine ar_range rfl rfl rfl rfl rfl rfl ?_ | refine ar_nil ?_ | refine awp_seq ?_ | refine awp_region lay_ok ?_ | refine awp_drawn lay_ok follows_ok (by kernel_rfl) ?_ | refine And.intro (by kernel_rfl) ?_ | refine awp_block ?_ | refine awp_skip ?_ | refine awp_ret ?_ | refine awp_exit ?_ | refine awp_scope ?_ | refine awp_condT rfl ?_ | refine awp_condF rfl ?_)
  refine ar_call' (f := 46) rfl rfl rfl rfl plain46 (is_r hr hr1 hr2) ?_
  repeat (first | refine ar_addN rfl rfl rfl rfl (by omega) ?_ | refine ar_subN rfl rfl rfl rfl (by omega) ?_ | refine ar_op rfl ?_ | refine ar_div (wantF_ok rfl) rfl rfl rfl rfl (by decide) ?_ | refine ar_range rfl rfl rfl rfl rfl rfl ?_ | refine ar_nil ?_ | refine awp_seq ?_ | refine awp_region lay_ok ?_ | refine awp_drawn lay_ok follows_ok (by kernel_rfl) ?_ | refine And.intro (by kernel_rfl) ?_ | refine awp_block ?_ | refine awp_skip ?_ | refine awp_ret ?_ | refine awp_exit ?_ | refine awp_scope ?_ | refine awp_condT rfl ?_ | refine awp_condF rfl ?_)
  refine ⟨_, rfl, ?_⟩
  rfl
theorem awake_r : Ret Try.prog 43 [] (.bool true) := by
  have z3 : IsZ (mI (5 : Int)) 5 1 := of_z (by omega) (by omega)
  refine ret_of (L := L) lay_ok Try.func43 rfl Try.ntmps43 rfl ?_
  repeat (first
    | iterate 1 (first | refine ar_addN rfl rfl rfl rfl (by omega) ?_ | refine ar_subN rfl rfl rfl rfl (by omega) ?_ | refine ar_op rfl ?_ | refine ar_div (wantF_ok rfl) rfl rfl rfl rfl (by decide) ?_ | refine ar_range rfl rfl rfl rfl rfl rfl ?_ | refine ar_nil ?_ | refine awp_seq ?_ | refine awp_region lay_ok ?_ | refine awp_drawn lay_ok follows_ok (by kernel_rfl) ?_ | refine And.intro (by kernel_rfl) ?_ | refine awp_block ?_ | refine awp_skip ?_ | refine awp_ret ?_ | refine awp_exit ?_ | refine awp_scope ?_ | refine awp_condT rfl ?_ | refine awp_condF rfl ?_)
    | refine ar_call' (f := 60) rfl rfl rfl rfl plain60 (of_r (by omega) (by omega)) ?_
    | refine ar_call' (f := 45) rfl rfl rfl rfl plain45 (zadd_r (of_z (by omega) (by omega)) (of_z (by omega) (by omega)) (by omega) (by omega)) ?_
    | refine ar_call' (f := 47) rfl rfl rfl rfl plain47 (zsub_r (of_z (by omega) (by omega)) (of_z (by omega) (by omega)) (by omega) (by omega)) ?_
    | refine ar_call' (f := 50) rfl rfl rfl rfl plain50 (zmul_r (of_z (by omega) (by omega)) (of_z (by omega) (by omega)) (by omega) (by omega)) ?_
    | refine ar_call' (f := 46) rfl rfl rfl rfl plain46 (is_r (by decide) (by omega) (by omega)) ?_
    | refine ar_call' (f := 62) rfl rfl rfl rfl plain62 (by_r (by omega) (by omega) (by omega) (by omega) (by omega) (by omega) (by omega) (by omega) (by decide) (by decide)) ?_)
  refine ⟨_, rfl, ?_⟩
  rfl
end Go.Proofs.Ytbofdldkiooegaa
