/- A layer: how many units are behind it, how many terms it has. -/
import Derived.Test.YtkbhchlecokpiaaFwH3
namespace Go.Proofs.Ytkbhchlecokpiaa
open Go Go.RowKit Fw Tw Rat
set_option linter.unusedVariables false
set_option linter.unusedSimpArgs false
theorem mulB {a b A B : Int} (h1 : 0 ≤ a) (h2 : a ≤ A) (h3 : 0 ≤ b) (h4 : b ≤ B) : 0 ≤ a * b ∧ a * b ≤ A * B :=
  ⟨Int.mul_nonneg h1 h3, Int.mul_le_mul h2 h4 h3 (Int.le_trans h1 h2)⟩
theorem wrapI {x : Int} (h1 : -9223372036854775808 ≤ x) (h2 : x ≤ 9223372036854775807) : IntKind.i64.wrap x = x := by rw [IntKind.wrap_i64]; omega
theorem int_ne {a b : Int} (h : a ≠ b) : (a != b) = true := by rw [bne_iff_ne]; exact h
theorem int_eq {a b : Int} (h : a = b) : (a != b) = false := by rw [h]; simp
def convT (l : Ly) (n : Int) : Int :=
  if (sidesL l).all sideI = false then -1 else if l.pad < 0 then -1 else if l.pad ≥ l.kh then -1 else if l.pad ≥ l.kw then -1 else if l.ch * l.high * l.wide ≠ n then -1
  else if l.high + 2 * l.pad - l.kh < 0 then -1 else if l.wide + 2 * l.pad - l.kw < 0 then -1
  else if (l.ker.length : Int) ≠ l.out * l.ch * l.kh * l.kw then -1 else if (l.bias.length : Int) ≠ l.out then -1
  else l.out * ((l.high + 2 * l.pad - l.kh) / l.st + 1) * ((l.wide + 2 * l.pad - l.kw) / l.st + 1)
theorem sideI_iff {n : Int} : sideI n = true ↔ 1 ≤ n ∧ n ≤ 256 := by
  unfold sideI
  rw [Bool.and_eq_true, decide_eq_true_eq, decide_eq_true_eq]
theorem tdiv_q {a b : Int} (h : 0 ≤ a) (ha : a ≤ 100000) (hb : 1 ≤ b) : IntKind.i64.wrap (a.tdiv b) = a / b ∧ 0 ≤ a / b ∧ a / b ≤ a := by
  have h1 : a.tdiv b = a / b := Int.tdiv_eq_ediv_of_nonneg h
  have h2 : 0 ≤ a / b := Int.ediv_nonneg h (by omega)
  have h3 : a / b ≤ a := Int.ediv_le_self b h
  rw [h1]
  exact ⟨wrapI (by omega) (by omega), h2, h3⟩
set_option maxHeartbeats 8000000 in
theorem conv_r {l : Ly} {n : Int} : Ret Try.prog 120 [.agg (lyC l), .int .i64 n] (.int .i64 (convT l n)) := by
  have hs := sides_r l
  have ha := allI_r plain151 conv1_r (l := sidesL l) (by show 7 ≤ _; unfold maxLen; omega)
  obtain ⟨kind, rows, bias, ch, high, wide, out, kh, kw, st, pad, ker, grp⟩ := l
  by_cases c0 : (sidesL ⟨kind, rows, bias, ch, high, wide, out, kh, kw, st, pad, ker, grp⟩).all sideI = true
  case neg =>
    have c0' := (Bool.not_eq_true _).mp c0
    rw [c0'] at ha
    refine ret_of (L := L) lay_ok Try.func120 rfl Try.ntmps120 rfl ?_
    refine goq ?_
    refine go ?_
    refine cl (by exact rfl) plain146 rfl hs ?_
    refine go ?_
    refine cl (by exact rfl) plain145 rfl ha ?_
    refine go ?_
    refine ⟨_, rfl, ?_⟩
    show M.int .i64 _ = M.int .i64 _
    unfold convT
    rw [if_pos c0']
  rw [c0] at ha
  have c0n : ¬ (sidesL ⟨kind, rows, bias, ch, high, wide, out, kh, kw, st, pad, ker, grp⟩).all sideI = false := by rw [c0]; decide
  have hsd := c0
  simp only [sidesL, List.all_cons, List.all_nil, Bool.and_true, Bool.and_eq_true, sideI_iff] at hsd
  obtain ⟨s1, s2, s3, s4, s5, s6, s7⟩ := hsd
  have m1 := mulB (a := ch) (b := high) (by omega) s1.2 (by omega) s2.2
  have m2 := mulB (a := ch * high) (b := wide) m1.1 m1.2 (by omega) s3.2
  have w1 : IntKind.i64.wrap (ch * high) = ch * high := wrapI (by omega) (by omega)
  have w2 : IntKind.i64.wrap (ch * high * wide) = ch * high * wide := wrapI (by omega) (by omega)
  have m3 := mulB (a := out) (b := ch) (by omega) s4.2 (by omega) s1.2
  have m4 := mulB (a := out * ch) (b := kh) m3.1 m3.2 (by omega) s5.2
  have m5 := mulB (a := out * ch * kh) (b := kw) m4.1 m4.2 (by omega) s6.2
  have w3 : IntKind.i64.wrap (out * ch) = out * ch := wrapI (by omega) (by omega)
  have w4 : IntKind.i64.wrap (out * ch * kh) = out * ch * kh := wrapI (by omega) (by omega)
  have w5 : IntKind.i64.wrap (out * ch * kh * kw) = out * ch * kh * kw := wrapI (by omega) (by omega)
  refine ret_of (L := L) lay_ok Try.func120 rfl Try.ntmps120 rfl ?_
  refine goq ?_
  refine go ?_
  refine cl (by exact rfl) plain146 rfl hs ?_
  refine go ?_
  refine cl (by exact rfl) plain145 rfl ha ?_
  refine go ?_
  by_cases c1 : pad < 0
  · refine ar_eq 16 rfl (d' := .im (.bool true)) (eqt (decide_eq_true c1)) ?_
    refine go ?_
    refine ⟨_, rfl, ?_⟩
    show M.int .i64 _ = M.int .i64 _
    unfold convT
    rw [if_neg c0n, if_pos c1]
  refine ar_eq 16 rfl (d' := .im (.bool false)) (eqt (decide_eq_false c1)) ?_
  refine go ?_
  by_cases c2 : pad ≥ kh
  · refine ar_eq 23 rfl (d' := .im (.bool true)) (eqt (decide_eq_true c2)) ?_
    refine go ?_
    refine ⟨_, rfl, ?_⟩
    show M.int .i64 _ = M.int .i64 _
    unfold convT
    rw [if_neg c0n, if_neg c1, if_pos c2]
  refine ar_eq 23 rfl (d' := .im (.bool false)) (eqt (decide_eq_false c2)) ?_
  refine go ?_
  by_cases c3 : pad ≥ kw
  · refine ar_eq 30 rfl (d' := .im (.bool true)) (eqt (decide_eq_true c3)) ?_
    refine go ?_
    refine ⟨_, rfl, ?_⟩
    show M.int .i64 _ = M.int .i64 _
    unfold convT
    rw [if_neg c0n, if_neg c1, if_neg c2, if_pos c3]
  refine ar_eq 30 rfl (d' := .im (.bool false)) (eqt (decide_eq_false c3)) ?_
  refine go ?_
  by_cases c4 : ch * high * wide ≠ n
  · refine awp_cT rfl (by rw [w1, w2]; exact int_ne c4) ?_
    refine go ?_
    refine ⟨_, rfl, ?_⟩
    show M.int .i64 _ = M.int .i64 _
    unfold convT
    rw [if_neg c0n, if_neg c1, if_neg c2, if_neg c3, if_pos c4]
  refine awp_cF rfl (by rw [w1, w2]; exact int_eq (Decidable.not_not.1 c4)) ?_
  have p1 : IntKind.i64.wrap (2 * pad) = 2 * pad := wrapI (by omega) (by omega)
  have p2 : IntKind.i64.wrap (high + 2 * pad) = high + 2 * pad := wrapI (by omega) (by omega)
  have p3 : IntKind.i64.wrap (high + 2 * pad - kh) = high + 2 * pad - kh := wrapI (by omega) (by omega)
  have p4 : IntKind.i64.wrap (wide + 2 * pad) = wide + 2 * pad := wrapI (by omega) (by omega)
  have p5 : IntKind.i64.wrap (wide + 2 * pad - kw) = wide + 2 * pad - kw := wrapI (by omega) (by omega)
  refine go ?_
  by_cases c5 : high + 2 * pad - kh < 0
  · refine ar_eq 62 rfl (d' := .im (.bool true)) (eqt (by simp only [p1, p2, p3]; exact decide_eq_true c5)) ?_
    refine go ?_
    refine ⟨_, rfl, ?_⟩
    show M.int .i64 _ = M.int .i64 _
    unfold convT
    rw [if_neg c0n, if_neg c1, if_neg c2, if_neg c3, if_neg c4, if_pos c5]
  refine ar_eq 62 rfl (d' := .im (.bool false)) (eqt (by simp only [p1, p2, p3]; exact decide_eq_false c5)) ?_
  refine go ?_
  by_cases c6 : wide + 2 * pad - kw < 0
  · refine ar_eq 66 rfl (d' := .im (.bool true)) (eqt (by simp only [p1, p4, p5]; exact decide_eq_true c6)) ?_
    refine go ?_
    refine ⟨_, rfl, ?_⟩
    show M.int .i64 _ = M.int .i64 _
    unfold convT
    rw [if_neg c0n, if_neg c1, if_neg c2, if_neg c3, if_neg c4, if_neg c5, if_pos c6]
  refine ar_eq 66 rfl (d' := .im (.bool false)) (eqt (by simp only [p1, p4, p5]; exact decide_eq_false c6)) ?_
  refine ar_eq 5 rfl (d' := .im (.int .i64 (high + 2 * pad - kh))) (deqn (by simp only [p1, p2, p3])) ?_
  refine ar_eq 6 rfl (d' := .im (.int .i64 (wide + 2 * pad - kw))) (deqn (by simp only [p1, p4, p5])) ?_
  refine go ?_
  by_cases c7 : (ker.length : Int) ≠ out * ch * kh * kw
  · refine ar_eq 83 rfl (d' := .im (.bool true)) (eqt (by simp only [w3, w4, w5]; exact int_ne c7)) ?_
    refine go ?_
    refine ⟨_, rfl, ?_⟩
    show M.int .i64 _ = M.int .i64 _
    unfold convT
    rw [if_neg c0n, if_neg c1, if_neg c2, if_neg c3, if_neg c4, if_neg c5, if_neg c6, if_pos c7]
  refine ar_eq 83 rfl (d' := .im (.bool false)) (eqt (by simp only [w3, w4, w5]; exact int_eq (Decidable.not_not.1 c7))) ?_
  refine go ?_
  by_cases c8 : (bias.length : Int) ≠ out
  · refine awp_cT rfl (int_ne c8) ?_
    refine go ?_
    refine ⟨_, rfl, ?_⟩
    show M.int .i64 _ = M.int .i64 _
    unfold convT
    rw [if_neg c0n, if_neg c1, if_neg c2, if_neg c3, if_neg c4, if_neg c5, if_neg c6, if_neg c7, if_pos c8]
  refine awp_cF rfl (int_eq (Decidable.not_not.1 c8)) ?_
  have e : convT ⟨kind, rows, bias, ch, high, wide, out, kh, kw, st, pad, ker, grp⟩ n = out * ((high + 2 * pad - kh) / st + 1) * ((wide + 2 * pad - kw) / st + 1) := by
    unfold convT
    rw [if_neg c0n, if_neg c1, if_neg c2, if_neg c3, if_neg c4, if_neg c5, if_neg c6, if_neg c7, if_neg c8]
  rw [e]
  obtain ⟨q1, q2, q3⟩ := tdiv_q (a := high + 2 * pad - kh) (b := st) (by omega) (by omega) s7.1
  obtain ⟨q4, q5, q6⟩ := tdiv_q (a := wide + 2 * pad - kw) (b := st) (by omega) (by omega) s7.1
  have b1 : 0 ≤ high + 2 * pad - kh ∧ high + 2 * pad - kh ≤ 900 := by omega
  have b2 : 0 ≤ wide + 2 * pad - kw ∧ wide + 2 * pad - kw ≤ 900 := by omega
  have b3 : st ≠ 0 := by omega
  clear c5 c6 p1 p2 p4
  generalize high + 2 * pad - kh = down at *
  generalize wide + 2 * pad - kw = across at *
  refine go ?_
  refine ar_div (wantF_ok rfl) rfl rfl rfl rfl b3 ?_
  refine go ?_
  refine ar_div (wantF_ok rfl) rfl rfl rfl rfl b3 ?_
  refine go ?_
  have r1 : IntKind.i64.wrap (down / st + 1) = down / st + 1 := wrapI (by omega) (by omega)
  have r2 : IntKind.i64.wrap (across / st + 1) = across / st + 1 := wrapI (by omega) (by omega)
  have m6 := mulB (a := out) (b := down / st + 1) (A := 256) (B := 1000) (by omega) (by omega) (by omega) (by omega)
  have m7 := mulB (a := out * (down / st + 1)) (b := across / st + 1) (B := 1000) m6.1 m6.2 (by omega) (by omega)
  have r3 : IntKind.i64.wrap (out * (down / st + 1)) = out * (down / st + 1) := wrapI (by omega) (by omega)
  have r4 : IntKind.i64.wrap (out * (down / st + 1) * (across / st + 1)) = out * (down / st + 1) * (across / st + 1) := wrapI (by omega) (by omega)
  refine ⟨_, rfl, ?_⟩
  show M.int .i64 _ = M.int .i64 _
  simp only [q1, q4, r1, r2, r3, r4]
end Go.Proofs.Ytkbhchlecokpiaa
