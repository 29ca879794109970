/- The document's digits: Parse, Text, by the logic over data. -/
import Derived.Test.YtkbhchlecokpiaaGreatFwD4
import Derived.Test.YtkbhchlecokpiaaGreatFwR2
set_option linter.unusedVariables false
set_option linter.unusedSimpArgs false
namespace Go.Proofs.YtkbhchlecokpiaaGreat
open Go Go.RowKit Fw Tw
set_option linter.unusedVariables false
set_option linter.unusedSimpArgs false
theorem digit_at {D : Nat} (h : D < 10) : (([48, 49, 50, 51, 52, 53, 54, 55, 56, 57] : List UInt8).drop ((D : Nat) : Int).toNat).take ((((D + 1 : Nat) : Int)).toNat - ((D : Nat) : Int).toNat) = [dch D] := by
  rw [Int.toNat_natCast, Int.toNat_natCast, show D + 1 - D = 1 by omega]
  have key : ∀ D : Fin 10, (([48, 49, 50, 51, 52, 53, 54, 55, 56, 57] : List UInt8).drop D.val).take 1 = [dch D.val] := by decide
  exact key ⟨D, h⟩
theorem negT_nil : negT [] = false := rfl
theorem dig_get {t : List UInt8} {p : Nat} (hp : p < t.length) : t[((p : Nat) : Int).toNat]? = some t[p] := by rw [Int.toNat_natCast, List.getElem?_eq_getElem hp]
theorem sub48 {c : UInt8} (h : isDig c = true) : IntKind.u64.wrap (IntKind.u8.wrap ((c.toNat : Int) - 48)) = ((c.toNat - 48 : Nat) : Int) := by
  have := isDig_le h
  simp only [IntKind.wrap_u64, IntKind.wrap_u8]
  omega
theorem rmulw {X x : Nat} (hX : X < W ^ 40) (hx : x < W) : Ret Tryz.prog 139 [mN X, mW [x]] (mN (X * x)) := by
  have := rmul_r (dig_digs W_two X) (Dig.one hx) (len_W hX (by omega)) (by simp)
  rwa [val_digs W_two, val_one] at this
theorem raddw {X x : Nat} (hX : X < W ^ 41) (hx : x < W) : Ret Tryz.prog 144 [mN X, mW [x]] (mN (X + x)) := by
  have := radd_r (dig_digs W_two X) (Dig.one hx) (len_W hX (by omega)) (by simp)
  rwa [val_digs W_two, val_one] at this
set_option maxHeartbeats 4000000 in
theorem rparse_r {s : List UInt8} (hs : s.length ≤ maxLen) : Ret Tryz.prog 106 [.str s] (.tup [mI (parseZ s).1, .int .i64 (parseZ s).2]) := by
  have hml : maxLen = 9223372036854775807 := rfl
  refine ret_ofL (L := L) lay_ok Tryz.func106 rfl Tryz.ntmps106 rfl ?_
  refine goq ?_
  refine gon ?_
  refine gon ?_
  refine awp_cutS (A := Unit) (fun _ => True) (fun _ => [(0, some (.im (.str s))), (2, some (.ptr 2 0)), (3, some (.im (.int .i64 0))), (4, some (.im (.bool false))), (15, some (.im (.bool (negT s))))]) (fun _ => [(2, some box0)]) ?_ ?_
  · rcases s with _ | ⟨c, r⟩
    · refine go ?_
      refine .inl ⟨rfl, (), trivial, ?_⟩
      exact gou0
    · refine go ?_
      refine ar_eq 11 rfl (d' := .im (.bool true)) (eqt (by rw [decide_eq_true_eq]; simp only [List.length_cons]; omega)) ?_
      refine go ?_
      refine ar_indexStr (c := c) (wantF_ok rfl) rfl rfl rfl rfl rfl (by omega) rfl ?_
      refine go ?_
      refine .inl ⟨rfl, (), trivial, ?_⟩
      refine gou ?_
      refine sub_te rfl ?_ (eqt (u8eq c 45))
      exact gou0
  rintro _ -
  refine awp_cutS (A := Unit) (fun _ => True) (fun _ => [(0, some (.im (.str (bodyT s)))), (2, some (.ptr 2 0)), (3, some (.im (.int .i64 0))), (4, some (.im (.bool (negT s))))]) (fun _ => [(2, some box0)]) ?_ ?_
  · refine awp_cond rfl (fun hb => ?_) (fun hb => ?_)
    · refine go ?_
      refine ar_sliceStrLo (s' := bodyT s) (wantF_ok rfl) rfl rfl rfl rfl rfl ⟨by omega, by have := negT_len hb; omega⟩ (by unfold bodyT; rw [if_pos hb]; rfl) ?_
      refine go ?_
      refine .inl ⟨rfl, (), trivial, ?_⟩
      rw [hb]
      exact gou0
    · refine go ?_
      refine .inl ⟨rfl, (), trivial, ?_⟩
      rw [hb]
      refine sub_te rfl ?_ (by unfold bodyT; rw [hb]; rfl)
      exact gou0
  rintro _ -
  have hpz : parseZ s = parseT (negT s) (bodyT s) := rfl
  have ht : (bodyT s).length ≤ maxLen := by
    unfold bodyT
    split
    · rw [List.length_drop]; omega
    · exact hs
  generalize negT s = neg at *
  generalize bodyT s = t at *
  refine goq ?_
  refine awp_cutS (A := Unit) (fun _ => True) (fun _ => [(0, some (.im (.str t))), (2, some (.ptr 2 0)), (3, some (.im (.int .i64 0))), (4, some (.im (.bool neg))), (37, some (.im (.bool (badT neg t))))]) (fun _ => [(2, some box0)]) ?_ ?_
  · rcases t with _ | ⟨c, r⟩
    · refine go ?_
      refine .inl ⟨rfl, (), trivial, ?_⟩
      exact gou0
    · refine go ?_
      refine ar_eq 21 rfl (d' := .im (.bool false)) (eqt (by rw [beq_eq_false_iff_ne]; simp only [List.length_cons]; omega)) ?_
      refine go ?_
      refine ar_indexStr (c := c) (wantF_ok rfl) rfl rfl rfl rfl rfl (by omega) rfl ?_
      by_cases hc : c = 48
      · subst hc
        rcases r with _ | ⟨d, r⟩
        · refine go ?_
          refine .inl ⟨rfl, (), trivial, ?_⟩
          cases neg <;> exact gou0
        · refine go ?_
          refine ar_eq 31 rfl (d' := .im (.bool true)) (eqt (by rw [decide_eq_true_eq]; simp only [List.length_cons]; omega)) ?_
          refine go ?_
          refine .inl ⟨rfl, (), trivial, ?_⟩
          cases neg <;> exact gou0
      · refine go ?_
        refine ar_eq 25 rfl (d' := .im (.bool false)) (eqt ((u8eq c 48).trans (beq_eq_false_iff_ne.2 hc))) ?_
        refine go ?_
        refine ar_eq 34 rfl (d' := .im (.bool false)) (eqt (by rw [beq_eq_false_iff_ne]; intro h; simp at h; exact hc h.1)) ?_
        refine go ?_
        refine .inl ⟨rfl, (), trivial, ?_⟩
        refine sub_t rfl (sub_t rfl (sub_t rfl (sub_t rfl (sub_te rfl ?_ (eqt (by simp only [badT]; rw [beq_eq_false_iff_ne.2 hc]; rfl))))))
        exact gou0
  rintro _ -
  refine awp_cutS (A := Unit) (fun _ => badT neg t = false) (fun _ => [(0, some (.im (.str t))), (2, some (.ptr 2 0)), (3, some (.im (.int .i64 0))), (4, some (.im (.bool neg)))]) (fun _ => [(2, some box0)]) ?_ ?_
  · refine awp_cond rfl (fun hb => ?_) (fun hb => ?_)
    · refine go ?_
      refine .inr ?_
      refine ⟨_, rfl, ?_⟩
      exact err_of hpz (bad_err hb)
    · refine go ?_
      refine .inl ⟨rfl, (), hb, ?_⟩
      exact gou0
  rintro _ hbad
  refine awp_seq ?_
  refine go ?_
  refine awp_loopC (A := Nat) (B := Unit) (fun p => p ≤ t.length ∧ (t.take p).all isDig = true) (fun p => [(0, some (.im (.str t))), (2, some (.ptr 2 0)), (3, some (.im (.int .i64 0))), (4, some (.im (.bool neg))), (5, some (.im (.int .i64 (p : Nat))))]) (fun p => [(2, some box0)]) (fun p => t.length - p)
    (fun _ => t.all isDig = true) (fun _ => [(0, some (.im (.str t))), (2, some (.ptr 2 0)), (3, some (.im (.int .i64 0))), (4, some (.im (.bool neg)))]) (fun _ => [(2, some box0)]) 0 ⟨by omega, rfl⟩ ?_ ?_ ?_
  · exact gou0
  · rintro p ⟨hp, hd⟩
    by_cases hlt : p < t.length
    · have bad : isDig t[p] = false → parseT neg t = (0, 11) := dig_err hbad hlt
      refine go ?_
      refine awp_cT rfl (by rw [decide_eq_true_eq]; omega) ?_
      refine go ?_
      refine ar_indexStr (c := t[p]) (wantF_ok rfl) rfl rfl rfl rfl rfl (by omega) (dig_get hlt) ?_
      refine go ?_
      by_cases h1 : t[p].toNat < 48
      · refine ar_eq 49 rfl (d' := .im (.bool true)) (eqt (by rw [decide_eq_true_eq]; omega)) ?_
        refine go ?_
        refine .inr ?_
        refine ⟨_, rfl, ?_⟩
        exact err_of hpz (bad (by unfold isDig; simp; omega))
      · refine ar_eq 49 rfl (d' := .im (.bool false)) (eqt (by rw [decide_eq_false_iff_not]; omega)) ?_
        refine go ?_
        refine ar_indexStr (c := t[p]) (wantF_ok rfl) rfl rfl rfl rfl rfl (by omega) (dig_get hlt) ?_
        refine go ?_
        refine awp_cond rfl (fun hb => ?_) (fun hb => ?_)
        · refine go ?_
          refine .inr ?_
          refine ⟨_, rfl, ?_⟩
          exact err_of hpz (bad (by unfold isDig; simp at hb; simp; omega))
        · refine go ?_
          refine ⟨p + 1, ⟨by omega, take_all hlt hd (by unfold isDig; simp at hb; simp; omega)⟩, ?_, by omega⟩
          exact gou0
    · refine go ?_
      refine awp_cF rfl (by rw [decide_eq_false_iff_not]; omega) ?_
      refine go ?_
      refine .inl ⟨rfl, (), by rw [← hd, List.take_of_length_le (by omega)], ?_⟩
      exact gou0
  rintro _ hall
  refine awp_seq ?_
  refine go ?_
  refine awp_cond rfl (fun hb => ?_) (fun hb => ?_)
  · refine go ?_
    refine ⟨_, rfl, ?_⟩
    exact err_of hpz (long_err hbad hall (by simp at hb; omega))
  have hlen : t.length ≤ 600 := by simp at hb; omega
  clear hb
  have hvlt : valT t < 10 ^ t.length := valT_lt hall
  refine go ?_
  refine awp_le 6 (m' := mN 0) rfl le_nilN ?_
  refine awp_loopC (A := Nat) (B := Unit) (fun p => p ≤ t.length) (fun p => [(0, some (.im (.str t))), (6, some (.im (mN (valT (t.take p))))), (7, some (.im (.int .i64 (p : Nat)))), (2, some (.ptr 2 0)), (3, some (.im (.int .i64 0))), (4, some (.im (.bool neg)))]) (fun p => [(2, some box0)]) (fun p => t.length - p)
    (fun _ => True) (fun _ => [(6, some (.im (mN (valT t)))), (2, some (.ptr 2 0)), (3, some (.im (.int .i64 0))), (4, some (.im (.bool neg)))]) (fun _ => [(2, some box0)]) 0 (by omega) ?_ ?_ ?_
  · exact gou0
  · rintro p hp
    by_cases hlt : p < t.length
    · have hdp : isDig t[p] = true := by rw [List.all_eq_true] at hall; exact hall _ (List.getElem_mem hlt)
      have hdl := isDig_le hdp
      have hX : valT (t.take p) < W ^ 40 := by
        have h1 : (t.take p).all isDig = true := by
          rw [List.all_eq_true] at hall ⊢
          exact fun x hx => hall x (List.mem_of_mem_take hx)
        have h2 := valT_lt h1
        rw [List.length_take] at h2
        exact Nat.lt_of_lt_of_le h2 (ten40 (by omega))
      have hX2 : valT (t.take p) * 10 < W ^ 41 := by
        rw [show (41 : Nat) = 40 + 1 from rfl, Nat.pow_succ]
        exact Nat.mul_lt_mul'' hX (by unfold W; omega)
      refine go ?_
      refine awp_cT rfl (by rw [decide_eq_true_eq]; omega) ?_
      refine go ?_
      refine clz (by exact rfl) plain139 rfl (rmulw hX (x := 10) (by unfold W; omega)) ?_
      refine go ?_
      refine ar_indexStr (c := t[p]) (wantF_ok rfl) rfl rfl rfl rfl rfl (by omega) (dig_get hlt) ?_
      iterate 2 refine go1 ?_
      refine ar_eq 73 rfl (d' := .im (.int .u64 ((t[p].toNat - 48 : Nat) : Int))) (imI (sub48 hdp)) ?_
      refine go ?_
      refine clz (by exact rfl) plain144 rfl (raddw hX2 (x := t[p].toNat - 48) (by unfold W; omega)) ?_
      refine go ?_
      refine ⟨p + 1, by omega, ?_, by omega⟩
      refine sub_t rfl (sub_te rfl ?_ (imN (valT_snoc hlt).symm))
      exact gou0
    · refine go ?_
      refine awp_cF rfl (by rw [decide_eq_false_iff_not]; omega) ?_
      refine go ?_
      refine .inl ⟨rfl, (), trivial, ?_⟩
      refine sub_te rfl ?_ (imN (by rw [List.take_of_length_le (by omega)]))
      exact gou0
  · rintro _ -
    have hV : valT t < W ^ 40 := Nat.lt_of_lt_of_le hvlt (ten40 hlen)
    refine go ?_
    refine cl (by exact rfl) plain138 rfl (mkm_r hV (by omega)) ?_
    refine go ?_
    refine ⟨_, rfl, ?_⟩
    rw [hpz, parse_ok hbad hall hlen]
    exact Le.refl _
theorem two56' : 2 ≤ 256 := by omega
theorem dig_step {l q : List Nat} {i r : Nat} (hd : Dig 256 l) (hq : q.length = l.length) (hi : i < l.length) (h1 : Tw.val 256 (q.drop (i + 1)) = Tw.val 256 (l.drop (i + 1)) / 10) (h2 : r = Tw.val 256 (l.drop (i + 1)) % 10) :
    Tw.val 256 ((q.set i ((256 * r + l[i]) / 10)).drop i) = Tw.val 256 (l.drop i) / 10 ∧ (256 * r + l[i]) % 10 = Tw.val 256 (l.drop i) % 10 := by
  have e1 := val_drop 256 hi
  have e2 := val_drop 256 (l := q.set i ((256 * r + l[i]) / 10)) (k := i) (by simp; omega)
  have e3 : (q.set i ((256 * r + l[i]) / 10)).drop (i + 1) = q.drop (i + 1) := by rw [List.drop_set_of_lt (by omega)]
  rw [nth_set_eq (by omega), e3, h1] at e2
  rw [nth_lt hi] at e1
  rw [e2, e1]
  omega
theorem q10 {d : Nat} (h : d < 9223372036854775808) : IntKind.i64.wrap (Int.tdiv (d : Int) 10) = ((d / 10 : Nat) : Int) := by
  have e2 : Int.tdiv (d : Int) 10 = ((d / 10 : Nat) : Int) := rfl
  rw [e2, IntKind.wrap_i64]
  omega
abbrev rowI (q : List Nat) : Nat × Option O := (18, some (.rw 3 1 (q.flatMap mi)))
abbrev slotI (n : Nat) : Nat × Option D := (6, some (.row 18 n 1))
end Go.Proofs.YtkbhchlecokpiaaGreat
