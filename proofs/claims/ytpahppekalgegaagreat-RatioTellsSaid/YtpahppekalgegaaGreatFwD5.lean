/- The document's digits: Parse, Text, by the logic over data. -/
import Derived.Test.YtpahppekalgegaaGreatFwD4
import Derived.Test.YtpahppekalgegaaGreatFwR2
set_option linter.unusedVariables false
set_option linter.unusedSimpArgs false
namespace Go.Proofs.YtpahppekalgegaaGreat
open Go Go.RowKit Fw Tw
set_option linter.unusedVariables false
set_option linter.unusedSimpArgs false
theorem digit_at {D : Nat} (h : D < 10) : (([48, 49, 50, 51, 52, 53, 54, 55, 56, 57] : List UInt8).drop ((D : Nat) : Int).toNat).take ((((D + 1 : Nat) : Int)).toNat - ((D : Nat) : Int).toNat) = [dch D] := by
  rw [Int.toNat_natCast, Int.toNat_natCast, show D + 1 - D = 1 by omega]
  have key : ∀ D : Fin 10, (([48, 49, 50, 51, 52, 53, 54, 55, 56, 57] : List UInt8).drop D.val).take 1 = [dch D.val] := by decide
  exact key ⟨D, h⟩
theorem negT_nil : negT [] = false := rfl
theorem dig_get {t : List UInt8} {p : Nat} (hp : p < t.length) : t[((p : Nat) : Int).toNat]? = some t[p] := by rw [Int.toNat_natCast, List.getElem?_eq_getElem hp]
theorem sub48 {c : UInt8} (h : isDig c = true) : IntKind.u64.wrap (IntKind.u8.wrap ((c.toNat : Int) - 48)) = ((c.toNat - 48 : Nat) : Int) := by
  have := isDig_le h
  simp only [IntKind.wrap_u64, IntKind.wrap_u8]
  omega
theorem rmulw {X x : Nat} (hX : X < W ^ 40) (hx : x < W) : Ret Tryz.prog 108 [mN X, mW [x]] (mN (X * x)) := by
  have := rmul_r (dig_digs W_two X) (Dig.one hx) (len_W hX (by omega)) (by simp)
  rwa [val_digs W_two, val_one] at this
theorem raddw {X x : Nat} (hX : X < W ^ 41) (hx : x < W) : Ret Tryz.prog 105 [mN X, mW [x]] (mN (X + x)) := by
  have := radd_r (dig_digs W_two X) (Dig.one hx) (len_W hX (by omega)) (by simp)
  rwa [val_digs W_two, val_one] at this
set_option maxHeartbeats 4000000 in
theorem rparse_r {s : List UInt8} (hs : s.length ≤ maxLen) : Ret Tryz.prog 89 [.str s] (.tup [mI (parseZ s).1, .int .i64 (parseZ s).2]) := by
  have hml : maxLen = 9223372036854775807 := rfl
  refine ret_ofL (L := L) lay_ok Tryz.func89 rfl Tryz.ntmps89 rfl ?_
  refine goq ?_
  refine gon ?_
  refine gon ?_
  refine awp_cutS (A := Unit) (fun _ => True) (fun _ => [(0, some (.im (.str s))), (2, some (.ptr 2 0)), (3, some (.im (.int .i64 0))), (4, some (.im (.bool false))), (15, some (.im (.bool (negT s))))]) (fun _ => [(2, some box0)]) ?_ ?_
  · rcases s with _ | ⟨c, r⟩
    · refine go ?_
      refine .inl ⟨rfl, (), trivial, ?_⟩
      exact gou0
    · refine go ?_
      refine ar_eq 11 rfl (d' := .im (.bool true)) (eqt (by rw [decide_eq_true_eq]; simp only [List.length_cons]; omega)) ?_
      refine go ?_
      refine ar_indexStr (c := c) (wantF_ok rfl) rfl rfl rfl rfl rfl (by omega) rfl ?_
      refine go ?_
      refine .inl ⟨rfl, (), trivial, ?_⟩
      refine gou ?_
      refine sub_te rfl ?_ (eqt (u8eq c 45))
      exact gou0
  rintro _ -
  refine awp_cutS (A := Unit) (fun _ => True) (fun _ => [(0, some (.im (.str (bodyT s)))), (2, some (.ptr 2 0)), (3, some (.im (.int .i64 0))), (4, some (.im (.bool (negT s))))]) (fun _ => [(2, some box0)]) ?_ ?_
  · refine awp_cond rfl (fun hb => ?_) (fun hb => ?_)
    · refine go ?_
      refine ar_sliceStrLo (s' := bodyT s) (wantF_ok rfl) rfl rfl rfl rfl rfl ⟨by omega, by have := negT_len hb; omega⟩ (by unfold bodyT; rw [if_pos hb]; rfl) ?_
      refine go ?_
      refine .inl ⟨rfl, (), trivial, ?_⟩
      rw [hb]
      exact gou0
    · refine go ?_
      refine .inl ⟨rfl, (), trivial, ?_⟩
      rw [hb]
      refine sub_te rfl ?_ (by unfold bodyT; rw [hb]; rfl)
      exact gou0
  rintro _ -
  have hpz : parseZ s = parseT (negT s) (bodyT s) := rfl
  have ht : (bodyT s).length ≤ maxLen := by
    unfold bodyT
    split
    · rw [List.length_drop]; omega
    · exact hs
  generalize negT s = neg at *
  generalize bodyT s = t at *
  refine goq ?_
  refine awp_cutS (A := Unit) (fun _ => True) (fun _ => [(0, some (.im (.str t))), (2, some (.ptr 2 0)), (3, some (.im (.int .i64 0))), (4, some (.im (.bool neg))), (37, some (.im (.bool (badT neg t))))]) (fun _ => [(2, some box0)]) ?_ ?_
  · rcases t with _ | ⟨c, r⟩
    · refine go ?_
      refine .inl ⟨rfl, (), trivial, ?_⟩
      exact gou0
    · refine go ?_
      refine ar_eq 21 rfl (d' := .im (.bool false)) (eqt (by rw [beq_eq_false_iff_ne]; simp only [List.length_cons]; omega)) ?_
      refine go ?_
      refine ar_indexStr (c := c) (wantF_ok rfl) rfl rfl rfl rfl rfl (by omega) rfl ?_
      by_cases hc : c = 48
      · subst hc
        rcases r with _ | ⟨d, r⟩
        · refine go ?_
          refine .inl ⟨rfl, (), trivial, ?_⟩
          cases neg <;> exact gou0
        · refine go ?_
          refine ar_eq 31 rfl (d' := .im (.bool true)) (eqt (by rw [decide_eq_true_eq]; simp only [List.length_cons]; omega)) ?_
          refine go ?_
          refine .inl ⟨rfl, (), trivial, ?_⟩
          cases neg <;> exact gou0
      · refine go ?_
        refine ar_eq 25 rfl (d' := .im (.bool false)) (eqt ((u8eq c 48).trans (beq_eq_false_iff_ne.2 hc))) ?_
        refine go ?_
        refine ar_eq 34 rfl (d' := .im (.bool false)) (eqt (by rw [beq_eq_false_iff_ne]; intro h; simp at h; exact hc h.1)) ?_
        refine go ?_
        refine .inl ⟨rfl, (), trivial, ?_⟩
        refine sub_t rfl (sub_t rfl (sub_t rfl (sub_t rfl (sub_te rfl ?_ (eqt (by simp only [badT]; rw [beq_eq_false_iff_ne.2 hc]; rfl))))))
        exact gou0
  rintro _ -
  refine awp_cutS (A := Unit) (fun _ => badT neg t = false) (fun _ => [(0, some (.im (.str t))), (2, some (.ptr 2 0)), (3, some (.im (.int .i64 0))), (4, some (.im (.bool neg)))]) (fun _ => [(2, some box0)]) ?_ ?_
  · refine awp_cond rfl (fun hb => ?_) (fun hb => ?_)
    · refine go ?_
      refine .inr ?_
      refine ⟨_, rfl, ?_⟩
      exact err_of hpz (bad_err hb)
    · refine go ?_
      refine .inl ⟨rfl, (), hb, ?_⟩
      exact gou0
  rintro _ hbad
  refine awp_seq ?_
  refine go ?_
  refine awp_loopC (A := Nat) (B := Unit) (fun p => p ≤ t.length ∧ (t.take p).all isDig = true) (fun p => [(0, some (.im (.str t))), (2, some (.ptr 2 0)), (3, some (.im (.int .i64 0))), (4, some (.im (.bool neg))), (5, some (.im (.int .i64 (p : Nat))))]) (fun p => [(2, some box0)]) (fun p => t.length - p)
    (fun _ => t.all isDig = true) (fun _ => [(0, some (.im (.str t))), (2, some (.ptr 2 0)), (3, some (.im (.int .i64 0))), (4, some (.im (.bool neg)))]) (fun _ => [(2, some box0)]) 0 ⟨by omega, rfl⟩ ?_ ?_ ?_
  · exact gou0
  · rintro p ⟨hp, hd⟩
    by_cases hlt : p < t.length
    · have bad : isDig t[p] = false → parseT neg t = (0, 11) := dig_err hbad hlt
      refine go ?_
      refine awp_cT rfl (by rw [decide_eq_true_eq]; omega) ?_
      refine go ?_
      refine ar_indexStr (c := t[p]) (wantF_ok rfl) rfl rfl rfl rfl rfl (by omega) (dig_get hlt) ?_
      refine go ?_
      by_cases h1 : t[p].toNat < 48
      · refine ar_eq 49 rfl (d' := .im (.bool true)) (eqt (by rw [decide_eq_true_eq]; omega)) ?_
        refine go ?_
        refine .inr ?_
        refine ⟨_, rfl, ?_⟩
        exact err_of hpz (bad (by unfold isDig; simp; omega))
      · refine ar_eq 49 rfl (d' := .im (.bool false)) (eqt (by rw [decide_eq_false_iff_not]; omega)) ?_
        refine go ?_
        refine ar_indexStr (c := t[p]) (wantF_ok rfl) rfl rfl rfl rfl rfl (by omega) (dig_get hlt) ?_
        refine go ?_
        refine awp_cond rfl (fun hb => ?_) (fun hb => ?_)
        · refine go ?_
          refine .inr ?_
          refine ⟨_, rfl, ?_⟩
          exact err_of hpz (bad (by unfold isDig; simp at hb; simp; omega))
        · refine go ?_
          refine ⟨p + 1, ⟨by omega, take_all hlt hd (by unfold isDig; simp at hb; simp; omega)⟩, ?_, by omega⟩
          exact gou0
    · refine go ?_
      refine awp_cF rfl (by rw [decide_eq_false_iff_not]; omega) ?_
      refine go ?_
      refine .inl ⟨rfl, (), by rw [← hd, List.take_of_length_le (by omega)], ?_⟩
      exact gou0
  rintro _ hall
  refine awp_seq ?_
  refine go ?_
  refine awp_cond rfl (fun hb => ?_) (fun hb => ?_)
  · refine go ?_
    refine ⟨_, rfl, ?_⟩
    exact err_of hpz (long_err hbad hall (by simp at hb; omega))
  have hlen : t.length ≤ 600 := by simp at hb; omega
  clear hb
  have hvlt : valT t < 10 ^ t.length := valT_lt hall
  refine go ?_
  refine awp_le 6 (m' := mN 0) rfl le_nilN ?_
  refine awp_loopC (A := Nat) (B := Unit) (fun p => p ≤ t.length) (fun p => [(0, some (.im (.str t))), (6, some (.im (mN (valT (t.take p))))), (7, some (.im (.int .i64 (p : Nat)))), (2, some (.ptr 2 0)), (3, some (.im (.int .i64 0))), (4, some (.im (.bool neg)))]) (fun p => [(2, some box0)]) (fun p => t.length - p)
    (fun _ => True) (fun _ => [(6, some (.im (mN (valT t)))), (2, some (.ptr 2 0)), (3, some (.im (.int .i64 0))), (4, some (.im (.bool neg)))]) (fun _ => [(2, some box0)]) 0 (by omega) ?_ ?_ ?_
  · exact gou0
  · rintro p hp
    by_cases hlt : p < t.length
    · have hdp : isDig t[p] = true := by rw [List.all_eq_true] at hall; exact hall _ (List.getElem_mem hlt)
      have hdl := isDig_le hdp
      have hX : valT (t.take p) < W ^ 40 := by
        have h1 : (t.take p).all isDig = true := by
          rw [List.all_eq_true] at hall ⊢
          exact fun x hx => hall x (List.mem_of_mem_take hx)
        have h2 := valT_lt h1
        rw [List.length_take] at h2
        exact Nat.lt_of_lt_of_le h2 (ten40 (by omega))
      have hX2 : valT (t.take p) * 10 < W ^ 41 := by
        rw [show (41 : Nat) = 40 + 1 from rfl, Nat.pow_succ]
        exact Nat.mul_lt_mul'' hX (by unfold W; omega)
      refine go ?_
      refine awp_cT rfl (by rw [decide_eq_true_eq]; omega) ?_
      refine go ?_
      refine clz (by exact rfl) plain108 rfl (rmulw hX (x := 10) (by unfold W; omega)) ?_
      refine go ?_
      refine ar_indexStr (c := t[p]) (wantF_ok rfl) rfl rfl rfl rfl rfl (by omega) (dig_get hlt) ?_
      iterate 2 refine go1 ?_
      refine ar_eq 73 rfl (d' := .im (.int .u64 ((t[p].toNat - 48 : Nat) : Int))) (imI (sub48 hdp)) ?_
      refine go ?_
      refine clz (by exact rfl) plain105 rfl (raddw hX2 (x := t[p].toNat - 48) (by unfold W; omega)) ?_
      refine go ?_
      refine ⟨p + 1, by omega, ?_, by omega⟩
      refine sub_t rfl (sub_te rfl ?_ (imN (valT_snoc hlt).symm))
      exact gou0
    · refine go ?_
      refine awp_cF rfl (by rw [decide_eq_false_iff_not]; omega) ?_
      refine go ?_
      refine .inl ⟨rfl, (), trivial, ?_⟩
      refine sub_te rfl ?_ (imN (by rw [List.take_of_length_le (by omega)]))
      exact gou0
  · rintro _ -
    have hV : valT t < W ^ 40 := Nat.lt_of_lt_of_le hvlt (ten40 hlen)
    refine go ?_
    refine cl (by exact rfl) plain104 rfl (mkm_r hV (by omega)) ?_
    refine go ?_
    refine ⟨_, rfl, ?_⟩
    rw [hpz, parse_ok hbad hall hlen]
    exact Le.refl _
theorem two56' : 2 ≤ 256 := by omega
theorem dig_step {l q : List Nat} {i r : Nat} (hd : Dig 256 l) (hq : q.length = l.length) (hi : i < l.length) (h1 : Tw.val 256 (q.drop (i + 1)) = Tw.val 256 (l.drop (i + 1)) / 10) (h2 : r = Tw.val 256 (l.drop (i + 1)) % 10) :
    Tw.val 256 ((q.set i ((256 * r + l[i]) / 10)).drop i) = Tw.val 256 (l.drop i) / 10 ∧ (256 * r + l[i]) % 10 = Tw.val 256 (l.drop i) % 10 := by
  have e1 := val_drop 256 hi
  have e2 := val_drop 256 (l := q.set i ((256 * r + l[i]) / 10)) (k := i) (by simp; omega)
  have e3 : (q.set i ((256 * r + l[i]) / 10)).drop (i + 1) = q.drop (i + 1) := by rw [List.drop_set_of_lt (by omega)]
  rw [nth_set_eq (by omega), e3, h1] at e2
  rw [nth_lt hi] at e1
  rw [e2, e1]
  omega
theorem q10 {d : Nat} (h : d < 9223372036854775808) : IntKind.i64.wrap (Int.tdiv (d : Int) 10) = ((d / 10 : Nat) : Int) := by
  have e2 : Int.tdiv (d : Int) 10 = ((d / 10 : Nat) : Int) := rfl
  rw [e2, IntKind.wrap_i64]
  omega
abbrev rowI (q : List Nat) : Nat × Option O := (18, some (.rw 3 1 (q.flatMap mi)))
abbrev slotI (n : Nat) : Nat × Option D := (6, some (.row 18 n 1))
set_option maxHeartbeats 4000000 in
theorem rtext_r {m : M} {z : Int} {k : Nat} (h : IsZ m z k) (hk : k ≤ 100) : Ret Tryz.prog 86 [m] (.str (textZ z)) := by
  obtain ⟨b, l, rfl, hd, hl, hz⟩ := h
  have hsm := rsmall_r hd (by omega)
  have hXk : Tw.val W l < W ^ k := Nat.lt_of_lt_of_le (val_lt hd) (Nat.pow_le_pow_right W_pos hl)
  generalize Tw.val W l = X at *
  have hDl : (dec X).length ≤ 20 * k := by unfold dec; rw [List.length_reverse]; exact decE_len hXk
  refine ret_of (L := L) lay_ok Tryz.func86 rfl Tryz.ntmps86 rfl ?_
  refine go ?_
  refine cl (by exact rfl) plain119 rfl hsm ?_
  refine go ?_
  refine awp_loopC (A := Nat × List UInt8) (B := Unit) (fun p => dec p.1 ++ p.2 = dec X ∧ p.1 ≤ X) (fun p => [(3, some (.im (mS mi (digs 256 p.1)))), (4, some (.im (.str p.2))), (1, some (.ptr 1 0))]) (fun _ => [boxI b l]) (fun p => p.1)
    (fun _ => True) (fun _ => [(4, some (.im (.str (dec X)))), (1, some (.ptr 1 0))]) (fun _ => [boxI b l]) (X, []) ⟨by simp, Nat.le_refl _⟩ ?_ ?_ ?_
  · exact gou0
  · rintro ⟨Y, o⟩ ⟨ho, hY⟩
    change Awp _ _ _ _ [(3, some (.im (mS mi (digs 256 Y)))), (4, some (.im (.str o))), (1, some (.ptr 1 0))] [boxI b l]
    simp only [] at ho hY
    have hYk : Y < 256 ^ (8 * k) := by
      have : W ^ k = 256 ^ (8 * k) := by rw [Nat.pow_mul]; rfl
      omega
    have hlY : (digs 256 Y).length ≤ 8 * k := length_digs_le two56' hYk
    have hdY := dig_digs two56' Y
    have hvY := val_digs two56' Y
    have hz0 : (digs 256 Y).length = 0 ↔ Y = 0 := length_digs_zero two56'
    by_cases hY0 : Y = 0
    · refine go ?_
      refine awp_cF rfl (by rw [decide_eq_false_iff_not]; omega) ?_
      refine go ?_
      refine .inl ⟨rfl, (), trivial, ?_⟩
      refine sub_te rfl ?_ (by rw [← ho, hY0, dec_zero]; rfl)
      exact gou0
    generalize hly : digs 256 Y = ly at *
    refine go ?_
    refine awp_cT rfl (by rw [decide_eq_true_eq]; omega) ?_
    refine go ?_
    refine ar_make (enc := mi) 0 rfl rfl rfl (Nat.le_refl _) (by show 8 * ly.length ≤ _; omega) (by omega) ?_
    refine go ?_
    refine awp_loopC (A := Nat × Nat × List Nat) (B := List Nat) (fun p => p.1 ≤ ly.length ∧ p.2.2.length = ly.length ∧ Dig 256 p.2.2 ∧ Tw.val 256 (p.2.2.drop p.1) = Tw.val 256 (ly.drop p.1) / 10 ∧ p.2.1 = Tw.val 256 (ly.drop p.1) % 10)
      (fun p => [(7, some (.im (.int .i64 ((p.1 : Int) - 1)))), (5, some (.im (.int .i64 (p.2.1 : Nat)))), slotI ly.length, (3, some (.im (mS mi ly))), (4, some (.im (.str o))), (1, some (.ptr 1 0))]) (fun p => [boxI b l, rowI p.2.2]) (fun p => p.1)
      (fun q => q.length = ly.length ∧ Dig 256 q ∧ Tw.val 256 q = Y / 10) (fun q => [(5, some (.im (.int .i64 ((Y % 10 : Nat) : Int)))), slotI ly.length, (4, some (.im (.str o))), (1, some (.ptr 1 0))]) (fun q => [boxI b l, rowI q]) (ly.length, 0, List.replicate ly.length 0)
      ⟨Nat.le_refl _, by simp, Dig.zeros (by omega) _, by simp [List.drop_of_length_le, Tw.val], by simp [List.drop_of_length_le, Tw.val]⟩ ?_ ?_ ?_
    · exact gou0
    · rintro ⟨i, r, q⟩ ⟨hi, hql, hqd, hv, hr⟩
      change Awp _ _ _ _ [(7, some (.im (.int .i64 ((i : Int) - 1)))), (5, some (.im (.int .i64 (r : Nat)))), slotI ly.length, (3, some (.im (mS mi ly))), (4, some (.im (.str o))), (1, some (.ptr 1 0))] [boxI b l, rowI q]
      simp only [] at hi hql hqd hv hr
      rcases i with _ | i
      · refine go ?_
        refine .inl ⟨rfl, q, ⟨hql, hqd, by simpa [hvY] using hv⟩, ?_⟩
        refine sub_te rfl ?_ (imI (by rw [hr]; simp [hvY]))
        exact gou0
      have hli : ly[i] < 256 := hdY _ (List.getElem_mem (by omega))
      have hr10 : r < 10 := by omega
      have hD : 256 * r + ly[i] < 9223372036854775808 := by omega
      obtain ⟨s1, s2⟩ := dig_step hdY hql (show i < ly.length by omega) hv hr
      refine go ?_
      refine awp_cT rfl (by rw [decide_eq_true_eq]; omega) ?_
      refine go ?_
      refine ar_eq 27 rfl (d' := .im (.int .i64 (256 * (r : Int)))) (imI (by rw [IntKind.wrap_i64]; omega)) ?_
      refine ar_at (enc := mi) (l := ly) i rfl rfl rfl rfl rfl (fun _ => rfl) rfl (by omega) (by omega) ?_
      refine go ?_
      refine ar_eq 8 rfl (d' := .im (.int .i64 ((256 * r + ly[i] : Nat) : Int))) (imI (by rw [Int.natCast_add, Int.natCast_mul]; rfl)) ?_
      refine go ?_
      refine ar_eq 36 rfl (d' := .im (.int .i64 (((256 * r + ly[i]) / 10 : Nat) : Int))) (imI (q10 hD)) ?_
      refine ar_ix i rfl rfl rfl (by omega) (by omega) ?_
      refine ar_st (enc := mi) i ((256 * r + ly[i]) / 10) rfl rfl rfl (by omega) rfl rfl ?_
      refine go ?_
      refine ⟨(i, (256 * r + ly[i]) % 10, q.set i ((256 * r + ly[i]) / 10)), ⟨by omega, by simp [hql], Dig.set hqd (by omega) _, s1, s2⟩, ?_, by show i < i + 1; omega⟩
      refine sub_te rfl ?_ (imI (by show (((i + 1 : Nat) : Int) - 1 - 1) = (i : Int) - 1; omega))
      exact gou0
    rintro q ⟨hql, hqd, hqv⟩
    refine go ?_
    refine ar_sliceStr (s' := [dch (Y % 10)]) (wantF_ok rfl) rfl rfl rfl rfl rfl rfl ⟨by omega, by omega, by simp; omega⟩ (digit_at (Nat.mod_lt _ (by omega))) ?_
    refine go ?_
    have hol : (dec Y).length + o.length = (dec X).length := by rw [← ho, List.length_append]
    refine ar_addStr (wantF_ok rfl) rfl rfl rfl (by simp; omega) ?_
    refine go ?_
    have hstep : dec (Y / 10) ++ ([dch (Y % 10)] ++ o) = dec X := by rw [← ho, dec_pos (Z := Y) (by omega), List.append_assoc]
    generalize [dch (Y % 10)] ++ o = o' at *
    refine awp_loopC (A := Nat) (B := Nat) (fun n => n ≤ q.length ∧ ∀ i, n ≤ i → i < q.length → nth q i = 0) (fun n => [(9, some (.im (.int .i64 (n : Nat)))), slotI ly.length, (4, some (.im (.str o'))), (1, some (.ptr 1 0))]) (fun _ => [boxI b l, rowI q]) (fun n => n)
      (fun n => n ≤ q.length ∧ digs 256 (Y / 10) = q.take n) (fun n => [(9, some (.im (.int .i64 (n : Nat)))), slotI ly.length, (4, some (.im (.str o'))), (1, some (.ptr 1 0))]) (fun _ => [boxI b l, rowI q]) q.length ⟨Nat.le_refl _, fun i h1 h2 => by omega⟩ ?_ ?_ ?_
    · rw [hql]; exact gou0
    · rintro n ⟨hn, hzn⟩
      rcases n with _ | n
      · refine go ?_
        refine .inl ⟨rfl, 0, ⟨by omega, ?_⟩, ?_⟩
        · have := digs_take two56' hqd (k := 0) (by omega) hzn (by simp)
          rw [hqv] at this; exact this
        · exact gou0
      have hnl : n < q.length := by omega
      refine go ?_
      refine ar_eq 50 rfl (d' := .im (.bool true)) (eqt (by rw [decide_eq_true_eq]; omega)) ?_
      refine go ?_
      refine ar_ix n rfl rfl rfl (by omega) (by omega) ?_
      refine ar_ld (enc := mi) (l := q) n rfl rfl hnl rfl rfl ?_
      refine go ?_
      by_cases hq0 : q[n] = 0
      · refine awp_cT rfl (by rw [hq0]; rfl) ?_
        refine go ?_
        refine ⟨n, ⟨by omega, fun i h1 h2 => ?_⟩, ?_, by omega⟩
        · by_cases h : i = n
          · subst h; rw [nth_lt hnl]; exact hq0
          · exact hzn i (by omega) h2
        · refine sub_te rfl ?_ (imI (by omega))
          exact gou0
      · refine awp_cF rfl (by rw [beq_eq_false_iff_ne]; omega) ?_
        refine go ?_
        refine .inl ⟨rfl, n + 1, ⟨by omega, ?_⟩, ?_⟩
        · have := digs_take two56' hqd (k := n + 1) (by omega) hzn (.inr (by rw [show n + 1 - 1 = n by omega, nth_lt hnl]; exact hq0))
          rw [hqv] at this; exact this
        · exact gou0
    rintro n ⟨hn, hdn⟩
    refine awp_frzRow (id := 18) (k := 6) (cs' := q.flatMap mi) rfl rfl (by rw [flatMap_len (sz := 1) (fun _ => rfl)]; omega) (by rw [List.take_of_length_le]; rw [flatMap_len (sz := 1) (fun _ => rfl)]; omega) ?_
    refine go ?_
    refine ar_sliceSeqHi (n' := n) (cs' := (q.take n).flatMap mi) (wantF_ok rfl) rfl rfl rfl rfl rfl rfl ⟨by omega, by omega⟩ (by omega) (by rw [Int.toNat_natCast]; exact flatMap_take (sz := 1) (fun _ => rfl) q n) ?_
    refine go ?_
    refine ⟨(Y / 10, o'), ⟨hstep, by show Y / 10 ≤ X; omega⟩, ?_, by show Y / 10 < Y; omega⟩
    refine sub_te rfl ?_ (by show D.im (.seq n _) = .im (.seq _ _); rw [hdn, List.length_take, Nat.min_eq_left hn])
    exact gou0
  · rintro _ -
    by_cases hX0 : X = 0
    · subst hX0
      have hz0 : z = 0 := by rw [hz]; cases b <;> rfl
      rw [dec_zero]
      refine go ?_
      refine ⟨_, rfl, ?_⟩
      rw [hz0]; rfl
    have hne : (dec X == []) = false := by
      rw [dec_pos (by omega)]; simp
    have hz1 : z ≠ 0 := by rw [hz]; cases b <;> simp [sg] <;> omega
    have hab : z.natAbs = X := by rw [hz, sg_abs]
    refine go ?_
    refine awp_cF rfl hne ?_
    refine go ?_
    cases b
    · have hneg : ¬ z < 0 := by rw [hz]; simp [sg]
      refine go ?_
      refine ⟨_, rfl, ?_⟩
      unfold textZ
      rw [if_neg hz1, if_neg hneg, hab]
      rfl
    · have hneg : z < 0 := by rw [hz]; simp [sg]; omega
      refine go ?_
      refine ar_addStr (wantF_ok rfl) rfl rfl rfl (by simp; omega) ?_
      refine go ?_
      refine ⟨_, rfl, ?_⟩
      unfold textZ
      rw [if_neg hz1, if_pos hneg, hab]
      rfl
end Go.Proofs.YtpahppekalgegaaGreat
