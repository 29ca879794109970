/- Package digits: Text, by the logic over data. -/
import Derived.Test.YtkbhchlecokpiaaFwD3
set_option linter.unusedVariables false
set_option linter.unusedSimpArgs false
namespace Go.Proofs.Ytkbhchlecokpiaa
open Go Go.RowKit Fw Tw
set_option linter.unusedVariables false
set_option linter.unusedSimpArgs false
def C18 : Nat := 1000000000000000000
theorem divC {X k : Nat} (hX : X < W ^ k) (hk : k ≤ 10000) : Ret Try.prog 132 [mN X, mW [1000000000000000000]] (.tup [mN (X / C18), mN (X % C18)]) := by
  have := divmod_r (dig_digs W_two X) (Dig.one (b := W) (x := 1000000000000000000) (by unfold W; omega)) (len_W hX (by omega)) (by simp)
  rw [val_digs W_two, val_one] at this
  exact this
theorem decE_len {X k : Nat} (hX : X < W ^ k) : (decE X).length ≤ 20 * k := by
  unfold decE
  rw [List.length_map]
  refine length_digs_le ten_two (Nat.lt_of_lt_of_le hX ?_)
  rw [Nat.pow_mul]
  exact Nat.pow_le_pow_left (by unfold W; omega) k
theorem byte_of {n : Nat} (h : n < 18446744073709551616) : IntKind.u8.wrap (IntKind.u64.wrap (48 + Int.tmod (n : Int) 10)) = (((dch (n % 10)).toNat : Nat) : Int) := by
  rw [dch_toNat (by omega)]
  have e2 : Int.tmod (n : Int) 10 = ((n % 10 : Nat) : Int) := rfl
  rw [e2, IntKind.wrap_u64, IntKind.wrap_u8]
  omega
theorem quo_of {n : Nat} (h : n < 18446744073709551616) : IntKind.u64.wrap (Int.tdiv (n : Int) 10) = ((n / 10 : Nat) : Int) := by
  have e2 : Int.tdiv (n : Int) 10 = ((n / 10 : Nat) : Int) := rfl
  rw [e2, IntKind.wrap_u64]
  omega
/-- the bytes so far: the slot, and the row -/
abbrev outS (o : List UInt8) : Nat × Option D := (3, some (.row 45 o.length 1))
abbrev outR (o : List UInt8) : Nat × Option O := (45, some (.rw 5 1 (o.flatMap mb)))
abbrev boxI (b : Bool) (l : List Nat) : Nat × Option O := (1, some (.box 24 [.im (.bool b), .im (mW l)]))
set_option maxHeartbeats 4000000 in
theorem text_r {m : M} {z : Int} {k : Nat} (h : IsZ m z k) (hk : k ≤ 10000) : Ret Try.prog 99 [m] (.str (textZ z)) := by
  obtain ⟨b, l, rfl, hd, hl, hz⟩ := h
  have htr := trim_r hd (by omega)
  have hXk : Tw.val W l < W ^ k := Nat.lt_of_lt_of_le (val_lt hd) (Nat.pow_le_pow_right W_pos hl)
  generalize Tw.val W l = X at *
  have hDl := decE_len hXk
  refine ret_of (L := L) lay_ok Try.func99 rfl Try.ntmps99 rfl ?_
  refine go ?_
  refine cl (by exact rfl) plain131 rfl htr ?_
  refine go ?_
  refine awp_nilRow (id := 45) (k := 3) (sz := 1) (e := 5) rfl rfl ?_
  refine awp_loopC (A := Nat × List UInt8) (B := Unit) (fun p => p.2 ++ decE p.1 = decE X ∧ p.1 ≤ X) (fun p => [(4, some (.im (mN p.1))), outS p.2, (1, some (.ptr 1 0))]) (fun p => [boxI b l, outR p.2]) (fun p => p.1)
    (fun _ => True) (fun _ => [outS (decE X), (1, some (.ptr 1 0))]) (fun _ => [boxI b l, outR (decE X)]) (X, []) ⟨rfl, Nat.le_refl _⟩ ?_ ?_ ?_
  · exact gou0
  · rintro ⟨Y, o⟩ ⟨ho, hY⟩
    change Awp _ _ _ _ [(4, some (.im (mN Y))), outS o, (1, some (.ptr 1 0))] [boxI b l, outR o]
    simp only [] at ho hY
    have hYk : Y < W ^ k := by omega
    refine go ?_
    by_cases hY0 : Y = 0
    · refine awp_cond rfl (fun hb => ?_) (fun hb => ?_)
      · exact absurd (hb.symm.trans (lenf hY0)) (by decide)
      · refine go ?_
        have e : o = decE X := by rw [← ho, hY0, decE_zero, List.append_nil]
        refine .inl ⟨rfl, (), trivial, ?_⟩
        rw [← e]
        exact gou0
    refine awp_cond rfl (fun hb => ?_) (fun hb => ?_)
    case refine_2 => exact absurd (hb.symm.trans (lent hY0)) (by decide)
    clear hb
    have hC : C18 = 1000000000000000000 := rfl
    have hmod : Y % C18 < C18 := Nat.mod_lt _ (by omega)
    have hR : Y / C18 < Y := Nat.div_lt_self (by omega) (by omega)
    have hsplit : Y % C18 + Y / C18 * 10 ^ 18 = Y := by
      have h1 := Nat.mod_add_div Y C18
      have h2 : (10 : Nat) ^ 18 = C18 := by decide
      rw [h2, Nat.mul_comm]; exact h1
    refine go ?_
    refine clz (by exact rfl) plain132 rfl (divC hYk hk) ?_
    refine go ?_
    refine awp_cutS (A := Unit) (fun _ => True) (fun _ => [(6, some (.im (.int .u64 ((Y % C18 : Nat) : Int)))), (4, some (.im (mN (Y / C18)))), outS o, (1, some (.ptr 1 0))]) (fun _ => [boxI b l, outR o]) ?_ ?_
    · by_cases hm0 : Y % C18 = 0
      · refine awp_cond rfl (fun hb => ?_) (fun hb => ?_)
        · exact absurd (hb.symm.trans (lenf hm0)) (by decide)
        · refine go ?_
          refine .inl ⟨rfl, (), trivial, ?_⟩
          refine sub_te rfl ?_ (imI (by rw [hm0]; rfl))
          exact gou0
      · have hdg : digs W (Y % C18) = [Y % C18] := by
          rw [digs_pos W_two (by omega), Nat.mod_eq_of_lt (by unfold W; omega), Nat.div_eq_of_lt (by unfold W; omega), digs_zero]
        refine awp_cond rfl (fun hb => ?_) (fun hb => ?_)
        case refine_2 => exact absurd (hb.symm.trans (lent hm0)) (by decide)
        refine go ?_
        refine ar_at (enc := mw) (l := digs W (Y % C18)) 0 rfl rfl rfl rfl rfl (fun _ => rfl) rfl rfl (len_pos hm0) ?_
        refine go ?_
        refine .inl ⟨rfl, (), trivial, ?_⟩
        refine sub_te rfl ?_ (imI (by simp only [hdg, List.getElem_cons_zero]))
        exact gou0
    rintro _ -
    generalize hRR : Y / C18 = R at *
    have hRk : R < W ^ k := by omega
    have hstart : o ++ decE (Y % C18 + R * 10 ^ (18 - 0)) = decE X := by rw [show 18 - 0 = 18 from rfl, hsplit]; exact ho
    generalize Y % C18 = n0 at *
    refine go ?_
    refine awp_loopD (A := Nat × Nat × List UInt8) (B := List UInt8) (fun p => p.1 ≤ 18 ∧ p.2.1 < 10 ^ (18 - p.1) ∧ p.2.2 ++ decE (p.2.1 + R * 10 ^ (18 - p.1)) = decE X)
      (fun p => [(7, some (.im (.int .i64 (p.1 : Nat)))), (6, some (.im (.int .u64 (p.2.1 : Nat)))), (4, some (.im (mN R))), outS p.2.2, (1, some (.ptr 1 0))]) (fun p => [boxI b l, outR p.2.2]) (fun p => 18 - p.1)
      (fun q => q ++ decE R = decE X) (fun q => [(4, some (.im (mN R))), outS q, (1, some (.ptr 1 0))]) (fun q => [boxI b l, outR q]) (0, n0, o) ⟨by simp, by show n0 < 10 ^ 18; omega, hstart⟩ ?_ ?_ ?_
    · exact gou0
    · rintro ⟨kk, n, q⟩ ⟨h1, h2, h3⟩
      change Awp _ _ _ _ [(7, some (.im (.int .i64 (kk : Nat)))), (6, some (.im (.int .u64 (n : Nat)))), (4, some (.im (mN R))), outS q, (1, some (.ptr 1 0))] [boxI b l, outR q]
      simp only [] at h1 h2 h3
      have hn18 : n < 1000000000000000000 := Nat.lt_of_lt_of_le h2 (ten18 (by omega))
      have hn64 : n < 18446744073709551616 := by omega
      refine awp_seq ?_
      refine awp_cutS (A := Unit) (fun _ => kk < 18 ∧ (0 < n ∨ 0 < R)) (fun _ => [(7, some (.im (.int .i64 (kk : Nat)))), (6, some (.im (.int .u64 (n : Nat)))), (4, some (.im (mN R))), outS q, (1, some (.ptr 1 0))]) (fun _ => [boxI b l, outR q]) ?_ ?_
      · refine go ?_
        by_cases hk18 : kk < 18
        · refine ar_eq 28 rfl (d' := .im (.bool true)) (eqt (by rw [decide_eq_true_eq]; omega)) ?_
          refine go ?_
          by_cases hn : 0 < n
          · refine ar_eq 31 rfl (d' := .im (.bool true)) (eqt (by rw [decide_eq_true_eq]; omega)) ?_
            refine go ?_
            refine .inl ⟨rfl, (), ⟨hk18, .inl hn⟩, ?_⟩
            exact gou0
          · refine ar_eq 31 rfl (d' := .im (.bool false)) (eqt (by rw [decide_eq_false_iff_not]; omega)) ?_
            refine go ?_
            by_cases hR0 : R = 0
            · refine awp_cond rfl (fun hb => ?_) (fun hb => ?_)
              · exact absurd (hb.symm.trans (lenf hR0)) (by decide)
              · refine go ?_
                refine .inr (.inl ⟨rfl, q, ?_, ?_⟩)
                · have : n = 0 := by omega
                  rw [this, hR0, Nat.zero_mul] at h3
                  rw [hR0]; exact h3
                · exact gou0
            · refine awp_cond rfl (fun hb => ?_) (fun hb => ?_)
              · refine go ?_
                refine .inl ⟨rfl, (), ⟨hk18, .inr (by omega)⟩, ?_⟩
                exact gou0
              · exact absurd (hb.symm.trans (lent hR0)) (by decide)
        · refine ar_eq 28 rfl (d' := .im (.bool false)) (eqt (by rw [decide_eq_false_iff_not]; omega)) ?_
          refine go ?_
          have hkk : kk = 18 := by omega
          subst hkk
          refine .inr (.inl ⟨rfl, q, ?_, ?_⟩)
          · have : n = 0 := by simpa using h2
            rw [this] at h3
            simpa using h3
          · exact gou0
      · rintro _ ⟨hk18, hpos⟩
        rw [chunk_step hk18 hpos] at h3
        have hnew : (q ++ [dch (n % 10)]) ++ decE (n / 10 + R * 10 ^ (18 - (kk + 1))) = decE X := by rw [List.append_assoc]; exact h3
        have hql : (q ++ [dch (n % 10)]).length ≤ 20 * k := by
          have := congrArg List.length hnew
          rw [List.length_append] at this
          omega
        have hnd : n / 10 < 10 ^ (18 - (kk + 1)) := by
          have e : (10 : Nat) ^ (18 - kk) = 10 ^ (18 - (kk + 1)) * 10 := by rw [← Nat.pow_succ]; congr 1; omega
          rw [e] at h2
          exact Nat.div_lt_of_lt_mul (by rw [Nat.mul_comm]; exact h2)
        refine awp_renRow (id := 45) (id' := 1045) (k := 3) rfl rfl rfl rfl ?_
        refine awp_sub (t' := [(7, some (.im (.int .i64 (kk : Nat)))), (6, some (.im (.int .u64 (n : Nat)))), (4, some (.im (mN R))), (3, some (.row 1045 q.length 1)), (1, some (.ptr 1 0))]) (h' := [boxI b l, (1045, some (.rw 5 1 (q.flatMap mb)))]) ?_ ?_
        · exact gou0
        · refine go ?_
          refine ar_app1 (enc := mb) (l := q) (a := dch (n % 10)) rfl rfl rfl rfl rfl rfl (by rw [byte_of hn64]; rfl) (fun _ => rfl) rfl rfl rfl rfl rfl rfl rfl (by show (q ++ [dch (n % 10)]).length * 1 ≤ _; omega) (by omega) rfl ?_
          refine go ?_
          refine ⟨(kk + 1, n / 10, q ++ [dch (n % 10)]), ⟨by show kk + 1 ≤ 18; omega, hnd, hnew⟩, ?_, by show 18 - (kk + 1) < 18 - kk; omega⟩
          refine sub_t rfl (sub_te rfl ?_ (imI (quo_of hn64)))
          exact gou0
    · rintro q t' h' hq hs
      refine ⟨(R, q), ⟨hq, by show R ≤ X; omega⟩, hs.trans ?_, hR⟩
      exact gou0
  · rintro _ -
    by_cases hX0 : X = 0
    · subst hX0
      have hz0 : z = 0 := by rw [hz]; cases b <;> rfl
      rw [decE_zero]
      refine go ?_
      refine ⟨_, rfl, ?_⟩
      rw [hz0]; rfl
    have hlen : (decE X).length ≠ 0 := by
      rw [decE_pos (by omega)]; simp
    have hne : ((((decE X).length : Nat) : Int) == 0) = false := by rw [beq_eq_false_iff_ne]; omega
    have hz1 : z ≠ 0 := by rw [hz]; cases b <;> simp [sg] <;> omega
    have hab : z.natAbs = X := by rw [hz, sg_abs]
    cases b
    · have hneg : ¬ z < 0 := by rw [hz]; simp [sg]
      refine go ?_
      refine awp_cond rfl (fun hb => ?_) (fun hb => ?_)
      · exact absurd (hb.symm.trans hne) (by decide)
      refine go ?_
      refine ar_sem rfl rfl rfl (og := [(45, .rw 5 1 ((decE X).flatMap mb))]) (by intro p hp; simp only [List.mem_singleton] at hp; subst hp; rfl) (by intro p hp; simp only [List.mem_singleton] at hp; subst hp; exact List.mem_singleton.2 rfl) (sem_reverse (l := (decE X))) rfl ?_
      refine goq ?_
      refine awp_frzRow (id := 45) (k := 3) (n := (decE X).reverse.length) (cs' := (decE X).reverse.flatMap mb) (by simp only [List.length_reverse]; rfl) rfl (by rw [mb_len]; simp) (by rw [List.take_of_length_le (by rw [mb_len]; simp)]) ?_
      refine go ?_
      refine ar_string (l := (decE X).reverse) rfl rfl rfl rfl rfl rfl rfl rfl rfl ?_
      refine go ?_
      refine ⟨_, rfl, ?_⟩
      unfold textZ
      rw [if_neg hz1, if_neg hneg, hab]
      rfl
    · have hneg : z < 0 := by rw [hz]; simp [sg]; omega
      refine go ?_
      refine awp_cond rfl (fun hb => ?_) (fun hb => ?_)
      · exact absurd (hb.symm.trans hne) (by decide)
      refine go ?_
      refine ar_app1 (enc := mb) (l := decE X) (a := 45) rfl rfl rfl rfl rfl rfl rfl (fun _ => rfl) rfl rfl rfl rfl rfl rfl rfl (by show (decE X ++ [45]).length * 1 ≤ _; simp; omega) (by simp; omega) rfl ?_
      refine go ?_
      refine ar_sem rfl rfl rfl (og := [(57, .rw 5 1 ((decE X ++ [45]).flatMap mb))]) (by intro p hp; simp only [List.mem_singleton] at hp; subst hp; rfl) (by intro p hp; simp only [List.mem_singleton] at hp; subst hp; exact List.mem_singleton.2 rfl) (sem_reverse (l := (decE X ++ [45]))) rfl ?_
      refine goq ?_
      refine awp_frzRow (id := 57) (k := 3) (n := (decE X ++ [45]).reverse.length) (cs' := (decE X ++ [45]).reverse.flatMap mb) (by simp only [List.length_reverse]; rfl) rfl (by rw [mb_len]; simp) (by rw [List.take_of_length_le (by rw [mb_len]; simp)]) ?_
      refine go ?_
      refine ar_string (l := (decE X ++ [45]).reverse) rfl rfl rfl rfl rfl rfl rfl rfl rfl ?_
      refine go ?_
      refine ⟨_, rfl, ?_⟩
      unfold textZ
      rw [if_neg hz1, if_pos hneg, hab]
      show M.str (decE X ++ [45]).reverse = _
      rw [List.reverse_append]
      rfl
end Go.Proofs.Ytkbhchlecokpiaa
