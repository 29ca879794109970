/- Package digits: Parse, by the logic over data. -/
import Derived.Test.YtkbhchlecokpiaaFwT
import Derived.Test.YtkbhchlecokpiaaFwV
import Derived.Test.YtkbhchlecokpiaaFwL2
set_option linter.unusedVariables false
set_option linter.unusedSimpArgs false
namespace Go.Proofs.Ytkbhchlecokpiaa
open Go Go.RowKit Fw Tw
set_option linter.unusedVariables false
set_option linter.unusedSimpArgs false
theorem ten40 {n : Nat} (h : n ≤ 600) : 10 ^ n ≤ W ^ 40 := by
  have key : ∀ m, n ≤ 15 * m → 10 ^ n ≤ W ^ m := by
    intro m hm
    have h1 : 10 ^ n ≤ 10 ^ (15 * m) := Nat.pow_le_pow_right (by omega) hm
    rw [Nat.pow_mul] at h1
    exact Nat.le_trans h1 (Nat.pow_le_pow_left (by unfold W; omega) m)
  exact key 40 (by omega)
theorem index0 {c : UInt8} {r : List UInt8} : (c :: r)[(0 : Int).toNat]? = some c := rfl
theorem mulw {X x : Nat} (hX : X < W ^ 40) (hx : x < W) : Ret Try.prog 141 [mN X, mW [x]] (mN (X * x)) := by
  have := mul_r (dig_digs W_two X) (Dig.one hx) (len_W hX (by omega)) (by simp)
  rwa [val_digs W_two, val_one] at this
theorem addw {X x : Nat} (hX : X < W ^ 41) (hx : x < W) : Ret Try.prog 112 [mN X, mW [x]] (mN (X + x)) := by
  have := add_r (dig_digs W_two X) (Dig.one hx) (len_W hX (by omega)) (by simp)
  rwa [val_digs W_two, val_one] at this
/-- api.Int{} in a box -/
abbrev box0 : O := .box 24 [.im (.bool false), .im .nil]
def okI (m : M) (z : Int) : Prop := Le m (mI z)
theorem le_zero : Le (.agg [.bool false, .nil]) (mI 0) := by
  rw [mI_zero]
  exact le_agg (.cons (Le.refl _) (.cons le_nil .nil))
theorem negT_cons (c : UInt8) (r : List UInt8) : negT (c :: r) = (c == 45) := rfl
theorem u8eq (c d : UInt8) : (((c.toNat : Nat) : Int) == ((d.toNat : Nat) : Int)) = (c == d) := by
  by_cases h : c = d
  · subst h; simp
  · have : ¬ c.toNat = d.toNat := fun e => h (UInt8.toNat_inj.1 e)
    rw [beq_eq_false_iff_ne.2 h, beq_eq_false_iff_ne]
    omega
theorem err_of {neg : Bool} {t s : List UInt8} {e : Int} (hpz : parseZ s = parseT neg t) (h : parseT neg t = (0, e)) : Le (.tup [.agg [.bool false, .nil], .int .i64 e]) (.tup [mI (parseZ s).1, .int .i64 (parseZ s).2]) := by
  rw [hpz, h]
  exact le_tup (.cons le_zero (.cons (Le.refl _) .nil))
theorem bad_err {neg : Bool} {t : List UInt8} (h : badT neg t = true) : parseT neg t = (0, 11) := by unfold parseT; rw [if_pos h]
theorem dig_err {neg : Bool} {t : List UInt8} {p : Nat} (h : badT neg t = false) (hp : p < t.length) (hd : isDig t[p] = false) : parseT neg t = (0, 11) := by
  unfold parseT
  rw [h, if_neg (by decide)]
  have : t.all isDig = false := by
    rw [Bool.eq_false_iff]
    intro ha
    rw [List.all_eq_true] at ha
    rw [ha t[p] (List.getElem_mem hp)] at hd
    cases hd
  rw [if_pos this]
theorem long_err {neg : Bool} {t : List UInt8} (h : badT neg t = false) (ha : t.all isDig = true) (hl : 600 < t.length) : parseT neg t = (0, 3) := by
  unfold parseT
  rw [h, if_neg (by decide), ha, if_neg (by decide), if_pos hl]
theorem parse_ok {neg : Bool} {t : List UInt8} (h : badT neg t = false) (ha : t.all isDig = true) (hl : t.length ≤ 600) : parseT neg t = (sg neg (valT t), 0) := by
  unfold parseT
  rw [h, if_neg (by decide), ha, if_neg (by decide), if_neg (by omega)]
theorem negT_len {s : List UInt8} (h : negT s = true) : 1 ≤ s.length := by
  cases s with
  | nil => cases h
  | cons c r => simp
theorem take_all {t : List UInt8} {p : Nat} (hp : p < t.length) (h : (t.take p).all isDig = true) (hd : isDig t[p] = true) : (t.take (p + 1)).all isDig = true := by
  rw [List.take_succ_eq_append_getElem hp, List.all_append, h]
  simp [hd]
theorem valT_snoc {t : List UInt8} {p : Nat} (hp : p < t.length) : valT (t.take (p + 1)) = valT (t.take p) * 10 + (t[p].toNat - 48) := by
  rw [List.take_succ_eq_append_getElem hp, valT_append]
  simp [valT]
theorem chunk_k {n : Nat} (h : 0 < n) (h2 : n ≤ 600) : IntKind.i64.wrap (Int.tmod ((n : Int) - 1) 18 + 1) = (((n - 1) % 18 + 1 : Nat) : Int) := by
  have e : (n : Int) - 1 = ((n - 1 : Nat) : Int) := by omega
  rw [e]
  have e2 : Int.tmod ((n - 1 : Nat) : Int) 18 = (((n - 1) % 18 : Nat) : Int) := rfl
  rw [e2, IntKind.wrap_i64]
  omega
theorem le_nilN : Le .nil (mN 0) := by
  have : mN 0 = .seq 0 [] := by show mW (digs W 0) = _; rw [digs_zero]; rfl
  rw [this]; exact le_nil
theorem ten18 {k : Nat} (h : k ≤ 18) : 10 ^ k ≤ 1000000000000000000 := Nat.le_trans (Nat.pow_le_pow_right (by omega) h) (by decide)
theorem imI {k : IntKind} {a b : Int} (h : a = b) : D.im (.int k a) = .im (.int k b) := by rw [h]
theorem imN {X Y : Nat} (h : X = Y) : D.im (mN X) = .im (mN Y) := by rw [h]
set_option maxHeartbeats 4000000 in
theorem parse_r {s : List UInt8} (hs : s.length ≤ maxLen) : Ret Try.prog 126 [.str s] (.tup [mI (parseZ s).1, .int .i64 (parseZ s).2]) := by
  have hml : maxLen = 9223372036854775807 := rfl
  refine ret_ofL (L := L) lay_ok Try.func126 rfl Try.ntmps126 rfl ?_
  refine goq ?_
  refine gon ?_
  -- the sign
  refine awp_cutS (A := Unit) (fun _ => True) (fun _ => [(0, some (.im (.str s))), (2, some (.ptr 2 0)), (3, some (.im (.int .i64 0))), (4, some (.im (.bool (negT s))))]) (fun _ => [(2, some box0)]) ?_ ?_
  · rcases s with _ | ⟨c, r⟩
    · refine go ?_
      refine .inl ⟨rfl, (), trivial, ?_⟩
      exact gou0
    · refine go ?_
      refine ar_eq 16 rfl (d' := .im (.bool true)) (eqt (by rw [decide_eq_true_eq]; simp only [List.length_cons]; omega)) ?_
      refine gos ?_
      refine ar_indexStr (c := c) (wantF_ok rfl) rfl rfl rfl rfl rfl (by omega) rfl ?_
      refine go ?_
      refine .inl ⟨rfl, (), trivial, ?_⟩
      refine gou ?_
      refine sub_te rfl ?_ (eqt (u8eq c 45))
      exact gou0
  rintro _ -
  refine awp_seq ?_
  refine awp_cutS (A := Unit) (fun _ => True) (fun _ => [(0, some (.im (.str (bodyT s)))), (2, some (.ptr 2 0)), (3, some (.im (.int .i64 0))), (4, some (.im (.bool (negT s))))]) (fun _ => [(2, some box0)]) ?_ ?_
  · refine go ?_
    refine awp_cond rfl (fun hb => ?_) (fun hb => ?_)
    · refine go ?_
      refine ar_sliceStrLo (s' := bodyT s) (wantF_ok rfl) rfl rfl rfl rfl rfl ⟨by omega, by have := negT_len hb; omega⟩ (by unfold bodyT; rw [if_pos hb]; rfl) ?_
      refine go ?_
      refine .inl ⟨rfl, (), trivial, ?_⟩
      exact gou0
    · refine go ?_
      refine .inl ⟨rfl, (), trivial, ?_⟩
      refine sub_te rfl ?_ (by unfold bodyT; rw [hb]; rfl)
      exact gou0
  rintro _ -
  have hpz : parseZ s = parseT (negT s) (bodyT s) := rfl
  have ht : (bodyT s).length ≤ maxLen := by
    unfold bodyT
    split
    · rw [List.length_drop]; omega
    · exact hs
  generalize negT s = neg at *
  generalize bodyT s = t at *
  refine awp_seq ?_
  refine awp_cutS (A := Unit) (fun _ => badT neg t = false) (fun _ => [(0, some (.im (.str t))), (2, some (.ptr 2 0)), (3, some (.im (.int .i64 0))), (4, some (.im (.bool neg)))]) (fun _ => [(2, some box0)]) ?_ ?_
  · rcases t with _ | ⟨c, r⟩
    · refine go ?_
      refine .inr ?_
      refine ⟨_, rfl, ?_⟩
      exact err_of hpz (bad_err rfl)
    · refine go ?_
      refine ar_indexStr (c := c) (wantF_ok rfl) rfl rfl rfl rfl rfl (by omega) rfl ?_
      by_cases hc : c = 48
      · subst hc
        cases neg
        · refine go ?_
          refine awp_cond rfl (fun hb => ?_) (fun hb => ?_)
          · refine go ?_
            refine .inr ?_
            refine ⟨_, rfl, ?_⟩
            have h9 : 0 < r.length := by simp only [decide_eq_true_eq, List.length_cons] at hb; omega
            exact err_of hpz (bad_err (by simp only [badT]; rw [decide_eq_true h9]; rfl))
          · refine go ?_
            have h9 : ¬ 0 < r.length := by simp only [decide_eq_false_iff_not, List.length_cons] at hb; omega
            refine .inl ⟨rfl, (), by simp only [badT]; rw [decide_eq_false h9]; rfl, ?_⟩
            exact gou0
        · refine go ?_
          refine .inr ?_
          refine ⟨_, rfl, ?_⟩
          exact err_of hpz (bad_err rfl)
      · have hc' : (((c.toNat : Nat) : Int) == 48) = false := (u8eq c 48).trans (beq_eq_false_iff_ne.2 hc)
        refine go ?_
        refine ar_eq 30 rfl (d' := .im (.bool false)) (eqt hc') ?_
        refine go ?_
        refine .inl ⟨rfl, (), by simp only [badT]; rw [beq_eq_false_iff_ne.2 hc]; rfl, ?_⟩
        exact gou0
  rintro _ hbad
  refine awp_seq ?_
  refine go ?_
  refine awp_loopC (A := Nat) (B := Unit) (fun p => p ≤ t.length ∧ (t.take p).all isDig = true) (fun p => [(0, some (.im (.str t))), (2, some (.ptr 2 0)), (3, some (.im (.int .i64 0))), (4, some (.im (.bool neg))), (41, some (.ptr 41 0))]) (fun p => [(2, some box0), (41, some (.it t p))]) (fun p => t.length - p)
    (fun _ => t.all isDig = true) (fun _ => [(0, some (.im (.str t))), (2, some (.ptr 2 0)), (3, some (.im (.int .i64 0))), (4, some (.im (.bool neg)))]) (fun _ => [(2, some box0)]) 0 ⟨by omega, rfl⟩ ?_ ?_ ?_
  · exact gou0
  · rintro p ⟨hp, hd⟩
    by_cases hlt : p < t.length
    · have bad : isDig t[p] = false → parseT neg t = (0, 11) := dig_err hbad hlt
      by_cases hlow : t[p].toNat < 128
      · refine go ?_
        refine ar_next rfl rfl rfl rfl hlt (dec_low hlt hlow) ?_
        by_cases h1 : t[p].toNat < 48
        · refine go ?_
          refine ar_eq 47 rfl (d' := .im (.bool true)) (eqt (by rw [decide_eq_true_eq]; omega)) ?_
          refine go ?_
          refine .inr ?_
          refine ⟨_, rfl, ?_⟩
          exact err_of hpz (bad (by unfold isDig; simp; omega))
        · refine go ?_
          refine ar_eq 47 rfl (d' := .im (.bool false)) (eqt (by rw [decide_eq_false_iff_not]; omega)) ?_
          refine go ?_
          refine awp_cond rfl (fun hb => ?_) (fun hb => ?_)
          · refine go ?_
            refine .inr ?_
            refine ⟨_, rfl, ?_⟩
            exact err_of hpz (bad (by unfold isDig; simp at hb; simp; omega))
          · refine go ?_
            refine ⟨p + 1, ⟨by omega, take_all hlt hd (by unfold isDig; simp at hb; simp; omega)⟩, ?_, by omega⟩
            exact gou0
      · obtain ⟨c, q, hq, hc⟩ := dec_high hlt (by omega)
        refine go ?_
        refine ar_next rfl rfl rfl rfl hlt hq ?_
        refine go ?_
        refine ar_eq 47 rfl (d' := .im (.bool false)) (eqt (by rw [decide_eq_false_iff_not]; omega)) ?_
        refine go ?_
        refine awp_cond rfl (fun hb => ?_) (fun hb => ?_)
        · refine go ?_
          refine .inr ?_
          refine ⟨_, rfl, ?_⟩
          exact err_of hpz (bad (by unfold isDig; simp; omega))
        · simp at hb; omega
    · refine go ?_
      refine ar_over rfl rfl rfl rfl (by omega) ?_
      refine go ?_
      refine .inl ⟨rfl, (), by rw [← hd, List.take_of_length_le (by omega)], ?_⟩
      exact gou0
  rintro _ hall
  refine awp_seq ?_
  refine go ?_
  refine awp_cond rfl (fun hb => ?_) (fun hb => ?_)
  · refine go ?_
    refine ⟨_, rfl, ?_⟩
    exact err_of hpz (long_err hbad hall (by simp at hb; omega))
  have hlen : t.length ≤ 600 := by simp at hb; omega
  clear hb
  have hvlt : valT t < 10 ^ t.length := valT_lt hall
  refine go ?_
  refine awp_le 7 (m' := mN 0) rfl le_nilN ?_
  refine awp_loopC (A := Nat) (B := Unit) (fun p => p ≤ t.length) (fun p => [(0, some (.im (.str (t.drop p)))), (7, some (.im (mN (valT (t.take p))))), (2, some (.ptr 2 0)), (3, some (.im (.int .i64 0))), (4, some (.im (.bool neg)))]) (fun p => [(2, some box0)]) (fun p => t.length - p)
    (fun _ => True) (fun _ => [(7, some (.im (mN (valT t)))), (2, some (.ptr 2 0)), (3, some (.im (.int .i64 0))), (4, some (.im (.bool neg)))]) (fun _ => [(2, some box0)]) 0 (by omega) ?_ ?_ ?_
  · exact gou0
  · rintro p hp
    have hld : (t.drop p).length = t.length - p := by rw [List.length_drop]
    by_cases hlt : p < t.length
    · refine go ?_
      refine awp_cond rfl (fun hb => ?_) (fun hb => ?_)
      case refine_2 => rw [decide_eq_false_iff_not] at hb; omega
      clear hb
      obtain ⟨k, hk⟩ : ∃ k, k = (t.length - p - 1) % 18 + 1 := ⟨_, rfl⟩
      have hkk : IntKind.i64.wrap (Int.tmod (((t.drop p).length : Int) - 1) 18 + 1) = ((k : Nat) : Int) := by
        rw [hld, chunk_k (by omega) (by omega), hk]
      have hk18 : k ≤ 18 := by omega
      have hkl : p + k ≤ t.length := by omega
      obtain ⟨u, hu⟩ : ∃ u, u = (t.drop p).take k := ⟨_, rfl⟩
      have hul : u.length = k := by rw [hu, List.length_take, hld]; omega
      have hud : u.all isDig = true := by
        rw [List.all_eq_true] at hall ⊢
        intro x hx
        rw [hu] at hx
        exact hall x (List.mem_of_mem_drop (List.mem_of_mem_take hx))
      have hX : valT (t.take p) < W ^ 40 := by
        have h1 : (t.take p).all isDig = true := by
          rw [List.all_eq_true] at hall ⊢
          exact fun x hx => hall x (List.mem_of_mem_take hx)
        have h2 := valT_lt h1
        rw [List.length_take] at h2
        exact Nat.lt_of_lt_of_le h2 (ten40 (by omega))
      have hU := valT_lt hud
      rw [hul] at hU
      have hpw := ten18 hk18
      have hXU : valT (t.take (p + k)) = valT (t.take p) * 10 ^ k + valT u := by
        have : t.take (p + k) = t.take p ++ u := by rw [List.take_add, hu]
        rw [this, valT_append, hul]
      have hX2 : valT (t.take p) * 10 ^ k < W ^ 41 := by
        rw [show (41 : Nat) = 40 + 1 from rfl, Nat.pow_succ]
        exact Nat.mul_lt_mul'' hX (by unfold W; omega)
      refine go ?_
      refine ar_eq 8 rfl (d' := .im (.int .i64 (k : Nat))) (imI hkk) ?_
      refine ar_eq 65 rfl (d' := .im (.int .i64 (k : Nat))) (imI hkk) ?_
      refine ar_sliceStrHi (s' := u) (wantF_ok rfl) rfl rfl rfl rfl rfl ⟨by omega, by omega⟩ (by rw [hu]; rfl) ?_
      refine go ?_
      refine awp_loopC (A := Nat) (B := Unit) (fun i => i ≤ k) (fun i => [(9, some (.im (.int .u64 (valT (u.take i) : Nat)))), (10, some (.im (.int .u64 ((10 ^ i : Nat) : Int)))), (67, some (.ptr 67 0)), (0, some (.im (.str (t.drop p)))), (7, some (.im (mN (valT (t.take p))))), (8, some (.im (.int .i64 (k : Nat)))), (2, some (.ptr 2 0)), (3, some (.im (.int .i64 0))), (4, some (.im (.bool neg)))]) (fun i => [(2, some box0), (67, some (.it u i))]) (fun i => k - i)
        (fun _ => True) (fun _ => [(9, some (.im (.int .u64 (valT u : Nat)))), (10, some (.im (.int .u64 ((10 ^ k : Nat) : Int)))), (0, some (.im (.str (t.drop p)))), (7, some (.im (mN (valT (t.take p))))), (8, some (.im (.int .i64 (k : Nat)))), (2, some (.ptr 2 0)), (3, some (.im (.int .i64 0))), (4, some (.im (.bool neg)))]) (fun _ => [(2, some box0)]) 0 (by omega) ?_ ?_ ?_
      · exact gou0
      · rintro i hi
        by_cases hil : i < u.length
        · have hdi : isDig u[i] = true := by rw [List.all_eq_true] at hud; exact hud _ (List.getElem_mem hil)
          have hdl := isDig_le hdi
          have h1 := ten18 (k := i + 1) (by omega)
          have h3 : valT (u.take (i + 1)) = valT (u.take i) * 10 + (u[i].toNat - 48) := valT_snoc hil
          have h4 : valT (u.take (i + 1)) < 10 ^ (i + 1) := by
            have ha : (u.take (i + 1)).all isDig = true := by
              rw [List.all_eq_true] at hud ⊢
              exact fun x hx => hud x (List.mem_of_mem_take hx)
            have := valT_lt ha
            rwa [List.length_take, Nat.min_eq_left (by omega)] at this
          have h5 : 10 ^ (i + 1) = 10 ^ i * 10 := by rw [Nat.pow_succ]
          refine go ?_
          refine ar_next rfl rfl rfl rfl hil (dec_low hil (by omega)) ?_
          refine go ?_
          refine ⟨i + 1, by omega, ?_, by omega⟩
          refine sub_te rfl ?_ (imI ?_)
          · refine sub_te rfl ?_ (imI ?_)
            · exact gou0
            · rw [IntKind.wrap_u64, h5]
              omega
          · rw [h3]
            simp only [IntKind.wrap_u64, IntKind.wrap_i32]
            omega
        · refine go ?_
          refine ar_over rfl rfl rfl rfl (by omega) ?_
          refine go ?_
          have hik : i = k := by omega
          refine .inl ⟨rfl, (), trivial, ?_⟩
          refine sub_te rfl ?_ (imI (by rw [List.take_of_length_le (by omega)]))
          refine sub_te rfl ?_ (imI (by rw [hik]))
          exact gou0
      · rintro _ -
        refine go ?_
        refine clz (by exact rfl) plain141 rfl (mulw hX (x := 10 ^ k) (by unfold W; omega)) ?_
        refine go ?_
        refine clz (by exact rfl) plain112 rfl (addw hX2 (x := valT u) (by unfold W; omega)) ?_
        refine go ?_
        refine ar_sliceStrLo (s' := t.drop (p + k)) (wantF_ok rfl) rfl rfl rfl rfl rfl ⟨by omega, by omega⟩ (by rw [Int.toNat_natCast, List.drop_drop]) ?_
        refine go ?_
        refine ⟨p + k, by omega, ?_, by omega⟩
        refine sub_t rfl (sub_te rfl ?_ (imN hXU.symm))
        exact gou0
    · have hpe : p = t.length := by omega
      refine go ?_
      refine awp_cond rfl (fun hb => ?_) (fun hb => ?_)
      · rw [decide_eq_true_eq] at hb; omega
      · refine go ?_
        refine .inl ⟨rfl, (), trivial, ?_⟩
        refine sub_te rfl ?_ (imN (by rw [List.take_of_length_le (by omega)]))
        exact gou0
  · rintro _ -
    have hV : valT t < W ^ 40 := Nat.lt_of_lt_of_le hvlt (ten40 hlen)
    have iz : IsZ (.agg [.bool neg, mN (valT t)]) (sg neg (valT t)) 40 := ⟨neg, digs W (valT t), rfl, dig_digs W_two _, len_W hV (by omega), by rw [val_digs W_two]⟩
    refine go ?_
    refine cl (by exact rfl) plain156 rfl (norm_r iz (by omega)) ?_
    refine go ?_
    refine ⟨_, rfl, ?_⟩
    rw [hpz, parse_ok hbad hall hlen]
    exact Le.refl _
end Go.Proofs.Ytkbhchlecokpiaa
