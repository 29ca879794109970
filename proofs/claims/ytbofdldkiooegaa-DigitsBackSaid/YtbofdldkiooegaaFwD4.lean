/- Package digits: Text, by the logic over data. -/
import Derived.Test.YtbofdldkiooegaaFwD3
namespace Fw
open Go Go.RowKit
set_option linter.unusedVariables false
set_option linter.unusedSimpArgs false
section
variable {P : Program} {L : Nat → Option TI} {N : Nat} {ops : Array Oper} {rest : List Oper} {K : List Eff → TL → HL → Prop} {t : TL} {h : HL} {k : Nat} {ty : TypeId} {pos : String} {af : Array Edge} {g : Option (Nat × Bool)}
/-- one element behind a row of them -/
theorem ar_app1 {α : Type} {enc : α → List M} {l l' : List α} {a : α} {x y : Operand} {T e e' : TypeId} {i ei : TI} {id0 idy sz by_ : Nat} {vs : List M} (hw : wantF (lookT t) ops g = some true) (hd : Nat.blt k N = true) (h1 : ev (lookT t) x = some (.row id0 l.length sz)) (h2 : ev (lookT t) y = some (.row idy 1 sz))
    (h4 : lookH h id0 = some (.rw e sz (l.flatMap enc))) (h4' : lookH h idy = some (.rw e' sz vs)) (hv : vs = enc a) (he : ∀ x, (enc x).length = sz) (h5 : L T = some i) (h6 : i.desc = .slice e) (h7 : L e = some ei) (h8 : ei.size = sz) (h9 : ei.bytes = by_) (h10 : Nat.ble 1 sz = true)
    (hl' : l ++ [a] = l') (h13 : l'.length * by_ ≤ 140737488355328) (h14 : l'.length ≤ 9223372036854775807) (hf : (freshT k t && freshH k h) = true)
    (hK : AR P L N ops rest (fun es => K (⟨some (.row k l'.length sz), [(k, some (.rw e sz (l'.flatMap enc))), (id0, none)], [k], [id0, idy]⟩ :: es)) ((k, some (.row k l'.length sz)) :: t) ((k, some (.rw e sz (l'.flatMap enc))) :: (id0, none) :: h)) :
    AR P L N ops (⟨some k, .call { callee := .builtin .append, args := #[x, y], argTypes := #[T, T] }, ty, pos, af, g⟩ :: rest) K t h := by
  subst hl' hv
  have hlen : (l.flatMap enc).length = l.length * sz := flatMap_len he l
  have hv1 : (enc a).take (1 * sz) = enc a := List.take_of_length_le (by rw [he]; omega)
  have hn : News (lookH h) (.row idy 1 sz) 1 ((enc a).take (1 * sz)) [idy] := .row h4' (by rw [he]; omega)
  rw [hv1] at hn
  have h0 := Nat.le_of_ble_eq_true h10
  rw [List.length_append, List.length_singleton] at *
  refine ar_append (wantF_ok hw) hd h1 h2 hn h4 h5 h6 h7 h8 h9 (by omega) (by omega) (by rw [he]; omega) h13 h14 (fun id n' sz' hh => by cases hh; rfl) (cs' := (l ++ [a]).flatMap enc) ?_ hf hK
  rw [List.take_of_length_le (by omega), List.flatMap_append]
  simp
theorem ar_app0 {α : Type} {enc : α → List M} {a : α} {x y : Operand} {T e e' : TypeId} {i ei : TI} {idy sz by_ : Nat} {vs : List M} (hw : wantF (lookT t) ops g = some true) (hd : Nat.blt k N = true) (h1 : ev (lookT t) x = some (.im .nil)) (h2 : ev (lookT t) y = some (.row idy 1 sz))
    (h4' : lookH h idy = some (.rw e' sz vs)) (hv : vs = enc a) (he : ∀ x, (enc x).length = sz) (h5 : L T = some i) (h6 : i.desc = .slice e) (h7 : L e = some ei) (h8 : ei.size = sz) (h9 : ei.bytes = by_) (h10 : Nat.ble 1 sz = true)
    (h13 : by_ ≤ 140737488355328) (hf : (freshT k t && freshH k h) = true)
    (hK : AR P L N ops rest (fun es => K (⟨some (.row k [a].length sz), [(k, some (.rw e sz ([a].flatMap enc)))], [k], [idy]⟩ :: es)) ((k, some (.row k [a].length sz)) :: t) ((k, some (.rw e sz ([a].flatMap enc))) :: h)) :
    AR P L N ops (⟨some k, .call { callee := .builtin .append, args := #[x, y], argTypes := #[T, T] }, ty, pos, af, g⟩ :: rest) K t h := by
  subst hv
  have hv1 : (enc a).take (1 * sz) = enc a := List.take_of_length_le (by rw [he]; omega)
  have hn : News (lookH h) (.row idy 1 sz) 1 ((enc a).take (1 * sz)) [idy] := .row h4' (by rw [he]; omega)
  rw [hv1] at hn
  have h0 := Nat.le_of_ble_eq_true h10
  have e1 : [a].flatMap enc = enc a := by simp
  rw [e1] at hK
  exact ar_appendNil (wantF_ok hw) hd h1 h2 hn h5 h6 h7 h8 h9 (by omega) (by rw [he]; omega) (by omega) (by omega) (fun id n' sz' hh => by cases hh; rfl) hf hK
end
theorem sub_ho {t t' : TL} {h h' : HL} {k : Nat} {o : Option O} (h1 : lookH h k = o) (h2 : Sub t h t' h') : Sub t h t' ((k, o) :: h') := by
  cases o with
  | some d => exact sub_h h1 h2
  | none =>
    refine ⟨h2.1, fun i x hx => ?_⟩
    simp only [lookH] at hx
    cases hb : Nat.beq k i with
    | true => rw [hb] at hx; cases hx
    | false => rw [hb] at hx; exact h2.2 i x hx
theorem Sub.trans {t t' t'' : TL} {h h' h'' : HL} (h1 : Sub t h t' h') (h2 : Sub t' h' t'' h'') : Sub t h t'' h'' := ⟨fun i x hx => h1.1 i x (h2.1 i x hx), fun i x hx => h1.2 i x (h2.2 i x hx)⟩
/-- a loop with what holds behind it, where no code stands behind -/
theorem awp_loopD {P : Program} {N : Nat} {K0 : KK} {t : TL} {h : HL} {A B : Type} {id : Nat} {c : Code} (I : A → Prop) (It : A → TL) (Ih : A → HL) (μ : A → Nat) (E : B → Prop) (Et : B → TL) (Eh : B → HL) (x0 : A) (hI : I x0) (h0 : Sub t h (It x0) (Ih x0))
    (round : ∀ x, I x → Awp P N c (fun e t' h' => match e with | .normal => ∃ y, I y ∧ Sub t' h' (It y) (Ih y) ∧ μ y < μ x | e => (e = .exit id ∧ ∃ b, E b ∧ Sub t' h' (Et b) (Eh b)) ∨ blockK id K0 e t' h') (It x) (Ih x))
    (after : ∀ b t' h', E b → Sub t' h' (Et b) (Eh b) → K0 .normal t' h') : Awp P N (.loop c) (blockK id K0) t h := by
  refine awp_loop1 I It Ih μ x0 hI h0 (fun x hx => awp_mono (round x hx) ?_)
  intro e t' h' hk
  have key : ∀ e, (e = X.exit id ∧ ∃ b, E b ∧ Sub t' h' (Et b) (Eh b)) ∨ blockK id K0 e t' h' → blockK id K0 e t' h' := by
    rintro e (⟨rfl, b, hb, hs⟩ | hk)
    · simp only [blockK, Nat.beq_refl]
      exact after b t' h' hb hs
    · exact hk
  cases e with
  | normal => exact hk
  | exit j => exact key _ hk
  | ret => exact key _ hk
theorem Conc.nilRow {N : Nat} {w0 : World} {ok0 S0 : Nat → Prop} {T T' : Nat → Option D} {H H' : Nat → Option O} {β : Nat → Option Nat} {ok : Nat → Prop} {a : Act} {w : World} (hc : Conc N w0 ok0 S0 T H β ok a w) {id k sz : Nat} {e : TypeId}
    (hk : T k = some (.im .nil)) (hf : Fresh T H id) (hT : ∀ i d, T' i = some d → (i = k ∧ d = .row id 0 sz) ∨ T i = some d) (hH : ∀ i o, H' i = some o → (i = id ∧ o = .rw e sz []) ∨ (i ≠ id ∧ H i = some o)) :
    Conc N w0 ok0 S0 T' H' (updβ β id none) ok a w := by
  have b1 : updβ β id none id = none := by unfold updβ; rw [if_pos rfl]
  have b2 : ∀ i, i ≠ id → updβ β id none i = β i := fun i h => by unfold updβ; rw [if_neg h]
  have hn : ∀ is : List Nat, id ∉ is → Names β (updβ β id none) w w is := fun is his => ⟨fun i b hi hb => by rw [b2 i (by rintro rfl; exact his hi)]; exact hb, fun i b us e _ _ h => ⟨us, e, h, rfl⟩⟩
  have hs := Stays.refl ok w
  refine { defers := hc.defers, size := hc.size, tmp := ?_, obj := ?_, inj := ?_, okd := ?_, okl := hc.okl, okf := hc.okf, low := ?_, keep := hc.keep }
  · intro i d h
    rcases hT i d h with ⟨rfl, rfl⟩ | h1
    · have := hc.tmp _ _ hk
      simp only [RD, RM] at this ⊢
      exact .inl ⟨this, trivial⟩
    · exact RD.mono hs d _ (hn _ (hf.1 i d h1)) (hc.tmp i d h1)
  · intro i o h
    rcases hH i o h with ⟨rfl, rfl⟩ | ⟨h1, h3⟩
    · simp only [RO]
      exact .inl ⟨b1, trivial⟩
    · exact RO.mono hs (hn _ (hf.2 i o h3).2) (b2 i h1) (fun _ _ => rfl) (hc.obj i o h3)
  · intro i j o o' b h1 h2 h3 h4
    rcases hH i o h1 with ⟨rfl, rfl⟩ | ⟨g1, g3⟩ <;> rcases hH j o' h2 with ⟨rfl, rfl⟩ | ⟨k1, k3⟩
    · rfl
    · rw [b1] at h3; cases h3
    · rw [b1] at h4; cases h4
    · rw [b2 i g1] at h3; rw [b2 j k1] at h4
      exact hc.inj i j o o' b g3 k3 h3 h4
  · intro b hb i o h
    rcases hH i o h with ⟨rfl, rfl⟩ | ⟨g1, g3⟩
    · rw [b1]; exact fun h => by cases h
    · rw [b2 i g1]; exact hc.okd b hb i o g3
  · intro i o b h hb
    rcases hH i o h with ⟨rfl, rfl⟩ | ⟨g1, g3⟩
    · rw [b1] at hb; cases hb
    · rw [b2 i g1] at hb; exact hc.low i o b g3 hb
/-- no slice is a row of nothing -/
theorem awp_nilRow {P : Program} {N : Nat} {K : KK} {t : TL} {h : HL} {c : Code} {id k sz : Nat} {e : TypeId} (hk : lookT t k = some (.im .nil)) (hf : (freshT id t && freshH id h) = true)
    (hK : Awp P N c K ((k, some (.row id 0 sz)) :: t) ((id, some (.rw e sz [])) :: h)) : Awp P N c K t h := by
  intro w0 ok0 S0 β ok a w hc
  simp only [Bool.and_eq_true] at hf
  refine hK w0 ok0 S0 _ ok a w (hc.nilRow hk (fresh_of hf.1 hf.2) (sz := sz) (e := e) ?_ ?_)
  · intro i d hd
    have e1 : lookT ((k, some (.row id 0 sz)) :: t) i = putT (lookT t) (some k) (some (.row id 0 sz)) i := by rw [← lookT_put]; rfl
    rw [e1] at hd
    unfold putT at hd
    split at hd
    · rename_i he
      cases he
      exact .inl ⟨rfl, by simpa using hd.symm⟩
    · exact .inr hd
  · intro i o ho
    have e1 : lookH ((id, some (.rw e sz [])) :: h) i = chH (lookH h) [(id, some (.rw e sz []))] i := by rw [← lookH_ch]; rfl
    rw [e1] at ho
    simp only [chH] at ho
    split at ho
    · rename_i he
      exact .inl ⟨he.symm, by simpa using ho.symm⟩
    · rename_i he
      exact .inr ⟨fun h => he h.symm, ho⟩
end Fw
namespace Go.Proofs.Ytbofdldkiooegaa
open Go Go.RowKit Fw Tw
set_option linter.unusedVariables false
set_option linter.unusedSimpArgs false
def C18 : Nat := 1000000000000000000
theorem divC {X k : Nat} (hX : X < W ^ k) (hk : k ≤ 10000) : Ret Try.prog 21 [mN X, mW [1000000000000000000]] (.tup [mN (X / C18), mN (X % C18)]) := by
  have := divmod_r (dig_digs W_two X) (Dig.one (b := W) (x := 1000000000000000000) (by unfold W; omega)) (len_W hX (by omega)) (by simp)
  rw [val_digs W_two, val_one] at this
  exact this
theorem decE_len {X k : Nat} (hX : X < W ^ k) : (decE X).length ≤ 20 * k := by
  unfold decE
  rw [List.length_map]
  refine length_digs_le ten_two (Nat.lt_of_lt_of_le hX ?_)
  rw [Nat.pow_mul]
  exact Nat.pow_le_pow_left (by unfold W; omega) k
theorem byte_of {n : Nat} (h : n < 18446744073709551616) : IntKind.u8.wrap (IntKind.u64.wrap (48 + Int.tmod (n : Int) 10)) = (((dch (n % 10)).toNat : Nat) : Int) := by
  rw [dch_toNat (by omega)]
  have e2 : Int.tmod (n : Int) 10 = ((n % 10 : Nat) : Int) := rfl
  rw [e2, IntKind.wrap_u64, IntKind.wrap_u8]
  omega
theorem quo_of {n : Nat} (h : n < 18446744073709551616) : IntKind.u64.wrap (Int.tdiv (n : Int) 10) = ((n / 10 : Nat) : Int) := by
  have e2 : Int.tdiv (n : Int) 10 = ((n / 10 : Nat) : Int) := rfl
  rw [e2, IntKind.wrap_u64]
  omega
/-- the bytes so far: the slot, and the row -/
abbrev outS (o : List UInt8) : Nat × Option D := (3, some (.row 45 o.length 1))
abbrev outR (o : List UInt8) : Nat × Option O := (45, some (.rw 5 1 (o.flatMap mb)))
abbrev boxI (b : Bool) (l : List Nat) : Nat × Option O := (1, some (.box 42 [.im (.bool b), .im (mW l)]))
set_option maxHeartbeats 4000000 in
theorem text_r {m : M} {z : Int} {k : Nat} (h : IsZ m z k) (hk : k ≤ 10000) : Ret Try.prog 54 [m] (.str (textZ z)) := by
  obtain ⟨b, l, rfl, hd, hl, hz⟩ := h
  have htr := trim_r hd (by omega)
  have hXk : Tw.val W l < W ^ k := Nat.lt_of_lt_of_le (val_lt hd) (Nat.pow_le_pow_right W_pos hl)
  generalize Tw.val W l = X at *
  have hDl := decE_len hXk
  refine ret_of (L := L) lay_ok Try.func54 rfl Try.ntmps54 rfl ?_
  repeat (first | refine ar_addN rfl rfl rfl rfl (by omega) ?_ | refine ar_subN rfl rfl rfl rfl (by omega) ?_ | refine ar_op rfl ?_ | refine ar_div (wantF_ok rfl) rfl rfl rfl rfl (by decide) ?_ | refine ar_range rfl rfl rfl rfl rfl rfl ?_ | refine ar_nil ?_ | refine awp_seq ?_ | refine awp_region lay_ok ?_ | refine awp_drawn lay_ok follows_ok (by kernel_rfl) ?_ | refine And.intro (by kernel_rfl) ?_ | refine awp_block ?_ | refine awp_skip ?_ | refine awp_ret ?_ | refine awp_exit ?_ | refine awp_scope ?_ | refine awp_condT rfl ?_ | refine awp_condF rfl ?_)
  refine ar_call' (f := 20) rfl rfl rfl rfl plain20 htr ?_
  repeat (first | refine ar_addN rfl rfl rfl rfl (by omega) ?_ | refine ar_subN rfl rfl rfl rfl (by omega) ?_ | refine ar_op rfl ?_ | refine ar_div (wantF_ok rfl) rfl rfl rfl rfl (by decide) ?_ | refine ar_range rfl rfl rfl rfl rfl rfl ?_ | refine ar_nil ?_ | refine awp_seq ?_ | refine awp_region lay_ok ?_ | refine awp_drawn lay_ok follows_ok (by kernel_rfl) ?_ | refine And.intro (by kernel_rfl) ?_ | refine awp_block ?_ | refine awp_skip ?_ | refine awp_ret ?_ | refine awp_exit ?_ | refine awp_scope ?_ | refine awp_condT rfl ?_ | refine awp_condF rfl ?_)
  refine awp_nilRow (id := 45) (k := 3) (sz := 1) (e := 5) rfl rfl ?_
  refine awp_loopC (A := Nat × List UInt8) (B := Unit) (fun p => p.2 ++ decE p.1 = decE X ∧ p.1 ≤ X) (fun p => [(4, some (.im (mN p.1))), outS p.2, (1, some (.ptr 1 0))]) (fun p => [boxI b l, outR p.2]) (fun p => p.1)
    (fun _ => True) (fun _ => [outS (decE X), (1, some (.ptr 1 0))]) (fun _ => [boxI b l, outR (decE X)]) (X, []) ⟨rfl, Nat.le_refl _⟩ ?_ ?_ ?_
  · repeat (first | exact sub_nil _ _ | refine sub_t rfl ?_ | refine sub_h rfl ?_ | refine sub_ho rfl ?_)
  · rintro ⟨Y, o⟩ ⟨ho, hY⟩
    change Awp _ _ _ _ [(4, some (.im (mN Y))), outS o, (1, some (.ptr 1 0))] [boxI b l, outR o]
    simp only [] at ho hY
    have hYk : Y < W ^ k := by omega
    repeat (first | refine ar_addN rfl rfl rfl rfl (by omega) ?_ | refine ar_subN rfl rfl rfl rfl (by omega) ?_ | refine ar_op rfl ?_ | refine ar_div (wantF_ok rfl) rfl rfl rfl rfl (by decide) ?_ | refine ar_range rfl rfl rfl rfl rfl rfl ?_ | refine ar_nil ?_ | refine awp_seq ?_ | refine awp_region lay_ok ?_ | refine awp_drawn lay_ok follows_ok (by kernel_rfl) ?_ | refine And.intro (by kernel_rfl) ?_ | refine awp_block ?_ | refine awp_skip ?_ | refine awp_ret ?_ | refine awp_exit ?_ | refine awp_scope ?_ | refine awp_condT rfl ?_ | refine awp_condF rfl ?_)
    by_cases hY0 : Y = 0
    · refine awp_cond rfl (fun hb => ?_) (fun hb => ?_)
      · exact absurd (hb.symm.trans (lenf hY0)) (by decide)
      · repeat (first | refine ar_addN rfl rfl rfl rfl (by omega) ?_ | refine ar_subN rfl rfl rfl rfl (by omega) ?_ | refine ar_op rfl ?_ | refine ar_div (wantF_ok rfl) rfl rfl rfl rfl (by decide) ?_ | refine ar_range rfl rfl rfl rfl rfl rfl ?_ | refine ar_nil ?_ | refine awp_seq ?_ | refine awp_region lay_ok ?_ | refine awp_drawn lay_ok follows_ok (by kernel_rfl) ?_ | refine And.intro (by kernel_rfl) ?_ | refine awp_block ?_ | refine awp_skip ?_ | refine awp_ret ?_ | refine awp_exit ?_ | refine awp_scope ?_ | refine awp_condT rfl ?_ | refine awp_condF rfl ?_)
        have e : o = decE X := by rw [← ho, hY0, decE_zero, List.append_nil]
        refine .inl ⟨rfl, (), trivial, ?_⟩
        rw [← e]
        repeat (first | exact sub_nil _ _ | refine sub_t rfl ?_ | refine sub_h rfl ?_ | refine sub_ho rfl ?_)
    refine awp_cond rfl (fun hb => ?_) (fun hb => ?_)
    case refine_2 => exact absurd (hb.symm.trans (lent hY0)) (by decide)
    clear hb
    have hC : C18 = 1000000000000000000 := rfl
    have hmod : Y % C18 < C18 := Nat.mod_lt _ (by omega)
    have hR : Y / C18 < Y := Nat.div_lt_self (by omega) (by omega)
    have hsplit : Y % C18 + Y / C18 * 10 ^ 18 = Y := by
      have h1 := Nat.mod_add_div Y C18
      have h2 : (10 : Nat) ^ 18 = C18 := by decide
      rw [h2, Nat.mul_comm]; exact h1
    repeat (first | refine ar_addN rfl rfl rfl rfl (by omega) ?_ | refine ar_subN rfl rfl rfl rfl (by omega) ?_ | refine ar_op rfl ?_ | refine ar_div (wantF_ok rfl) rfl rfl rfl rfl (by decide) ?_ | refine ar_range rfl rfl rfl rfl rfl rfl ?_ | refine ar_nil ?_ | refine awp_seq ?_ | refine awp_region lay_ok ?_ | refine awp_drawn lay_ok follows_ok (by kernel_rfl) ?_ | refine And.intro (by kernel_rfl) ?_ | refine awp_block ?_ | refine awp_skip ?_ | refine awp_ret ?_ | refine awp_exit ?_ | refine awp_scope ?_ | refine awp_condT rfl ?_ | refine awp_condF rfl ?_)
    refine ar_callZ' (f := 21) rfl rfl rfl rfl plain21 (divC hYk hk) rfl ?_
    repeat (first | refine ar_addN rfl rfl rfl rfl (by omega) ?_ | refine ar_subN rfl rfl rfl rfl (by omega) ?_ | refine ar_op rfl ?_ | refine ar_div (wantF_ok rfl) rfl rfl rfl rfl (by decide) ?_ | refine ar_range rfl rfl rfl rfl rfl rfl ?_ | refine ar_nil ?_ | refine awp_seq ?_ | refine awp_region lay_ok ?_ | refine awp_drawn lay_ok follows_ok (by kernel_rfl) ?_ | refine And.intro (by kernel_rfl) ?_ | refine awp_block ?_ | refine awp_skip ?_ | refine awp_ret ?_ | refine awp_exit ?_ | refine awp_scope ?_ | refine awp_condT rfl ?_ | refine awp_condF rfl ?_)
    refine awp_cutS (A := Unit) (fun _ => True) (fun _ => [(6, some (.im (.int .u64 ((Y % C18 : Nat) : Int)))), (4, some (.im (mN (Y / C18)))), outS o, (1, some (.ptr 1 0))]) (fun _ => [boxI b l, outR o]) ?_ ?_
    · by_cases hm0 : Y % C18 = 0
      · refine awp_cond rfl (fun hb => ?_) (fun hb => ?_)
        · exact absurd (hb.symm.trans (lenf hm0)) (by decide)
        · repeat (first | refine ar_addN rfl rfl rfl rfl (by omega) ?_ | refine ar_subN rfl rfl rfl rfl (by omega) ?_ | refine ar_op rfl ?_ | refine ar_div (wantF_ok rfl) rfl rfl rfl rfl (by decide) ?_ | refine ar_range rfl rfl rfl rfl rfl rfl ?_ | refine ar_nil ?_ | refine awp_seq ?_ | refine awp_region lay_ok ?_ | refine awp_drawn lay_ok follows_ok (by kernel_rfl) ?_ | refine And.intro (by kernel_rfl) ?_ | refine awp_block ?_ | refine awp_skip ?_ | refine awp_ret ?_ | refine awp_exit ?_ | refine awp_scope ?_ | refine awp_condT rfl ?_ | refine awp_condF rfl ?_)
          refine .inl ⟨rfl, (), trivial, ?_⟩
          refine sub_te rfl ?_ (imI (by rw [hm0]; rfl))
          repeat (first | exact sub_nil _ _ | refine sub_t rfl ?_ | refine sub_h rfl ?_ | refine sub_ho rfl ?_)
      · have hdg : digs W (Y % C18) = [Y % C18] := by
          rw [digs_pos W_two (by omega), Nat.mod_eq_of_lt (by unfold W; omega), Nat.div_eq_of_lt (by unfold W; omega), digs_zero]
        refine awp_cond rfl (fun hb => ?_) (fun hb => ?_)
        case refine_2 => exact absurd (hb.symm.trans (lent hm0)) (by decide)
        repeat (first | refine ar_addN rfl rfl rfl rfl (by omega) ?_ | refine ar_subN rfl rfl rfl rfl (by omega) ?_ | refine ar_op rfl ?_ | refine ar_div (wantF_ok rfl) rfl rfl rfl rfl (by decide) ?_ | refine ar_range rfl rfl rfl rfl rfl rfl ?_ | refine ar_nil ?_ | refine awp_seq ?_ | refine awp_region lay_ok ?_ | refine awp_drawn lay_ok follows_ok (by kernel_rfl) ?_ | refine And.intro (by kernel_rfl) ?_ | refine awp_block ?_ | refine awp_skip ?_ | refine awp_ret ?_ | refine awp_exit ?_ | refine awp_scope ?_ | refine awp_condT rfl ?_ | refine awp_condF rfl ?_)
        refine ar_at (enc := mw) (l := digs W (Y % C18)) 0 rfl rfl rfl rfl rfl (fun _ => rfl) rfl rfl (len_pos hm0) ?_
        repeat (first | refine ar_addN rfl rfl rfl rfl (by omega) ?_ | refine ar_subN rfl rfl rfl rfl (by omega) ?_ | refine ar_op rfl ?_ | refine ar_div (wantF_ok rfl) rfl rfl rfl rfl (by decide) ?_ | refine ar_range rfl rfl rfl rfl rfl rfl ?_ | refine ar_nil ?_ | refine awp_seq ?_ | refine awp_region lay_ok ?_ | refine awp_drawn lay_ok follows_ok (by kernel_rfl) ?_ | refine And.intro (by kernel_rfl) ?_ | refine awp_block ?_ | refine awp_skip ?_ | refine awp_ret ?_ | refine awp_exit ?_ | refine awp_scope ?_ | refine awp_condT rfl ?_ | refine awp_condF rfl ?_)
        refine .inl ⟨rfl, (), trivial, ?_⟩
        refine sub_te rfl ?_ (imI (by simp only [hdg, List.getElem_cons_zero]))
        repeat (first | exact sub_nil _ _ | refine sub_t rfl ?_ | refine sub_h rfl ?_ | refine sub_ho rfl ?_)
    rintro _ -
    generalize hRR : Y / C18 = R at *
    have hRk : R < W ^ k := by omega
    have hstart : o ++ decE (Y % C18 + R * 10 ^ (18 - 0)) = decE X := by rw [show 18 - 0 = 18 from rfl, hsplit]; exact ho
    generalize Y % C18 = n0 at *
    repeat (first | refine ar_addN rfl rfl rfl rfl (by omega) ?_ | refine ar_subN rfl rfl rfl rfl (by omega) ?_ | refine ar_op rfl ?_ | refine ar_div (wantF_ok rfl) rfl rfl rfl rfl (by decide) ?_ | refine ar_range rfl rfl rfl rfl rfl rfl ?_ | refine ar_nil ?_ | refine awp_seq ?_ | refine awp_region lay_ok ?_ | refine awp_drawn lay_ok follows_ok (by kernel_rfl) ?_ | refine And.intro (by kernel_rfl) ?_ | refine awp_block ?_ | refine awp_skip ?_ | refine awp_ret ?_ | refine awp_exit ?_ | refine awp_scope ?_ | refine awp_condT rfl ?_ | refine awp_condF rfl ?_)
    refine awp_loopD (A := Nat × Nat × List UInt8) (B := List UInt8) (fun p => p.1 ≤ 18 ∧ p.2.1 < 10 ^ (18 - p.1) ∧ p.2.2 ++ decE (p.2.1 + R * 10 ^ (18 - p.1)) = decE X)
      (fun p => [(7, some (.im (.int .i64 (p.1 : Nat)))), (6, some (.im (.int .u64 (p.2.1 : Nat)))), (4, some (.im (mN R))), outS p.2.2, (1, some (.ptr 1 0))]) (fun p => [boxI b l, outR p.2.2]) (fun p => 18 - p.1)
      (fun q => q ++ decE R = decE X) (fun q => [(4, some (.im (mN R))), outS q, (1, some (.ptr 1 0))]) (fun q => [boxI b l, outR q]) (0, n0, o) ⟨by simp, by show n0 < 10 ^ 18; omega, hstart⟩ ?_ ?_ ?_
    · repeat (first | exact sub_nil _ _ | refine sub_t rfl ?_ | refine sub_h rfl ?_ | refine sub_ho rfl ?_)
    · rintro ⟨kk, n, q⟩ ⟨h1, h2, h3⟩
      change Awp _ _ _ _ [(7, some (.im (.int .i64 (kk : Nat)))), (6, some (.im (.int .u64 (n : Nat)))), (4, some (.im (mN R))), outS q, (1, some (.ptr 1 0))] [boxI b l, outR q]
      simp only [] at h1 h2 h3
      have hn18 : n < 1000000000000000000 := Nat.lt_of_lt_of_le h2 (ten18 (by omega))
      have hn64 : n < 18446744073709551616 := by omega
      refine awp_seq ?_
      refine awp_cutS (A := Unit) (fun _ => kk < 18 ∧ (0 < n ∨ 0 < R)) (fun _ => [(7, some (.im (.int .i64 (kk : Nat)))), (6, some (.im (.int .u64 (n : Nat)))), (4, some (.im (mN R))), outS q, (1, some (.ptr 1 0))]) (fun _ => [boxI b l, outR q]) ?_ ?_
      · repeat (first | refine ar_addN rfl rfl rfl rfl (by omega) ?_ | refine ar_subN rfl rfl rfl rfl (by omega) ?_ | refine ar_op rfl ?_ | refine ar_div (wantF_ok rfl) rfl rfl rfl rfl (by decide) ?_ | refine ar_range rfl rfl rfl rfl rfl rfl ?_ | refine ar_nil ?_ | refine awp_seq ?_ | refine awp_region lay_ok ?_ | refine awp_drawn lay_ok follows_ok (by kernel_rfl) ?_ | refine And.intro (by kernel_rfl) ?_ | refine awp_block ?_ | refine awp_skip ?_ | refine awp_ret ?_ | refine awp_exit ?_ | refine awp_scope ?_ | refine awp_condT rfl ?_ | refine awp_condF rfl ?_)
        by_cases hk18 : kk < 18
        · refine ar_eq 28 rfl (d' := .im (.bool true)) (eqt (by rw [decide_eq_true_eq]; omega)) ?_
          repeat (first | refine ar_addN rfl rfl rfl rfl (by omega) ?_ | refine ar_subN rfl rfl rfl rfl (by omega) ?_ | refine ar_op rfl ?_ | refine ar_div (wantF_ok rfl) rfl rfl rfl rfl (by decide) ?_ | refine ar_range rfl rfl rfl rfl rfl rfl ?_ | refine ar_nil ?_ | refine awp_seq ?_ | refine awp_region lay_ok ?_ | refine awp_drawn lay_ok follows_ok (by kernel_rfl) ?_ | refine And.intro (by kernel_rfl) ?_ | refine awp_block ?_ | refine awp_skip ?_ | refine awp_ret ?_ | refine awp_exit ?_ | refine awp_scope ?_ | refine awp_condT rfl ?_ | refine awp_condF rfl ?_)
          by_cases hn : 0 < n
          · refine ar_eq 31 rfl (d' := .im (.bool true)) (eqt (by rw [decide_eq_true_eq]; omega)) ?_
            repeat (first | refine ar_addN rfl rfl rfl rfl (by omega) ?_ | refine ar_subN rfl rfl rfl rfl (by omega) ?_ | refine ar_op rfl ?_ | refine ar_div (wantF_ok rfl) rfl rfl rfl rfl (by decide) ?_ | refine ar_range rfl rfl rfl rfl rfl rfl ?_ | refine ar_nil ?_ | refine awp_seq ?_ | refine awp_region lay_ok ?_ | refine awp_drawn lay_ok follows_ok (by kernel_rfl) ?_ | refine And.intro (by kernel_rfl) ?_ | refine awp_block ?_ | refine awp_skip ?_ | refine awp_ret ?_ | refine awp_exit ?_ | refine awp_scope ?_ | refine awp_condT rfl ?_ | refine awp_condF rfl ?_)
            refine .inl ⟨rfl, (), ⟨hk18, .inl hn⟩, ?_⟩
            repeat (first | exact sub_nil _ _ | refine sub_t rfl ?_ | refine sub_h rfl ?_ | refine sub_ho rfl ?_)
          · refine ar_eq 31 rfl (d' := .im (.bool false)) (eqt (by rw [decide_eq_false_iff_not]; omega)) ?_
            repeat (first | refine ar_addN rfl rfl rfl rfl (by omega) ?_ | refine ar_subN rfl rfl rfl rfl (by omega) ?_ | refine ar_op rfl ?_ | refine ar_div (wantF_ok rfl) rfl rfl rfl rfl (by decide) ?_ | refine ar_range rfl rfl rfl rfl rfl rfl ?_ | refine ar_nil ?_ | refine awp_seq ?_ | refine awp_region lay_ok ?_ | refine awp_drawn lay_ok follows_ok (by kernel_rfl) ?_ | refine And.intro (by kernel_rfl) ?_ | refine awp_block ?_ | refine awp_skip ?_ | refine awp_ret ?_ | refine awp_exit ?_ | refine awp_scope ?_ | refine awp_condT rfl ?_ | refine awp_condF rfl ?_)
            by_cases hR0 : R = 0
            · refine awp_cond rfl (fun hb => ?_) (fun hb => ?_)
              · exact absurd (hb.symm.trans (lenf hR0)) (by decide)
              · repeat (first | refine ar_addN rfl rfl rfl rfl (by omega) ?_ | refine ar_subN rfl rfl rfl rfl (by omega) ?_ | refine ar_op rfl ?_ | refine ar_div (wantF_ok rfl) rfl rfl rfl rfl (by decide) ?_ | refine ar_range rfl rfl rfl rfl rfl rfl ?_ | refine ar_nil ?_ | refine awp_seq ?_ | refine awp_region lay_ok ?_ | refine awp_drawn lay_ok follows_ok (by kernel_rfl) ?_ | refine And.intro (by kernel_rfl) ?_ | refine awp_block ?_ | refine awp_skip ?_ | refine awp_ret ?_ | refine awp_exit ?_ | refine awp_scope ?_ | refine awp_condT rfl ?_ | refine awp_condF rfl ?_)
                refine .inr (.inl ⟨rfl, q, ?_, ?_⟩)
                · have : n = 0 := by omega
                  rw [this, hR0, Nat.zero_mul] at h3
                  rw [hR0]; exact h3
                · repeat (first | exact sub_nil _ _ | refine sub_t rfl ?_ | refine sub_h rfl ?_ | refine sub_ho rfl ?_)
            · refine awp_cond rfl (fun hb => ?_) (fun hb => ?_)
              · repeat (first | refine ar_addN rfl rfl rfl rfl (by omega) ?_ | refine ar_subN rfl rfl rfl rfl (by omega) ?_ | refine ar_op rfl ?_ | refine ar_div (wantF_ok rfl) rfl rfl rfl rfl (by decide) ?_ | refine ar_range rfl rfl rfl rfl rfl rfl ?_ | refine ar_nil ?_ | refine awp_seq ?_ | refine awp_region lay_ok ?_ | refine awp_drawn lay_ok follows_ok (by kernel_rfl) ?_ | refine And.intro (by kernel_rfl) ?_ | refine awp_block ?_ | refine awp_skip ?_ | refine awp_ret ?_ | refine awp_exit ?_ | refine awp_scope ?_ | refine awp_condT rfl ?_ | refine awp_condF rfl ?_)
                refine .inl ⟨rfl, (), ⟨hk18, .inr (by omega)⟩, ?_⟩
                repeat (first | exact sub_nil _ _ | refine sub_t rfl ?_ | refine sub_h rfl ?_ | refine sub_ho rfl ?_)
              · exact absurd (hb.symm.trans (lent hR0)) (by decide)
        · refine ar_eq 28 rfl (d' := .im (.bool false)) (eqt (by rw [decide_eq_false_iff_not]; omega)) ?_
          repeat (first | refine ar_addN rfl rfl rfl rfl (by omega) ?_ | refine ar_subN rfl rfl rfl rfl (by omega) ?_ | refine ar_op rfl ?_ | refine ar_div (wantF_ok rfl) rfl rfl rfl rfl (by decide) ?_ | refine ar_range rfl rfl rfl rfl rfl rfl ?_ | refine ar_nil ?_ | refine awp_seq ?_ | refine awp_region lay_ok ?_ | refine awp_drawn lay_ok follows_ok (by kernel_rfl) ?_ | refine And.intro (by kernel_rfl) ?_ | refine awp_block ?_ | refine awp_skip ?_ | refine awp_ret ?_ | refine awp_exit ?_ | refine awp_scope ?_ | refine awp_condT rfl ?_ | refine awp_condF rfl ?_)
          have hkk : kk = 18 := by omega
          subst hkk
          refine .inr (.inl ⟨rfl, q, ?_, ?_⟩)
          · have : n = 0 := by simpa using h2
            rw [this] at h3
            simpa using h3
          · repeat (first | exact sub_nil _ _ | refine sub_t rfl ?_ | refine sub_h rfl ?_ | refine sub_ho rfl ?_)
      · rintro _ ⟨hk18, hpos⟩
        rw [chunk_step hk18 hpos] at h3
        have hnew : (q ++ [dch (n % 10)]) ++ decE (n / 10 + R * 10 ^ (18 - (kk + 1))) = decE X := by rw [List.append_assoc]; exact h3
        have hql : (q ++ [dch (n % 10)]).length ≤ 20 * k := by
          have := congrArg List.length hnew
          rw [List.length_append] at this
          omega
        have hnd : n / 10 < 10 ^ (18 - (kk + 1)) := by
          have e : (10 : Nat) ^ (18 - kk) = 10 ^ (18 - (kk + 1)) * 10 := by rw [← Nat.pow_succ]; congr 1; omega
          rw [e] at h2
          exact Nat.div_lt_of_lt_mul (by rw [Nat.mul_comm]; exact h2)
        refine awp_renRow (id := 45) (id' := 1045) (k := 3) rfl rfl rfl rfl ?_
        refine awp_sub (t' := [(7, some (.im (.int .i64 (kk : Nat)))), (6, some (.im (.int .u64 (n : Nat)))), (4, some (.im (mN R))), (3, some (.row 1045 q.length 1)), (1, some (.ptr 1 0))]) (h' := [boxI b l, (1045, some (.rw 5 1 (q.flatMap mb)))]) ?_ ?_
        · repeat (first | exact sub_nil _ _ | refine sub_t rfl ?_ | refine sub_h rfl ?_ | refine sub_ho rfl ?_)
        · repeat (first | refine ar_addN rfl rfl rfl rfl (by omega) ?_ | refine ar_subN rfl rfl rfl rfl (by omega) ?_ | refine ar_op rfl ?_ | refine ar_div (wantF_ok rfl) rfl rfl rfl rfl (by decide) ?_ | refine ar_range rfl rfl rfl rfl rfl rfl ?_ | refine ar_nil ?_ | refine awp_seq ?_ | refine awp_region lay_ok ?_ | refine awp_drawn lay_ok follows_ok (by kernel_rfl) ?_ | refine And.intro (by kernel_rfl) ?_ | refine awp_block ?_ | refine awp_skip ?_ | refine awp_ret ?_ | refine awp_exit ?_ | refine awp_scope ?_ | refine awp_condT rfl ?_ | refine awp_condF rfl ?_)
          refine ar_app1 (enc := mb) (l := q) (a := dch (n % 10)) rfl rfl rfl rfl rfl rfl (by rw [byte_of hn64]; rfl) (fun _ => rfl) rfl rfl rfl rfl rfl rfl rfl (by show (q ++ [dch (n % 10)]).length * 1 ≤ _; omega) (by omega) rfl ?_
          repeat (first | refine ar_addN rfl rfl rfl rfl (by omega) ?_ | refine ar_subN rfl rfl rfl rfl (by omega) ?_ | refine ar_op rfl ?_ | refine ar_div (wantF_ok rfl) rfl rfl rfl rfl (by decide) ?_ | refine ar_range rfl rfl rfl rfl rfl rfl ?_ | refine ar_nil ?_ | refine awp_seq ?_ | refine awp_region lay_ok ?_ | refine awp_drawn lay_ok follows_ok (by kernel_rfl) ?_ | refine And.intro (by kernel_rfl) ?_ | refine awp_block ?_ | refine awp_skip ?_ | refine awp_ret ?_ | refine awp_exit ?_ | refine awp_scope ?_ | refine awp_condT rfl ?_ | refine awp_condF rfl ?_)
          refine ⟨(kk + 1, n / 10, q ++ [dch (n % 10)]), ⟨by show kk + 1 ≤ 18; omega, hnd, hnew⟩, ?_, by show 18 - (kk + 1) < 18 - kk; omega⟩
          refine sub_t rfl (sub_te rfl ?_ (imI (quo_of hn64)))
          repeat (first | exact sub_nil _ _ | refine sub_t rfl ?_ | refine sub_h rfl ?_ | refine sub_ho rfl ?_)
    · rintro q t' h' hq hs
      refine ⟨(R, q), ⟨hq, by show R ≤ X; omega⟩, hs.trans ?_, hR⟩
      repeat (first | exact sub_nil _ _ | refine sub_t rfl ?_ | refine sub_h rfl ?_ | refine sub_ho rfl ?_)
  · rintro _ -
    by_cases hX0 : X = 0
    · subst hX0
      have hz0 : z = 0 := by rw [hz]; cases b <;> rfl
      rw [decE_zero]
      repeat (first | refine ar_addN rfl rfl rfl rfl (by omega) ?_ | refine ar_subN rfl rfl rfl rfl (by omega) ?_ | refine ar_op rfl ?_ | refine ar_div (wantF_ok rfl) rfl rfl rfl rfl (by decide) ?_ | refine ar_range rfl rfl rfl rfl rfl rfl ?_ | refine ar_nil ?_ | refine awp_seq ?_ | refine awp_region lay_ok ?_ | refine awp_drawn lay_ok follows_ok (by kernel_rfl) ?_ | refine And.intro (by kernel_rfl) ?_ | refine awp_block ?_ | refine awp_skip ?_ | refine awp_ret ?_ | refine awp_exit ?_ | refine awp_scope ?_ | refine awp_condT rfl ?_ | refine awp_condF rfl ?_)
      refine ⟨_, rfl, ?_⟩
      rw [hz0]; rfl
    have hlen : (decE X).length ≠ 0 := by
      rw [decE_pos (by omega)]; simp
    have hne : ((((decE X).length : Nat) : Int) == 0) = false := by rw [beq_eq_false_iff_ne]; omega
    have hz1 : z ≠ 0 := by rw [hz]; cases b <;> simp [sg] <;> omega
    have hab : z.natAbs = X := by rw [hz, sg_abs]
    cases b
    · have hneg : ¬ z < 0 := by rw [hz]; simp [sg]
      repeat (first | refine ar_addN rfl rfl rfl rfl (by omega) ?_ | refine ar_subN rfl rfl rfl rfl (by omega) ?_ | refine ar_op rfl ?_ | refine ar_div (wantF_ok rfl) rfl rfl rfl rfl (by decide) ?_ | refine ar_range rfl rfl rfl rfl rfl rfl ?_ | refine ar_nil ?_ | refine awp_seq ?_ | refine awp_region lay_ok ?_ | refine awp_drawn lay_ok follows_ok (by kernel_rfl) ?_ | refine And.intro (by kernel_rfl) ?_ | refine awp_block ?_ | refine awp_skip ?_ | refine awp_ret ?_ | refine awp_exit ?_ | refine awp_scope ?_ | refine awp_condT rfl ?_ | refine awp_condF rfl ?_)
      refine awp_cond rfl (fun hb => ?_) (fun hb => ?_)
      · exact absurd (hb.symm.trans hne) (by decide)
      repeat (first | refine ar_addN rfl rfl rfl rfl (by omega) ?_ | refine ar_subN rfl rfl rfl rfl (by omega) ?_ | refine ar_op rfl ?_ | refine ar_div (wantF_ok rfl) rfl rfl rfl rfl (by decide) ?_ | refine ar_range rfl rfl rfl rfl rfl rfl ?_ | refine ar_nil ?_ | refine awp_seq ?_ | refine awp_region lay_ok ?_ | refine awp_drawn lay_ok follows_ok (by kernel_rfl) ?_ | refine And.intro (by kernel_rfl) ?_ | refine awp_block ?_ | refine awp_skip ?_ | refine awp_ret ?_ | refine awp_exit ?_ | refine awp_scope ?_ | refine awp_condT rfl ?_ | refine awp_condF rfl ?_)
      refine ar_sem rfl rfl rfl (og := [(45, .rw 5 1 ((decE X).flatMap mb))]) (by intro p hp; simp only [List.mem_singleton] at hp; subst hp; rfl) (by intro p hp; simp only [List.mem_singleton] at hp; subst hp; exact List.mem_singleton.2 rfl) (sem_reverse (l := (decE X))) rfl ?_
      repeat (first | refine ar_addN rfl rfl rfl rfl (by omega) ?_ | refine ar_subN rfl rfl rfl rfl (by omega) ?_ | refine ar_op rfl ?_ | refine ar_div (wantF_ok rfl) rfl rfl rfl rfl (by decide) ?_ | refine ar_range rfl rfl rfl rfl rfl rfl ?_ | refine ar_nil ?_ | refine awp_seq ?_ | refine And.intro (by kernel_rfl) ?_ | refine awp_block ?_ | refine awp_skip ?_ | refine awp_exit ?_ | refine awp_scope ?_ | refine awp_condT rfl ?_ | refine awp_condF rfl ?_)
      refine awp_frzRow (id := 45) (k := 3) (n := (decE X).reverse.length) (cs' := (decE X).reverse.flatMap mb) (by simp only [List.length_reverse]; rfl) rfl (by rw [mb_len]; simp) (by rw [List.take_of_length_le (by rw [mb_len]; simp)]) ?_
      repeat (first | refine ar_addN rfl rfl rfl rfl (by omega) ?_ | refine ar_subN rfl rfl rfl rfl (by omega) ?_ | refine ar_op rfl ?_ | refine ar_div (wantF_ok rfl) rfl rfl rfl rfl (by decide) ?_ | refine ar_range rfl rfl rfl rfl rfl rfl ?_ | refine ar_nil ?_ | refine awp_seq ?_ | refine awp_region lay_ok ?_ | refine awp_drawn lay_ok follows_ok (by kernel_rfl) ?_ | refine And.intro (by kernel_rfl) ?_ | refine awp_block ?_ | refine awp_skip ?_ | refine awp_ret ?_ | refine awp_exit ?_ | refine awp_scope ?_ | refine awp_condT rfl ?_ | refine awp_condF rfl ?_)
      refine ar_string (l := (decE X).reverse) rfl rfl rfl rfl rfl rfl rfl rfl rfl ?_
      repeat (first | refine ar_addN rfl rfl rfl rfl (by omega) ?_ | refine ar_subN rfl rfl rfl rfl (by omega) ?_ | refine ar_op rfl ?_ | refine ar_div (wantF_ok rfl) rfl rfl rfl rfl (by decide) ?_ | refine ar_range rfl rfl rfl rfl rfl rfl ?_ | refine ar_nil ?_ | refine awp_seq ?_ | refine awp_region lay_ok ?_ | refine awp_drawn lay_ok follows_ok (by kernel_rfl) ?_ | refine And.intro (by kernel_rfl) ?_ | refine awp_block ?_ | refine awp_skip ?_ | refine awp_ret ?_ | refine awp_exit ?_ | refine awp_scope ?_ | refine awp_condT rfl ?_ | refine awp_condF rfl ?_)
      refine ⟨_, rfl, ?_⟩
      unfold textZ
      rw [if_neg hz1, if_neg hneg, hab]
      rfl
    · have hneg : z < 0 := by rw [hz]; simp [sg]; omega
      repeat (first | refine ar_addN rfl rfl rfl rfl (by omega) ?_ | refine ar_subN rfl rfl rfl rfl (by omega) ?_ | refine ar_op rfl ?_ | refine ar_div (wantF_ok rfl) rfl rfl rfl rfl (by decide) ?_ | refine ar_range rfl rfl rfl rfl rfl rfl ?_ | refine ar_nil ?_ | refine awp_seq ?_ | refine awp_region lay_ok ?_ | refine awp_drawn lay_ok follows_ok (by kernel_rfl) ?_ | refine And.intro (by kernel_rfl) ?_ | refine awp_block ?_ | refine awp_skip ?_ | refine awp_ret ?_ | refine awp_exit ?_ | refine awp_scope ?_ | refine awp_condT rfl ?_ | refine awp_condF rfl ?_)
      refine awp_cond rfl (fun hb => ?_) (fun hb => ?_)
      · exact absurd (hb.symm.trans hne) (by decide)
      repeat (first | refine ar_addN rfl rfl rfl rfl (by omega) ?_ | refine ar_subN rfl rfl rfl rfl (by omega) ?_ | refine ar_op rfl ?_ | refine ar_div (wantF_ok rfl) rfl rfl rfl rfl (by decide) ?_ | refine ar_range rfl rfl rfl rfl rfl rfl ?_ | refine ar_nil ?_ | refine awp_seq ?_ | refine awp_region lay_ok ?_ | refine awp_drawn lay_ok follows_ok (by kernel_rfl) ?_ | refine And.intro (by kernel_rfl) ?_ | refine awp_block ?_ | refine awp_skip ?_ | refine awp_ret ?_ | refine awp_exit ?_ | refine awp_scope ?_ | refine awp_condT rfl ?_ | refine awp_condF rfl ?_)
      refine ar_app1 (enc := mb) (l := decE X) (a := 45) rfl rfl rfl rfl rfl rfl rfl (fun _ => rfl) rfl rfl rfl rfl rfl rfl rfl (by show (decE X ++ [45]).length * 1 ≤ _; simp; omega) (by simp; omega) rfl ?_
      repeat (first | refine ar_addN rfl rfl rfl rfl (by omega) ?_ | refine ar_subN rfl rfl rfl rfl (by omega) ?_ | refine ar_op rfl ?_ | refine ar_div (wantF_ok rfl) rfl rfl rfl rfl (by decide) ?_ | refine ar_range rfl rfl rfl rfl rfl rfl ?_ | refine ar_nil ?_ | refine awp_seq ?_ | refine awp_region lay_ok ?_ | refine awp_drawn lay_ok follows_ok (by kernel_rfl) ?_ | refine And.intro (by kernel_rfl) ?_ | refine awp_block ?_ | refine awp_skip ?_ | refine awp_ret ?_ | refine awp_exit ?_ | refine awp_scope ?_ | refine awp_condT rfl ?_ | refine awp_condF rfl ?_)
      refine ar_sem rfl rfl rfl (og := [(57, .rw 5 1 ((decE X ++ [45]).flatMap mb))]) (by intro p hp; simp only [List.mem_singleton] at hp; subst hp; rfl) (by intro p hp; simp only [List.mem_singleton] at hp; subst hp; exact List.mem_singleton.2 rfl) (sem_reverse (l := (decE X ++ [45]))) rfl ?_
      repeat (first | refine ar_addN rfl rfl rfl rfl (by omega) ?_ | refine ar_subN rfl rfl rfl rfl (by omega) ?_ | refine ar_op rfl ?_ | refine ar_div (wantF_ok rfl) rfl rfl rfl rfl (by decide) ?_ | refine ar_range rfl rfl rfl rfl rfl rfl ?_ | refine ar_nil ?_ | refine awp_seq ?_ | refine And.intro (by kernel_rfl) ?_ | refine awp_block ?_ | refine awp_skip ?_ | refine awp_exit ?_ | refine awp_scope ?_ | refine awp_condT rfl ?_ | refine awp_condF rfl ?_)
      refine awp_frzRow (id := 57) (k := 3) (n := (decE X ++ [45]).reverse.length) (cs' := (decE X ++ [45]).reverse.flatMap mb) (by simp only [List.length_reverse]; rfl) rfl (by rw [mb_len]; simp) (by rw [List.take_of_length_le (by rw [mb_len]; simp)]) ?_
      repeat (first | refine ar_addN rfl rfl rfl rfl (by omega) ?_ | refine ar_subN rfl rfl rfl rfl (by omega) ?_ | refine ar_op rfl ?_ | refine ar_div (wantF_ok rfl) rfl rfl rfl rfl (by decide) ?_ | refine ar_range rfl rfl rfl rfl rfl rfl ?_ | refine ar_nil ?_ | refine awp_seq ?_ | refine awp_region lay_ok ?_ | refine awp_drawn lay_ok follows_ok (by kernel_rfl) ?_ | refine And.intro (by kernel_rfl) ?_ | refine awp_block ?_ | refine awp_skip ?_ | refine awp_ret ?_ | refine awp_exit ?_ | refine awp_scope ?_ | refine awp_condT rfl ?_ | refine awp_condF rfl ?_)
      refine ar_string (l := (decE X ++ [45]).reverse) rfl rfl rfl rfl rfl rfl rfl rfl rfl ?_
      repeat (first | refine ar_addN rfl rfl rfl rfl (by omega) ?_ | refine ar_subN rfl rfl rfl rfl (by omega) ?_ | refine ar_op rfl ?_ | refine ar_div (wantF_ok rfl) rfl rfl rfl rfl (by decide) ?_ | refine ar_range rfl rfl rfl rfl rfl rfl ?_ | refine ar_nil ?_ | refine awp_seq ?_ | refine awp_region lay_ok ?_ | refine awp_drawn lay_ok follows_ok (by kernel_rfl) ?_ | refine And.intro (by kernel_rfl) ?_ | refine awp_block ?_ | refine awp_skip ?_ | refine awp_ret ?_ | refine awp_exit ?_ | refine awp_scope ?_ | refine awp_condT rfl ?_ | refine awp_condF rfl ?_)
      refine ⟨_, rfl, ?_⟩
      unfold textZ
      rw [if_neg hz1, if_pos hneg, hab]
      show M.str (decE X ++ [45]).reverse = _
      rw [List.reverse_append]
      rfl
end Go.Proofs.Ytbofdldkiooegaa
