/- More rules of the logic over data: appends of one element, loops; runs of rules. -/
import Derived.Test.YtkbhchlecokpiaaFwCe
set_option linter.unusedVariables false
set_option linter.unusedSimpArgs false
namespace Fw
open Go Go.RowKit
set_option linter.unusedVariables false
set_option linter.unusedSimpArgs false
section
variable {P : Program} {L : Nat → Option TI} {N : Nat} {ops : Array Oper} {rest : List Oper} {K : List Eff → TL → HL → Prop} {t : TL} {h : HL} {k : Nat} {ty : TypeId} {pos : String} {af : Array Edge} {g : Option (Nat × Bool)}
/-- one element behind a row of them -/
theorem ar_app1 {α : Type} {enc : α → List M} {l l' : List α} {a : α} {x y : Operand} {T e e' : TypeId} {i ei : TI} {id0 idy sz by_ : Nat} {vs : List M} (hw : wantF (lookT t) ops g = some true) (hd : Nat.blt k N = true) (h1 : ev (lookT t) x = some (.row id0 l.length sz)) (h2 : ev (lookT t) y = some (.row idy 1 sz))
    (h4 : lookH h id0 = some (.rw e sz (l.flatMap enc))) (h4' : lookH h idy = some (.rw e' sz vs)) (hv : vs = enc a) (he : ∀ x, (enc x).length = sz) (h5 : L T = some i) (h6 : i.desc = .slice e) (h7 : L e = some ei) (h8 : ei.size = sz) (h9 : ei.bytes = by_) (h10 : Nat.ble 1 sz = true)
    (hl' : l ++ [a] = l') (h13 : l'.length * by_ ≤ 140737488355328) (h14 : l'.length ≤ 9223372036854775807) (hf : (freshT k t && freshH k h) = true)
    (hK : AR P L N ops rest (fun es => K (⟨some (.row k l'.length sz), [(k, some (.rw e sz (l'.flatMap enc))), (id0, none)], [k], [id0, idy]⟩ :: es)) ((k, some (.row k l'.length sz)) :: t) ((k, some (.rw e sz (l'.flatMap enc))) :: (id0, none) :: h)) :
    AR P L N ops (⟨some k, .call { callee := .builtin .append, args := #[x, y], argTypes := #[T, T] }, ty, pos, af, g⟩ :: rest) K t h := by
  subst hl' hv
  have hlen : (l.flatMap enc).length = l.length * sz := flatMap_len he l
  have hv1 : (enc a).take (1 * sz) = enc a := List.take_of_length_le (by rw [he]; omega)
  have hn : News (lookH h) (.row idy 1 sz) 1 ((enc a).take (1 * sz)) [idy] := .row h4' (by rw [he]; omega)
  rw [hv1] at hn
  have h0 := Nat.le_of_ble_eq_true h10
  rw [List.length_append, List.length_singleton] at *
  refine ar_append (wantF_ok hw) hd h1 h2 hn h4 h5 h6 h7 h8 h9 (by omega) (by omega) (by rw [he]; omega) h13 h14 (fun id n' sz' hh => by cases hh; rfl) (cs' := (l ++ [a]).flatMap enc) ?_ hf hK
  rw [List.take_of_length_le (by omega), List.flatMap_append]
  simp
theorem ar_app0 {α : Type} {enc : α → List M} {a : α} {x y : Operand} {T e e' : TypeId} {i ei : TI} {idy sz by_ : Nat} {vs : List M} (hw : wantF (lookT t) ops g = some true) (hd : Nat.blt k N = true) (h1 : ev (lookT t) x = some (.im .nil)) (h2 : ev (lookT t) y = some (.row idy 1 sz))
    (h4' : lookH h idy = some (.rw e' sz vs)) (hv : vs = enc a) (he : ∀ x, (enc x).length = sz) (h5 : L T = some i) (h6 : i.desc = .slice e) (h7 : L e = some ei) (h8 : ei.size = sz) (h9 : ei.bytes = by_) (h10 : Nat.ble 1 sz = true)
    (h13 : by_ ≤ 140737488355328) (hf : (freshT k t && freshH k h) = true)
    (hK : AR P L N ops rest (fun es => K (⟨some (.row k [a].length sz), [(k, some (.rw e sz ([a].flatMap enc)))], [k], [idy]⟩ :: es)) ((k, some (.row k [a].length sz)) :: t) ((k, some (.rw e sz ([a].flatMap enc))) :: h)) :
    AR P L N ops (⟨some k, .call { callee := .builtin .append, args := #[x, y], argTypes := #[T, T] }, ty, pos, af, g⟩ :: rest) K t h := by
  subst hv
  have hv1 : (enc a).take (1 * sz) = enc a := List.take_of_length_le (by rw [he]; omega)
  have hn : News (lookH h) (.row idy 1 sz) 1 ((enc a).take (1 * sz)) [idy] := .row h4' (by rw [he]; omega)
  rw [hv1] at hn
  have h0 := Nat.le_of_ble_eq_true h10
  have e1 : [a].flatMap enc = enc a := by simp
  rw [e1] at hK
  exact ar_appendNil (wantF_ok hw) hd h1 h2 hn h5 h6 h7 h8 h9 (by omega) (by rw [he]; omega) (by omega) (by omega) (fun id n' sz' hh => by cases hh; rfl) hf hK
end
theorem sub_ho {t t' : TL} {h h' : HL} {k : Nat} {o : Option O} (h1 : lookH h k = o) (h2 : Sub t h t' h') : Sub t h t' ((k, o) :: h') := by
  cases o with
  | some d => exact sub_h h1 h2
  | none =>
    refine ⟨h2.1, fun i x hx => ?_⟩
    simp only [lookH] at hx
    cases hb : Nat.beq k i with
    | true => rw [hb] at hx; cases hx
    | false => rw [hb] at hx; exact h2.2 i x hx
theorem Sub.trans {t t' t'' : TL} {h h' h'' : HL} (h1 : Sub t h t' h') (h2 : Sub t' h' t'' h'') : Sub t h t'' h'' := ⟨fun i x hx => h1.1 i x (h2.1 i x hx), fun i x hx => h1.2 i x (h2.2 i x hx)⟩
/-- a loop with what holds behind it, where no code stands behind -/
theorem awp_loopD {P : Program} {N : Nat} {K0 : KK} {t : TL} {h : HL} {A B : Type} {id : Nat} {c : Code} (I : A → Prop) (It : A → TL) (Ih : A → HL) (μ : A → Nat) (E : B → Prop) (Et : B → TL) (Eh : B → HL) (x0 : A) (hI : I x0) (h0 : Sub t h (It x0) (Ih x0))
    (round : ∀ x, I x → Awp P N c (fun e t' h' => match e with | .normal => ∃ y, I y ∧ Sub t' h' (It y) (Ih y) ∧ μ y < μ x | e => (e = .exit id ∧ ∃ b, E b ∧ Sub t' h' (Et b) (Eh b)) ∨ blockK id K0 e t' h') (It x) (Ih x))
    (after : ∀ b t' h', E b → Sub t' h' (Et b) (Eh b) → K0 .normal t' h') : Awp P N (.loop c) (blockK id K0) t h := by
  refine awp_loop1 I It Ih μ x0 hI h0 (fun x hx => awp_mono (round x hx) ?_)
  intro e t' h' hk
  have key : ∀ e, (e = X.exit id ∧ ∃ b, E b ∧ Sub t' h' (Et b) (Eh b)) ∨ blockK id K0 e t' h' → blockK id K0 e t' h' := by
    rintro e (⟨rfl, b, hb, hs⟩ | hk)
    · simp only [blockK, Nat.beq_refl]
      exact after b t' h' hb hs
    · exact hk
  cases e with
  | normal => exact hk
  | exit j => exact key _ hk
  | ret => exact key _ hk
theorem Conc.nilRow {N : Nat} {w0 : World} {ok0 S0 : Nat → Prop} {T T' : Nat → Option D} {H H' : Nat → Option O} {β : Nat → Option Nat} {ok : Nat → Prop} {a : Act} {w : World} (hc : Conc N w0 ok0 S0 T H β ok a w) {id k sz : Nat} {e : TypeId}
    (hk : T k = some (.im .nil)) (hf : Fresh T H id) (hT : ∀ i d, T' i = some d → (i = k ∧ d = .row id 0 sz) ∨ T i = some d) (hH : ∀ i o, H' i = some o → (i = id ∧ o = .rw e sz []) ∨ (i ≠ id ∧ H i = some o)) :
    Conc N w0 ok0 S0 T' H' (updβ β id none) ok a w := by
  have b1 : updβ β id none id = none := by unfold updβ; rw [if_pos rfl]
  have b2 : ∀ i, i ≠ id → updβ β id none i = β i := fun i h => by unfold updβ; rw [if_neg h]
  have hn : ∀ is : List Nat, id ∉ is → Names β (updβ β id none) w w is := fun is his => ⟨fun i b hi hb => by rw [b2 i (by rintro rfl; exact his hi)]; exact hb, fun i b us e _ _ h => ⟨us, e, h, rfl⟩⟩
  have hs := Stays.refl ok w
  refine { defers := hc.defers, size := hc.size, tmp := ?_, obj := ?_, inj := ?_, okd := ?_, okl := hc.okl, okf := hc.okf, low := ?_, keep := hc.keep }
  · intro i d h
    rcases hT i d h with ⟨rfl, rfl⟩ | h1
    · have := hc.tmp _ _ hk
      simp only [RD, RM] at this ⊢
      exact .inl ⟨this, trivial⟩
    · exact RD.mono hs d _ (hn _ (hf.1 i d h1)) (hc.tmp i d h1)
  · intro i o h
    rcases hH i o h with ⟨rfl, rfl⟩ | ⟨h1, h3⟩
    · simp only [RO]
      exact .inl ⟨b1, trivial⟩
    · exact RO.mono hs (hn _ (hf.2 i o h3).2) (b2 i h1) (fun _ _ => rfl) (hc.obj i o h3)
  · intro i j o o' b h1 h2 h3 h4
    rcases hH i o h1 with ⟨rfl, rfl⟩ | ⟨g1, g3⟩ <;> rcases hH j o' h2 with ⟨rfl, rfl⟩ | ⟨k1, k3⟩
    · rfl
    · rw [b1] at h3; cases h3
    · rw [b1] at h4; cases h4
    · rw [b2 i g1] at h3; rw [b2 j k1] at h4
      exact hc.inj i j o o' b g3 k3 h3 h4
  · intro b hb i o h
    rcases hH i o h with ⟨rfl, rfl⟩ | ⟨g1, g3⟩
    · rw [b1]; exact fun h => by cases h
    · rw [b2 i g1]; exact hc.okd b hb i o g3
  · intro i o b h hb
    rcases hH i o h with ⟨rfl, rfl⟩ | ⟨g1, g3⟩
    · rw [b1] at hb; cases hb
    · rw [b2 i g1] at hb; exact hc.low i o b g3 hb
/-- no slice is a row of nothing -/
theorem awp_nilRow {P : Program} {N : Nat} {K : KK} {t : TL} {h : HL} {c : Code} {id k sz : Nat} {e : TypeId} (hk : lookT t k = some (.im .nil)) (hf : (freshT id t && freshH id h) = true)
    (hK : Awp P N c K ((k, some (.row id 0 sz)) :: t) ((id, some (.rw e sz [])) :: h)) : Awp P N c K t h := by
  intro w0 ok0 S0 β ok a w hc
  simp only [Bool.and_eq_true] at hf
  refine hK w0 ok0 S0 _ ok a w (hc.nilRow hk (fresh_of hf.1 hf.2) (sz := sz) (e := e) ?_ ?_)
  · intro i d hd
    have e1 : lookT ((k, some (.row id 0 sz)) :: t) i = putT (lookT t) (some k) (some (.row id 0 sz)) i := by rw [← lookT_put]; rfl
    rw [e1] at hd
    unfold putT at hd
    split at hd
    · rename_i he
      cases he
      exact .inl ⟨rfl, by simpa using hd.symm⟩
    · exact .inr hd
  · intro i o ho
    have e1 : lookH ((id, some (.rw e sz [])) :: h) i = chH (lookH h) [(id, some (.rw e sz []))] i := by rw [← lookH_ch]; rfl
    rw [e1] at ho
    simp only [chH] at ho
    split at ho
    · rename_i he
      exact .inl ⟨he.symm, by simpa using ho.symm⟩
    · rename_i he
      exact .inr ⟨fun h => he h.symm, ho⟩
end Fw
/-! ## FwG: Runs of rules: the last argument of each is shown by a tactic, so that a walk's text stays short. -/
namespace Fw
open Go Go.RowKit
set_option linter.unusedVariables false
structure Bx (q : Prop) : Prop where
  un : q
theorem go1 {p q : Prop} (h : q) (f : Bx q → p := by intro h; (first | refine ar_addN rfl rfl rfl rfl (by omega) ?_ | refine ar_subN rfl rfl rfl rfl (by omega) ?_ | refine ar_op rfl ?_ | refine ar_div (wantF_ok rfl) rfl rfl rfl rfl (by decide) ?_ | refine ar_range rfl rfl rfl rfl rfl rfl ?_ | refine ar_nil ?_ | refine awp_seq ?_ | refine awp_region lay_ok ?_ | refine awp_drawn lay_ok follows_ok (by kernel_rfl) ?_ | refine And.intro (by kernel_rfl) ?_ | refine awp_block ?_ | refine awp_skip ?_ | refine awp_ret ?_ | refine awp_exit ?_ | refine awp_scope ?_ | refine awp_condT rfl ?_ | refine awp_condF rfl ?_); exact h.un) : p := f ⟨h⟩
theorem go {p q : Prop} (h : q) (f : Bx q → p := by intro h; (repeat (first | refine ar_addN rfl rfl rfl rfl (by omega) ?_ | refine ar_subN rfl rfl rfl rfl (by omega) ?_ | refine ar_op rfl ?_ | refine ar_div (wantF_ok rfl) rfl rfl rfl rfl (by decide) ?_ | refine ar_range rfl rfl rfl rfl rfl rfl ?_ | refine ar_nil ?_ | refine awp_seq ?_ | refine awp_region lay_ok ?_ | refine awp_drawn lay_ok follows_ok (by kernel_rfl) ?_ | refine And.intro (by kernel_rfl) ?_ | refine awp_block ?_ | refine awp_skip ?_ | refine awp_ret ?_ | refine awp_exit ?_ | refine awp_scope ?_ | refine awp_condT rfl ?_ | refine awp_condF rfl ?_)); exact h.un) : p := f ⟨h⟩
theorem goq {p q : Prop} (h : q) (f : Bx q → p := by intro h; (repeat (first | refine ar_addN rfl rfl rfl rfl (by omega) ?_ | refine ar_subN rfl rfl rfl rfl (by omega) ?_ | refine ar_op rfl ?_ | refine ar_div (wantF_ok rfl) rfl rfl rfl rfl (by decide) ?_ | refine ar_range rfl rfl rfl rfl rfl rfl ?_ | refine ar_nil ?_ | refine awp_seq ?_ | refine And.intro (by kernel_rfl) ?_ | refine awp_block ?_ | refine awp_skip ?_ | refine awp_exit ?_ | refine awp_scope ?_ | refine awp_condT rfl ?_ | refine awp_condF rfl ?_)); exact h.un) : p := f ⟨h⟩
theorem gos {p q : Prop} (h : q) (f : Bx q → p := by intro h; (repeat (refine ar_op rfl ?_)); exact h.un) : p := f ⟨h⟩
theorem gon {p q : Prop} (h : q) (f : Bx q → p := by intro h; (first | refine awp_region lay_ok ?_ | refine awp_drawn lay_ok follows_ok (by kernel_rfl) ?_); (repeat (first | refine ar_addN rfl rfl rfl rfl (by omega) ?_ | refine ar_subN rfl rfl rfl rfl (by omega) ?_ | refine ar_op rfl ?_ | refine ar_div (wantF_ok rfl) rfl rfl rfl rfl (by decide) ?_ | refine ar_range rfl rfl rfl rfl rfl rfl ?_ | refine ar_nil ?_ | refine awp_seq ?_ | refine And.intro (by kernel_rfl) ?_ | refine awp_block ?_ | refine awp_skip ?_ | refine awp_exit ?_ | refine awp_scope ?_ | refine awp_condT rfl ?_ | refine awp_condF rfl ?_)); exact h.un) : p := f ⟨h⟩
theorem gou {p q : Prop} (h : q) (f : Bx q → p := by intro h; (repeat (first | exact sub_nil _ _ | refine sub_t rfl ?_ | refine sub_h rfl ?_ | refine sub_ho rfl ?_)); exact h.un) : p := f ⟨h⟩
theorem gou0 {p : Prop} (f : p := by repeat (first | exact sub_nil _ _ | refine sub_t rfl ?_ | refine sub_h rfl ?_ | refine sub_ho rfl ?_)) : p := f
section
variable {P : Program} {L : Nat → Option TI} {N : Nat} {ops : Array Oper} {t t' : TL} {h h' : HL} {e : Eff}
/-- a call by its contract -/
theorem cl {k : Nat} {ty : TypeId} {pos : String} {af : Array Edge} {g : Option (Nat × Bool)} {rest : List Oper} {K : List Eff → TL → HL → Prop} {x : Operand} {args : Array Operand} {ats : Array TypeId} {f : Nat} {ms : List M} {m : M}
    (h1 : ev (lookT t) x = some (.im (.fn f))) (h2 : Plain P f) (h3 : evM (ev (lookT t)) (lookH h) args.toList = some (ms, [])) (h4 : Ret P f ms m) (hK : AR P L N ops rest (fun es => K (val (.im m) :: es)) ((k, some (.im m)) :: t) h)
    (hw : wantF (lookT t) ops g = some true := by exact rfl) (hd : Nat.blt k N = true := by exact rfl) :
    AR P L N ops (⟨some k, .call { callee := .value x, args := args, argTypes := ats }, ty, pos, af, g⟩ :: rest) K t h :=
  ar_call' hw hd h1 h3 h2 h4 hK
theorem clz {k : Nat} {ty : TypeId} {pos : String} {af : Array Edge} {g : Option (Nat × Bool)} {rest : List Oper} {K : List Eff → TL → HL → Prop} {x : Operand} {args : Array Operand} {ats : Array TypeId} {f : Nat} {ms : List M} {ids : List Nat} {m : M} {h' : HL}
    (h1 : ev (lookT t) x = some (.im (.fn f))) (h2 : Plain P f) (h3 : evM (ev (lookT t)) (lookH h) args.toList = some (ms, ids)) (h4 : Ret P f ms m) (hK : AR P L N ops rest (fun es => K (⟨some (.im m), ids.map fun i => (i, none), [], ids⟩ :: es)) ((k, some (.im m)) :: t) h')
    (hw : wantF (lookT t) ops g = some true := by exact rfl) (hd : Nat.blt k N = true := by exact rfl) (h5 : normL ((ids.map fun i => (i, (none : Option O))) ++ h) = some h' := by exact rfl) :
    AR P L N ops (⟨some k, .call { callee := .value x, args := args, argTypes := ats }, ty, pos, af, g⟩ :: rest) K t h :=
  ar_callZ' hw hd h1 h3 h2 h4 h5 hK
end
/-- a test whose answer is known -/
theorem awp_cT {P : Program} {N : Nat} {K : KK} {t : TL} {h : HL} {c : Operand} {x y : Code} {b : Bool} (hc : ev (lookT t) c = some (.im (.bool b))) (hb : b = true) (h1 : Awp P N x K t h) : Awp P N (.cond c x y) K t h := by
  subst hb; exact awp_condT hc h1
theorem awp_cF {P : Program} {N : Nat} {K : KK} {t : TL} {h : HL} {c : Operand} {x y : Code} {b : Bool} (hc : ev (lookT t) c = some (.im (.bool b))) (hb : b = false) (h1 : Awp P N y K t h) : Awp P N (.cond c x y) K t h := by
  subst hb; exact awp_condF hc h1
end Fw
/-! ## FwH: slices that are made; rows of typed elements, element by element. -/
namespace Fw
open Go Go.RowKit
set_option linter.unusedVariables false
set_option linter.unusedSimpArgs false
theorem rep_len {α : Type} (l : List α) (sz : Nat) (h : l.length = sz) : ∀ n, (List.replicate n l).flatten.length = n * sz
  | 0 => by simp
  | n + 1 => by simp only [List.replicate_succ, List.flatten_cons, List.length_append, rep_len l sz h n, h]; rw [Nat.add_mul]; omega
theorem made_cells (z : Array Value) (hz : 0 < z.size) (n : Nat) : (madeCells z (n * z.size)).toList = (List.replicate n z.toList).flatten := by
  apply List.ext_getElem
  · rw [rep_len z.toList z.size (by simp)]; simp [size_madeCells]
  · intro j hj1 hj2
    have key : ∀ n j (hj : j < (List.replicate n z.toList).flatten.length), (List.replicate n z.toList).flatten[j] = z[j % z.size]! := by
      intro n
      induction n with
      | zero => intro j hj; simp at hj
      | succ n ih =>
        intro j hj
        simp only [List.replicate_succ, List.flatten_cons] at hj ⊢
        rcases Nat.lt_or_ge j z.size with hlt | hge
        · rw [List.getElem_append_left (by simpa using hlt), Nat.mod_eq_of_lt hlt, getElem!_pos z j hlt]; simp
        · rw [List.getElem_append_right (by simpa using hge)]
          simp only [Array.length_toList]
          rw [ih, Nat.mod_eq_sub_mod hge]
    rw [key n j hj2]
    simp [madeCells]
section
variable {P : Program} {L : Nat → Option TI}
theorem sem_makeSlice {t id : Nat} {x y : Operand} {ty : TypeId} {kl kc : IntKind} {l c : Nat} {i ei : TI} {e : Nat} (hi : L t = some i) (hf : i.desc = .slice e) (hei : L e = some ei) (h0 : 0 < ei.size) (hlc : l ≤ c) (hb : ei.bytes * c ≤ 281474976710656) (h63 : c ≤ 9223372036854775807) :
    SemD P L (.makeSlice t x y) (some id) ty [.im (.int kl (l : Nat)), .im (.int kc (c : Nat))] [] ⟨some (.row id l ei.size), [(id, some (.rw e ei.size (List.replicate l (mcells ei.mz)).flatten))], [id], []⟩ := by
  intro N w0 ok0 S0 T H β ok a w o Q hL hc hN ho hdst hty hx hg hfr
  obtain ⟨h1, h2⟩ := evL2 (by simpa [Op.operands] using hx)
  have v1 := rd_int hc h1
  have v2 := rd_int hc h2
  have ut : P.underlying t = some (.slice e) := by have := (hL t i hi).1; rw [hf] at this; exact this
  obtain ⟨_, ⟨inf, hinf, hs, hby, hz⟩, hzm, hw, hzs⟩ := hL e ei hei
  have hb' : (ei.bytes : Int) * (c : Int) ≤ 281474976710656 := by
    have : ((ei.bytes * c : Nat) : Int) ≤ 281474976710656 := by omega
    rwa [Int.natCast_mul] at this
  have hr := run_make (P := P) w t e inf ei.zero ut hinf hz kl kc l c (by omega) (by omega) (by rw [hby]; exact hb') (by omega)
  simp only [Int.toNat_natCast] at hr
  have hcz : (madeCells ei.zero.cells (c * inf.size)).toList = (List.replicate c ei.zero.cells.toList).flatten := by
    rw [hs, ← hzs]
    exact made_cells _ (by omega) c
  have hms : ∀ n, RMs ok (w.alloc (.cells (madeCells ei.zero.cells (c * inf.size)) e)) (List.replicate n (mcells ei.mz)).flatten (List.replicate n ei.zero.cells.toList).flatten := by
    have hz1 : RMs ok (w.alloc (.cells (madeCells ei.zero.cells (c * inf.size)) e)) (mcells ei.mz) ei.zero.cells.toList := RMs.mono (ok := fun _ => False) (w := w) (fun _ hf _ => hf.elim) _ _ (RM.cells hw (hzm w))
    intro n
    induction n with
    | zero => simp [RMs]
    | succ n ih => simp only [List.replicate_succ, List.flatten_cons]; exact hz1.append ih
  have hl1 : (List.replicate l (mcells ei.mz)).flatten.length = l * ei.size := rep_len _ _ (by rw [← hzs]; exact (RM.cells_len hw (hzm w)).symm) l
  have hl2 : ∀ n, (List.replicate n ei.zero.cells.toList).flatten.length = n * ei.size := rep_len _ _ (by simpa using hzs)
  have hus : (madeCells ei.zero.cells (c * inf.size)).size = c * ei.size := by rw [size_madeCells, hs]
  refine wp_val (v := .slice (some ⟨w.heap.size, 0, none⟩) l c) (w' := w.alloc (.cells (madeCells ei.zero.cells (c * inf.size)) e)) ?_ ⟨updβ β id (some w.heap.size), ok, ?_⟩
  · simp only [execOp, ho, v1, v2, Sem.run_bind, hr, Result.andThen_ok, Sem.run_pure]
  · refine hc.new o.dst _ _ hN id _ _ (hfr id (by simp)) ?_ ?_
    · simp only [RO]
      refine .inr ⟨w.heap.size, _, c, by simp [updβ], push_new w _, hus, by unfold maxLen; omega, ?_, ?_⟩
      · rw [hl1, hus]; exact Nat.mul_le_mul_right _ hlc
      · rw [hl1, hcz]
        have e1 : (List.replicate c ei.zero.cells.toList).flatten.take (l * ei.size) = (List.replicate l ei.zero.cells.toList).flatten := by
          have e2 : List.replicate c ei.zero.cells.toList = List.replicate l ei.zero.cells.toList ++ List.replicate (c - l) ei.zero.cells.toList := by
            rw [List.replicate_append_replicate]; congr 1; omega
          rw [e2, List.flatten_append, List.take_append_of_le_length (by rw [hl2]; exact Nat.le_refl _), List.take_of_length_le (by rw [hl2]; exact Nat.le_refl _)]
        rw [e1]
        exact hms l
    · intro d hd
      simp only [Option.some.injEq] at hd; subst hd
      simp only [RD]
      exact .inr ⟨w.heap.size, c, by simp [updβ], rfl, hlc, by unfold maxLen; omega, _, e, push_new w _, hus⟩
end
theorem flat_rep {α : Type} {enc : α → List M} {a : α} : ∀ n, (List.replicate n (enc a)).flatten = (List.replicate n a).flatMap enc
  | 0 => rfl
  | n + 1 => by simp only [List.replicate_succ, List.flatten_cons, List.flatMap_cons, flat_rep n]
theorem flat_get {α : Type} {enc : α → List M} (he : ∀ x, (enc x).length = 1) : ∀ (l : List α) (i : Nat) (h : i < l.length), (l.flatMap enc)[i]? = (enc l[i])[0]?
  | x :: l, 0, h => by
    have := he x
    simp only [List.flatMap_cons, List.getElem_cons_zero]
    rw [List.getElem?_append_left (by omega)]
  | x :: l, i + 1, h => by
    have := he x
    simp only [List.flatMap_cons, List.getElem_cons_succ]
    rw [List.getElem?_append_right (by omega), this]
    exact flat_get he l i (by simpa using h)
theorem flat_set {α : Type} {enc : α → List M} {sz : Nat} (he : ∀ x, (enc x).length = sz) {a : α} : ∀ (l : List α) (i : Nat), i < l.length → splice (l.flatMap enc) (i * sz) (enc a) = (l.set i a).flatMap enc
  | x :: l, 0, h => by
    have := he x
    have := he a
    simp only [List.set_cons_zero, List.flatMap_cons]
    unfold splice
    rw [Nat.zero_mul, List.take_zero, List.nil_append, Nat.zero_add, List.drop_append_of_le_length (by omega), List.drop_of_length_le (by omega), List.nil_append]
  | x :: l, i + 1, h => by
    have h1 := he x
    have h2 := he a
    have ih := flat_set he (a := a) l i (by simpa using h)
    simp only [List.set_cons_succ, List.flatMap_cons]
    rw [← ih]
    unfold splice
    have e1 : (i + 1) * sz = (enc x).length + i * sz := by rw [h1, Nat.add_mul]; omega
    rw [e1, List.take_length_add_append, Nat.add_assoc, List.drop_length_add_append]
    simp
section
variable {P : Program} {L : Nat → Option TI} {N : Nat} {ops : Array Oper} {rest : List Oper} {K : List Eff → TL → HL → Prop} {t : TL} {h : HL} {k : Nat} {ty : TypeId} {pos : String} {af : Array Edge} {g : Option (Nat × Bool)}
/-- a slice of so many is made -/
theorem ar_make {α : Type} {enc : α → List M} {T : TypeId} {x y : Operand} {kl kc : IntKind} {l c : Nat} {e : Nat} {ei : TI} {sz : Nat} (a : α) (h1 : ev (lookT t) x = some (.im (.int kl (l : Nat)))) (h2 : ev (lookT t) y = some (.im (.int kc (c : Nat)))) (h3 : sliceElem L T = some (e, ei)) (hlc : l ≤ c) (hb : ei.bytes * c ≤ 281474976710656) (h63 : c ≤ 9223372036854775807)
    (hK : AR P L N ops rest (fun es => K (⟨some (.row k l sz), [(k, some (.rw e sz ((List.replicate l a).flatMap enc)))], [k], []⟩ :: es)) ((k, some (.row k l sz)) :: t) ((k, some (.rw e sz ((List.replicate l a).flatMap enc))) :: h))
    (hw : wantF (lookT t) ops g = some true := by exact rfl) (hd : Nat.blt k N = true := by exact rfl) (hz : mcells ei.mz = enc a := by exact rfl) (hsz : ei.size = sz := by exact rfl) (h0 : Nat.ble 1 sz = true := by exact rfl) (hf : (freshT k t && freshH k h) = true := by exact rfl) :
    AR P L N ops (⟨some k, .makeSlice T x y, ty, pos, af, g⟩ :: rest) K t h := by
  subst hsz
  obtain ⟨i, hi, hde, hei⟩ := sliceElem_ok h3
  have hs := sem_makeSlice (P := P) (L := L) (id := k) (ty := ty) (x := x) (y := y) (kl := kl) (kc := kc) hi hde hei (Nat.le_of_ble_eq_true h0) hlc hb h63
  rw [hz, flat_rep] at hs
  refine ar_sem (og := []) hw hd (evL2_mk h1 h2) (by simp) (by simp) hs ?_ hK
  simpa [freshAll] using hf
/-- an element's address, in a row -/
theorem ar_ix {T : TypeId} {x ix : Operand} {id n sz : Nat} {kd : IntKind} {j : Int} {e : Nat} {ei : TI} (i : Nat) (h1 : ev (lookT t) x = some (.row id n sz)) (h2 : ev (lookT t) ix = some (.im (.int kd j))) (h3 : sliceElem L T = some (e, ei)) (hj : j = (i : Int)) (hi : i < n)
    (hK : AR P L N ops rest (fun es => K (val (.ptr id (i * sz)) :: es)) ((k, some (.ptr id (i * sz))) :: t) h)
    (hw : wantF (lookT t) ops g = some true := by exact rfl) (hd : Nat.blt k N = true := by exact rfl) (hsz : ei.size = sz := by exact rfl) :
    AR P L N ops (⟨some k, .indexAddr T x ix, ty, pos, af, g⟩ :: rest) K t h := by
  obtain ⟨i', hi', hde, hei⟩ := sliceElem_ok h3
  subst hj
  exact ar_indexR (wantF_ok hw) hd h1 h2 hi' hde hei hsz ⟨by omega, by omega⟩ (by rw [Int.toNat_natCast]) hK
/-- an element of a row of one-cell elements is read -/
theorem ar_ld {α : Type} {enc : α → List M} {T : TypeId} {p : Operand} {id o e : Nat} {l : List α} {ti : TI} {m : M} (i : Nat) (h1 : ev (lookT t) p = some (.ptr id o)) (h2 : lookH h id = some (.rw e 1 (l.flatMap enc))) (hi : i < l.length) (ho : o = i * 1) (hm : enc l[i] = [m])
    (hK : AR P L N ops rest (fun es => K (⟨some (.im m), [], [], [id]⟩ :: es)) ((k, some (.im m)) :: t) h) (he : ∀ x, (enc x).length = 1 := by intro x; rfl)
    (hw : wantF (lookT t) ops g = some true := by exact rfl) (hd : Nat.blt k N = true := by exact rfl) (h3 : L T = some ti := by exact rfl) (h4 : aggD ti.desc = false := by exact rfl) :
    AR P L N ops (⟨some k, .load T p, ty, pos, af, g⟩ :: rest) K t h :=
  ar_loadR (wantF_ok hw) hd h1 h2 h3 h4 (by rw [ho, Nat.mul_one, flat_get he l i hi, hm]; rfl) hK
/-- an element of a row is written -/
theorem ar_st {α : Type} {enc : α → List M} {T : TypeId} {p x : Operand} {id o e sz : Nat} {l : List α} {ti : TI} {d : D} {m : M} (i : Nat) (a : α) (h1 : ev (lookT t) p = some (.ptr id o)) (hx : ev (lookT t) x = some d) (h2 : lookH h id = some (.rw e sz (l.flatMap enc))) (hi : i < l.length) (ho : o = i * sz) (hm : mcells m = enc a)
    (hK : AR P L N ops rest (fun es => K (⟨none, [(id, some (.rw e sz ((l.set i a).flatMap enc)))], [], [id]⟩ :: es)) t ((id, some (.rw e sz ((l.set i a).flatMap enc))) :: h)) (he : ∀ x, (enc x).length = sz := by intro x; rfl)
    (hd : toM d = some m := by exact rfl) (hmw : mwhole m = true := by exact rfl)
    (hw : wantF (lookT t) ops g = some true := by exact rfl) (h3 : L T = some ti := by exact rfl) (h4 : ti.size = sz := by exact rfl) (h0 : Nat.ble 1 sz = true := by exact rfl) :
    AR P L N ops (⟨none, .store T p x, ty, pos, af, g⟩ :: rest) K t h := by
  have hl : (l.flatMap enc).length = l.length * sz := flatMap_len he l
  have h0' := Nat.le_of_ble_eq_true h0
  have h5 : (i + 1) * sz ≤ l.length * sz := Nat.mul_le_mul_right _ (by omega)
  rw [Nat.add_mul] at h5
  refine ar_storeR (wantF_ok hw) h1 hx hd hmw h2 h3 (by rw [hm, he, h4]) (by rw [hl, ho, h4]; omega) (by rw [hl]; omega) ?_ hK
  rw [ho, hm, flat_set he l i hi]
end
end Fw
