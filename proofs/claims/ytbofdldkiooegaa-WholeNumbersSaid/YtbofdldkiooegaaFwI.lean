/- A program logic over data: each operation's step holds in the model: all. -/
import Derived.Test.YtbofdldkiooegaaFwH
import Derived.Test.YtbofdldkiooegaaFwS
namespace Fw
open Go Go.RowKit
set_option linter.unusedVariables false
set_option linter.unusedSimpArgs false
set_option linter.unusedSectionVars false

theorem RMt.get {ok : Nat → Prop} {w : World} : ∀ {ms : List M} {vs : List Value} {i : Nat} {m : M}, RMt ok w ms vs → ms[i]? = some m → ∃ u, vs[i]? = some u ∧ RM ok w m u
  | [], vs, i, m, h, hi => by simp at hi
  | x :: ms, vs, 0, m, h, hi => by
    simp only [RMt] at h
    obtain ⟨u, us, rfl, h2, h3⟩ := h
    simp at hi; subst hi
    exact ⟨u, rfl, h2⟩
  | x :: ms, vs, i + 1, m, h, hi => by
    simp only [RMt] at h
    obtain ⟨u, us, rfl, h2, h3⟩ := h
    simp at hi
    simpa using RMt.get h3 hi
theorem RDt.get {β : Nat → Option Nat} {ok : Nat → Prop} {w : World} : ∀ {ms : List D} {vs : List Value} {i : Nat} {m : D}, RDt β ok w ms vs → ms[i]? = some m → ∃ u, vs[i]? = some u ∧ RD β ok w m u
  | [], vs, i, m, h, hi => by simp at hi
  | x :: ms, vs, 0, m, h, hi => by
    simp only [RDt] at h
    obtain ⟨u, us, rfl, h2, h3⟩ := h
    simp at hi; subst hi
    exact ⟨u, rfl, h2⟩
  | x :: ms, vs, i + 1, m, h, hi => by
    simp only [RDt] at h
    obtain ⟨u, us, rfl, h2, h3⟩ := h
    simp at hi
    simpa using RDt.get h3 hi

section
variable {P : Program} {L : Nat → Option TI} {N : Nat} {w0 : World} {ok0 S0 : Nat → Prop} {T : Nat → Option D} {H : Nat → Option O} {β : Nat → Option Nat} {ok : Nat → Prop} {a : Act} {w w' : World}
  {o : Oper} {Q : Exit → Act → World → Prop} {K : Act → World → Prop}

theorem go_int (hc : Conc N w0 ok0 S0 T H β ok a w) (hN : ∀ d, o.dst = some d → d < N) {k : IntKind} {n : Int} (hrun : (execOp a.eval o).run P w = .ok (.value (.int k n)) w) : o.wp P a w (After N w0 ok0 S0 T H o (val (.im (.int k n)))) Q :=
  go_val hc hN rfl rfl hrun (by simp only [RD, RM])
theorem go_bool (hc : Conc N w0 ok0 S0 T H β ok a w) (hN : ∀ d, o.dst = some d → d < N) {n : Bool} (hrun : (execOp a.eval o).run P w = .ok (.value (.bool n)) w) : o.wp P a w (After N w0 ok0 S0 T H o (val (.im (.bool n)))) Q :=
  go_val hc hN rfl rfl hrun (by simp only [RD, RM])

section
variable (hL : LayOk P L) (hc : Conc N w0 ok0 S0 T H β ok a w) (hN : ∀ d, o.dst = some d → d < N)
include hL hc hN

theorem s_sliceRow {t id n sz : Nat} {x hi' : Operand} {k : IntKind} {h' : Int} {i : TI} {e : Nat} (ho : o.op = .slice t x none (some hi') none) (h : ev T x = some (.row id n sz)) (hhi : ev T hi' = some (.im (.int k h'))) (hi : L t = some i) (hf : i.desc = .slice e) (hei : (L e).isSome) (h0 : 0 ≤ h') (h1 : h' ≤ n) :
    o.wp P a w (After N w0 ok0 S0 T H o (val (.row id h'.toNat sz))) Q := by
  obtain ⟨ei, hei⟩ := Option.isSome_iff_exists.1 hei
  rcases rd_row hc h with ⟨hv, rfl⟩ | ⟨b, cap, hb, hv, hnc, hcm, us, e', hh, hus⟩
  · obtain rfl : h' = 0 := by omega
    refine go_val hc hN rfl rfl (v := .slice none 0 0) ?_ (by simp [RD])
    have e1 := run_bound (w := w) (P := P) (y := 0) (code := .sliceAcap) (rd_int hc hhi) (by omega) (by omega)
    simp only [execOp, ho, Instr.sliceAt, Instr.slice, hv, Sem.run_bind, run_und hL hi, hf, Result.andThen_ok, Option.map_some, Option.map_none, Instr.sliceBounds, Sem.run_pure, e1, run_sizeOf hL hei]
    simp [e1, run_sizeOf hL hei]
  · have e1 := run_bound (w := w) (P := P) (y := cap) (code := .sliceAcap) (rd_int hc hhi) h0 (by omega)
    refine go_val hc hN rfl rfl (v := .slice (some ⟨b, 0, none⟩) h'.toNat cap) ?_ (by simp only [RD]; exact .inr ⟨b, cap, hb, rfl, by omega, hcm, us, e', hh, hus⟩)
    simp only [execOp, ho, Instr.sliceAt, Instr.slice, hv, Sem.run_bind, run_und hL hi, hf, Result.andThen_ok, Option.map_some, Option.map_none, Instr.sliceBounds, Sem.run_pure, e1, run_sizeOf hL hei]
    simp [e1, run_sizeOf hL hei, add_off]
theorem s_sliceSeqLo {t n : Nat} {cs : List M} {x lo : Operand} {k : IntKind} {l : Int} {i : TI} {e : Nat} {ei : TI} (ho : o.op = .slice t x (some lo) none none) (h : ev T x = some (.im (.seq n cs))) (hlo : ev T lo = some (.im (.int k l))) (hi : L t = some i) (hf : i.desc = .slice e) (hei : L e = some ei) (h0 : 0 ≤ l) (h1 : l ≤ n) (hcs : cs.length = n * ei.size) :
    o.wp P a w (After N w0 ok0 S0 T H o (val (.im (.seq (n - l.toNat) (cs.drop (l.toNat * ei.size)))))) Q := by
  obtain ⟨A, cap, hv, hnc, hcm, g3, g4, g5⟩ := rd_seq hc h
  have e1 := run_bound (w := w) (P := P) (y := n) (code := .sliceB) (rd_int hc hlo) h0 (by omega)
  refine go_val hc hN rfl rfl (v := .slice (if cap = l.toNat then A else A.map (·.add (l.toNat * ei.size))) (n - l.toNat) (cap - l.toNat)) ?_ ?_
  · simp only [execOp, ho, Instr.sliceAt, Instr.slice, hv, Sem.run_bind, run_und hL hi, hf, Result.andThen_ok, Option.map_some, Option.map_none, Instr.sliceBounds, Sem.run_pure, e1, run_sizeOf hL hei]
    simp [e1, run_sizeOf hL hei]
  · simp only [RD, RM]
    refine ⟨_, _, rfl, by omega, by omega, ?_, ?_, ?_⟩
    · intro hz
      rw [List.drop_eq_nil_of_le]
      rw [hcs]
      exact Nat.mul_le_mul_right _ (by omega)
    · intro hne
      have hne' : cs ≠ [] := by rintro rfl; simp at hne
      obtain ⟨b, off, rfl, hok⟩ := g4 hne'
      have : cap ≠ l.toNat := by
        intro hh
        apply hne
        rw [List.drop_eq_nil_of_le]
        rw [hcs]
        exact Nat.mul_le_mul_right _ (by omega)
      rw [if_neg this]
      exact ⟨b, off + l.toNat * ei.size, by simp [add_off], hok⟩
    · intro b off hA
      by_cases hcl : cap = l.toNat
      · rw [List.drop_eq_nil_of_le]
        · simp [RMc]
        · rw [hcs]; exact Nat.mul_le_mul_right _ (by omega)
      · rw [if_neg hcl] at hA
        cases A with
        | none => simp at hA
        | some ad =>
          obtain ⟨b', off', sp⟩ := ad
          by_cases hne : cs = []
          · subst hne; simp [RMc]
          · obtain ⟨b2, off2, h2, hok⟩ := g4 hne
            simp only [Option.some.injEq] at h2
            rw [h2] at hA
            simp only [Option.map_some, add_off, Option.some.injEq, Addr.mk.injEq, and_true] at hA
            obtain ⟨rfl, rfl⟩ := hA
            exact (g5 _ _ (by rw [h2])).drop _
theorem s_sliceSeqHi {t n : Nat} {cs : List M} {x hi' : Operand} {k : IntKind} {h' : Int} {i : TI} {e : Nat} {ei : TI} (ho : o.op = .slice t x none (some hi') none) (h : ev T x = some (.im (.seq n cs))) (hhi : ev T hi' = some (.im (.int k h'))) (hi : L t = some i) (hf : i.desc = .slice e) (hei : L e = some ei) (h0 : 0 ≤ h') (h1 : h' ≤ n) :
    o.wp P a w (After N w0 ok0 S0 T H o (val (.im (.seq h'.toNat (cs.take (h'.toNat * ei.size)))))) Q := by
  obtain ⟨A, cap, hv, hnc, hcm, g3, g4, g5⟩ := rd_seq hc h
  have e1 := run_bound (w := w) (P := P) (y := cap) (code := .sliceAcap) (rd_int hc hhi) h0 (by omega)
  have hA0 : (A.map (·.add 0)) = A := by cases A <;> simp [Addr.add]
  refine go_val hc hN rfl rfl (v := .slice A h'.toNat cap) ?_ ?_
  · simp only [execOp, ho, Instr.sliceAt, Instr.slice, hv, Sem.run_bind, run_und hL hi, hf, Result.andThen_ok, Option.map_some, Option.map_none, Instr.sliceBounds, Sem.run_pure, e1, run_sizeOf hL hei]
    simp [e1, run_sizeOf hL hei, hA0]
  · simp only [RD, RM]
    refine ⟨_, _, rfl, by omega, hcm, ?_, ?_, ?_⟩
    · intro hz; rw [hz]; simp
    · intro hne
      exact g4 (by rintro rfl; simp at hne)
    · intro b off hA
      exact (g5 b off hA).take _
theorem s_extractM {x : Operand} {k : Nat} {ms : List M} {m : M} (ho : o.op = .extract x k) (h : ev T x = some (.im (.tup ms))) (hm : ms[k]? = some m) : o.wp P a w (After N w0 ok0 S0 T H o (val (.im m))) Q := by
  have := ev_rd hc h
  simp only [RD, RM] at this
  obtain ⟨us, hv, hr⟩ := this
  obtain ⟨u, h1, h2⟩ := hr.get hm
  refine go_val hc hN rfl rfl (v := u) ?_ (by simpa only [RD] using h2)
  have h1' : us[k]? = some u := by rw [← Array.getElem?_toList]; exact h1
  simp only [execOp, ho, Instr.extract, hv, h1', Sem.run_bind, Sem.run_pure, Result.andThen_ok]
theorem s_extractD {x : Operand} {k : Nat} {ds : List D} {d : D} (ho : o.op = .extract x k) (h : ev T x = some (.tup ds)) (hm : ds[k]? = some d) : o.wp P a w (After N w0 ok0 S0 T H o (val d)) Q := by
  have := ev_rd hc h
  simp only [RD] at this
  obtain ⟨us, hv, hr⟩ := this
  obtain ⟨u, h1, h2⟩ := hr.get hm
  refine go_val hc hN rfl rfl (v := u) ?_ h2
  have h1' : us[k]? = some u := by rw [← Array.getElem?_toList]; exact h1
  simp only [execOp, ho, Instr.extract, hv, h1', Sem.run_bind, Sem.run_pure, Result.andThen_ok]
theorem s_func {f : Nat} {caps : Array Operand} {ds : List D} (ho : o.op = .makeFunc (.func f) #[] caps) (h : evL (ev T) caps.toList = some ds) : o.wp P a w (After N w0 ok0 S0 T H o (val (.fn f ds))) Q := by
  have := evL_rd hc h
  refine go_val hc hN rfl rfl (v := .func (.func f) #[] (caps.map a.eval)) ?_ (by simp only [RD]; exact ⟨_, rfl, by simpa using this⟩)
  simp only [execOp, ho, Instr.makeFunc, Sem.run_bind, Sem.run_pure, Result.andThen_ok, Array.map_empty]
theorem s_binInt {op : BinOp} {t t' : Nat} {x y : Operand} {k : IntKind} {p q : Int} {m : M} (ho : o.op = .binOp op t x y t') (h : ev T x = some (.im (.int k p))) (h' : ev T y = some (.im (.int k q))) (hm : intOp op k p q = some m) : o.wp P a w (After N w0 ok0 S0 T H o (val (.im m))) Q := by
  have h1 := rd_int hc h
  have h2 := rd_int hc h'
  cases op <;> simp only [intOp, Option.some.injEq, reduceCtorEq] at hm <;> subst hm
  all_goals
    first | refine go_int hc hN ?_ | refine go_bool hc hN ?_
    simp [execOp, ho, h1, h2, eqGuard, binOp, Op.intArith, Op.intCmp]
theorem s_binDiv {op : BinOp} {t t' : Nat} {x y : Operand} {k : IntKind} {p q : Int} {m : M} (ho : o.op = .binOp op t x y t') (h : ev T x = some (.im (.int k p))) (h' : ev T y = some (.im (.int k q))) (hm : divOp op k p q = some m) (h0 : q ≠ 0) : o.wp P a w (After N w0 ok0 S0 T H o (val (.im m))) Q := by
  have h1 := rd_int hc h
  have h2 := rd_int hc h'
  cases op <;> simp only [divOp, Option.some.injEq, reduceCtorEq] at hm <;> subst hm
  all_goals
    first | refine go_int hc hN ?_ | refine go_bool hc hN ?_
    simp [execOp, ho, h1, h2, eqGuard, binOp, Op.intDiv, h0]
theorem s_binStr {op : BinOp} {t t' : Nat} {x y : Operand} {p q : List UInt8} {m : M} (ho : o.op = .binOp op t x y t') (h : ev T x = some (.im (.str p))) (h' : ev T y = some (.im (.str q))) (hm : strOp op p q = some m) : o.wp P a w (After N w0 ok0 S0 T H o (val (.im m))) Q := by
  have h1 := rd_str hc h
  have h2 := rd_str hc h'
  cases op <;> simp only [strOp, Option.some.injEq, reduceCtorEq] at hm <;> subst hm
  all_goals
    first | refine go_int hc hN ?_ | refine go_bool hc hN ?_
    simp [execOp, ho, h1, h2, eqGuard, binOp, Op.stringOp, bytes_toList]
theorem s_addStr {t t' : Nat} {x y : Operand} {p q : List UInt8} (ho : o.op = .binOp .add t x y t') (h : ev T x = some (.im (.str p))) (h' : ev T y = some (.im (.str q))) (hl : p.length + q.length ≤ 9223372036854775807) : o.wp P a w (After N w0 ok0 S0 T H o (val (.im (.str (p ++ q))))) Q := by
  have h1 := rd_str hc h
  have h2 := rd_str hc h'
  refine go_val hc hN rfl rfl (v := .string ⟨(p ++ q).toArray⟩) ?_ (by simp only [RD, RM])
  have e1 : (⟨p.toArray⟩ ++ ⟨q.toArray⟩ : ByteArray) = ⟨(p ++ q).toArray⟩ := by
    apply ByteArray.ext
    simp
  have e2 : ¬ (((p.length + q.length : Nat) : Int) > IntKind.i64.max) := by
    have : IntKind.i64.max = 9223372036854775807 := by decide
    rw [this]; omega
  simp only [execOp, ho, h1, h2, eqGuard, binOp, Op.stringOp, str_size, e1, Sem.run_bind]
  rw [if_neg e2]
  simp
theorem s_binBool {op : BinOp} {t t' : Nat} {x y : Operand} {i : TI} {p q : Bool} {m : M} (ho : o.op = .binOp op t x y t') (h : ev T x = some (.im (.bool p))) (h' : ev T y = some (.im (.bool q))) (hi : L t = some i) (hf : i.desc = .bool) (hm : boolOp op p q = some m) : o.wp P a w (After N w0 ok0 S0 T H o (val (.im m))) Q := by
  have h1 := rd_bool hc h
  have h2 := rd_bool hc h'
  have hu := run_und (w := w) hL hi
  rw [hf] at hu
  have he : ∀ d : Nat, (Op.equalIn (d + 1) t (.bool p) (.bool q)).run P w = .ok (p == q) w := fun d => by
    simp only [Op.equalIn, Sem.run_bind, hu, Result.andThen_ok, Sem.run_pure]
  have he2 : (Op.equal t (.bool p) (.bool q)).run P w = .ok (p == q) w := he 9999
  cases op <;> simp only [boolOp, Option.some.injEq, reduceCtorEq] at hm <;> subst hm
  all_goals
    refine go_bool hc hN ?_
    simp only [execOp, ho, h1, h2, eqGuard, binOp, Sem.run_bind, he2, Sem.run_pure, Result.andThen_ok]
    simp [he2]
theorem s_not {t : Nat} {x : Operand} {b : Bool} (ho : o.op = .unOp .not t x) (h : ev T x = some (.im (.bool b))) : o.wp P a w (After N w0 ok0 S0 T H o (val (.im (.bool (!b))))) Q := by
  first | refine go_int hc hN ?_ | refine go_bool hc hN ?_
  simp [execOp, ho, rd_bool hc h, Op.unary]
theorem s_neg {t : Nat} {x : Operand} {k : IntKind} {n : Int} (ho : o.op = .unOp .neg t x) (h : ev T x = some (.im (.int k n))) : o.wp P a w (After N w0 ok0 S0 T H o (val (.im (.int k (k.wrap (0 - n)))))) Q := by
  first | refine go_int hc hN ?_ | refine go_bool hc hN ?_
  simp [execOp, ho, rd_int hc h, Op.unary, Op.intArith]
theorem s_convInt {s t : Nat} {x : Operand} {k0 k : IntKind} {n : Int} {is i : TI} (ho : o.op = .convert s t x) (h : ev T x = some (.im (.int k0 n))) (hs : L s = some is) (hi : L t = some i) (hf : i.desc = .int k) : o.wp P a w (After N w0 ok0 S0 T H o (val (.im (.int k (k.wrap n))))) Q := by
  first | refine go_int hc hN ?_ | refine go_bool hc hN ?_
  have h1 := rd_int hc h
  have hu := run_und (w := w) hL hi
  rw [hf] at hu
  simp only [execOp, ho, h1, convert, Sem.run_bind, run_und hL hs, hu, Result.andThen_ok]
  simp [Conv.intToInt]
theorem s_len {x : Operand} {t : Nat} {i : TI} {n : Nat} (ho : o.op = .call { callee := .builtin .len, args := #[x], argTypes := #[t] }) (hi : L t = some i) (hv : (i.desc = .string ∧ ∃ s : List UInt8, a.eval x = .string ⟨s.toArray⟩ ∧ s.length = n) ∨ ((∃ e, i.desc = .slice e) ∧ ∃ A c, a.eval x = .slice A n c)) :
    o.wp P a w (After N w0 ok0 S0 T H o (val (.im (.int .i64 n)))) Q := by
  refine go_val hc hN rfl rfl (v := .int .i64 n) ?_ (by simp only [RD, RM])
  have hu := run_und (w := w) hL hi
  rcases hv with ⟨hf, s, hv, rfl⟩ | ⟨⟨e, hf⟩, A, c, hv⟩
  · rw [hf] at hu
    simp [execOp, ho, resolve, invoke, builtin, hv, Builtin.len_, hu, goInt, str_size]
  · rw [hf] at hu
    simp [execOp, ho, resolve, invoke, builtin, hv, Builtin.len_, hu, goInt]
theorem s_call {x : Operand} {args : Array Operand} {ats : Array TypeId} {f : Nat} {ms : List M} {m : M} (ho : o.op = .call { callee := .value x, args := args, argTypes := ats }) (h : ev T x = some (.im (.fn f))) (hp : Plain P f) {ids : List Nat} (ha : evM (ev T) H args.toList = some (ms, ids)) (hr : Ret P f ms m) :
    o.wp P a w (After N w0 ok0 S0 T H o ⟨some (.im m), ids.map fun i => (i, none), [], ids⟩) Q := by
  have hx : a.eval x = .func (.func f) #[] #[] := by have := ev_rd hc h; simpa only [RD, RM] using this
  obtain ⟨fn, p1, p2, p3⟩ := hp
  have hrun : (execOp a.eval o).run P w = .ok (.enter f (args.map a.eval)) w := by
    simp only [execOp, ho, resolve, hx, Deferred.ofValue, Sem.run_bind, Sem.run_pure, Result.andThen_ok, invoke, callFunc, program, Sem.run, p1, p2, p3, Bool.false_eq_true, if_false]
    simp
  unfold Oper.wp
  rw [hrun]
  rw [Oper.upon_enter]
  have hargs : (args.map a.eval) = (args.toList.map a.eval).toArray := by
    apply Array.ext'
    simp
  rw [hargs]
  have hz := hc.freeze ids
  refine (hr _ w _ (evM_rm hc ha)).mono ?_
  rintro e w' ⟨v, rfl, h1, h2⟩
  simp only []
  have h3 := RM.mono (ok' := fun b => ((ok b ∨ ∃ i o, i ∈ ids ∧ H i = some o ∧ β i = some b) ∨ w.heap.size ≤ b) ∧ b < w'.heap.size) (w' := w') (fun b hb hlt => ⟨⟨hb, hlt⟩, rfl⟩) m v h1
  exact ⟨β, _, hz.call o.dst v _ hN h2 (fun d hd => by cases hd; simpa only [RD] using h3)⟩
theorem s_nilP {x : Operand} {id off : Nat} (ho : o.op = .nilCheck x) (h : ev T x = some (.ptr id off)) : o.wp P a w (After N w0 ok0 S0 T H o (val (.ptr id off))) Q := by
  obtain ⟨b, hb, hp⟩ := rd_ptr hc h
  refine go_val hc hN rfl rfl (v := a.eval x) ?_ (ev_rd hc h)
  simp only [execOp, ho, hp]; rfl
theorem s_nilE {x : Operand} {cs : List M} (ho : o.op = .nilCheck x) (h : ev T x = some (.ep cs)) : o.wp P a w (After N w0 ok0 S0 T H o (val (.ep cs))) Q := by
  obtain ⟨b, off, hp, _⟩ := rd_ep hc h
  refine go_val hc hN rfl rfl (v := a.eval x) ?_ (ev_rd hc h)
  simp only [execOp, ho, hp]; rfl

/-- each step of the logic holds in the model -/
theorem Step.sound {e : Eff} (hs : Step P L (ev T) H o.op o.dst o.type e) (hfr : ∀ id ∈ e.nw, Fresh T H id) : o.wp P a w (After N w0 ok0 S0 T H o e) Q := by
  generalize ho : o.op = op at hs
  generalize hd : o.dst = dst at hs
  generalize ht' : o.type = ty at hs
  cases hs with
  | move h => exact s_move hL hc hN (.inl ho) h
  | assign h => exact s_move hL hc hN (.inr ho) h
  | pick h h' => exact s_pick hL hc hN ho h h'
  | alloc h => exact s_alloc hL hc hN ho hd h (hfr _ (by simp))
  | box h hw => exact s_box hL hc hN ho hd h hw (hfr _ (by simp))
  | loadB h hg hi ha h5 => exact s_loadB hL hc hN ho h hg hi ha h5 rfl rfl
  | loadBA h hg hi ha h5 => exact s_loadBA hL hc hN ho h hg hi ha h5 rfl rfl
  | loadR h hg hi ha h5 => exact s_loadR hL hc hN ho h hg hi ha h5 rfl rfl
  | loadRA h hg hi ha h5 h0 => exact s_loadRA hL hc hN ho h hg hi ha h5 rfl rfl
  | loadE h hi ha h5 => exact s_loadE hL hc hN ho h hi ha h5
  | loadEA h hi ha h5 => exact s_loadEA hL hc hN ho h hi ha h5
  | storeB h hx hw hg hi hs hl => exact s_storeB hL hc hN ho h hx hw hg hi hs hl
  | storeR h hx hm hw hg hi hs hl h0 => exact s_storeR hL hc hN ho h hx hm hw hg hi hs hl h0
  | fieldP h hi hf hk hfi h0 => exact s_fieldP hL hc hN ho h hi hf hk hfi h0
  | fieldE h hi hf hk hfi h0 => exact s_fieldE hL hc hN ho h hi hf hk hfi h0
  | fieldM h hi hf hk hfi h0 h1 => exact s_fieldM hL hc hN ho h hi hf hk hfi h0 h1
  | fieldMA h hi hf hk hfi h0 => exact s_fieldMA hL hc hN ho h hi hf hk hfi h0
  | build hi hf ha hcs => exact s_build hL hc hN ho hi hf ha hcs
  | buildSlice hi hf hei h0 hl hcs => exact s_buildSlice hL hc hN ho hd hi hf hei h0 hl hcs (hfr _ (by simp))
  | indexR h hx hi hf hei hsz h0 h1 => exact s_indexR hL hc hN ho h hx hi hf hei hsz h0 h1
  | indexS h hx hi hf hei h0 h1 h2 => exact s_indexS hL hc hN ho h hx hi hf hei h0 h1 h2
  | indexStr h hx hi hf h0 hcc => exact s_indexStr hL hc hN ho h hx hi hf h0 hcc
  | sliceStrLo h hlo hi hf h0 h1 => exact s_sliceStrLo hL hc hN ho h hlo hi hf h0 h1
  | sliceStrHi h hlo hi hf h0 h1 => exact s_sliceStrHi hL hc hN ho h hlo hi hf h0 h1
  | sliceStr h hlo hhi hi hf h0 h1 h2 => exact s_sliceStr hL hc hN ho h hlo hhi hi hf h0 h1 h2
  | sliceRow h hhi hi hf hei h0 h1 => exact s_sliceRow hL hc hN ho h hhi hi hf hei h0 h1
  | sliceSeqLo h hlo hi hf hei h0 h1 hcs => exact s_sliceSeqLo hL hc hN ho h hlo hi hf hei h0 h1 hcs
  | sliceSeqHi h hlo hi hf hei h0 h1 => exact s_sliceSeqHi hL hc hN ho h hlo hi hf hei h0 h1
  | extractM h hm => exact s_extractM hL hc hN ho h hm
  | extractD h hm => exact s_extractD hL hc hN ho h hm
  | func h => exact s_func hL hc hN ho h
  | binInt h h' hm => exact s_binInt hL hc hN ho h h' hm
  | binDiv h h' hm h0 => exact s_binDiv hL hc hN ho h h' hm h0
  | binStr h h' hm => exact s_binStr hL hc hN ho h h' hm
  | addStr h h' hl => exact s_addStr hL hc hN ho h h' hl
  | binBool h h' hi hf hm => exact s_binBool hL hc hN ho h h' hi hf hm
  | not h => exact s_not hL hc hN ho h
  | neg h => exact s_neg hL hc hN ho h
  | convInt h hs hi hf => exact s_convInt hL hc hN ho h hs hi hf
  | lenStr h hi hf => exact s_len hL hc hN ho hi (.inl ⟨hf, _, rd_str hc h, rfl⟩)
  | lenSeq h hi hf => exact s_len hL hc hN ho hi (.inr ⟨⟨_, hf⟩, let ⟨A, c, hv, _⟩ := rd_seq hc h; ⟨A, c, hv⟩⟩)
  | lenNil h hi hf => exact s_len hL hc hN ho hi (.inr ⟨⟨_, hf⟩, none, 0, rd_nil hc h⟩)
  | lenRow h hi hf =>
    refine s_len hL hc hN ho hi (.inr ⟨⟨_, hf⟩, ?_⟩)
    rcases rd_row hc h with ⟨hv, rfl⟩ | ⟨b, cap, hb, hv, _⟩
    · exact ⟨none, 0, hv⟩
    · exact ⟨_, cap, hv⟩
  | append h hy hd' hg' hc' hi hf hei h0 hn hm hb hmx hrs => subst hc'; exact s_append hL hc hN ho hd h hy hd' hg' hi hf hei h0 hn hm hb hmx hrs (hfr _ (by simp))
  | appendNil h hy hd' hi hf hei h0 hm hb hmx hrs => exact s_appendNil hL hc hN ho hd h hy hd' hi hf hei h0 hm hb hmx hrs (hfr _ (by simp))
  | call h hp ha hr => exact s_call hL hc hN ho h hp ha hr
  | nilCheckP h => exact s_nilP hL hc hN ho h
  | nilCheckE h => exact s_nilE hL hc hN ho h
  | sem og hx hg ht hs => exact hs N w0 ok0 S0 T H β ok a w o Q hL hc hN ho hd ht' hx hg hfr
end
end
end Fw
