/- A program logic over data: each operation's step holds in the model: the rest, and all. -/
import Derived.Test.YtbofdldkiooegaaFwG
import Derived.Lib.Strings
namespace Fw
open Go Go.RowKit
set_option linter.unusedVariables false
set_option linter.unusedSimpArgs false
set_option linter.unusedSectionVars false

theorem bytes_toList (l : List UInt8) : (⟨l.toArray⟩ : ByteArray).toList = l := by
  have key : ∀ (s : ByteArray) (n i : Nat) (r : List UInt8), s.size - i = n → ByteArray.toList.loop s i r = r.reverse ++ s.data.toList.drop i := by
    intro s n
    induction n with
    | zero =>
      intro i r h
      rw [ByteArray.toList.loop, if_neg (by omega), List.drop_eq_nil_of_le (by have : s.data.size = s.size := rfl; simp; omega)]
      simp
    | succ n ih =>
      intro i r h
      have hlt : i < s.size := by omega
      rw [ByteArray.toList.loop, if_pos hlt, ih (i + 1) _ (by omega)]
      have hlt' : i < s.data.toList.length := by have : s.data.size = s.size := rfl; simpa using hlt
      rw [List.drop_eq_getElem_cons hlt']
      have : s.get! i = s.data.toList[i] := by
        simp only [ByteArray.get!, Array.getElem_toList]
        exact getElem!_pos s.data i (by simpa using hlt')
      simp [this]
  have := key ⟨l.toArray⟩ _ 0 [] rfl
  unfold ByteArray.toList
  rw [this]
  simp

section
variable {P : Program} {L : Nat → Option TI} {N : Nat} {w0 : World} {ok0 S0 : Nat → Prop} {T : Nat → Option D} {H : Nat → Option O} {β : Nat → Option Nat} {ok : Nat → Prop} {a : Act} {w w' : World}
  {o : Oper} {Q : Exit → Act → World → Prop} {K : Act → World → Prop}

theorem run_bound {v : Value} {k : IntKind} {l : Int} {y : Nat} {code : BoundsCode} (hv : v = .int k l) (h0 : 0 ≤ l) (h1 : l ≤ y) : (Instr.sliceBound v y code).run P w = .ok l.toNat w := by
  subst hv
  simp only [Instr.sliceBound, asIntOf, Sem.run_bind, Sem.run_pure, Result.andThen_ok, if_pos (And.intro h0 h1)]
theorem extract_str (s : List UInt8) (l h : Nat) : (⟨s.toArray⟩ : ByteArray).extract l h = ⟨((s.drop l).take (h - l)).toArray⟩ := by
  rw [ByteArray.extract_mk]
theorem str_size (s : List UInt8) : (⟨s.toArray⟩ : ByteArray).size = s.length := by show s.toArray.size = _; simp
theorem rd_agg (hc : Conc N w0 ok0 S0 T H β ok a w) {x : Operand} {ms : List M} (h : ev T x = some (.im (.agg ms))) : ∃ us, a.eval x = .agg us ∧ RMs ok w ms us.toList := by
  have := ev_rd hc h; simpa only [RD, RM] using this
theorem rd_seq (hc : Conc N w0 ok0 S0 T H β ok a w) {x : Operand} {n : Nat} {cs : List M} (h : ev T x = some (.im (.seq n cs))) :
    ∃ A cap, a.eval x = .slice A n cap ∧ n ≤ cap ∧ cap ≤ maxLen ∧ (n = 0 → cs = []) ∧ (cs ≠ [] → ∃ b off, A = some ⟨b, off, none⟩ ∧ ok b) ∧ (∀ b off, A = some ⟨b, off, none⟩ → RMc ok w b off cs) := by
  have := ev_rd hc h; simpa only [RD, RM] using this
theorem rd_row (hc : Conc N w0 ok0 S0 T H β ok a w) {x : Operand} {id n sz : Nat} (h : ev T x = some (.row id n sz)) :
    (a.eval x = .slice none 0 0 ∧ n = 0) ∨ ∃ b cap, β id = some b ∧ a.eval x = .slice (some ⟨b, 0, none⟩) n cap ∧ n ≤ cap ∧ cap ≤ maxLen ∧ ∃ us e, w.heap[b]? = some (.cells us e (0, 0)) ∧ us.size = cap * sz := by
  have := ev_rd hc h; simpa only [RD] using this

section
variable (hL : LayOk P L) (hc : Conc N w0 ok0 S0 T H β ok a w) (hN : ∀ d, o.dst = some d → d < N)
include hL hc hN

theorem run_fieldPlace {b off : Nat} {f : Field} {fi : TI} (hfi : L f.type = some fi) (h0 : fi.size ≠ 0) : (fieldPlace ⟨b, off, none⟩ f).run P w = .ok ⟨b, off + f.offset, none⟩ w := by
  simp only [fieldPlace, Sem.run_bind, run_sizeOf hL hfi, Result.andThen_ok, if_neg h0, add_off, Sem.run_pure]

theorem s_fieldP {t k id off : Nat} {x : Operand} {i fi : TI} {fs : Array Field} {f : Field} (ho : o.op = .fieldAddr t x k) (h : ev T x = some (.ptr id off)) (hi : L t = some i) (hf : i.desc = .struct fs) (hk : fs[k]? = some f) (hfi : L f.type = some fi) (h0 : fi.size ≠ 0) :
    o.wp P a w (After N w0 ok0 S0 T H o (val (.ptr id (off + f.offset)))) Q := by
  obtain ⟨b, hb, hp⟩ := rd_ptr hc h
  refine go_val hc hN rfl rfl (v := .pointer (some ⟨b, off + f.offset, none⟩)) ?_ (by simp only [RD]; exact ⟨b, hb, rfl⟩)
  simp only [execOp, ho, Instr.fieldAt, Sem.run_bind, run_und hL hi, hf, hk, hp, Instr.sureAddr, Sem.run_pure, Result.andThen_ok, run_fieldPlace hL hc hN (o := o) hfi h0]
theorem s_fieldE {t k : Nat} {x : Operand} {cs : List M} {i fi : TI} {fs : Array Field} {f : Field} (ho : o.op = .fieldAddr t x k) (h : ev T x = some (.ep cs)) (hi : L t = some i) (hf : i.desc = .struct fs) (hk : fs[k]? = some f) (hfi : L f.type = some fi) (h0 : fi.size ≠ 0) :
    o.wp P a w (After N w0 ok0 S0 T H o (val (.ep (cs.drop f.offset)))) Q := by
  obtain ⟨b, off, hp, h1, h2, h3⟩ := rd_ep hc h
  refine go_val hc hN rfl rfl (v := .pointer (some ⟨b, off + f.offset, none⟩)) ?_ (by simp only [RD]; exact ⟨b, _, rfl, h1, h2, h3.drop _⟩)
  simp only [execOp, ho, Instr.fieldAt, Sem.run_bind, run_und hL hi, hf, hk, hp, Instr.sureAddr, Sem.run_pure, Result.andThen_ok, run_fieldPlace hL hc hN (o := o) hfi h0]
theorem s_fieldM {t k : Nat} {x : Operand} {ms : List M} {i fi : TI} {fs : Array Field} {f : Field} {m : M} (ho : o.op = .field t x k) (h : ev T x = some (.im (.agg ms))) (hi : L t = some i) (hf : i.desc = .struct fs) (hk : fs[k]? = some f) (hfi : L f.type = some fi) (ha : aggD fi.desc = false) (hm : ms[f.offset]? = some m) :
    o.wp P a w (After N w0 ok0 S0 T H o (val (.im m))) Q := by
  obtain ⟨us, hv, hr⟩ := rd_agg hc h
  obtain ⟨u, h1, h2, h3⟩ := hr.get hm
  refine go_val hc hN rfl rfl (v := u) ?_ (by simpa only [RD] using h3)
  have h1' : us[f.offset]? = some u := by rw [← Array.getElem?_toList]; exact h1
  simp only [execOp, ho, Instr.field, Sem.run_bind, run_und hL hi, hf, hk, hv, asAgg, Sem.run_pure, Result.andThen_ok, part, run_isAgg hL hfi, ha, h1']
  simp
theorem s_fieldMA {t k : Nat} {x : Operand} {ms : List M} {i fi : TI} {fs : Array Field} {f : Field} (ho : o.op = .field t x k) (h : ev T x = some (.im (.agg ms))) (hi : L t = some i) (hf : i.desc = .struct fs) (hk : fs[k]? = some f) (hfi : L f.type = some fi) (ha : aggD fi.desc = true) :
    o.wp P a w (After N w0 ok0 S0 T H o (val (.im (.agg ((ms.drop f.offset).take fi.size))))) Q := by
  obtain ⟨us, hv, hr⟩ := rd_agg hc h
  have h1 := (hr.drop f.offset).take fi.size
  refine go_val hc hN rfl rfl (v := .agg (us.extract f.offset (f.offset + fi.size))) ?_ ?_
  · simp only [execOp, ho, Instr.field, Sem.run_bind, run_und hL hi, hf, hk, hv, asAgg, Sem.run_pure, Result.andThen_ok, part, run_isAgg hL hfi, ha, if_true, run_sizeOf hL hfi]
  · simp only [RD, RM]
    refine ⟨_, rfl, ?_⟩
    rw [Array.toList_extract, List.extract_eq_take_drop]
    rw [show f.offset + fi.size - f.offset = fi.size by omega]
    exact h1
theorem s_build {t : Nat} {parts : Array (Nat × Operand)} {i : TI} {fs : Array Field} {cs : List D} (ho : o.op = .build t parts) (hi : L t = some i) (hf : i.desc = .struct fs) (ha : fs.toList.all (fun (f : Field) => (L f.type).isSome) = true)
    (hcs : fillD (ev T) (place L fs) ((mcells i.mz).map .im) parts.toList = some cs) : o.wp P a w (After N w0 ok0 S0 T H o (val (mkAgg cs))) Q := by
  obtain ⟨_, _, h3, h4, _⟩ := hL t i hi
  have hz : RDs β ok w ((mcells i.mz).map .im) i.zero.cells.toList := RMs.rds (RMs.mono (ok := fun _ => False) (w := w) (fun _ hf _ => hf.elim) _ _ (RM.cells h4 (h3 w)))
  have hpl : ∀ j p, place L fs j = some p → (fs.map fun (f : Field) => (f.offset, ((L f.type).map (·.size)).getD 0))[j]? = some p := by
    intro j p hp
    unfold place at hp
    cases hj : fs[j]? with
    | none => rw [hj] at hp; cases hp
    | some f =>
      rw [hj] at hp
      simp only [Option.map_eq_some_iff] at hp
      obtain ⟨k, hk, rfl⟩ := hp
      simp [hj, hk]
  obtain ⟨us', g1, g2⟩ := fillD_run (w := w) (β := β) (ok := ok) (er := a.eval) (fun x d hx => ev_rd hc hx) (pl' := fun j => (fs.map fun (f : Field) => (f.offset, ((L f.type).map (·.size)).getD 0))[j]?) hpl parts.toList _ cs _ hcs hz
  refine go_val hc hN rfl rfl (v := .agg us') ?_ (mkAgg_rd g2)
  simp only [execOp, ho, Instr.build, Sem.run_bind, run_zero hL hi, run_und hL hi, hf, run_placesA hL fs ha, Sem.run_pure, Result.andThen_ok, Array.toList_map]
  rw [g1]
  simp
theorem s_buildSlice {t len id : Nat} {parts : Array (Nat × Operand)} {i : TI} {e : Nat} {ei : TI} {cs : List M} (ho : o.op = .buildSlice t len parts) (hdst : o.dst = some id) (hi : L t = some i) (hf : i.desc = .slice e) (hei : L e = some ei) (h0 : 0 < ei.size) (hl : len * ei.size ≤ 16777216)
    (hcs : fillM (ev T) (fun k => some (k * ei.size, ei.size)) (List.replicate len (mcells ei.mz)).flatten parts.toList = some cs) (hfr : Fresh T H id) :
    o.wp P a w (After N w0 ok0 S0 T H o ⟨some (.row id len ei.size), [(id, some (.rw e ei.size cs))], [id], []⟩) Q := by
  obtain ⟨_, _, h3, h4, h5⟩ := hL e ei hei
  have hz : RMs ok w (mcells ei.mz) ei.zero.cells.toList := RMs.mono (ok := fun _ => False) (w := w) (fun _ hf _ => hf.elim) _ _ (RM.cells h4 (h3 w))
  have hzl : (mcells ei.mz).length = ei.size := by rw [← h5, RM.cells_len h4 (h3 w)]
  have hrep : ∀ n, RMs ok w (List.replicate n (mcells ei.mz)).flatten (List.replicate n ei.zero.cells.toList).flatten := by
    intro n
    induction n with
    | zero => simp [RMs]
    | succ n ih => simp only [List.replicate_succ, List.flatten_cons]; exact hz.append ih
  have hcells : ((if len * ei.size = 0 then #[] else (Array.range (len * ei.size)).map fun x => ei.zero.cells[x % ei.zero.cells.size]!) : Array Value).toList = (List.replicate len ei.zero.cells.toList).flatten := by
    by_cases hz0 : len * ei.size = 0
    · rw [if_pos hz0]
      have : len = 0 := by rcases Nat.eq_zero_or_pos len with h | h; exact h; have := Nat.mul_pos h h0; omega
      subst this; simp
    · rw [if_neg hz0]
      apply List.ext_getElem
      · have : ∀ n, (List.replicate n ei.zero.cells.toList).flatten.length = n * ei.size := by
          intro n; induction n with
          | zero => simp
          | succ n ih => simp only [List.replicate_succ, List.flatten_cons, List.length_append, ih]; simp [h5, Nat.add_mul]; omega
        rw [this]; simp
      · intro j hj1 hj2
        simp only [Array.toList_map, List.getElem_map]
        have key : ∀ n j (hj : j < (List.replicate n ei.zero.cells.toList).flatten.length), (List.replicate n ei.zero.cells.toList).flatten[j] = ei.zero.cells[j % ei.zero.cells.size]! := by
          intro n
          induction n with
          | zero => intro j hj; simp at hj
          | succ n ih =>
            intro j hj
            simp only [List.replicate_succ, List.flatten_cons] at hj ⊢
            rcases Nat.lt_or_ge j ei.zero.cells.size with hlt | hge
            · rw [List.getElem_append_left (by simpa using hlt), Nat.mod_eq_of_lt hlt, getElem!_pos ei.zero.cells j hlt]; simp
            · rw [List.getElem_append_right (by simpa using hge)]
              simp only [Array.length_toList]
              rw [ih, Nat.mod_eq_sub_mod hge]
        rw [key len j hj2]
        simp
  obtain ⟨us', g1, g2⟩ := fillM_run (w := w) (β := β) (ok := ok) (er := a.eval) (fun x d hx => ev_rd hc hx) (pl' := fun k => some (k * ei.size, ei.size)) (fun _ _ h => h) parts.toList _ cs ((if len * ei.size = 0 then #[] else (Array.range (len * ei.size)).map fun x => ei.zero.cells[x % ei.zero.cells.size]!) : Array Value) hcs (by rw [hcells]; exact hrep len)
  have husz : us'.size = len * ei.size := by
    have := g2.length
    have hlen : ∀ (ps : List (Nat × Operand)) (c c' : List M), fillM (ev T) (fun k => some (k * ei.size, ei.size)) c ps = some c' → c'.length = c.length := by
      intro ps
      induction ps with
      | nil => intro c c' h; simp only [fillM, Option.some.injEq] at h; subst h; rfl
      | cons p ps ih =>
        intro c c' h
        obtain ⟨j, x⟩ := p
        simp only [fillM] at h
        cases hx : (ev T x).bind toM with
        | none => rw [hx] at h; simp at h
        | some d =>
          rw [hx] at h
          simp only [] at h
          cases hb : (mwhole d && Nat.beq (mcells d).length ei.size && Nat.ble (j * ei.size + ei.size) c.length) with
          | false => rw [hb] at h; simp at h
          | true =>
            rw [hb] at h
            simp only [Bool.and_eq_true] at hb
            have h2' := Nat.eq_of_beq_eq_true hb.1.2
            have h3' := Nat.le_of_ble_eq_true hb.2
            rw [ih _ _ (by simpa using h), splice_length (by omega)]
    have h6 := hlen _ _ _ hcs
    have : ∀ n, (List.replicate n (mcells ei.mz)).flatten.length = n * ei.size := by
      intro n; induction n with
      | zero => simp
      | succ n ih => simp only [List.replicate_succ, List.flatten_cons, List.length_append, ih]; simp [hzl, Nat.add_mul]; omega
    rw [this] at h6
    simp at *; omega
  refine wp_val (v := .slice (some ⟨w.heap.size, 0, none⟩) len len) (w' := w.alloc (.cells us' e)) ?_ ⟨updβ β id (some w.heap.size), ok, ?_⟩
  · simp only [execOp, ho, Instr.buildSlice, Sem.run_bind, run_und hL hi, hf, run_sizeOf hL hei, Sem.run_pure, Result.andThen_ok]
    rw [if_neg (by omega)]
    by_cases hz0 : len * ei.size = 0
    · rw [if_pos hz0] at g1 ⊢
      simp only [Sem.run_pure, Result.andThen_ok, hz0]
      simp only [Array.toList_map]
      simp only [show Array.range 0 = #[] from rfl, Array.map_empty, g1, run_newRow, Sem.run_bind, Result.andThen_ok, Sem.run_pure]
    · rw [if_neg hz0] at g1 ⊢
      simp only [Sem.run_bind, run_zero hL hei, Sem.run_pure, Result.andThen_ok, Array.toList_map, g1, run_newRow]
  · refine hc.new o.dst _ _ hN id _ _ hfr ?_ ?_
    · simp only [RO]
      refine .inr ⟨w.heap.size, us', len, by simp [updβ], push_new w _, husz, ?_, ?_, ?_⟩
      · unfold maxLen
        have : len * 1 ≤ len * ei.size := Nat.mul_le_mul_left _ h0
        omega
      · have := g2.length; simp at this; omega
      · rw [g2.length, List.take_length]
        exact RMs.mono (Stays.alloc ok w _) _ _ g2
    · intro d hd
      simp only [Option.some.injEq] at hd; subst hd
      simp only [RD]
      refine .inr ⟨w.heap.size, len, by simp [updβ], rfl, Nat.le_refl _, ?_, us', e, push_new w _, husz⟩
      unfold maxLen
      have : len * 1 ≤ len * ei.size := Nat.mul_le_mul_left _ h0
      omega
theorem s_indexR {t id n sz : Nat} {x ix : Operand} {k : IntKind} {j : Int} {i : TI} {e : Nat} {ei : TI} (ho : o.op = .indexAddr t x ix) (h : ev T x = some (.row id n sz)) (hx : ev T ix = some (.im (.int k j))) (hi : L t = some i) (hf : i.desc = .slice e) (hei : L e = some ei) (hsz : ei.size = sz) (h0 : 0 ≤ j) (h1 : j < n) :
    o.wp P a w (After N w0 ok0 S0 T H o (val (.ptr id (j.toNat * sz)))) Q := by
  rcases rd_row hc h with ⟨_, rfl⟩ | ⟨b, cap, hb, hv, _⟩
  · omega
  · refine go_val hc hN rfl rfl (v := .pointer (some ⟨b, j.toNat * sz, none⟩)) ?_ (by simp only [RD]; exact ⟨b, hb, rfl⟩)
    simp only [execOp, ho, Instr.indexAt, rd_int hc hx, asIntOf, hv, Sem.run_bind, Sem.run_pure, Result.andThen_ok, run_und hL hi, hf]
    rw [if_pos ⟨h0, h1⟩]
    simp only [Sem.run_bind, run_sizeOf hL hei, Result.andThen_ok, Sem.run_pure, add_off, hsz, Nat.zero_add]
theorem s_indexS {t n : Nat} {cs : List M} {x ix : Operand} {k : IntKind} {j : Int} {i : TI} {e : Nat} {ei : TI} (ho : o.op = .indexAddr t x ix) (h : ev T x = some (.im (.seq n cs))) (hx : ev T ix = some (.im (.int k j))) (hi : L t = some i) (hf : i.desc = .slice e) (hei : L e = some ei) (h0 : 0 ≤ j) (h1 : j < n) (h2 : j.toNat * ei.size < cs.length) :
    o.wp P a w (After N w0 ok0 S0 T H o (val (.ep (cs.drop (j.toNat * ei.size))))) Q := by
  obtain ⟨A, cap, hv, _, _, _, g4, g5⟩ := rd_seq hc h
  obtain ⟨b, off, rfl, hok⟩ := g4 (by rintro rfl; simp at h2)
  refine go_val hc hN rfl rfl (v := .pointer (some ⟨b, off + j.toNat * ei.size, none⟩)) ?_ (by simp only [RD]; exact ⟨b, _, rfl, hok, hc.okl b hok, (g5 b off rfl).drop _⟩)
  simp only [execOp, ho, Instr.indexAt, rd_int hc hx, asIntOf, hv, Sem.run_bind, Sem.run_pure, Result.andThen_ok, run_und hL hi, hf]
  rw [if_pos ⟨h0, h1⟩]
  simp only [Sem.run_bind, run_sizeOf hL hei, Result.andThen_ok, Sem.run_pure, add_off]
theorem s_indexStr {t : Nat} {s : List UInt8} {x ix : Operand} {k : IntKind} {j : Int} {i : TI} {c : UInt8} (ho : o.op = .index t x ix) (h : ev T x = some (.im (.str s))) (hx : ev T ix = some (.im (.int k j))) (hi : L t = some i) (hf : i.desc = .string) (h0 : 0 ≤ j) (hcc : s[j.toNat]? = some c) :
    o.wp P a w (After N w0 ok0 S0 T H o (val (.im (.int .u8 c.toNat)))) Q := by
  refine go_val hc hN rfl rfl (v := .int .u8 c.toNat) ?_ (by simp only [RD, RM])
  have hb : (⟨s.toArray⟩ : ByteArray)[j.toNat]? = some c := by
    have hlt : j.toNat < s.length := (List.getElem?_eq_some_iff.1 hcc).1
    have he := (List.getElem?_eq_some_iff.1 hcc).2
    rw [getElem?_pos (⟨s.toArray⟩ : ByteArray) j.toNat (by show _ < s.toArray.size; simpa using hlt)]
    show some (s.toArray[j.toNat]'_) = _
    simp [he]
  simp only [execOp, ho, Instr.index, rd_int hc hx, rd_str hc h, asIntOf, Sem.run_bind, Sem.run_pure, Result.andThen_ok, run_und hL hi, hf, if_pos h0, hb]
theorem s_sliceStrLo {t : Nat} {s : List UInt8} {x lo : Operand} {k : IntKind} {l : Int} {i : TI} (ho : o.op = .slice t x (some lo) none none) (h : ev T x = some (.im (.str s))) (hlo : ev T lo = some (.im (.int k l))) (hi : L t = some i) (hf : i.desc = .string) (h0 : 0 ≤ l) (h1 : l ≤ s.length) :
    o.wp P a w (After N w0 ok0 S0 T H o (val (.im (.str (s.drop l.toNat))))) Q := by
  refine go_val hc hN rfl rfl (v := .string ⟨(s.drop l.toNat).toArray⟩) ?_ (by simp only [RD, RM])
  simp only [execOp, ho, Instr.sliceAt, Instr.slice, rd_str hc h, Sem.run_bind, run_und hL hi, hf, Result.andThen_ok, Option.map_some, Option.map_none, Option.isSome_none, Instr.sliceBounds, Sem.run_pure, str_size, run_bound (rd_int hc hlo) h0 h1, extract_str]
  simp [List.take_of_length_le, str_size, run_bound (rd_int hc hlo) h0 h1, extract_str]
theorem s_sliceStrHi {t : Nat} {s : List UInt8} {x hi' : Operand} {k : IntKind} {h' : Int} {i : TI} (ho : o.op = .slice t x none (some hi') none) (h : ev T x = some (.im (.str s))) (hhi : ev T hi' = some (.im (.int k h'))) (hi : L t = some i) (hf : i.desc = .string) (h0 : 0 ≤ h') (h1 : h' ≤ s.length) :
    o.wp P a w (After N w0 ok0 S0 T H o (val (.im (.str (s.take h'.toNat))))) Q := by
  refine go_val hc hN rfl rfl (v := .string ⟨(s.take h'.toNat).toArray⟩) ?_ (by simp only [RD, RM])
  simp only [execOp, ho, Instr.sliceAt, Instr.slice, rd_str hc h, Sem.run_bind, run_und hL hi, hf, Result.andThen_ok, Option.map_some, Option.map_none, Option.isSome_none, Instr.sliceBounds, Sem.run_pure, str_size, run_bound (rd_int hc hhi) h0 h1, extract_str]
  simp [List.take_of_length_le, str_size, run_bound (rd_int hc hhi) h0 h1, extract_str]
theorem s_sliceStr {t : Nat} {s : List UInt8} {x lo hi' : Operand} {k k' : IntKind} {l h' : Int} {i : TI} (ho : o.op = .slice t x (some lo) (some hi') none) (h : ev T x = some (.im (.str s))) (hlo : ev T lo = some (.im (.int k l))) (hhi : ev T hi' = some (.im (.int k' h'))) (hi : L t = some i) (hf : i.desc = .string) (h0 : 0 ≤ l) (h1 : l ≤ h') (h2 : h' ≤ s.length) :
    o.wp P a w (After N w0 ok0 S0 T H o (val (.im (.str ((s.drop l.toNat).take (h'.toNat - l.toNat)))))) Q := by
  refine go_val hc hN rfl rfl (v := .string ⟨((s.drop l.toNat).take (h'.toNat - l.toNat)).toArray⟩) ?_ (by simp only [RD, RM])
  have hb1 := fun w => run_bound (w := w) (P := P) (y := s.length) (code := .sliceAlen) (rd_int hc hhi) (by omega) h2
  have hb2 := fun w => run_bound (w := w) (P := P) (y := h'.toNat) (code := .sliceB) (rd_int hc hlo) h0 (by omega)
  simp only [execOp, ho, Instr.sliceAt, Instr.slice, rd_str hc h, Sem.run_bind, run_und hL hi, hf, Result.andThen_ok, Option.map_some, Option.map_none, Option.isSome_none, Instr.sliceBounds, Sem.run_pure, str_size, extract_str]
  have e1 := hb1 w
  have e2 := hb2 w
  simp only [rd_int hc hhi, rd_int hc hlo] at e1 e2
  simp [rd_int hc hhi, rd_int hc hlo, str_size, e1, e2, extract_str]
end
end
end Fw
