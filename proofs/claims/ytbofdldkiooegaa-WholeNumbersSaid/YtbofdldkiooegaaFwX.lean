/- A program logic over data: more rules: objects become data; ranging over texts; bytes as text; slices that are made. -/
import Derived.Test.YtbofdldkiooegaaFwO
import Derived.Laws.BytesArg
namespace Fw
open Go Go.RowKit
set_option linter.unusedVariables false
set_option linter.unusedSimpArgs false
set_option linter.unusedSectionVars false

/-- cells in which rows have become data -/
def Frz (H : Nat → Option O) (ids : List Nat) : List D → List D → Prop
  | [], cs => cs = []
  | d :: ds, cs => ∃ d' ds', cs = d' :: ds' ∧ (d' = d ∨ ∃ m l, rdM H d = some (m, l) ∧ (∀ x ∈ l, x ∈ ids) ∧ d' = .im m) ∧ Frz H ids ds ds'

section
variable {N : Nat} {w0 : World} {ok0 S0 : Nat → Prop} {T T' : Nat → Option D} {H H' : Nat → Option O} {β : Nat → Option Nat} {ok : Nat → Prop} {a : Act} {w w' : World}

theorem Frz.rds {ids : List Nat} (hc : Conc N w0 ok0 S0 T H β ok a w) : ∀ {cs cs' : List D} {vs : List Value}, Frz H ids cs cs' → RDs β ok w cs vs → RDs β (fun b => ok b ∨ ∃ i o, i ∈ ids ∧ H i = some o ∧ β i = some b) w cs' vs
  | [], cs', vs, h, hr => by
    simp only [Frz] at h
    subst h
    simp only [RDs] at hr ⊢
    exact hr
  | d :: ds, cs', vs, h, hr => by
    simp only [Frz] at h
    obtain ⟨d', ds', rfl, h1, h2⟩ := h
    simp only [RDs] at hr ⊢
    obtain ⟨u, us, rfl, h3, h4, h5⟩ := hr
    refine ⟨u, us, rfl, h3, ?_, Frz.rds hc h2 h5⟩
    rcases h1 with rfl | ⟨m, l, h6, h7, rfl⟩
    · exact RD.mono (ok := ok) (w := w) (β := β) (fun b hb _ => ⟨.inl hb, rfl⟩) _ _ ⟨fun _ _ _ h => h, fun i b us e _ _ h => ⟨us, e, h, rfl⟩⟩ h4
    · have := rdM_rm hc d h6 h4
      simp only [RD]
      exact RM.mono (fun b hb _ => ⟨by
        rcases hb with hb | ⟨i, o, hi, hH, hb⟩
        · exact .inl hb
        · exact .inr ⟨i, o, h7 i hi, hH, hb⟩, rfl⟩) _ _ this

/-- objects become data: slots and boxes that know them as rows know them as data -/
theorem Conc.frz (hc : Conc N w0 ok0 S0 T H β ok a w) (ids : List Nat) (hT : ∀ i d, T' i = some d → T i = some d ∨ ∃ d0 m l, T i = some d0 ∧ rdM H d0 = some (m, l) ∧ (∀ x ∈ l, x ∈ ids) ∧ d = .im m)
    (hH : ∀ i o, H' i = some o → i ∉ ids ∧ (H i = some o ∨ ∃ t cs cs', H i = some (.box t cs) ∧ o = .box t cs' ∧ Frz H ids cs cs')) :
    Conc N w0 ok0 S0 T' H' β (fun b => ok b ∨ ∃ i o, i ∈ ids ∧ H i = some o ∧ β i = some b) a w := by
  have hz := hc.freeze ids
  have live : ∀ i o, H' i = some o → ∃ o', chH H (ids.map fun i => (i, none)) i = some o' := by
    intro i o h
    obtain ⟨h1, h2⟩ := hH i o h
    have : chH H (ids.map fun i => (i, none)) i = H i := chH_out (by simpa using h1)
    rw [this]
    rcases h2 with h2 | ⟨t, cs, cs', h2, _⟩
    · exact ⟨_, h2⟩
    · exact ⟨_, h2⟩
  refine { defers := hz.defers, size := hz.size, tmp := ?_, obj := ?_, inj := ?_, okd := ?_, okl := hz.okl, okf := hz.okf, low := ?_, keep := hz.keep }
  · intro i d h
    rcases hT i d h with h1 | ⟨d0, m, l, h1, h2, h3, rfl⟩
    · exact hz.tmp i d h1
    · have := rdM_rm hc d0 h2 (hc.tmp i d0 h1)
      simp only [RD]
      exact RM.mono (fun b hb _ => ⟨by
        rcases hb with hb | ⟨i, o, hi, hH, hb⟩
        · exact .inl hb
        · exact .inr ⟨i, o, h3 i hi, hH, hb⟩, rfl⟩) _ _ this
  · intro i o h
    obtain ⟨h1, h2⟩ := hH i o h
    have e : chH H (ids.map fun i => (i, none)) i = H i := chH_out (by simpa using h1)
    rcases h2 with h2 | ⟨t, cs, cs', h2, rfl, h3⟩
    · exact hz.obj i o (by rw [e]; exact h2)
    · have := hc.obj i _ h2
      simp only [RO] at this ⊢
      obtain ⟨b, us, h4, h5, h6⟩ := this
      exact ⟨b, us, h4, h5, Frz.rds hc h3 h6⟩
  · intro i j o o' b h1 h2 h3 h4
    obtain ⟨p, hp⟩ := live i o h1
    obtain ⟨q, hq⟩ := live j o' h2
    exact hz.inj i j p q b hp hq h3 h4
  · intro b hb i o h
    obtain ⟨p, hp⟩ := live i o h
    exact hz.okd b hb i p hp
  · intro i o b h hb
    obtain ⟨p, hp⟩ := live i o h
    exact hz.low i p b hp hb
end

/-! ### rules -/
section
variable {P : Program} {L : Nat → Option TI} {N : Nat} {K : KK} {t t' : TL} {h h' : HL} {c : Code}

/-- a row becomes data, as slot k knows it -/
theorem awp_frzRow {id k n sz : Nat} {e : TypeId} {cs cs' : List M} (hk : lookT t k = some (.row id n sz)) (hh : lookH h id = some (.rw e sz cs)) (hl : n * sz ≤ cs.length) (hcs : cs.take (n * sz) = cs')
    (hK : Awp P N c K ((k, some (.im (.seq n cs'))) :: t) ((id, none) :: h)) : Awp P N c K t h := by
  intro w0 ok0 S0 β ok a w hc
  subst hcs
  refine hK w0 ok0 S0 β _ a w (hc.frz [id] ?_ ?_)
  · intro i d hd
    have e1 : lookT ((k, some (.im (.seq n (cs.take (n * sz))))) :: t) i = putT (lookT t) (some k) (some (.im (.seq n (cs.take (n * sz))))) i := by rw [← lookT_put]; rfl
    rw [e1] at hd
    unfold putT at hd
    split at hd
    · rename_i he
      cases he
      refine .inr ⟨_, .seq n (cs.take (n * sz)), [id], hk, ?_, by simp, by simpa using hd.symm⟩
      simp only [rdM, hh]
      have : (Nat.beq sz sz && Nat.ble (n * sz) cs.length) = true := by simp [Nat.beq_refl, Nat.ble_eq, hl]
      rw [this]; rfl
    · exact .inl hd
  · intro i o ho
    have e1 : lookH ((id, none) :: h) i = chH (lookH h) [(id, none)] i := by rw [← lookH_ch]; rfl
    rw [e1] at ho
    simp only [chH] at ho
    split at ho
    · cases ho
    · rename_i hne
      exact ⟨by simpa using fun he => hne he.symm, .inl ho⟩

/-- a box's cell -/
def frzD (H : Nat → Option O) (id : Nat) (d : D) : D := match rdM H d with
  | some (m, [j]) => bif Nat.beq j id then .im m else d
  | _ => d
theorem frzD_spec {H : Nat → Option O} {id : Nat} (d : D) : frzD H id d = d ∨ ∃ m l, rdM H d = some (m, l) ∧ (∀ x ∈ l, x ∈ [id]) ∧ frzD H id d = .im m := by
  unfold frzD
  cases hr : rdM H d with
  | none => exact .inl rfl
  | some p =>
    obtain ⟨m, l⟩ := p
    match l with
    | [] => exact .inl rfl
    | [j] =>
      simp only []
      cases hb : Nat.beq j id with
      | false => exact .inl rfl
      | true =>
        refine .inr ⟨m, [j], rfl, ?_, rfl⟩
        have := Nat.eq_of_beq_eq_true hb
        simp [this]
    | _ :: _ :: _ => exact .inl rfl
theorem frz_map {H : Nat → Option O} {id : Nat} : ∀ cs : List D, Frz H [id] cs (cs.map (frzD H id))
  | [] => by simp [Frz]
  | d :: ds => by
    simp only [Frz, List.map_cons]
    exact ⟨_, _, rfl, frzD_spec d, frz_map ds⟩
/-- a row that lies in a box becomes data there -/
theorem awp_frzBox {id b : Nat} {T : TypeId} {ds ds' : List D} (hb : lookH h b = some (.box T ds)) (hne : Nat.beq b id = false) (hds : ds.map (frzD (lookH h) id) = ds')
    (hK : Awp P N c K t ((b, some (.box T ds')) :: (id, none) :: h)) : Awp P N c K t h := by
  intro w0 ok0 S0 β ok a w hc
  subst hds
  refine hK w0 ok0 S0 β _ a w (hc.frz [id] (fun i d hd => .inl hd) ?_)
  intro i o ho
  have e1 : lookH ((b, some (.box T (ds.map (frzD (lookH h) id)))) :: (id, none) :: h) i = chH (lookH h) [(b, some (.box T (ds.map (frzD (lookH h) id)))), (id, none)] i := by rw [← lookH_ch]; rfl
  rw [e1] at ho
  simp only [chH] at ho
  have hbi : b ≠ id := fun he => by subst he; simp [Nat.beq_refl] at hne
  split at ho
  · rename_i he
    subst he
    simp only [Option.some.injEq] at ho
    exact ⟨by simpa using hbi, .inr ⟨T, ds, _, hb, ho.symm, frz_map ds⟩⟩
  · split at ho
    · cases ho
    · rename_i hne'
      exact ⟨by simpa using fun he => hne' he.symm, .inl ho⟩
end

/-! ### operations -/
section
variable {P : Program} {L : Nat → Option TI}

theorem evL1 {ρ : Operand → Option D} {x : Operand} {d : D} (h : evL ρ [x] = some [d]) : ρ x = some d := by
  simp only [evL] at h
  cases hx : ρ x with
  | none => rw [hx] at h; simp at h
  | some d' => rw [hx] at h; simpa using h
theorem evL2 {ρ : Operand → Option D} {x y : Operand} {d e : D} (h : evL ρ [x, y] = some [d, e]) : ρ x = some d ∧ ρ y = some e := by
  simp only [evL] at h
  cases hx : ρ x with
  | none => rw [hx] at h; simp at h
  | some d' =>
    cases hy : ρ y with
    | none => rw [hx, hy] at h; simp at h
    | some e' => rw [hx, hy] at h; simpa using h
theorem evL1_mk {ρ : Operand → Option D} {x : Operand} {d : D} (h : ρ x = some d) : evL ρ [x] = some [d] := by simp only [evL, h]
theorem evL2_mk {ρ : Operand → Option D} {x y : Operand} {d e : D} (h : ρ x = some d) (h' : ρ y = some e) : evL ρ [x, y] = some [d, e] := by simp only [evL, h, h']

/-- ranging over a text -/
theorem sem_range {t id : Nat} {x : Operand} {ty : TypeId} {s : List UInt8} {i : TI} (hi : L t = some i) (hf : i.desc = .string) : SemD P L (.range t x) (some id) ty [.im (.str s)] [] ⟨some (.ptr id 0), [(id, some (.it s 0))], [id], []⟩ := by
  intro N w0 ok0 S0 T H β ok a w o Q hL hc hN ho hdst hty hx hg hfr
  have h1 := evL1 (by simpa [Op.operands] using hx)
  have hv := rd_str hc h1
  have hu := run_und (w := w) hL hi
  rw [hf] at hu
  refine wp_val (v := .pointer (some ⟨w.heap.size, 0, none⟩)) (w' := w.alloc (.stringIter ⟨s.toArray⟩ 0)) ?_ ⟨updβ β id (some w.heap.size), ok, ?_⟩
  · simp only [execOp, ho, Instr.range, hv, Sem.run_bind, hu, Result.andThen_ok, Sem.run_pure]
    rfl
  · refine hc.new o.dst _ _ hN id _ _ (hfr id (by simp)) ?_ ?_
    · simp only [RO]
      exact ⟨w.heap.size, by simp [updβ], push_new w _⟩
    · intro d hd
      simp only [Option.some.injEq] at hd; subst hd
      simp only [RD]
      exact ⟨w.heap.size, by simp [updβ], rfl⟩
theorem turned_it {b : Nat} {w : World} {s : ByteArray} {p : Nat} {o' : Obj} (h : w.heap[b]? = some (.stringIter s p)) : Turned b w { w with heap := w.heap.setIfInBounds b o' } := by
  refine ⟨rfl, rfl, rfl, by simp, fun k hk => by simp [Array.getElem?_setIfInBounds, Ne.symm hk], fun us e hh => by rw [h] at hh; cases hh⟩
theorem sem_next {ty : TypeId} {id pos q : Nat} {c : Nat} {dst : Option Nat} {x : Operand} {s : List UInt8} (hp : pos < s.length) (hq : Utf8.decode ⟨s.toArray⟩ pos = (c, q)) :
    SemD P L (.next x true) dst ty [.ptr id 0] [(id, .it s pos)] ⟨some (.im (.tup [.bool true, .int .i64 pos, .int .i32 c])), [(id, some (.it s (pos + q)))], [], [id]⟩ := by
  intro N w0 ok0 S0 T H β ok a w o Q hL hc hN ho hdst hty hx hg hfr
  have h1 := evL1 (by simpa [Op.operands] using hx)
  obtain ⟨b, hb, hv⟩ := rd_ptr hc h1
  have hH := hg (id, .it s pos) (by simp)
  have ho' := hc.obj id _ hH
  simp only [RO] at ho'
  obtain ⟨b', hb', hw⟩ := ho'
  rw [hb] at hb'; cases hb'
  have hlt := heap_lt hw
  have hsz : (⟨s.toArray⟩ : ByteArray).size = s.length := str_size s
  refine wp_val (v := .tuple #[.bool true, goInt pos, .int .i32 c]) (w' := { w with heap := w.heap.setIfInBounds b (.stringIter ⟨s.toArray⟩ (pos + q)) }) ?_ ⟨β, ok, ?_⟩
  · simp only [execOp, ho, Instr.next, hv, Sem.run_bind, getObj, setObj, Sem.run, hw, Result.andThen_ok, Sem.run_pure]
    rw [if_pos (by rw [hsz]; exact hp), hq]
    obtain ⟨hlt', hget⟩ := Array.getElem?_eq_some_iff.1 hw
    simp [setObj, Sem.run, hw, hlt, hget, Sem.run_bind, Sem.run_pure, Result.andThen_ok]
  · refine hc.turn o.dst _ _ hN id _ _ b hH hb (turned_it hw) ?_ ?_
    · simp only [RO]
      exact ⟨b, hb, by simp [Array.getElem?_setIfInBounds, hlt]⟩
    · intro d hd
      simp only [Option.some.injEq] at hd; subst hd
      simp only [RD, RM]
      exact ⟨_, rfl, by simp [RMt, RM, goInt]⟩
theorem sem_over {ty : TypeId} {id pos : Nat} {dst : Option Nat} {x : Operand} {s : List UInt8} (hp : s.length ≤ pos) :
    SemD P L (.next x true) dst ty [.ptr id 0] [(id, .it s pos)] ⟨some (.im (.tup [.bool false])), [], [], [id]⟩ := by
  intro N w0 ok0 S0 T H β ok a w o Q hL hc hN ho hdst hty hx hg hfr
  have h1 := evL1 (by simpa [Op.operands] using hx)
  obtain ⟨b, hb, hv⟩ := rd_ptr hc h1
  have hH := hg (id, .it s pos) (by simp)
  have ho' := hc.obj id _ hH
  simp only [RO] at ho'
  obtain ⟨b', hb', hw⟩ := ho'
  rw [hb] at hb'; cases hb'
  have hsz : (⟨s.toArray⟩ : ByteArray).size = s.length := str_size s
  refine go_val hc hN rfl rfl (v := .tuple #[.bool false]) ?_ (by simp only [RD, RM]; exact ⟨_, rfl, by simp [RMt, RM]⟩)
  simp only [execOp, ho, Instr.next, hv, Sem.run_bind, getObj, Sem.run, hw, Result.andThen_ok, Sem.run_pure]
  rw [if_neg (by rw [hsz]; omega)]
  simp [Sem.run_pure, Sem.run_bind, Result.andThen_ok]

/-- bytes, as cells -/
def mb (x : UInt8) : List M := [.int .u8 x.toNat]
theorem rmc_bytes {ok : Nat → Prop} {w : World} {b : Nat} : ∀ {l : List UInt8} {off : Nat}, RMc ok w b off (l.flatMap mb) → ∀ i, i < l.length → w.cell? ⟨b, off + i, none⟩ = some (.int .u8 ((l.map fun x => (x.toNat : Int)).getD i 0))
  | [], off, h, i, hi => by simp at hi
  | x :: l, off, h, i, hi => by
    simp only [List.flatMap_cons, mb, List.cons_append, List.nil_append, RMc] at h
    obtain ⟨⟨u, h1, _, h2⟩, h3⟩ := h
    simp only [RM] at h2
    subst h2
    cases i with
    | zero => simpa using h1
    | succ i =>
      have := rmc_bytes (l := l) h3 i (by simpa using hi)
      rw [show off + (i + 1) = off + 1 + i by omega, this]
      simp
theorem sem_string {src d : Nat} {ty : TypeId} {dst : Option Nat} {x : Operand} {l : List UInt8} {is id ie : TI} {e : TypeId} (hs : L src = some is) (hd : L d = some id) (he : L e = some ie) (h1 : is.desc = .slice e) (h2 : id.desc = .string) (h3 : ie.desc = .int .u8) :
    SemD P L (.convert src d x) dst ty [.im (mS mb l)] [] (val (.im (.str l))) := by
  intro N w0 ok0 S0 T H β ok a w o Q hL hc hN ho hdst hty hx hg hfr
  have hx1 := evL1 (by simpa [Op.operands] using hx)
  obtain ⟨A, cap, hv, g1, g2, g3, g4, g5⟩ := rd_seq hc (show ev T x = some (.im (.seq l.length (l.flatMap mb))) from hx1)
  have us : P.underlying src = some (.slice e) := by have := (hL src is hs).1; rw [h1] at this; exact this
  have ud : P.underlying d = some .string := by have := (hL d id hd).1; rw [h2] at this; exact this
  have ue : P.underlying e = some (.int .u8) := by have := (hL e ie he).1; rw [h3] at this; exact this
  refine go_val hc hN rfl rfl (v := .string ⟨l.toArray⟩) ?_ (by simp only [RD, RM])
  by_cases hl : l = []
  · subst hl
    have : (convert src d (a.eval x)).run P w = .ok (.string ⟨#[]⟩) w := by
      rw [hv]
      rw [run_convert_bytes_string w src d e _ _ _ us ue ud]
      cases A with
      | none => rfl
      | some ad =>
        have : (loadCells ad 0).run P w = .ok ([].map (Value.int .u8)).toArray w := by simp [loadCells, loadCellsFrom, Sem.run_pure]
        rw [List.length_nil, run_bytesToString w ad 0 cap [] this]
        rfl
    simp only [execOp, ho, Sem.run_bind, this, Result.andThen_ok]; rfl
  · have hne : l.flatMap mb ≠ [] := by cases l with
      | nil => exact absurd rfl hl
      | cons y ys => simp [mb]
    obtain ⟨b, off, rfl, hb⟩ := g4 hne
    have := run_convert_bytes_arg (P := P) w src e us ue b off l.length cap (l.map fun x => (x.toNat : Int)) (by simp) (rmc_bytes (g5 b off rfl)) d ud
    rw [← hv] at this
    have e1 : strOfNums (l.map fun x => (x.toNat : Int)) = ⟨l.toArray⟩ := by
      unfold strOfNums
      congr 1
      simp [Function.comp_def]
    rw [e1] at this
    simp only [execOp, ho, Sem.run_bind, this, Result.andThen_ok]; rfl
end
end Fw
