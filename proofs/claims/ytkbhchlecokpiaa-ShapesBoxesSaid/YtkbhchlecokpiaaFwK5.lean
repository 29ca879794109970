/- Structs of whole numbers, one beside another: a rule of the logic over data. -/
import Derived.Test.YtkbhchlecokpiaaFwCg
import Derived.Laws.StructEq
namespace Fw
open Go Go.RowKit
set_option linter.unusedVariables false
set_option linter.unusedSimpArgs false
set_option linter.unusedSectionVars false
def ivM : List IntKind → List Int → List M
  | k :: ks, a :: as => .int k a :: ivM ks as
  | _, _ => []
def ivV : List IntKind → List Int → List Value
  | k :: ks, a :: as => .int k a :: ivV ks as
  | _, _ => []
theorem rms_iv {ok : Nat → Prop} {w : World} : ∀ {ks : List IntKind} {as : List Int} {us : List Value}, RMs ok w (ivM ks as) us → us = ivV ks as
  | [], _, us, h => by simpa only [ivM, RMs, ivV] using h
  | k :: ks, [], us, h => by simpa only [ivM, RMs, ivV] using h
  | k :: ks, a :: as, us, h => by
    simp only [ivM, RMs] at h
    obtain ⟨v, vs, rfl, _, h1, h2⟩ := h
    simp only [RM] at h1
    rw [h1, rms_iv h2]
    rfl
inductive FI (P : Program) : Nat → List Field → List IntKind → Prop
  | nil (off : Nat) : FI P off [] []
  | cons {off : Nat} {f : Field} {fs : List Field} {k : IntKind} {ks : List IntKind} : f.name ≠ "_" → f.offset = off → P.underlying f.type = some (.int k) → FI P (off + 1) fs ks → FI P off (f :: fs) (k :: ks)
def fiB (P : Program) : Nat → List Field → List IntKind → Bool
  | _, [], [] => true
  | off, f :: fs, k :: ks => f.name != "_" && Nat.beq f.offset off && (match P.underlying f.type with | some (.int k') => k' == k | _ => false) && fiB P (off + 1) fs ks
  | _, _, _ => false
theorem fi_of {P : Program} : ∀ {off : Nat} {fs : List Field} {ks : List IntKind}, fiB P off fs ks = true → FI P off fs ks
  | off, [], [], _ => .nil off
  | off, f :: fs, [], h => by simp [fiB] at h
  | off, [], k :: ks, h => by simp [fiB] at h
  | off, f :: fs, k :: ks, h => by
    simp only [fiB, Bool.and_eq_true] at h
    obtain ⟨⟨⟨h1, h2⟩, h3⟩, h4⟩ := h
    refine .cons (by simpa using h1) (Nat.eq_of_beq_eq_true h2) ?_ (fi_of h4)
    split at h3
    · rename_i k' hk
      rw [hk, beq_iff_eq.1 h3]
    · cases h3
theorem run_fields {P : Program} {d : Nat} {xs ys : Array Value} {fs : List Field} {ks : List IntKind} {off : Nat} (hf : FI P off fs ks) (w : World) : ∀ {as bs : List Int}, as.length = ks.length → bs.length = ks.length → xs.toList.drop off = ivV ks as → ys.toList.drop off = ivV ks bs →
    (Op.eqFields (d + 1) xs ys fs).run P w = .ok (as == bs) w := by
  induction hf with
  | nil off =>
    intro as bs h1 h2 _ _
    rw [List.length_eq_zero_iff.1 h1, List.length_eq_zero_iff.1 h2]
    simp only [Op.eqFields, Sem.run_pure]
    rfl
  | @cons off f fs k ks hn ho ht _ ih =>
    intro as bs h1 h2 hx hy
    rcases as with _ | ⟨a, as⟩
    · simp at h1
    rcases bs with _ | ⟨b, bs⟩
    · simp at h2
    have get : ∀ {zs : Array Value} {c : Int} {cs : List Int}, zs.toList.drop off = ivV (k :: ks) (c :: cs) → zs[off]? = some (.int k c) ∧ zs.toList.drop (off + 1) = ivV ks cs := by
      intro zs c cs h
      constructor
      · have := congrArg List.head? h
        rw [List.head?_drop] at this
        rw [← Array.getElem?_toList, this]
        rfl
      · have := congrArg List.tail h
        rw [List.tail_drop] at this
        exact this
    obtain ⟨x1, x2⟩ := get hx
    obtain ⟨y1, y2⟩ := get hy
    have ha : (isAgg f.type).run P w = .ok false w := by
      unfold isAgg
      simp only [Sem.run_bind, run_underlying ht, Result.andThen_ok, Sem.run_pure]
    have hp : ∀ {zs : Array Value} {c : Int}, zs[off]? = some (.int k c) → (part f.type zs f.offset).run P w = .ok (.int k c) w := by
      intro zs c h
      simp only [part, Sem.run_bind, ha, Result.andThen_ok, ho, h, Bool.false_eq_true, if_false, Sem.run_pure]
    have := ih (as := as) (bs := bs) (by simpa using h1) (by simpa using h2) x2 y2
    rw [Op.eqFields, if_pos hn]
    simp only [Sem.run_bind, hp x1, hp y1, Result.andThen_ok, run_equalIn_int w d f.type k k a b ht]
    by_cases hab : a = b
    · subst hab
      simp only [beq_self_eq_true, Bool.not_true, Bool.false_eq_true, if_false, this, List.cons_beq_cons, Bool.true_and]
    · have : (a == b) = false := beq_eq_false_iff_ne.2 hab
      simp only [this, Bool.not_false, if_true, Sem.run_pure, List.cons_beq_cons, Bool.false_and]
theorem ivV_len : ∀ {ks : List IntKind} {as : List Int}, as.length = ks.length → (ivV ks as).length = ks.length
  | [], [], _ => rfl
  | k :: ks, a :: as, h => by simp only [ivV, List.length_cons, ivV_len (by simpa using h)]
theorem sem_eqI {P : Program} {L : Nat → Option TI} {ne : Bool} {T T' : TypeId} {x y : Operand} {dst : Option Nat} {ty : TypeId} {ks : List IntKind} {as bs : List Int} (hu : P.underlying T = some (.struct (P.fieldsOf T))) (hf : FI P 0 (P.fieldsOf T).toList ks) (hs : P.stoodInHeld T = false) (hg : P.eqGuardType P.depth T = false) (h1 : as.length = ks.length) (h2 : bs.length = ks.length) :
    SemD P L (.binOp (if ne then .neq else .eql) T x y T') dst ty [.im (.agg (ivM ks as)), .im (.agg (ivM ks bs))] [] (val (.im (.bool (if ne then !(as == bs) else as == bs)))) := by
  intro N w0 ok0 S0 T1 H β ok a w o Q hL hc hN ho hdst hty hx hgg hfr
  obtain ⟨e1, e2⟩ := evL2 (by simpa [Op.operands] using hx)
  obtain ⟨us, hv, g1⟩ := rd_agg hc (show ev T1 x = some (.im (.agg (ivM ks as))) from e1)
  obtain ⟨vs, hv', g2⟩ := rd_agg hc (show ev T1 y = some (.im (.agg (ivM ks bs))) from e2)
  have hus := rms_iv g1
  have hvs := rms_iv g2
  have hr : (Op.equalIn 10000 T (.agg us) (.agg vs)).run P w = .ok (as == bs) w := by
    rw [show (10000 : Nat) = 9998 + 1 + 1 from rfl, run_equalIn_agg w _ T us vs hu hs]
    exact run_fields hf w h1 h2 (by rw [List.drop_zero, hus]) (by rw [List.drop_zero, hvs])
  refine go_val hc hN rfl rfl (v := .bool (if ne then !(as == bs) else as == bs)) ?_ (by simp only [RD, RM])
  cases ne with
  | false =>
    simp only [Bool.false_eq_true, if_false] at ho ⊢
    simp only [execOp, ho, hv, hv', Sem.run_bind, run_eqGuard_agg w _ _ _ _ _ _ hg, Result.andThen_ok, run_eql_struct, hr, Sem.run_pure, Functor.map, Sem.run_map]
  | true =>
    simp only [if_true] at ho ⊢
    simp only [execOp, ho, hv, hv', Sem.run_bind, run_eqGuard_agg w _ _ _ _ _ _ hg, Result.andThen_ok, run_neq_struct, hr, Sem.run_pure, Functor.map, Sem.run_map]
section
variable {P : Program} {L : Nat → Option TI} {N : Nat} {ops : Array Oper} {rest : List Oper} {K : List Eff → TL → HL → Prop} {t : TL} {h : HL} {k : Nat} {ty : TypeId} {pos : String} {af : Array Edge} {g : Option (Nat × Bool)}
/-- structs of numbers, are they the same -/
theorem ar_eqI {T T' : TypeId} {x y : Operand} {ks : List IntKind} (hS : P.underlying T = some (.struct (P.fieldsOf T)) ∧ FI P 0 (P.fieldsOf T).toList ks ∧ P.stoodInHeld T = false ∧ P.eqGuardType P.depth T = false) (as bs : List Int) (hw : wantF (lookT t) ops g = some true) (hd : Nat.blt k N = true) (e1 : ev (lookT t) x = some (.im (.agg (ivM ks as)))) (e2 : ev (lookT t) y = some (.im (.agg (ivM ks bs)))) (h1 : as.length = ks.length) (h2 : bs.length = ks.length)
    (hK : AR P L N ops rest (fun es => K (val (.im (.bool (as == bs))) :: es)) ((k, some (.im (.bool (as == bs)))) :: t) h) : AR P L N ops (⟨some k, .binOp .eql T x y T', ty, pos, af, g⟩ :: rest) K t h :=
  ar_sem hw hd (by simpa [Op.operands] using evL2_mk e1 e2) (og := []) (by simp) (by simp) (sem_eqI (ne := false) hS.1 hS.2.1 hS.2.2.1 hS.2.2.2 h1 h2) rfl hK
theorem ar_neI {T T' : TypeId} {x y : Operand} {ks : List IntKind} (hS : P.underlying T = some (.struct (P.fieldsOf T)) ∧ FI P 0 (P.fieldsOf T).toList ks ∧ P.stoodInHeld T = false ∧ P.eqGuardType P.depth T = false) (as bs : List Int) (hw : wantF (lookT t) ops g = some true) (hd : Nat.blt k N = true) (e1 : ev (lookT t) x = some (.im (.agg (ivM ks as)))) (e2 : ev (lookT t) y = some (.im (.agg (ivM ks bs)))) (h1 : as.length = ks.length) (h2 : bs.length = ks.length)
    (hK : AR P L N ops rest (fun es => K (val (.im (.bool (!(as == bs)))) :: es)) ((k, some (.im (.bool (!(as == bs))))) :: t) h) : AR P L N ops (⟨some k, .binOp .neq T x y T', ty, pos, af, g⟩ :: rest) K t h :=
  ar_sem hw hd (by simpa [Op.operands] using evL2_mk e1 e2) (og := []) (by simp) (by simp) (sem_eqI (ne := true) hS.1 hS.2.1 hS.2.2.1 hS.2.2.2 h1 h2) rfl hK
/-- an element of a slice -/
theorem ar_atE {α : Type} {enc : α → List M} {l : List α} {T x ix kd j e ei} (i : Nat) (a : α) (ha : l[i]? = some a) (hw : wantF (lookT t) ops g = some true) (hd : Nat.blt k N = true) (h1 : ev (lookT t) x = some (.im (mS enc l))) (h2 : ev (lookT t) ix = some (.im (.int kd j))) (h3 : sliceElem L T = some (e, ei))
    (he : ∀ x, (enc x).length = ei.size) (h0 : Nat.ble 1 ei.size = true) (hj : j = (i : Int))
    (hK : AR P L N ops rest (fun es => K (val (.ep (enc a ++ (l.drop (i + 1)).flatMap enc)) :: es)) ((k, some (.ep (enc a ++ (l.drop (i + 1)).flatMap enc))) :: t) h) : AR P L N ops (⟨some k, .indexAddr T x ix, ty, pos, af, g⟩ :: rest) K t h := by
  obtain ⟨hi, rfl⟩ := List.getElem?_eq_some_iff.1 ha
  exact ar_at i hw hd h1 h2 h3 he h0 hj hi hK
/-- the first elements of a slice -/
theorem ar_takeS {α : Type} {enc : α → List M} {l l' : List α} {T x lo kd j i e ei} (n : Nat) (hw : wantF (lookT t) ops g = some true) (hd : Nat.blt k N = true) (h1 : ev (lookT t) x = some (.im (mS enc l))) (h2 : ev (lookT t) lo = some (.im (.int kd j))) (h3 : L T = some i) (h4 : i.desc = .slice e) (h4' : L e = some ei)
    (he : ∀ x, (enc x).length = ei.size) (hj : j = (n : Int)) (hn : n ≤ l.length) (hl : l.take n = l')
    (hK : AR P L N ops rest (fun es => K (val (.im (mS enc l')) :: es)) ((k, some (.im (mS enc l'))) :: t) h) : AR P L N ops (⟨some k, .slice T x none (some lo) none, ty, pos, af, g⟩ :: rest) K t h := by
  subst hj hl
  have e2 : (l.flatMap enc).take ((n : Int).toNat * ei.size) = (l.take n).flatMap enc := by
    rw [Int.toNat_natCast]
    have : (l.take n).flatMap enc ++ (l.drop n).flatMap enc = l.flatMap enc := by rw [← List.flatMap_append, List.take_append_drop]
    rw [← this]
    have hl : ((l.take n).flatMap enc).length = n * ei.size := by rw [flatMap_len he, List.length_take, Nat.min_eq_left hn]
    rw [List.take_append_of_le_length (by omega), List.take_of_length_le (by omega)]
  have hlen : (l.take n).length = n := by rw [List.length_take, Nat.min_eq_left hn]
  refine ar_sliceSeqHi (wantF_ok hw) hd h1 h2 h3 h4 h4' ⟨by omega, by omega⟩ (n' := (l.take n).length) (by rw [Int.toNat_natCast, hlen]) e2 ?_
  exact hK
/-- elements of a slice behind a row -/
theorem ar_appS {α : Type} {enc : α → List M} {l l' m : List α} {x y : Operand} {T e : TypeId} {i ei : TI} {id0 sz by_ : Nat} (hw : wantF (lookT t) ops g = some true) (hd : Nat.blt k N = true) (h1 : ev (lookT t) x = some (.row id0 l.length sz)) (h2 : ev (lookT t) y = some (.im (mS enc m)))
    (h4 : lookH h id0 = some (.rw e sz (l.flatMap enc))) (he : ∀ x, (enc x).length = sz) (h5 : L T = some i) (h6 : i.desc = .slice e) (h7 : L e = some ei) (h8 : ei.size = sz) (h9 : ei.bytes = by_) (h10 : Nat.ble 1 sz = true)
    (hl' : l ++ m = l') (h13 : l'.length * by_ ≤ 140737488355328) (h14 : l'.length ≤ 9223372036854775807) (hf : (freshT k t && freshH k h) = true)
    (hK : AR P L N ops rest (fun es => K (⟨some (.row k l'.length sz), [(k, some (.rw e sz (l'.flatMap enc))), (id0, none)], [k], [id0]⟩ :: es)) ((k, some (.row k l'.length sz)) :: t) ((k, some (.rw e sz (l'.flatMap enc))) :: (id0, none) :: h)) :
    AR P L N ops (⟨some k, .call { callee := .builtin .append, args := #[x, y], argTypes := #[T, T] }, ty, pos, af, g⟩ :: rest) K t h := by
  subst hl'
  have hlen : (l.flatMap enc).length = l.length * sz := flatMap_len he l
  have hlen' : (m.flatMap enc).length = m.length * sz := flatMap_len he m
  have h0 := Nat.le_of_ble_eq_true h10
  rw [List.length_append] at *
  refine ar_append (wantF_ok hw) hd h1 h2 .seq h4 h5 h6 h7 h8 h9 (by omega) (by omega) hlen' h13 h14 (fun id n' sz' hh => by cases hh) (cs' := (l ++ m).flatMap enc) ?_ hf hK
  rw [List.take_of_length_le (by omega), List.flatMap_append]
end
end Fw
