/- slices.Reverse in the logic over data: a row of bytes, turned in place. -/
import Derived.Test.YtkbhchlecokpiaaFwCf
import Derived.Test.YtkbhchlecokpiaaRev
import Derived.Test.YtkbhchlecokpiaaLay
set_option linter.unusedVariables false
set_option linter.unusedSimpArgs false
namespace Fw
open Go Go.RowKit Go.Sort
set_option linter.unusedVariables false
set_option linter.unusedSimpArgs false

def encB (x : UInt8) : Value := .int .u8 x.toNat
theorem rms_bytes {ok : Nat → Prop} {w : World} : ∀ {l : List UInt8} {vs : List Value}, RMs ok w (l.flatMap mb) vs → vs = l.map encB
  | [], vs, h => by simpa [RMs] using h
  | x :: l, vs, h => by
    simp only [List.flatMap_cons, mb, List.cons_append, List.nil_append, RMs, RM] at h
    obtain ⟨u, us, rfl, _, rfl, h4⟩ := h
    rw [rms_bytes (l := l) h4]
    rfl
theorem bytes_rms {ok : Nat → Prop} {w : World} : ∀ (l : List UInt8), RMs ok w (l.flatMap mb) (l.map encB)
  | [] => by simp [RMs]
  | x :: l => by
    simp only [List.flatMap_cons, mb, List.cons_append, List.nil_append, List.map_cons, RMs, RM]
    exact ⟨_, _, rfl, rfl, rfl, bytes_rms l⟩
theorem mb_len (l : List UInt8) : (l.flatMap mb).length = l.length := by
  induction l with
  | nil => rfl
  | cons x l ih => simp only [List.flatMap_cons, mb, List.cons_append, List.nil_append, List.length_cons, ih]
theorem put_list (l : List UInt8) (us : Array Value) (hl : l.length ≤ us.size) : (putCells encB 0 l.toArray us).toList.take l.length = l.map encB := by
  apply List.ext_getElem?
  intro i
  rcases Nat.lt_or_ge i l.length with h | h
  · rw [List.getElem?_take, if_pos h]
    simp only [Array.getElem?_toList, putCells, Array.getElem?_mapIdx, List.getElem?_map]
    rw [Array.getElem?_eq_getElem (show i < us.size by omega), List.getElem?_eq_getElem h]
    simp only [Option.map_some, Nat.zero_le, true_and, List.size_toArray, Nat.zero_add, Nat.sub_zero]
    rw [if_pos h, getElem!_pos l.toArray i (by simpa using h)]
    simp
  · rw [List.getElem?_eq_none (by simp; omega), List.getElem?_eq_none (by simpa using h)]

theorem turned_put {b : Nat} {w : World} {us : Array Value} {e n : Nat} (h : w.heap[b]? = some (.cells us e (0, 0))) (d : Array UInt8) : Turned b w (putRow encB (Sort.ahead w n) b 0 d) ∧ (putRow encB (Sort.ahead w n) b 0 d).heap[b]? = some (.cells (putCells encB 0 d us) e (0, 0)) := by
  have hb : (putRow encB (Sort.ahead w n) b 0 d).heap[b]? = some (.cells (putCells encB 0 d us) e (0, 0)) := by
    simp only [putRow, mapBlock, Sort.ahead, Array.getElem?_modify, if_true, h, Option.map_some, onCells]
  refine ⟨⟨rfl, rfl, rfl, by simp [putRow, mapBlock, Sort.ahead], ?_, ?_⟩, hb⟩
  · intro k hk
    simp only [putRow, mapBlock, Sort.ahead, Array.getElem?_modify]
    rw [if_neg (Ne.symm hk)]
  · intro us' e' h'
    rw [h] at h'
    cases h'
    exact ⟨_, _, hb, by simp [putCells]⟩

theorem run_enter {P : Program} {f : FuncId} {args : Array Operand} {ats : Array TypeId} {a : Act} {w : World} {o : Oper} (ho : o.op = .call { callee := .value (.func f), args := args, argTypes := ats }) (hp : Plain P f) : (execOp a.eval o).run P w = .ok (.enter f (args.map a.eval)) w := by
  obtain ⟨fn, p1, p2, p3⟩ := hp
  simp only [execOp, ho, resolve, Act.eval, Deferred.ofValue, Sem.run_bind, Sem.run_pure, Result.andThen_ok, invoke, callFunc, program, Sem.run, p1, p2, p3, Bool.false_eq_true, if_false]
  simp

theorem sem_reverse {L : Nat → Option TI} {x : Operand} {ats : Array TypeId} {id e : Nat} {dst : Option Nat} {ty : TypeId} {l : List UInt8} :
    SemD Go.Proofs.Try.prog L (.call { callee := .value (.func 133), args := #[x], argTypes := ats }) dst ty [.im (.fn 133), .row id l.length 1] [(id, .rw e 1 (l.flatMap mb))] ⟨some (.im (.tup [])), [(id, some (.rw e 1 (l.reverse.flatMap mb)))], [], [id]⟩ := by
  intro N w0 ok0 S0 T H β ok a w o Q hL hc hN ho hdst hty hx hg hfr
  obtain ⟨_, h1⟩ := evL2 (by simpa [Op.operands, Call.operands] using hx)
  have hH := hg (id, .rw e 1 (l.flatMap mb)) (by simp)
  unfold Oper.wp
  rw [run_enter ho Go.Proofs.Ytkbhchlecokpiaa.plain133]
  rw [Oper.upon_enter]
  have hargs : (#[x].map a.eval) = #[a.eval x] := by simp
  rw [hargs]
  rcases rd_row hc h1 with ⟨hv, h0⟩ | ⟨b, cap, hb, hv, hle, hcap, us, e', hw, hsz⟩
  · rw [hv]
    have hl : l = [] := List.length_eq_zero_iff.1 h0
    subst hl
    refine (Go.Proofs.Try.reverse_empty none 0 w).mono ?_
    rintro ex w' ⟨rfl, hw'⟩
    obtain rfl := hw'.symm
    simp only []
    have ho' := hc.obj id _ hH
    refine ⟨β, ok, ?_⟩
    have hR : RD β ok w (.im (.tup [])) (.tuple #[]) := by simp only [RD, RM]; exact ⟨_, rfl, by simp [RMt]⟩
    have h2 := hc.put o.dst (.tuple #[]) (some (.im (.tup []))) hN (fun d hd => by cases hd; exact hR)
    exact h2.weaken (fun i d h => h) (fun i o' h => by
      simp only [chH] at h
      split at h
      · rename_i he; subst he; simp only [Option.some.injEq] at h; rw [← h]; exact hH
      · exact h)
  · rw [hv]
    obtain ⟨us2, cap2, hw2, hsz2, hcap2, hlen2, hr2⟩ := rd_rw hc hH hb
    rw [hw] at hw2; cases hw2
    rw [mb_len] at hlen2 hr2
    have hus := rms_bytes hr2
    have hcell : Holds encB w b 0 l.toArray := by
      intro j hj
      have hj' : j < l.length := by simpa using hj
      have hju : j < us.size := by omega
      constructor
      · simp only [World.cell?, hw, Option.isSome_none, Bool.false_eq_true, if_false, Nat.zero_add]
        have h4 : (us.toList.take l.length)[j]? = (l.map encB)[j]? := by rw [hus]
        rw [List.getElem?_take, if_pos hj', Array.getElem?_toList] at h4
        rw [h4, List.getElem?_map, List.getElem?_eq_getElem hj', getElem!_pos l.toArray j hj]
        simp
      · simp [World.frozen?, hw]
    refine (Go.Proofs.Try.reverse encB (fun _ => rfl) b 0 cap l w hcell (by unfold maxLen at hcap; omega)).mono ?_
    rintro ex w' ⟨rfl, n, rfl⟩
    simp only []
    obtain ⟨ht, hb2⟩ := turned_put (n := n) hw l.reverse.toArray
    refine ⟨β, ok, hc.turn o.dst _ _ hN id _ _ b hH hb ht ?_ ?_⟩
    · simp only [RO]
      refine .inr ⟨b, _, cap2, hb, hb2, by simp [putCells]; omega, hcap2, by rw [mb_len]; simp [putCells]; omega, ?_⟩
      rw [mb_len, put_list l.reverse us (by simp; omega)]
      exact bytes_rms _
    · intro d hd
      simp only [Option.some.injEq] at hd; subst hd
      simp only [RD, RM]; exact ⟨_, rfl, by simp [RMt]⟩
end Fw
