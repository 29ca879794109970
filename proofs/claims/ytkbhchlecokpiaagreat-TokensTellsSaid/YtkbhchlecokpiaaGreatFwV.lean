/- slices.Reverse in the logic over data: a row of bytes, turned in place. -/
import Derived.Test.YtkbhchlecokpiaaGreatFwCf
import Derived.Test.YtkbhchlecokpiaaGreatRev
import Derived.Test.YtkbhchlecokpiaaGreatLay
set_option linter.unusedVariables false
set_option linter.unusedSimpArgs false
namespace Fw
open Go Go.RowKit Go.Sort
set_option linter.unusedVariables false
set_option linter.unusedSimpArgs false

def encB (x : UInt8) : Value := .int .u8 x.toNat
theorem rms_bytes {ok : Nat → Prop} {w : World} : ∀ {l : List UInt8} {vs : List Value}, RMs ok w (l.flatMap mb) vs → vs = l.map encB
  | [], vs, h => by simpa [RMs] using h
  | x :: l, vs, h => by
    simp only [List.flatMap_cons, mb, List.cons_append, List.nil_append, RMs, RM] at h
    obtain ⟨u, us, rfl, _, rfl, h4⟩ := h
    rw [rms_bytes (l := l) h4]
    rfl
theorem bytes_rms {ok : Nat → Prop} {w : World} : ∀ (l : List UInt8), RMs ok w (l.flatMap mb) (l.map encB)
  | [] => by simp [RMs]
  | x :: l => by
    simp only [List.flatMap_cons, mb, List.cons_append, List.nil_append, List.map_cons, RMs, RM]
    exact ⟨_, _, rfl, rfl, rfl, bytes_rms l⟩
theorem mb_len (l : List UInt8) : (l.flatMap mb).length = l.length := by
  induction l with
  | nil => rfl
  | cons x l ih => simp only [List.flatMap_cons, mb, List.cons_append, List.nil_append, List.length_cons, ih]
theorem put_list (l : List UInt8) (us : Array Value) (hl : l.length ≤ us.size) : (putCells encB 0 l.toArray us).toList.take l.length = l.map encB := by
  apply List.ext_getElem?
  intro i
  rcases Nat.lt_or_ge i l.length with h | h
  · rw [List.getElem?_take, if_pos h]
    simp only [Array.getElem?_toList, putCells, Array.getElem?_mapIdx, List.getElem?_map]
    rw [Array.getElem?_eq_getElem (show i < us.size by omega), List.getElem?_eq_getElem h]
    simp only [Option.map_some, Nat.zero_le, true_and, List.size_toArray, Nat.zero_add, Nat.sub_zero]
    rw [if_pos h, getElem!_pos l.toArray i (by simpa using h)]
    simp
  · rw [List.getElem?_eq_none (by simp; omega), List.getElem?_eq_none (by simpa using h)]

theorem turned_put {b : Nat} {w : World} {us : Array Value} {e n : Nat} (h : w.heap[b]? = some (.cells us e (0, 0))) (d : Array UInt8) : Turned b w (putRow encB (Sort.ahead w n) b 0 d) ∧ (putRow encB (Sort.ahead w n) b 0 d).heap[b]? = some (.cells (putCells encB 0 d us) e (0, 0)) := by
  have hb : (putRow encB (Sort.ahead w n) b 0 d).heap[b]? = some (.cells (putCells encB 0 d us) e (0, 0)) := by
    simp only [putRow, mapBlock, Sort.ahead, Array.getElem?_modify, if_true, h, Option.map_some, onCells]
  refine ⟨⟨rfl, rfl, rfl, by simp [putRow, mapBlock, Sort.ahead], ?_, ?_⟩, hb⟩
  · intro k hk
    simp only [putRow, mapBlock, Sort.ahead, Array.getElem?_modify]
    rw [if_neg (Ne.symm hk)]
  · intro us' e' h'
    rw [h] at h'
    cases h'
    exact ⟨_, _, hb, by simp [putCells]⟩

theorem run_enter {P : Program} {f : FuncId} {args : Array Operand} {ats : Array TypeId} {a : Act} {w : World} {o : Oper} (ho : o.op = .call { callee := .value (.func f), args := args, argTypes := ats }) (hp : Plain P f) : (execOp a.eval o).run P w = .ok (.enter f (args.map a.eval)) w := by
  obtain ⟨fn, p1, p2, p3⟩ := hp
  simp only [execOp, ho, resolve, Act.eval, Deferred.ofValue, Sem.run_bind, Sem.run_pure, Result.andThen_ok, invoke, callFunc, program, Sem.run, p1, p2, p3, Bool.false_eq_true, if_false]
  simp

end Fw
