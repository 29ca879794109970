/- Are all of a list so: shapes.all with the library's functions under it. Printed by gen/gen_all.py. -/
import Derived.Test.YtkbhchlecokpiaaFwCh
import Derived.Test.YtkbhchlecokpiaaFwK5
import Derived.Test.YtkbhchlecokpiaaFwP4c
import Derived.Test.YtkbhchlecokpiaaFwH0
namespace Fw
open Go Go.RowKit
/-- is any of a list so, by steps that may change a state -/
def anyS {α S : Type} (step : S → α → Bool × S) : S → List α → Bool × S
  | s, [] => (false, s)
  | s, a :: l => if (step s a).1 then (true, (step s a).2) else anyS step (step s a).2 l
def idxS {α S : Type} (step : S → α → Bool × S) : S → List α → Nat → Int
  | _, [], _ => -1
  | s, a :: l, i => if (step s a).1 then (i : Int) else idxS step (step s a).2 l (i + 1)
theorem idx_any {α S : Type} {step : S → α → Bool × S} : ∀ {l : List α} {s : S} {i : Nat}, decide (idxS step s l i ≥ 0) = (anyS step s l).1
  | [], s, i => rfl
  | a :: l, s, i => by
    unfold idxS anyS
    split
    · rw [decide_eq_true_eq]; omega
    · exact idx_any
theorem idx_bnd {α S : Type} {step : S → α → Bool × S} : ∀ {l : List α} {s : S} {i : Nat}, -1 ≤ idxS step s l i ∧ idxS step s l i ≤ i + l.length
  | [], s, i => by unfold idxS; omega
  | a :: l, s, i => by
    unfold idxS
    split
    · simp only [List.length_cons]; omega
    · have := idx_bnd (l := l) (s := (step s a).2) (i := i + 1) (step := step)
      simp only [List.length_cons]; omega
def negS {α S : Type} (step : S → α → Bool × S) (s : S) (a : α) : Bool × S := (!(step s a).1, (step s a).2)
def allS {α S : Type} (step : S → α → Bool × S) (s : S) (l : List α) : Bool := !(anyS (negS step) s l).1
theorem allS_unit {α : Type} {p : α → Bool} : ∀ {l : List α} {s : Unit}, allS (fun s a => (p a, s)) s l = l.all p
  | [], s => rfl
  | a :: l, s => by
    have ih := allS_unit (p := p) (l := l) (s := s)
    unfold allS at ih ⊢
    unfold anyS negS
    dsimp only
    rw [List.all_cons]
    by_cases hb : p a = true
    · simp only [hb, Bool.not_true, Bool.false_eq_true, if_false, Bool.true_and]
      exact ih
    · simp only [(Bool.not_eq_true _).mp hb, Bool.not_false, if_true, Bool.not_true, Bool.false_and]
end Fw
namespace Go.Proofs.Ytkbhchlecokpiaa
open Go Go.RowKit Fw Tw Rat
set_option linter.unusedVariables false
set_option linter.unusedSimpArgs false
theorem allF_R0 {S : Type} {step : S → RQ → Bool × S} {g : FuncId} (hp : Plain Try.prog g) {l : List (RQ)} (hl : l.length ≤ maxLen) (hg : ∀ s, ∀ a ∈ l, RetD Try.prog g [.im (.agg (rqC a))] [] (.bool (step s a).1) []) (s : S) (a : RQ) (ha : a ∈ l) : RetD Try.prog 86 [.im (.agg (rqC a)), .ptr 3 0] [(3, 119, [.im (.fn g)])] (.bool (negS step s a).1) [(3, 119, [.im (.fn g)])] := by
  have hgs := hg s a ha
  refine retD_of (L := L) lay_ok Try.func86 rfl Try.ntmps86 rfl rfl (fun bl => ?_)
  refine goq ?_
  refine go ?_
  refine cld hp hgs ?_
  refine go ?_
  exact ⟨⟨_, rfl, rfl⟩, ⟨_, rfl, rfl⟩, trivial⟩
set_option maxHeartbeats 4000000 in
theorem idxF_R0 {S : Type} {step : S → RQ → Bool × S} {g : FuncId} {l : List (RQ)} (hl : l.length ≤ maxLen) (hg : ∀ s, ∀ a ∈ l, RetD Try.prog 86 [.im (.agg (rqC a)), .ptr 3 0] [(3, 119, [.im (.fn g)])] (.bool (step s a).1) [(3, 119, [.im (.fn g)])]) (s : S) : RetD Try.prog 123 [.im (mS rqC l), .fn 86 [.ptr 3 0]] [(3, 119, [.im (.fn g)])] (.int .i64 (idxS step s l 0)) [(3, 119, [.im (.fn g)])] := by
  have hml : maxLen = 9223372036854775807 := rfl
  generalize hr : idxS step s l 0 = r
  generalize hq : (anyS step s l).2 = q0
  refine retD_of (L := L) lay_ok Try.func123 rfl Try.ntmps123 rfl rfl (fun bl => ?_)
  refine goq ?_
  refine go ?_
  refine awp_loopC (A := Nat × S) (B := Unit) (fun q => q.1 ≤ l.length ∧ idxS step q.2 (l.drop q.1) q.1 = r ∧ (anyS step q.2 (l.drop q.1)).2 = q0)
    (fun q => [(0, some (.im (mS rqC l))), (1, some (.fn 86 [.ptr 3 0])), (6, some (.im (mS rqC l))), (7, some (.im (.int .i64 (l.length : Nat)))), (8, some (.im (.int .i64 (q.1 : Nat))))]) (fun q => [(3, some (.bx (bl 3) 119 [.im (.fn g)]))]) (fun q => l.length - q.1)
    (fun _ => r = -1) (fun _ => []) (fun _ => [(3, some (.bx (bl 3) 119 [.im (.fn g)]))]) (0, s) ⟨Nat.zero_le _, hr, hq⟩ ?_ ?_ ?_
  · exact gou0
  · rintro ⟨i, s⟩ ⟨h1, h2, h3⟩
    simp only [] at h1 h2 h3
    by_cases hlt : i < l.length
    · obtain ⟨a, ha⟩ : ∃ a, l[i]? = some a := ⟨l[i], List.getElem?_eq_getElem hlt⟩
      have hd : l.drop i = a :: l.drop (i + 1) := by
        obtain ⟨h, e⟩ := List.getElem?_eq_some_iff.1 ha
        rw [← e]; exact List.drop_eq_getElem_cons h
      rw [hd] at h2 h3
      unfold idxS at h2
      unfold anyS at h3
      have hgs := hg s a (List.mem_of_getElem? ha)
      refine go ?_
      refine awp_cT rfl (by rw [decide_eq_true_eq]; omega) ?_
      refine go ?_
      refine ar_atE (enc := rqC) i a ha rfl rfl rfl rfl rfl (fun _ => rfl) rfl rfl ?_
      refine go ?_
      refine cld plain86 hgs ?_
      refine go ?_
      by_cases hb : (step s a).1 = true
      · refine awp_cT rfl hb ?_
        rw [if_pos hb] at h2 h3
        refine go ?_
        try rw [← h3]
        exact .inr ⟨⟨_, rfl, by rw [← h2]; rfl⟩, ⟨_, rfl, rfl⟩, trivial⟩
      · refine awp_cF rfl ((Bool.not_eq_true _).mp hb) ?_
        rw [if_neg hb] at h2 h3
        refine go ?_
        refine ⟨(i + 1, (step s a).2), ⟨by show i + 1 ≤ _; omega, h2, h3⟩, ?_, by show l.length - (i + 1) < l.length - i; omega⟩
        exact gou0
    · have e : l.drop i = [] := List.drop_eq_nil_of_le (by omega)
      rw [e] at h2 h3
      refine go ?_
      refine awp_cF rfl (by rw [decide_eq_false_iff_not]; omega) ?_
      refine go ?_
      refine .inl ⟨rfl, (), h2.symm, ?_⟩
      try rw [← h3]
      exact gou0
  rintro _ h
  rw [h]
  refine go ?_
  exact ⟨⟨_, rfl, rfl⟩, ⟨_, rfl, rfl⟩, trivial⟩
theorem conF_R0 {S : Type} {step : S → RQ → Bool × S} {g : FuncId} {l : List (RQ)} (hl : l.length ≤ maxLen) (hg : ∀ s, ∀ a ∈ l, RetD Try.prog 86 [.im (.agg (rqC a)), .ptr 3 0] [(3, 119, [.im (.fn g)])] (.bool (step s a).1) [(3, 119, [.im (.fn g)])]) (s : S) : RetD Try.prog 85 [.im (mS rqC l), .fn 86 [.ptr 3 0]] [(3, 119, [.im (.fn g)])] (.bool (anyS step s l).1) [(3, 119, [.im (.fn g)])] := by
  have hi := idxF_R0 hl hg s
  refine retD_of (L := L) lay_ok Try.func85 rfl Try.ntmps85 rfl rfl (fun bl => ?_)
  refine goq ?_
  refine go ?_
  refine cld plain123 hi ?_
  refine go ?_
  exact ⟨⟨_, rfl, congrArg M.bool idx_any⟩, ⟨_, rfl, rfl⟩, trivial⟩
theorem all_R0 {S : Type} {step : S → RQ → Bool × S} {g : FuncId} (hp : Plain Try.prog g) {l : List (RQ)} (hl : l.length ≤ maxLen) (hg : ∀ s, ∀ a ∈ l, RetD Try.prog g [.im (.agg (rqC a))] [] (.bool (step s a).1) []) (s : S) : RetD Try.prog 55 [.im (mS rqC l), .im (.fn g)] [] (.bool (allS step s l)) [] := by
  have hc := conF_R0 hl (allF_R0 hp hl hg) s
  refine retD_of (L := L) lay_ok Try.func55 rfl Try.ntmps55 rfl rfl (fun bl => ?_)
  refine goq ?_
  refine go ?_
  refine cld plain85 hc ?_
  refine go ?_
  exact ⟨⟨_, rfl, rfl⟩, trivial⟩
theorem allF_V1 {S : Type} {T0 : TypeId} {c0 : S → M} {step : S → List Tm → Bool × S} {g : FuncId} (hp : Plain Try.prog g) {l : List (List Tm)} (hl : l.length ≤ maxLen) (hg : ∀ s, ∀ a ∈ l, RetD Try.prog g [.im (mS tmC a), .ptr 900 0] [(900, T0, [.im (c0 s)])] (.bool (step s a).1) [(900, T0, [.im (c0 (step s a).2)])]) (s : S) (a : List Tm) (ha : a ∈ l) : RetD Try.prog 149 [.im (mS tmC a), .ptr 3 0] [(3, 185, [.fn g [.ptr 900 0]]), (900, T0, [.im (c0 s)])] (.bool (negS step s a).1) [(3, 185, [.fn g [.ptr 900 0]]), (900, T0, [.im (c0 (negS step s a).2)])] := by
  have hgs := hg s a ha
  refine retD_of (L := L) lay_ok Try.func149 rfl Try.ntmps149 rfl rfl (fun bl => ?_)
  refine goq ?_
  refine go ?_
  refine cld hp hgs ?_
  refine go ?_
  exact ⟨⟨_, rfl, rfl⟩, ⟨_, rfl, rfl⟩, ⟨_, rfl, rfl⟩, trivial⟩
set_option maxHeartbeats 4000000 in
theorem idxF_V1 {S : Type} {T0 : TypeId} {c0 : S → M} {step : S → List Tm → Bool × S} {g : FuncId} {l : List (List Tm)} (hl : l.length ≤ maxLen) (hg : ∀ s, ∀ a ∈ l, RetD Try.prog 149 [.im (mS tmC a), .ptr 3 0] [(3, 185, [.fn g [.ptr 900 0]]), (900, T0, [.im (c0 s)])] (.bool (step s a).1) [(3, 185, [.fn g [.ptr 900 0]]), (900, T0, [.im (c0 (step s a).2)])]) (s : S) : RetD Try.prog 169 [.im (mS vcC l), .fn 149 [.ptr 3 0]] [(3, 185, [.fn g [.ptr 900 0]]), (900, T0, [.im (c0 s)])] (.int .i64 (idxS step s l 0)) [(3, 185, [.fn g [.ptr 900 0]]), (900, T0, [.im (c0 (anyS step s l).2)])] := by
  have hml : maxLen = 9223372036854775807 := rfl
  generalize hr : idxS step s l 0 = r
  generalize hq : (anyS step s l).2 = q0
  refine retD_of (L := L) lay_ok Try.func169 rfl Try.ntmps169 rfl rfl (fun bl => ?_)
  refine goq ?_
  refine go ?_
  refine awp_loopC (A := Nat × S) (B := Unit) (fun q => q.1 ≤ l.length ∧ idxS step q.2 (l.drop q.1) q.1 = r ∧ (anyS step q.2 (l.drop q.1)).2 = q0)
    (fun q => [(0, some (.im (mS vcC l))), (1, some (.fn 149 [.ptr 3 0])), (6, some (.im (mS vcC l))), (7, some (.im (.int .i64 (l.length : Nat)))), (8, some (.im (.int .i64 (q.1 : Nat))))]) (fun q => [(3, some (.bx (bl 3) 185 [.fn g [.ptr 900 0]])), (900, some (.bx (bl 900) T0 [.im (c0 q.2)]))]) (fun q => l.length - q.1)
    (fun _ => r = -1) (fun _ => []) (fun _ => [(3, some (.bx (bl 3) 185 [.fn g [.ptr 900 0]])), (900, some (.bx (bl 900) T0 [.im (c0 q0)]))]) (0, s) ⟨Nat.zero_le _, hr, hq⟩ ?_ ?_ ?_
  · exact gou0
  · rintro ⟨i, s⟩ ⟨h1, h2, h3⟩
    simp only [] at h1 h2 h3
    by_cases hlt : i < l.length
    · obtain ⟨a, ha⟩ : ∃ a, l[i]? = some a := ⟨l[i], List.getElem?_eq_getElem hlt⟩
      have hd : l.drop i = a :: l.drop (i + 1) := by
        obtain ⟨h, e⟩ := List.getElem?_eq_some_iff.1 ha
        rw [← e]; exact List.drop_eq_getElem_cons h
      rw [hd] at h2 h3
      unfold idxS at h2
      unfold anyS at h3
      have hgs := hg s a (List.mem_of_getElem? ha)
      refine go ?_
      refine awp_cT rfl (by rw [decide_eq_true_eq]; omega) ?_
      refine go ?_
      refine ar_atE (enc := vcC) i a ha rfl rfl rfl rfl rfl (fun _ => rfl) rfl rfl ?_
      refine go ?_
      refine cld plain149 hgs ?_
      refine go ?_
      by_cases hb : (step s a).1 = true
      · refine awp_cT rfl hb ?_
        rw [if_pos hb] at h2 h3
        refine go ?_
        try rw [← h3]
        exact .inr ⟨⟨_, rfl, by rw [← h2]; rfl⟩, ⟨_, rfl, rfl⟩, ⟨_, rfl, rfl⟩, trivial⟩
      · refine awp_cF rfl ((Bool.not_eq_true _).mp hb) ?_
        rw [if_neg hb] at h2 h3
        refine go ?_
        refine ⟨(i + 1, (step s a).2), ⟨by show i + 1 ≤ _; omega, h2, h3⟩, ?_, by show l.length - (i + 1) < l.length - i; omega⟩
        exact gou0
    · have e : l.drop i = [] := List.drop_eq_nil_of_le (by omega)
      rw [e] at h2 h3
      refine go ?_
      refine awp_cF rfl (by rw [decide_eq_false_iff_not]; omega) ?_
      refine go ?_
      refine .inl ⟨rfl, (), h2.symm, ?_⟩
      try rw [← h3]
      exact gou0
  rintro _ h
  rw [h]
  refine go ?_
  exact ⟨⟨_, rfl, rfl⟩, ⟨_, rfl, rfl⟩, ⟨_, rfl, rfl⟩, trivial⟩
theorem conF_V1 {S : Type} {T0 : TypeId} {c0 : S → M} {step : S → List Tm → Bool × S} {g : FuncId} {l : List (List Tm)} (hl : l.length ≤ maxLen) (hg : ∀ s, ∀ a ∈ l, RetD Try.prog 149 [.im (mS tmC a), .ptr 3 0] [(3, 185, [.fn g [.ptr 900 0]]), (900, T0, [.im (c0 s)])] (.bool (step s a).1) [(3, 185, [.fn g [.ptr 900 0]]), (900, T0, [.im (c0 (step s a).2)])]) (s : S) : RetD Try.prog 148 [.im (mS vcC l), .fn 149 [.ptr 3 0]] [(3, 185, [.fn g [.ptr 900 0]]), (900, T0, [.im (c0 s)])] (.bool (anyS step s l).1) [(3, 185, [.fn g [.ptr 900 0]]), (900, T0, [.im (c0 (anyS step s l).2)])] := by
  have hi := idxF_V1 hl hg s
  refine retD_of (L := L) lay_ok Try.func148 rfl Try.ntmps148 rfl rfl (fun bl => ?_)
  refine goq ?_
  refine go ?_
  refine cld plain169 hi ?_
  refine go ?_
  exact ⟨⟨_, rfl, congrArg M.bool idx_any⟩, ⟨_, rfl, rfl⟩, ⟨_, rfl, rfl⟩, trivial⟩
theorem all_V1 {S : Type} {T0 : TypeId} {c0 : S → M} {step : S → List Tm → Bool × S} {g : FuncId} (hp : Plain Try.prog g) {l : List (List Tm)} (hl : l.length ≤ maxLen) (hg : ∀ s, ∀ a ∈ l, RetD Try.prog g [.im (mS tmC a), .ptr 900 0] [(900, T0, [.im (c0 s)])] (.bool (step s a).1) [(900, T0, [.im (c0 (step s a).2)])]) (s : S) : RetD Try.prog 116 [.im (mS vcC l), .fn g [.ptr 900 0]] [(900, T0, [.im (c0 s)])] (.bool (allS step s l)) [(900, T0, [.im (c0 (anyS (negS step) s l).2)])] := by
  have hc := conF_V1 hl (allF_V1 hp hl hg) s
  refine retD_of (L := L) lay_ok Try.func116 rfl Try.ntmps116 rfl rfl (fun bl => ?_)
  refine goq ?_
  refine go ?_
  refine cld plain148 hc ?_
  refine go ?_
  exact ⟨⟨_, rfl, rfl⟩, ⟨_, rfl, rfl⟩, trivial⟩
theorem allF_I0 {S : Type} {step : S → Int → Bool × S} {g : FuncId} (hp : Plain Try.prog g) {l : List (Int)} (hl : l.length ≤ maxLen) (hg : ∀ s, ∀ a ∈ l, RetD Try.prog g [.im (.int .i64 a)] [] (.bool (step s a).1) []) (s : S) (a : Int) (ha : a ∈ l) : RetD Try.prog 168 [.im (.int .i64 a), .ptr 3 0] [(3, 210, [.im (.fn g)])] (.bool (negS step s a).1) [(3, 210, [.im (.fn g)])] := by
  have hgs := hg s a ha
  refine retD_of (L := L) lay_ok Try.func168 rfl Try.ntmps168 rfl rfl (fun bl => ?_)
  refine goq ?_
  refine go ?_
  refine cld hp hgs ?_
  refine go ?_
  exact ⟨⟨_, rfl, rfl⟩, ⟨_, rfl, rfl⟩, trivial⟩
set_option maxHeartbeats 4000000 in
theorem idxF_I0 {S : Type} {step : S → Int → Bool × S} {g : FuncId} {l : List (Int)} (hl : l.length ≤ maxLen) (hg : ∀ s, ∀ a ∈ l, RetD Try.prog 168 [.im (.int .i64 a), .ptr 3 0] [(3, 210, [.im (.fn g)])] (.bool (step s a).1) [(3, 210, [.im (.fn g)])]) (s : S) : RetD Try.prog 174 [.im (mS niC l), .fn 168 [.ptr 3 0]] [(3, 210, [.im (.fn g)])] (.int .i64 (idxS step s l 0)) [(3, 210, [.im (.fn g)])] := by
  have hml : maxLen = 9223372036854775807 := rfl
  generalize hr : idxS step s l 0 = r
  generalize hq : (anyS step s l).2 = q0
  refine retD_of (L := L) lay_ok Try.func174 rfl Try.ntmps174 rfl rfl (fun bl => ?_)
  refine goq ?_
  refine go ?_
  refine awp_loopC (A := Nat × S) (B := Unit) (fun q => q.1 ≤ l.length ∧ idxS step q.2 (l.drop q.1) q.1 = r ∧ (anyS step q.2 (l.drop q.1)).2 = q0)
    (fun q => [(0, some (.im (mS niC l))), (1, some (.fn 168 [.ptr 3 0])), (6, some (.im (mS niC l))), (7, some (.im (.int .i64 (l.length : Nat)))), (8, some (.im (.int .i64 (q.1 : Nat))))]) (fun q => [(3, some (.bx (bl 3) 210 [.im (.fn g)]))]) (fun q => l.length - q.1)
    (fun _ => r = -1) (fun _ => []) (fun _ => [(3, some (.bx (bl 3) 210 [.im (.fn g)]))]) (0, s) ⟨Nat.zero_le _, hr, hq⟩ ?_ ?_ ?_
  · exact gou0
  · rintro ⟨i, s⟩ ⟨h1, h2, h3⟩
    simp only [] at h1 h2 h3
    by_cases hlt : i < l.length
    · obtain ⟨a, ha⟩ : ∃ a, l[i]? = some a := ⟨l[i], List.getElem?_eq_getElem hlt⟩
      have hd : l.drop i = a :: l.drop (i + 1) := by
        obtain ⟨h, e⟩ := List.getElem?_eq_some_iff.1 ha
        rw [← e]; exact List.drop_eq_getElem_cons h
      rw [hd] at h2 h3
      unfold idxS at h2
      unfold anyS at h3
      have hgs := hg s a (List.mem_of_getElem? ha)
      refine go ?_
      refine awp_cT rfl (by rw [decide_eq_true_eq]; omega) ?_
      refine go ?_
      refine ar_atE (enc := niC) i a ha rfl rfl rfl rfl rfl (fun _ => rfl) rfl rfl ?_
      refine go ?_
      refine cld plain168 hgs ?_
      refine go ?_
      by_cases hb : (step s a).1 = true
      · refine awp_cT rfl hb ?_
        rw [if_pos hb] at h2 h3
        refine go ?_
        try rw [← h3]
        exact .inr ⟨⟨_, rfl, by rw [← h2]; rfl⟩, ⟨_, rfl, rfl⟩, trivial⟩
      · refine awp_cF rfl ((Bool.not_eq_true _).mp hb) ?_
        rw [if_neg hb] at h2 h3
        refine go ?_
        refine ⟨(i + 1, (step s a).2), ⟨by show i + 1 ≤ _; omega, h2, h3⟩, ?_, by show l.length - (i + 1) < l.length - i; omega⟩
        exact gou0
    · have e : l.drop i = [] := List.drop_eq_nil_of_le (by omega)
      rw [e] at h2 h3
      refine go ?_
      refine awp_cF rfl (by rw [decide_eq_false_iff_not]; omega) ?_
      refine go ?_
      refine .inl ⟨rfl, (), h2.symm, ?_⟩
      try rw [← h3]
      exact gou0
  rintro _ h
  rw [h]
  refine go ?_
  exact ⟨⟨_, rfl, rfl⟩, ⟨_, rfl, rfl⟩, trivial⟩
theorem conF_I0 {S : Type} {step : S → Int → Bool × S} {g : FuncId} {l : List (Int)} (hl : l.length ≤ maxLen) (hg : ∀ s, ∀ a ∈ l, RetD Try.prog 168 [.im (.int .i64 a), .ptr 3 0] [(3, 210, [.im (.fn g)])] (.bool (step s a).1) [(3, 210, [.im (.fn g)])]) (s : S) : RetD Try.prog 167 [.im (mS niC l), .fn 168 [.ptr 3 0]] [(3, 210, [.im (.fn g)])] (.bool (anyS step s l).1) [(3, 210, [.im (.fn g)])] := by
  have hi := idxF_I0 hl hg s
  refine retD_of (L := L) lay_ok Try.func167 rfl Try.ntmps167 rfl rfl (fun bl => ?_)
  refine goq ?_
  refine go ?_
  refine cld plain174 hi ?_
  refine go ?_
  exact ⟨⟨_, rfl, congrArg M.bool idx_any⟩, ⟨_, rfl, rfl⟩, trivial⟩
theorem all_I0 {S : Type} {step : S → Int → Bool × S} {g : FuncId} (hp : Plain Try.prog g) {l : List (Int)} (hl : l.length ≤ maxLen) (hg : ∀ s, ∀ a ∈ l, RetD Try.prog g [.im (.int .i64 a)] [] (.bool (step s a).1) []) (s : S) : RetD Try.prog 145 [.im (mS niC l), .im (.fn g)] [] (.bool (allS step s l)) [] := by
  have hc := conF_I0 hl (allF_I0 hp hl hg) s
  refine retD_of (L := L) lay_ok Try.func145 rfl Try.ntmps145 rfl rfl (fun bl => ?_)
  refine goq ?_
  refine go ?_
  refine cld plain167 hc ?_
  refine go ?_
  exact ⟨⟨_, rfl, rfl⟩, trivial⟩
theorem allF_I2 {S : Type} {T0 T1 : TypeId} {c0 c1 : S → M} {step : S → Int → Bool × S} {g : FuncId} (hp : Plain Try.prog g) {l : List (Int)} (hl : l.length ≤ maxLen) (hg : ∀ s, ∀ a ∈ l, RetD Try.prog g [.im (.int .i64 a), .ptr 900 0, .ptr 901 0] [(900, T0, [.im (c0 s)]), (901, T1, [.im (c1 s)])] (.bool (step s a).1) [(900, T0, [.im (c0 (step s a).2)]), (901, T1, [.im (c1 (step s a).2)])]) (s : S) (a : Int) (ha : a ∈ l) : RetD Try.prog 168 [.im (.int .i64 a), .ptr 3 0] [(3, 210, [.fn g [.ptr 900 0, .ptr 901 0]]), (900, T0, [.im (c0 s)]), (901, T1, [.im (c1 s)])] (.bool (negS step s a).1) [(3, 210, [.fn g [.ptr 900 0, .ptr 901 0]]), (900, T0, [.im (c0 (negS step s a).2)]), (901, T1, [.im (c1 (negS step s a).2)])] := by
  have hgs := hg s a ha
  refine retD_of (L := L) lay_ok Try.func168 rfl Try.ntmps168 rfl rfl (fun bl => ?_)
  refine goq ?_
  refine go ?_
  refine cld hp hgs ?_
  refine go ?_
  exact ⟨⟨_, rfl, rfl⟩, ⟨_, rfl, rfl⟩, ⟨_, rfl, rfl⟩, ⟨_, rfl, rfl⟩, trivial⟩
set_option maxHeartbeats 4000000 in
theorem idxF_I2 {S : Type} {T0 T1 : TypeId} {c0 c1 : S → M} {step : S → Int → Bool × S} {g : FuncId} {l : List (Int)} (hl : l.length ≤ maxLen) (hg : ∀ s, ∀ a ∈ l, RetD Try.prog 168 [.im (.int .i64 a), .ptr 3 0] [(3, 210, [.fn g [.ptr 900 0, .ptr 901 0]]), (900, T0, [.im (c0 s)]), (901, T1, [.im (c1 s)])] (.bool (step s a).1) [(3, 210, [.fn g [.ptr 900 0, .ptr 901 0]]), (900, T0, [.im (c0 (step s a).2)]), (901, T1, [.im (c1 (step s a).2)])]) (s : S) : RetD Try.prog 174 [.im (mS niC l), .fn 168 [.ptr 3 0]] [(3, 210, [.fn g [.ptr 900 0, .ptr 901 0]]), (900, T0, [.im (c0 s)]), (901, T1, [.im (c1 s)])] (.int .i64 (idxS step s l 0)) [(3, 210, [.fn g [.ptr 900 0, .ptr 901 0]]), (900, T0, [.im (c0 (anyS step s l).2)]), (901, T1, [.im (c1 (anyS step s l).2)])] := by
  have hml : maxLen = 9223372036854775807 := rfl
  generalize hr : idxS step s l 0 = r
  generalize hq : (anyS step s l).2 = q0
  refine retD_of (L := L) lay_ok Try.func174 rfl Try.ntmps174 rfl rfl (fun bl => ?_)
  refine goq ?_
  refine go ?_
  refine awp_loopC (A := Nat × S) (B := Unit) (fun q => q.1 ≤ l.length ∧ idxS step q.2 (l.drop q.1) q.1 = r ∧ (anyS step q.2 (l.drop q.1)).2 = q0)
    (fun q => [(0, some (.im (mS niC l))), (1, some (.fn 168 [.ptr 3 0])), (6, some (.im (mS niC l))), (7, some (.im (.int .i64 (l.length : Nat)))), (8, some (.im (.int .i64 (q.1 : Nat))))]) (fun q => [(3, some (.bx (bl 3) 210 [.fn g [.ptr 900 0, .ptr 901 0]])), (900, some (.bx (bl 900) T0 [.im (c0 q.2)])), (901, some (.bx (bl 901) T1 [.im (c1 q.2)]))]) (fun q => l.length - q.1)
    (fun _ => r = -1) (fun _ => []) (fun _ => [(3, some (.bx (bl 3) 210 [.fn g [.ptr 900 0, .ptr 901 0]])), (900, some (.bx (bl 900) T0 [.im (c0 q0)])), (901, some (.bx (bl 901) T1 [.im (c1 q0)]))]) (0, s) ⟨Nat.zero_le _, hr, hq⟩ ?_ ?_ ?_
  · exact gou0
  · rintro ⟨i, s⟩ ⟨h1, h2, h3⟩
    simp only [] at h1 h2 h3
    by_cases hlt : i < l.length
    · obtain ⟨a, ha⟩ : ∃ a, l[i]? = some a := ⟨l[i], List.getElem?_eq_getElem hlt⟩
      have hd : l.drop i = a :: l.drop (i + 1) := by
        obtain ⟨h, e⟩ := List.getElem?_eq_some_iff.1 ha
        rw [← e]; exact List.drop_eq_getElem_cons h
      rw [hd] at h2 h3
      unfold idxS at h2
      unfold anyS at h3
      have hgs := hg s a (List.mem_of_getElem? ha)
      refine go ?_
      refine awp_cT rfl (by rw [decide_eq_true_eq]; omega) ?_
      refine go ?_
      refine ar_atE (enc := niC) i a ha rfl rfl rfl rfl rfl (fun _ => rfl) rfl rfl ?_
      refine go ?_
      refine cld plain168 hgs ?_
      refine go ?_
      by_cases hb : (step s a).1 = true
      · refine awp_cT rfl hb ?_
        rw [if_pos hb] at h2 h3
        refine go ?_
        try rw [← h3]
        exact .inr ⟨⟨_, rfl, by rw [← h2]; rfl⟩, ⟨_, rfl, rfl⟩, ⟨_, rfl, rfl⟩, ⟨_, rfl, rfl⟩, trivial⟩
      · refine awp_cF rfl ((Bool.not_eq_true _).mp hb) ?_
        rw [if_neg hb] at h2 h3
        refine go ?_
        refine ⟨(i + 1, (step s a).2), ⟨by show i + 1 ≤ _; omega, h2, h3⟩, ?_, by show l.length - (i + 1) < l.length - i; omega⟩
        exact gou0
    · have e : l.drop i = [] := List.drop_eq_nil_of_le (by omega)
      rw [e] at h2 h3
      refine go ?_
      refine awp_cF rfl (by rw [decide_eq_false_iff_not]; omega) ?_
      refine go ?_
      refine .inl ⟨rfl, (), h2.symm, ?_⟩
      try rw [← h3]
      exact gou0
  rintro _ h
  rw [h]
  refine go ?_
  exact ⟨⟨_, rfl, rfl⟩, ⟨_, rfl, rfl⟩, ⟨_, rfl, rfl⟩, ⟨_, rfl, rfl⟩, trivial⟩
theorem conF_I2 {S : Type} {T0 T1 : TypeId} {c0 c1 : S → M} {step : S → Int → Bool × S} {g : FuncId} {l : List (Int)} (hl : l.length ≤ maxLen) (hg : ∀ s, ∀ a ∈ l, RetD Try.prog 168 [.im (.int .i64 a), .ptr 3 0] [(3, 210, [.fn g [.ptr 900 0, .ptr 901 0]]), (900, T0, [.im (c0 s)]), (901, T1, [.im (c1 s)])] (.bool (step s a).1) [(3, 210, [.fn g [.ptr 900 0, .ptr 901 0]]), (900, T0, [.im (c0 (step s a).2)]), (901, T1, [.im (c1 (step s a).2)])]) (s : S) : RetD Try.prog 167 [.im (mS niC l), .fn 168 [.ptr 3 0]] [(3, 210, [.fn g [.ptr 900 0, .ptr 901 0]]), (900, T0, [.im (c0 s)]), (901, T1, [.im (c1 s)])] (.bool (anyS step s l).1) [(3, 210, [.fn g [.ptr 900 0, .ptr 901 0]]), (900, T0, [.im (c0 (anyS step s l).2)]), (901, T1, [.im (c1 (anyS step s l).2)])] := by
  have hi := idxF_I2 hl hg s
  refine retD_of (L := L) lay_ok Try.func167 rfl Try.ntmps167 rfl rfl (fun bl => ?_)
  refine goq ?_
  refine go ?_
  refine cld plain174 hi ?_
  refine go ?_
  exact ⟨⟨_, rfl, congrArg M.bool idx_any⟩, ⟨_, rfl, rfl⟩, ⟨_, rfl, rfl⟩, ⟨_, rfl, rfl⟩, trivial⟩
theorem all_I2 {S : Type} {T0 T1 : TypeId} {c0 c1 : S → M} {step : S → Int → Bool × S} {g : FuncId} (hp : Plain Try.prog g) {l : List (Int)} (hl : l.length ≤ maxLen) (hg : ∀ s, ∀ a ∈ l, RetD Try.prog g [.im (.int .i64 a), .ptr 900 0, .ptr 901 0] [(900, T0, [.im (c0 s)]), (901, T1, [.im (c1 s)])] (.bool (step s a).1) [(900, T0, [.im (c0 (step s a).2)]), (901, T1, [.im (c1 (step s a).2)])]) (s : S) : RetD Try.prog 145 [.im (mS niC l), .fn g [.ptr 900 0, .ptr 901 0]] [(900, T0, [.im (c0 s)]), (901, T1, [.im (c1 s)])] (.bool (allS step s l)) [(900, T0, [.im (c0 (anyS (negS step) s l).2)]), (901, T1, [.im (c1 (anyS (negS step) s l).2)])] := by
  have hc := conF_I2 hl (allF_I2 hp hl hg) s
  refine retD_of (L := L) lay_ok Try.func145 rfl Try.ntmps145 rfl rfl (fun bl => ?_)
  refine goq ?_
  refine go ?_
  refine cld plain167 hc ?_
  refine go ?_
  exact ⟨⟨_, rfl, rfl⟩, ⟨_, rfl, rfl⟩, ⟨_, rfl, rfl⟩, trivial⟩
theorem allF_G1 {S : Type} {T0 : TypeId} {c0 : S → M} {step : S → List Int → Bool × S} {g : FuncId} (hp : Plain Try.prog g) {l : List (List Int)} (hl : l.length ≤ maxLen) (hg : ∀ s, ∀ a ∈ l, RetD Try.prog g [.im (mS niC a), .ptr 900 0] [(900, T0, [.im (c0 s)])] (.bool (step s a).1) [(900, T0, [.im (c0 (step s a).2)])]) (s : S) (a : List Int) (ha : a ∈ l) : RetD Try.prog 172 [.im (mS niC a), .ptr 3 0] [(3, 212, [.fn g [.ptr 900 0]]), (900, T0, [.im (c0 s)])] (.bool (negS step s a).1) [(3, 212, [.fn g [.ptr 900 0]]), (900, T0, [.im (c0 (negS step s a).2)])] := by
  have hgs := hg s a ha
  refine retD_of (L := L) lay_ok Try.func172 rfl Try.ntmps172 rfl rfl (fun bl => ?_)
  refine goq ?_
  refine go ?_
  refine cld hp hgs ?_
  refine go ?_
  exact ⟨⟨_, rfl, rfl⟩, ⟨_, rfl, rfl⟩, ⟨_, rfl, rfl⟩, trivial⟩
set_option maxHeartbeats 4000000 in
theorem idxF_G1 {S : Type} {T0 : TypeId} {c0 : S → M} {step : S → List Int → Bool × S} {g : FuncId} {l : List (List Int)} (hl : l.length ≤ maxLen) (hg : ∀ s, ∀ a ∈ l, RetD Try.prog 172 [.im (mS niC a), .ptr 3 0] [(3, 212, [.fn g [.ptr 900 0]]), (900, T0, [.im (c0 s)])] (.bool (step s a).1) [(3, 212, [.fn g [.ptr 900 0]]), (900, T0, [.im (c0 (step s a).2)])]) (s : S) : RetD Try.prog 175 [.im (mS grC l), .fn 172 [.ptr 3 0]] [(3, 212, [.fn g [.ptr 900 0]]), (900, T0, [.im (c0 s)])] (.int .i64 (idxS step s l 0)) [(3, 212, [.fn g [.ptr 900 0]]), (900, T0, [.im (c0 (anyS step s l).2)])] := by
  have hml : maxLen = 9223372036854775807 := rfl
  generalize hr : idxS step s l 0 = r
  generalize hq : (anyS step s l).2 = q0
  refine retD_of (L := L) lay_ok Try.func175 rfl Try.ntmps175 rfl rfl (fun bl => ?_)
  refine goq ?_
  refine go ?_
  refine awp_loopC (A := Nat × S) (B := Unit) (fun q => q.1 ≤ l.length ∧ idxS step q.2 (l.drop q.1) q.1 = r ∧ (anyS step q.2 (l.drop q.1)).2 = q0)
    (fun q => [(0, some (.im (mS grC l))), (1, some (.fn 172 [.ptr 3 0])), (6, some (.im (mS grC l))), (7, some (.im (.int .i64 (l.length : Nat)))), (8, some (.im (.int .i64 (q.1 : Nat))))]) (fun q => [(3, some (.bx (bl 3) 212 [.fn g [.ptr 900 0]])), (900, some (.bx (bl 900) T0 [.im (c0 q.2)]))]) (fun q => l.length - q.1)
    (fun _ => r = -1) (fun _ => []) (fun _ => [(3, some (.bx (bl 3) 212 [.fn g [.ptr 900 0]])), (900, some (.bx (bl 900) T0 [.im (c0 q0)]))]) (0, s) ⟨Nat.zero_le _, hr, hq⟩ ?_ ?_ ?_
  · exact gou0
  · rintro ⟨i, s⟩ ⟨h1, h2, h3⟩
    simp only [] at h1 h2 h3
    by_cases hlt : i < l.length
    · obtain ⟨a, ha⟩ : ∃ a, l[i]? = some a := ⟨l[i], List.getElem?_eq_getElem hlt⟩
      have hd : l.drop i = a :: l.drop (i + 1) := by
        obtain ⟨h, e⟩ := List.getElem?_eq_some_iff.1 ha
        rw [← e]; exact List.drop_eq_getElem_cons h
      rw [hd] at h2 h3
      unfold idxS at h2
      unfold anyS at h3
      have hgs := hg s a (List.mem_of_getElem? ha)
      refine go ?_
      refine awp_cT rfl (by rw [decide_eq_true_eq]; omega) ?_
      refine go ?_
      refine ar_atE (enc := grC) i a ha rfl rfl rfl rfl rfl (fun _ => rfl) rfl rfl ?_
      refine go ?_
      refine cld plain172 hgs ?_
      refine go ?_
      by_cases hb : (step s a).1 = true
      · refine awp_cT rfl hb ?_
        rw [if_pos hb] at h2 h3
        refine go ?_
        try rw [← h3]
        exact .inr ⟨⟨_, rfl, by rw [← h2]; rfl⟩, ⟨_, rfl, rfl⟩, ⟨_, rfl, rfl⟩, trivial⟩
      · refine awp_cF rfl ((Bool.not_eq_true _).mp hb) ?_
        rw [if_neg hb] at h2 h3
        refine go ?_
        refine ⟨(i + 1, (step s a).2), ⟨by show i + 1 ≤ _; omega, h2, h3⟩, ?_, by show l.length - (i + 1) < l.length - i; omega⟩
        exact gou0
    · have e : l.drop i = [] := List.drop_eq_nil_of_le (by omega)
      rw [e] at h2 h3
      refine go ?_
      refine awp_cF rfl (by rw [decide_eq_false_iff_not]; omega) ?_
      refine go ?_
      refine .inl ⟨rfl, (), h2.symm, ?_⟩
      try rw [← h3]
      exact gou0
  rintro _ h
  rw [h]
  refine go ?_
  exact ⟨⟨_, rfl, rfl⟩, ⟨_, rfl, rfl⟩, ⟨_, rfl, rfl⟩, trivial⟩
theorem conF_G1 {S : Type} {T0 : TypeId} {c0 : S → M} {step : S → List Int → Bool × S} {g : FuncId} {l : List (List Int)} (hl : l.length ≤ maxLen) (hg : ∀ s, ∀ a ∈ l, RetD Try.prog 172 [.im (mS niC a), .ptr 3 0] [(3, 212, [.fn g [.ptr 900 0]]), (900, T0, [.im (c0 s)])] (.bool (step s a).1) [(3, 212, [.fn g [.ptr 900 0]]), (900, T0, [.im (c0 (step s a).2)])]) (s : S) : RetD Try.prog 171 [.im (mS grC l), .fn 172 [.ptr 3 0]] [(3, 212, [.fn g [.ptr 900 0]]), (900, T0, [.im (c0 s)])] (.bool (anyS step s l).1) [(3, 212, [.fn g [.ptr 900 0]]), (900, T0, [.im (c0 (anyS step s l).2)])] := by
  have hi := idxF_G1 hl hg s
  refine retD_of (L := L) lay_ok Try.func171 rfl Try.ntmps171 rfl rfl (fun bl => ?_)
  refine goq ?_
  refine go ?_
  refine cld plain175 hi ?_
  refine go ?_
  exact ⟨⟨_, rfl, congrArg M.bool idx_any⟩, ⟨_, rfl, rfl⟩, ⟨_, rfl, rfl⟩, trivial⟩
theorem all_G1 {S : Type} {T0 : TypeId} {c0 : S → M} {step : S → List Int → Bool × S} {g : FuncId} (hp : Plain Try.prog g) {l : List (List Int)} (hl : l.length ≤ maxLen) (hg : ∀ s, ∀ a ∈ l, RetD Try.prog g [.im (mS niC a), .ptr 900 0] [(900, T0, [.im (c0 s)])] (.bool (step s a).1) [(900, T0, [.im (c0 (step s a).2)])]) (s : S) : RetD Try.prog 152 [.im (mS grC l), .fn g [.ptr 900 0]] [(900, T0, [.im (c0 s)])] (.bool (allS step s l)) [(900, T0, [.im (c0 (anyS (negS step) s l).2)])] := by
  have hc := conF_G1 hl (allF_G1 hp hl hg) s
  refine retD_of (L := L) lay_ok Try.func152 rfl Try.ntmps152 rfl rfl (fun bl => ?_)
  refine goq ?_
  refine go ?_
  refine cld plain171 hc ?_
  refine go ?_
  exact ⟨⟨_, rfl, rfl⟩, ⟨_, rfl, rfl⟩, trivial⟩
end Go.Proofs.Ytkbhchlecokpiaa
