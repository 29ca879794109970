/- A layer: its sizes, whether it fits. -/
import Derived.Test.YtkbhchlecokpiaaFwH2
import Derived.Test.YtkbhchlecokpiaaFwCj
namespace Go.Proofs.Ytkbhchlecokpiaa
open Go Go.RowKit Fw Tw Rat
set_option linter.unusedVariables false
set_option linter.unusedSimpArgs false
def sidesL (l : Ly) : List Int := [l.ch, l.high, l.wide, l.out, l.kh, l.kw, l.st]
theorem sides_rr (l : Ly) : RetR Try.prog 146 [.agg (lyC l)] 3 1 7 ((sidesL l).flatMap niC) := by
  obtain ⟨kind, rows, bias, ch, high, wide, out, kh, kw, st, pad, ker, grp⟩ := l
  refine retR_of (L := L) lay_ok Try.func146 rfl Try.ntmps146 rfl rfl (by omega) ?_
  refine goq ?_
  refine go ?_
  exact ⟨17, rfl, rfl⟩
theorem sides_r (l : Ly) : Ret Try.prog 146 [.agg (lyC l)] (mS niC (sidesL l)) := by
  obtain ⟨kind, rows, bias, ch, high, wide, out, kh, kw, st, pad, ker, grp⟩ := l
  refine ret_of (L := L) lay_ok Try.func146 rfl Try.ntmps146 rfl ?_
  refine goq ?_
  refine go ?_
  exact ⟨_, rfl, rfl⟩
theorem noth1_r (n : Int) : Ret Try.prog 147 [.int .i64 n] (.bool (n == 0)) := by
  refine ret_of (L := L) lay_ok Try.func147 rfl Try.ntmps147 rfl ?_
  refine goq ?_
  refine go ?_
  refine ⟨_, rfl, ?_⟩
  rfl
def sideI (n : Int) : Bool := decide (n ≥ 1) && decide (n ≤ 256)
theorem conv1_r (n : Int) : Ret Try.prog 151 [.int .i64 n] (.bool (sideI n)) := by
  unfold sideI
  by_cases h : n ≥ 1
  · refine ret_of (L := L) lay_ok Try.func151 rfl Try.ntmps151 rfl ?_
    refine goq ?_
    refine go ?_
    refine ar_eq 5 rfl (d' := .im (.bool true)) (eqt (decide_eq_true h)) ?_
    refine go ?_
    refine ⟨_, rfl, ?_⟩
    show M.bool _ = M.bool _
    rw [decide_eq_true h]; rfl
  · refine ret_of (L := L) lay_ok Try.func151 rfl Try.ntmps151 rfl ?_
    refine goq ?_
    refine go ?_
    refine ar_eq 5 rfl (d' := .im (.bool false)) (eqt (decide_eq_false h)) ?_
    refine go ?_
    refine ⟨_, rfl, ?_⟩
    show M.bool _ = M.bool _
    rw [decide_eq_false h]; rfl
/-- are all of a list of numbers so, by a function that looks at the number alone -/
theorem allI_r {p : Int → Bool} {g : FuncId} (hp : Plain Try.prog g) (hg : ∀ n, Ret Try.prog g [.int .i64 n] (.bool (p n))) {l : List Int} (hl : l.length ≤ maxLen) : Ret Try.prog 145 [mS niC l, .fn g] (.bool (l.all p)) := by
  have := all_I0 (S := Unit) (step := fun s a => (p a, s)) hp hl (fun s a ha => (hg a).toD) ()
  rw [allS_unit] at this
  exact RetD.toRet (ms := [mS niC l, .fn g]) this
theorem allR_r {k : Nat} (hk : 1 ≤ k) (hk9 : k ≤ 9000) {l : List RQ} (hl : l.length ≤ maxLen) (hw : ∀ r ∈ l, WfQ r k) : Ret Try.prog 55 [mS rqC l, .fn 56] (.bool (l.all formedR)) := by
  have := all_R0 (S := Unit) (step := fun s a => (formedR a, s)) plain56 hl (fun s a ha => (formed_r (hw a ha) hk hk9).toD) ()
  rw [allS_unit] at this
  exact RetD.toRet (ms := [mS rqC l, .fn 56]) this
def nothingT (l : Ly) : Bool := (sidesL l ++ [l.pad]).all (· == 0)
theorem nothing_r (l : Ly) : Ret Try.prog 115 [.agg (lyC l)] (.bool (nothingT l)) := by
  have hs := sides_rr l
  have ha := allI_r plain147 noth1_r (l := sidesL l ++ [l.pad]) (by show 8 ≤ _; unfold maxLen; omega)
  unfold nothingT
  obtain ⟨kind, rows, bias, ch, high, wide, out, kh, kw, st, pad, ker, grp⟩ := l
  refine ret_of (L := L) lay_ok Try.func115 rfl Try.ntmps115 rfl ?_
  refine goq ?_
  refine go ?_
  refine clr plain146 hs ?_
  refine go ?_
  refine ar_app1 (enc := niC) (l := [ch, high, wide, out, kh, kw, st]) (a := pad) rfl rfl rfl rfl rfl rfl rfl (fun _ => rfl) rfl rfl rfl rfl rfl rfl rfl (by show 8 * 8 ≤ _; omega) (by show 8 ≤ _; omega) rfl ?_
  refine go ?_
  refine clz (by exact rfl) plain145 rfl ha ?_
  refine go ?_
  refine ⟨_, rfl, ?_⟩
  rfl
theorem beh1_r {v : List Tm} {n : Int} (hl : v.length ≤ 1000000000) (hw : ∀ t ∈ v, WfQ t.x 1000) {T0 : TypeId} : RetD Try.prog 117 [.im (mS tmC v), .ptr 900 0] [(900, T0, [.im (.int .i64 n)])] (.bool (rightT n (-1) v)) [(900, T0, [.im (.int .i64 n)])] := by
  have hr := right_r (n := n) hl hw
  refine retD_of (L := L) lay_ok Try.func117 rfl Try.ntmps117 rfl rfl (fun bl => ?_)
  refine goq ?_
  refine go ?_
  refine cl (by exact rfl) plain118 rfl hr ?_
  refine go ?_
  exact ⟨⟨_, rfl, rfl⟩, ⟨_, rfl, rfl⟩, trivial⟩
/-- numbers that rise, below a number -/
def ascT (n : Int) : Int → List Int → Bool
  | _, [] => true
  | last, i :: g => (decide (i > last) && decide (i < n)) && ascT n i g
theorem asc_all {n : Int} : ∀ {g : List Int} {last : Int}, allS (fun s a => (decide (a > s) && decide (a < n), a)) last g = ascT n last g
  | [], last => rfl
  | i :: g, last => by
    have ih := asc_all (n := n) (g := g) (last := i)
    unfold allS at ih ⊢
    unfold anyS negS ascT
    dsimp only
    by_cases hb : (decide (i > last) && decide (i < n)) = true
    · simp only [hb, Bool.not_true, Bool.false_eq_true, if_false, Bool.true_and]
      exact ih
    · simp only [(Bool.not_eq_true _).mp hb, Bool.not_false, if_true, Bool.not_true, Bool.false_and]
theorem pool11_r {a last n : Int} {T0 T1 : TypeId} : RetD Try.prog 154 [.im (.int .i64 a), .ptr 900 0, .ptr 901 0] [(900, T0, [.im (.int .i64 last)]), (901, T1, [.im (.int .i64 n)])] (.bool (decide (a > last) && decide (a < n))) [(900, T0, [.im (.int .i64 a)]), (901, T1, [.im (.int .i64 n)])] := by
  by_cases h : a > last
  · rw [decide_eq_true h, Bool.true_and]
    refine retD_of (L := L) lay_ok Try.func154 rfl Try.ntmps154 rfl rfl (fun bl => ?_)
    refine goq ?_
    refine go ?_
    refine ar_eq 9 rfl (d' := .im (.bool true)) (eqt (decide_eq_true h)) ?_
    refine go ?_
    exact ⟨⟨_, rfl, rfl⟩, ⟨_, rfl, rfl⟩, ⟨_, rfl, rfl⟩, trivial⟩
  · rw [decide_eq_false h, Bool.false_and]
    refine retD_of (L := L) lay_ok Try.func154 rfl Try.ntmps154 rfl rfl (fun bl => ?_)
    refine goq ?_
    refine go ?_
    refine ar_eq 9 rfl (d' := .im (.bool false)) (eqt (decide_eq_false h)) ?_
    refine go ?_
    exact ⟨⟨_, rfl, rfl⟩, ⟨_, rfl, rfl⟩, ⟨_, rfl, rfl⟩, trivial⟩
def groupT (n : Int) (g : List Int) : Bool := decide ((g.length : Int) ≥ 1) && ascT n (-1) g
theorem sg_inj2 {bs : Bd} {σ : Nat → Nat} (is : List Nat) (hi : bs.map (·.1) = is) (h : ∀ p ∈ is, ∀ q ∈ is, σ p = σ q → p = q) : ∀ p ∈ bs, ∀ q ∈ bs, σ p.1 = σ q.1 → p.1 = q.1 := by
  subst hi
  exact fun p hp q hq => h p.1 (List.mem_map.2 ⟨p, hp, rfl⟩) q.1 (List.mem_map.2 ⟨q, hq, rfl⟩)
theorem pool1_r {g : List Int} {n : Int} (hl : g.length ≤ maxLen) {T1 : TypeId} : RetD Try.prog 153 [.im (mS niC g), .ptr 900 0] [(900, T1, [.im (.int .i64 n)])] (.bool (groupT n g)) [(900, T1, [.im (.int .i64 n)])] := by
  have ha := all_I2 (T0 := 3) (T1 := T1) (c0 := fun s : Int => .int .i64 s) (c1 := fun _ => .int .i64 n) (step := fun s a => (decide (a > s) && decide (a < n), a)) plain154 hl (fun s a ha => pool11_r) (-1)
  have hb := ha.ren (sg [(900, 4), (901, 900)]) (sg_inj2 [900, 901] rfl (by decide))
  rw [asc_all] at hb
  unfold groupT
  by_cases h : g.length = 0
  · refine retD_of (L := L) lay_ok Try.func153 rfl Try.ntmps153 rfl rfl (fun bl => ?_)
    refine goq ?_
    refine go ?_
    refine ar_eq 8 rfl (d' := .im (.bool false)) (eqt (by rw [decide_eq_false_iff_not]; omega)) ?_
    refine go ?_
    refine ⟨⟨_, rfl, ?_⟩, ⟨_, rfl, rfl⟩, trivial⟩
    show M.bool _ = M.bool _
    rw [decide_eq_false (show ¬ (g.length : Int) ≥ 1 by omega)]; rfl
  · have h1 : decide ((g.length : Int) ≥ 1) = true := decide_eq_true (by omega)
    rw [h1, Bool.true_and]
    refine retD_of (L := L) lay_ok Try.func153 rfl Try.ntmps153 rfl rfl (fun bl => ?_)
    refine goq ?_
    refine go ?_
    refine ar_eq 8 rfl (d' := .im (.bool true)) (eqt h1) ?_
    refine go ?_
    refine cld plain145 hb ?_
    refine go ?_
    exact ⟨⟨_, rfl, rfl⟩, ⟨_, rfl, rfl⟩, trivial⟩
def poolT (l : Ly) (n : Int) : Bool := decide ((l.grp.length : Int) ≥ 1) && l.grp.all (groupT n)
theorem pool_r {l : Ly} {n : Int} (hl : l.grp.length ≤ maxLen) (hg : ∀ g ∈ l.grp, g.length ≤ maxLen) : Ret Try.prog 121 [.agg (lyC l), .int .i64 n] (.bool (poolT l n)) := by
  have ha := all_G1 (S := Unit) (T0 := 3) (c0 := fun _ => .int .i64 n) (step := fun s a => (groupT n a, s)) plain153 hl (fun s a ha => pool1_r (hg a ha)) ()
  have hb := ha.ren (sg [(900, 3)]) (sg_inj2 [900] rfl (by decide))
  rw [allS_unit] at hb
  unfold poolT
  obtain ⟨kind, rows, bias, ch, high, wide, out, kh, kw, st, pad, ker, grp⟩ := l
  dsimp only at hb hl ⊢
  by_cases h : grp.length = 0
  · refine ret_of (L := L) lay_ok Try.func121 rfl Try.ntmps121 rfl ?_
    refine goq ?_
    refine go ?_
    refine ar_eq 9 rfl (d' := .im (.bool false)) (eqt (decide_eq_false (show ¬ (grp.length : Int) ≥ 1 by omega))) ?_
    refine go ?_
    refine ⟨_, rfl, ?_⟩
    show M.bool _ = M.bool _
    rw [decide_eq_false (show ¬ (grp.length : Int) ≥ 1 by omega)]; rfl
  · have h1 : decide ((grp.length : Int) ≥ 1) = true := decide_eq_true (by omega)
    rw [h1, Bool.true_and]
    refine ret_of (L := L) lay_ok Try.func121 rfl Try.ntmps121 rfl ?_
    refine goq ?_
    refine go ?_
    refine ar_eq 9 rfl (d' := .im (.bool true)) (eqt h1) ?_
    refine go ?_
    refine cld plain152 hb ?_
    refine go ?_
    refine ⟨_, rfl, ?_⟩
    rfl
end Go.Proofs.Ytkbhchlecokpiaa
