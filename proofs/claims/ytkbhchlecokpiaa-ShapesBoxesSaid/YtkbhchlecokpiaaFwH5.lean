/- Networks and queries: whether they may be. -/
import Derived.Test.YtkbhchlecokpiaaFwH4b
namespace Go.Proofs.Ytkbhchlecokpiaa
open Go Go.RowKit Fw Tw Rat
set_option linter.unusedVariables false
set_option linter.unusedSimpArgs false
/-- the sizes behind layers, from these on; or an error -/
def goT : List Ly → List Int → Int → Int → List Int × Int
  | [], out, _, _ => (out, 0)
  | l :: ls, out, u, t =>
    if (behindT l u).1 < 0 then ([], 22)
    else if (behindT l u).1 > 256 ∨ IntKind.i64.wrap (t + (behindT l u).2) > 16384 then ([], 25)
    else goT ls (out ++ [(behindT l u).1]) (behindT l u).1 (IntKind.i64.wrap (t + (behindT l u).2))
def lookF (n : Nt) : List Int × Int := if n.inp < 1 ∨ n.inp > 64 ∨ (n.lay.length : Int) > 16 then ([], 25) else goT n.lay [n.inp] n.inp 0
structure NtOk (n : Nt) : Prop where
  lay : ∀ l ∈ n.lay, LyOk l
  len : n.lay.length ≤ 1000000
/-- no sizes where there is an error -/
def lookM (p : List Int × Int) : M := .tup [if p.2 = 0 then mS niC p.1 else .nil, .int .i64 p.2]
abbrev LKT (ls : List Ly) (i : Nat) (t : Int) (out : List Int) (id : Nat) : TL := [(30, some (.im (.int .i64 (i : Nat)))), (29, some (.im (.int .i64 (ls.length : Nat)))), (28, some (.im (mS lyC ls))), (5, some (.im (.int .i64 t))), (4, some (.row id out.length 1)), (2, some (.im .nil)), (3, some (.im (.int .i64 0)))]
abbrev LKH (out : List Int) (id : Nat) : HL := [(id, some (.rw 3 1 (out.flatMap niC)))]
theorem look_id {P : Program} {N : Nat} {c : Code} {K : KK} {ls : List Ly} {i : Nat} {t : Int} {out : List Int} {id : Nat} (hid : id = 26 ∨ id = 61) (key : Awp P N c K (LKT ls i t out 1061) (LKH out 1061)) : Awp P N c K (LKT ls i t out id) (LKH out id) := by
  rcases hid with rfl | rfl
  · refine awp_renRow (id := 26) (id' := 1061) (k := 4) rfl rfl rfl rfl ?_
    refine awp_sub (t' := LKT ls i t out 1061) (h' := LKH out 1061) ?_ key
    exact gou0
  · refine awp_renRow (id := 61) (id' := 1061) (k := 4) rfl rfl rfl rfl ?_
    refine awp_sub (t' := LKT ls i t out 1061) (h' := LKH out 1061) ?_ key
    exact gou0
theorem last_flat {out : List Int} {u : Int} (h : out.getLast? = some u) : (out.flatMap niC)[out.length - 1]? = some (.int .i64 u) := by
  have e : ∀ l : List Int, l.flatMap niC = l.map (fun n => M.int .i64 n) := by
    intro l
    induction l with
    | nil => rfl
    | cons a l ih => rw [List.flatMap_cons, ih]; rfl
  rw [e, List.getElem?_map]
  rw [List.getLast?_eq_getElem?] at h
  rw [h]
  rfl
set_option maxHeartbeats 16000000 in
set_option maxRecDepth 100000 in
theorem look_r {n : Nt} (ok : NtOk n) : Ret Try.prog 54 [.agg (ntC n)] (lookM (lookF n)) := by
  obtain ⟨inp, ls⟩ := n
  have okl := ok.lay
  have okn := ok.len
  dsimp only at okl okn
  have hb : lookF ⟨inp, ls⟩ = lookF ⟨inp, ls⟩ := rfl
  conv at hb => rhs; unfold lookF
  dsimp only at hb
  generalize lookF ⟨inp, ls⟩ = res at hb ⊢
  by_cases c1 : inp < 1
  · rw [if_pos (.inl c1)] at hb
    subst hb
    refine ret_of (L := L) lay_ok Try.func54 rfl Try.ntmps54 rfl ?_
    refine goq ?_
    refine go ?_
    refine ar_eq 13 rfl (d' := .im (.bool true)) (eqt (decide_eq_true c1)) ?_
    refine go ?_
    exact ⟨_, rfl, rfl⟩
  by_cases c2 : inp > 64
  · rw [if_pos (.inr (.inl c2))] at hb
    subst hb
    refine ret_of (L := L) lay_ok Try.func54 rfl Try.ntmps54 rfl ?_
    refine goq ?_
    refine go ?_
    refine ar_eq 13 rfl (d' := .im (.bool false)) (eqt (decide_eq_false c1)) ?_
    refine go ?_
    refine ar_eq 18 rfl (d' := .im (.bool true)) (eqt (decide_eq_true c2)) ?_
    refine go ?_
    exact ⟨_, rfl, rfl⟩
  by_cases c3 : (ls.length : Int) > 16
  · rw [if_pos (.inr (.inr c3))] at hb
    subst hb
    refine ret_of (L := L) lay_ok Try.func54 rfl Try.ntmps54 rfl ?_
    refine goq ?_
    refine go ?_
    refine ar_eq 13 rfl (d' := .im (.bool false)) (eqt (decide_eq_false c1)) ?_
    refine go ?_
    refine ar_eq 18 rfl (d' := .im (.bool false)) (eqt (decide_eq_false c2)) ?_
    refine go ?_
    refine awp_cT rfl (decide_eq_true c3) ?_
    refine go ?_
    exact ⟨_, rfl, rfl⟩
  rw [if_neg (by rintro (h | h | h) <;> contradiction)] at hb
  refine ret_of (L := L) lay_ok Try.func54 rfl Try.ntmps54 rfl ?_
  refine goq ?_
  refine go ?_
  refine ar_eq 13 rfl (d' := .im (.bool false)) (eqt (decide_eq_false c1)) ?_
  refine go ?_
  refine ar_eq 18 rfl (d' := .im (.bool false)) (eqt (decide_eq_false c2)) ?_
  refine go ?_
  refine awp_cF rfl (decide_eq_false c3) ?_
  refine go ?_
  refine awp_loopC (A := Nat × List Int × Int × Int × Nat) (B := List Int) (fun q => q.1 ≤ ls.length ∧ goT (ls.drop q.1) q.2.1 q.2.2.1 q.2.2.2.1 = res ∧ q.2.1.getLast? = some q.2.2.1 ∧ q.2.1.length = q.1 + 1 ∧ (q.2.2.2.2 = 26 ∨ q.2.2.2.2 = 61))
    (fun q => LKT ls q.1 q.2.2.2.1 q.2.1 q.2.2.2.2) (fun q => LKH q.2.1 q.2.2.2.2) (fun q => ls.length - q.1)
    (fun out => res = (out, 0)) (fun out => [(4, some (.im (mS niC out)))]) (fun _ => []) (0, [inp], inp, 0, 26) ⟨Nat.zero_le _, hb.symm, rfl, rfl, .inl rfl⟩ ?_ ?_ ?_
  · exact gou0
  · rintro ⟨i, out, u, t, id⟩ ⟨h1, h2, h3, h4, hid⟩
    simp only [] at h1 h2 h3 h4 hid
    refine look_id hid ?_
    change Awp _ _ _ _ (LKT ls i t out 1061) (LKH out 1061)
    by_cases hlt : i < ls.length
    · obtain ⟨l, hl⟩ : ∃ l, ls[i]? = some l := ⟨ls[i], List.getElem?_eq_getElem hlt⟩
      have hd : ls.drop i = l :: ls.drop (i + 1) := by
        obtain ⟨h, e⟩ := List.getElem?_eq_some_iff.1 hl
        rw [← e]; exact List.drop_eq_getElem_cons h
      rw [hd] at h2
      unfold goT at h2
      have hbh := behind_r (n := u) (okl l (List.mem_of_getElem? hl))
      have hlast := last_flat h3
      generalize behindT l u = b at hbh h2
      obtain ⟨bu, bm⟩ := b
      dsimp only at h2 hbh
      obtain ⟨kind, rows, bias, ch, high, wide, ou, kh, kw, st, pad, ker, grp⟩ := l
      refine go ?_
      refine awp_cT rfl (by rw [decide_eq_true_eq]; omega) ?_
      refine go ?_
      refine ar_atE (enc := lyC) i _ hl rfl rfl rfl rfl rfl (fun _ => rfl) rfl rfl ?_
      refine go ?_
      refine ar_indexR (wantF_ok rfl) rfl rfl rfl rfl rfl rfl rfl ⟨by omega, by omega⟩ (o' := out.length - 1) (by omega) ?_
      refine ar_loadR (wantF_ok rfl) rfl rfl rfl rfl rfl hlast ?_
      refine go ?_
      refine cl (by exact rfl) plain84 rfl hbh ?_
      refine go ?_
      by_cases d1 : bu < 0
      · rw [if_pos d1] at h2
        subst h2
        refine awp_cT rfl (decide_eq_true d1) ?_
        refine go ?_
        exact .inr ⟨_, rfl, rfl⟩
      rw [if_neg d1] at h2
      refine awp_cF rfl (decide_eq_false d1) ?_
      refine go ?_
      by_cases d2 : bu > 256
      · rw [if_pos (.inl d2)] at h2
        subst h2
        refine ar_eq 54 rfl (d' := .im (.bool true)) (eqt (decide_eq_true d2)) ?_
        refine go ?_
        exact .inr ⟨_, rfl, rfl⟩
      refine ar_eq 54 rfl (d' := .im (.bool false)) (eqt (decide_eq_false d2)) ?_
      refine go ?_
      by_cases d3 : IntKind.i64.wrap (t + bm) > 16384
      · rw [if_pos (.inr d3)] at h2
        subst h2
        refine awp_cT rfl (decide_eq_true d3) ?_
        refine go ?_
        exact .inr ⟨_, rfl, rfl⟩
      rw [if_neg (by rintro (h | h) <;> contradiction)] at h2
      refine awp_cF rfl (decide_eq_false d3) ?_
      refine go ?_
      refine ar_app1 (enc := niC) (l := out) (a := bu) rfl rfl rfl rfl rfl rfl rfl (fun _ => rfl) rfl rfl rfl rfl rfl rfl rfl (by rw [List.length_append]; show (out.length + 1) * 8 ≤ _; omega) (by rw [List.length_append]; show out.length + 1 ≤ _; omega) rfl ?_
      refine go ?_
      refine ⟨(i + 1, out ++ [bu], bu, IntKind.i64.wrap (t + bm), 61), ⟨by show i + 1 ≤ _; omega, h2, by simp, by rw [List.length_append]; show out.length + 1 = i + 1 + 1; omega, .inr rfl⟩, ?_, by show ls.length - (i + 1) < ls.length - i; omega⟩
      exact gou0
    · have e : ls.drop i = [] := List.drop_eq_nil_of_le (by omega)
      rw [e] at h2
      unfold goT at h2
      refine go ?_
      refine awp_cF rfl (by rw [decide_eq_false_iff_not]; omega) ?_
      refine awp_frzRow (id := 1061) (k := 4) rfl rfl (by rw [flatMap_len (show ∀ x : Int, (niC x).length = 1 from fun _ => rfl)]; exact Nat.le_refl _) (List.take_of_length_le (by rw [flatMap_len (show ∀ x : Int, (niC x).length = 1 from fun _ => rfl)]; exact Nat.le_refl _)) ?_
      refine go ?_
      refine .inl ⟨rfl, out, h2.symm, ?_⟩
      exact gou0
  rintro out h
  rw [h]
  refine go ?_
  exact ⟨_, rfl, rfl⟩
theorem check_r {n : Nt} (ok : NtOk n) : Ret Try.prog 21 [.agg (ntC n)] (.int .i64 (lookF n).2) := by
  have h := look_r ok
  obtain ⟨inp, ls⟩ := n
  generalize lookF ⟨inp, ls⟩ = p at *
  obtain ⟨out, e⟩ := p
  refine ret_of (L := L) lay_ok Try.func21 rfl Try.ntmps21 rfl ?_
  refine goq ?_
  refine go ?_
  refine cl (by exact rfl) plain54 rfl h ?_
  refine go ?_
  exact ⟨_, rfl, rfl⟩
theorem sizes_r {n : Nt} (ok : NtOk n) : Ret Try.prog 22 [.agg (ntC n)] (if (lookF n).2 = 0 then mS niC (lookF n).1 else .nil) := by
  have h := look_r ok
  obtain ⟨inp, ls⟩ := n
  generalize lookF ⟨inp, ls⟩ = p at *
  obtain ⟨out, e⟩ := p
  unfold lookM at h
  dsimp only at h ⊢
  generalize (if e = 0 then mS niC out else M.nil) = m at *
  refine ret_of (L := L) lay_ok Try.func22 rfl Try.ntmps22 rfl ?_
  refine goq ?_
  refine go ?_
  refine cl (by exact rfl) plain54 rfl h ?_
  refine go ?_
  exact ⟨_, rfl, rfl⟩
end Go.Proofs.Ytkbhchlecokpiaa
