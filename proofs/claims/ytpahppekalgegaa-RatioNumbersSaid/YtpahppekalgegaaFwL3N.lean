/- The fixed examples of layer 3. -/
import Derived.Test.YtpahppekalgegaaFwL3
import Derived.Test.YtpahppekalgegaaFwP4c
namespace Go.Proofs.Ytpahppekalgegaa
open Go Go.RowKit Fw Tw
set_option linter.unusedVariables false
set_option linter.unusedSimpArgs false
theorem repeat_r {s : List UInt8} {c : Nat} (hc : c ≤ 9223372036854775807) (h : s.length * c ≤ 140737488355328) : Ret Try.prog 21 [.str s, .int .i64 (c : Nat)] (.str (Lib.repeatL s c)) := by
  intro ok w vs hv
  obtain ⟨v, v', rfl, h1, h2⟩ := rmt2 hv
  simp only [RM] at h1 h2
  rw [h1, h2]
  refine (Try.strings_Repeat ⟨s.toArray⟩ c w hc (by show s.toArray.size * c ≤ _; simpa using h)).mono ?_
  rintro e w' ⟨rfl, hb⟩
  exact ⟨_, rfl, by simp only [RM], hb⟩
def mt (s : List UInt8) : List M := [.str s]
def noNum : List (List UInt8) := [[], [45], [45, 48], [48, 48, 55], [43, 53], [49, 32, 50], [48, 120, 49], [49, 46, 53], [45, 45, 49], [49, 45], [32, 49], [48, 48], [45, 48, 49], [49, 195, 169]]
theorem noNum_all : ∀ s ∈ noNum, parseZ s = (0, 11) ∧ s.length ≤ 700 := by decide
def ones : List UInt8 := Lib.repeatL [49] 600
def nums : List (List UInt8) := [[49] ++ Lib.repeatL [48] 18, [49] ++ Lib.repeatL [48] 17, ([45, 53] ++ Lib.repeatL [48] 36) ++ [55], [57] ++ Lib.repeatL [57] 17, [48], [45, 49], [49] ++ Lib.repeatL [48] 54]
theorem nums_all : ∀ s ∈ nums, (parseZ s).2 = 0 ∧ s.length ≤ 700 := by decide +kernel
theorem parse0_r {s : List UInt8} (h : (parseZ s).2 = 0) (hs : s.length ≤ 700) : Ret Try.prog 15 [.str s] (.tup [mI (parseZ s).1, .int .i64 0]) := by
  have := parse_r (s := s) (by unfold maxLen; omega)
  rwa [h] at this
theorem text0_r {s : List UInt8} (h : (parseZ s).2 = 0) : Ret Try.prog 17 [mI (parseZ s).1] (.str s) := by
  have := text_r (isZ_mI (parse_val h)) (by omega)
  rwa [text_parse h] at this
theorem ones_0 : (parseZ ones).2 = 0 ∧ ones.length = 600 := by decide +kernel
theorem parseE_r {s : List UInt8} {e : Int} (h : (parseZ s).2 = e) (hs : s.length ≤ 700) : Ret Try.prog 15 [.str s] (.tup [mI (parseZ s).1, .int .i64 e]) := by
  have := parse_r (s := s) (by unfold maxLen; omega)
  rwa [h] at this
set_option maxHeartbeats 4000000 in
theorem dnumbers_r : Ret Try.prog 4 [] (.bool true) := by
  obtain ⟨o0, ol⟩ := ones_0
  have ro : Ret Try.prog 21 [.str [49], .int .i64 600] (.str ones) := repeat_r (s := [49]) (c := 600) (by omega) (by decide)
  have r1 : Ret Try.prog 21 [.str [48], .int .i64 18] (.str (Lib.repeatL [48] 18)) := repeat_r (c := 18) (by omega) (by decide)
  have r2 : Ret Try.prog 21 [.str [48], .int .i64 17] (.str (Lib.repeatL [48] 17)) := repeat_r (c := 17) (by omega) (by decide)
  have r3 : Ret Try.prog 21 [.str [48], .int .i64 36] (.str (Lib.repeatL [48] 36)) := repeat_r (c := 36) (by omega) (by decide)
  have r4 : Ret Try.prog 21 [.str [57], .int .i64 17] (.str (Lib.repeatL [57] 17)) := repeat_r (c := 17) (by omega) (by decide)
  have r5 : Ret Try.prog 21 [.str [48], .int .i64 54] (.str (Lib.repeatL [48] 54)) := repeat_r (c := 54) (by omega) (by decide)
  have po := parse0_r o0 (by omega)
  have tx := text0_r o0
  have pf := parseE_r (s := ones ++ [49]) (e := 3) (by decide +kernel) (by rw [List.length_append, ol]; simp)
  have pg := parseE_r (s := ([45] ++ ones) ++ [120]) (e := 11) (by decide +kernel) (by rw [List.length_append, List.length_append, ol]; simp)
  have iz : IsZ (.agg [.bool true, mW [0, 0]]) 0 2 := ⟨true, [0, 0], rfl, fun x hx => by simp at hx; unfold W; omega, Nat.le_refl _, rfl⟩
  have tz := text_r iz (by omega)
  generalize ones = on at *
  refine ret_of (L := L) lay_ok Try.func4 rfl Try.ntmps4 rfl ?_
  refine go ?_
  refine awp_frzRow (id := 16) (k := 16) (cs' := noNum.flatMap mt) rfl rfl (by decide) rfl ?_
  refine awp_loopC (A := Nat) (B := Unit) (fun i => i ≤ 14) (fun i => [(18, some (.im (.int .i64 (i : Nat)))), (17, some (.im (.int .i64 14))), (16, some (.im (mS mt noNum)))]) (fun _ => []) (fun i => 14 - i)
    (fun _ => True) (fun _ => []) (fun _ => []) 0 (by omega) ?_ ?_ ?_
  · exact gou0
  · rintro i hi
    rcases Nat.lt_or_ge i 14 with hlt | hge
    · obtain ⟨g1, g2⟩ := noNum_all _ (List.getElem_mem (show i < noNum.length from hlt))
      have ps := parsel_r g2 g1
      refine go ?_
      refine awp_cT rfl (by rw [decide_eq_true_eq]; omega) ?_
      refine go ?_
      refine ar_at (enc := mt) (l := noNum) i rfl rfl rfl rfl rfl (fun _ => rfl) rfl rfl hlt ?_
      refine go ?_
      refine cl (by exact rfl) plain15 rfl ps ?_
      refine go ?_
      refine awp_cF rfl (by rw [show Int.natAbs 0 = 0 from rfl, digs_zero]; rfl) ?_
      refine go ?_
      refine ⟨i + 1, by omega, ?_, by omega⟩
      exact gou0
    · have : i = 14 := by omega
      subst this
      refine go ?_
      refine .inl ⟨rfl, (), trivial, ?_⟩
      exact gou0
  rintro _ -
  refine go ?_
  refine cl (by exact rfl) plain21 rfl ro ?_
  refine go ?_
  refine cl (by exact rfl) plain15 rfl po ?_
  refine go ?_
  refine ar_addStr (wantF_ok rfl) rfl rfl rfl (by rw [ol]; simp) ?_
  refine cl (by exact rfl) plain15 rfl pf ?_
  refine go ?_
  refine ar_addStr (wantF_ok rfl) rfl rfl rfl (by rw [ol]; simp) ?_
  refine ar_addStr (wantF_ok rfl) rfl rfl rfl (by rw [List.length_append, ol]; simp) ?_
  refine cl (by exact rfl) plain15 rfl pg ?_
  refine go ?_
  refine cl (by exact rfl) plain21 rfl r1 ?_
  refine ar_addStr (wantF_ok rfl) rfl rfl rfl (by decide +kernel) ?_
  refine cl (by exact rfl) plain21 rfl r2 ?_
  refine ar_addStr (wantF_ok rfl) rfl rfl rfl (by decide +kernel) ?_
  refine cl (by exact rfl) plain21 rfl r3 ?_
  refine ar_addStr (wantF_ok rfl) rfl rfl rfl (by decide +kernel) ?_
  refine ar_addStr (wantF_ok rfl) rfl rfl rfl (by decide +kernel) ?_
  refine cl (by exact rfl) plain21 rfl r4 ?_
  refine ar_addStr (wantF_ok rfl) rfl rfl rfl (by decide +kernel) ?_
  refine cl (by exact rfl) plain21 rfl r5 ?_
  refine ar_addStr (wantF_ok rfl) rfl rfl rfl (by decide +kernel) ?_
  refine go ?_
  refine awp_frzRow (id := 70) (k := 70) (cs' := nums.flatMap mt) rfl rfl (by decide) rfl ?_
  refine awp_loopC (A := Nat) (B := Unit) (fun i => i ≤ 7) (fun i => [(72, some (.im (.int .i64 (i : Nat)))), (71, some (.im (.int .i64 7))), (70, some (.im (mS mt nums))), (5, some (.im (.str on))), (6, some (.ptr 6 0)), (7, some (.im (.int .i64 0))), (9, some (.im (.int .i64 3))), (11, some (.im (.int .i64 11)))]) (fun _ => [(6, some (.box 24 [.im (.bool (decide ((parseZ on).1 < 0))), .im (mN (parseZ on).1.natAbs)]))]) (fun i => 7 - i)
    (fun _ => True) (fun _ => [(5, some (.im (.str on))), (6, some (.ptr 6 0)), (7, some (.im (.int .i64 0))), (9, some (.im (.int .i64 3))), (11, some (.im (.int .i64 11)))]) (fun _ => [(6, some (.box 24 [.im (.bool (decide ((parseZ on).1 < 0))), .im (mN (parseZ on).1.natAbs)]))]) 0 (by omega) ?_ ?_ ?_
  · exact gou0
  · rintro i hi
    rcases Nat.lt_or_ge i 7 with hlt | hge
    · obtain ⟨g1, g2⟩ := nums_all _ (List.getElem_mem (show i < nums.length from hlt))
      have ps := parse0_r g1 g2
      have ts := text0_r g1
      refine go ?_
      refine awp_cT rfl (by rw [decide_eq_true_eq]; omega) ?_
      refine go ?_
      refine ar_at (enc := mt) (l := nums) i rfl rfl rfl rfl rfl (fun _ => rfl) rfl rfl hlt ?_
      refine go ?_
      refine cl (by exact rfl) plain15 rfl ps ?_
      refine go ?_
      refine cl (by exact rfl) plain17 rfl ts ?_
      refine go ?_
      refine awp_cF rfl (by rw [Bool.not_eq_false', beq_iff_eq]; rfl) ?_
      refine go ?_
      refine ⟨i + 1, by omega, ?_, by omega⟩
      exact gou0
    · have : i = 7 := by omega
      subst this
      refine go ?_
      refine .inl ⟨rfl, (), trivial, ?_⟩
      exact gou0
  rintro _ -
  refine go ?_
  refine cl (by exact rfl) plain17 rfl tx ?_
  refine go ?_
  refine ar_eq 98 rfl (d' := .im (.bool true)) (eqt (beq_self_eq_true _)) ?_
  refine go ?_
  refine clz (by exact rfl) plain17 rfl tz ?_
  refine go ?_
  refine cl (by exact rfl) plain13 rfl awake3_r ?_
  refine go ?_
  refine ⟨_, rfl, ?_⟩
  rfl
end Go.Proofs.Ytpahppekalgegaa
