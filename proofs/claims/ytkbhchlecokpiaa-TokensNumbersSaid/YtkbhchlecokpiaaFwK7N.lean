/- The fixed examples of layer 9. -/
import Derived.Test.YtkbhchlecokpiaaFwK7
import Derived.Test.YtkbhchlecokpiaaShelfS
namespace Go.Proofs.Ytkbhchlecokpiaa
open Go Go.RowKit Fw Tw Rat
set_option linter.unusedVariables false
set_option linter.unusedSimpArgs false
theorem rep9_r {s : List UInt8} {c : Nat} (hc : c ≤ 9223372036854775807) (h : s.length * c ≤ 140737488355328) : Ret Try.prog 40 [.str s, .int .i64 (c : Nat)] (.str (Lib.repeatL s c)) := by
  intro ok w vs hv
  obtain ⟨v, v', rfl, h1, h2⟩ := rmt2 hv
  simp only [RM] at h1 h2
  rw [h1, h2]
  refine (Try.strings_Repeat ⟨s.toArray⟩ c w hc (by show s.toArray.size * c ≤ _; simpa using h)).mono ?_
  rintro e w' ⟨rfl, hb⟩
  exact ⟨_, rfl, by simp only [RM], hb⟩
def mt9 (s : List UInt8) : List M := [.str s]
def noTok : List (List UInt8) := [[65], [43, 49], [47], [45], [49, 46, 53], [97, 95, 98], [40], [34], [255], [49, 47, 45, 50], [48, 48, 55], [45, 48], [45, 45, 49], [49, 47, 47, 50], [59], [97, 61, 98]]
def pre9 : List UInt8 := [10, 10, 35, 32, 97, 10, 32, 120, 58]
theorem noTok_all : ∀ s ∈ noTok, noB s 20 1 = true ∧ noB (pre9 ++ s) 20 4 = true ∧ s.length ≤ 4 := by decide +kernel
def sev9 : List UInt8 := Lib.repeatL [55] 601
theorem blank_all : ∀ c, ∀ x ∈ Lib.repeatL [32] c, x = 32
  | 0, x, h => by simp [Lib.repeatL] at h
  | c + 1, x, h => by
    simp only [Lib.repeatL, List.cons_append, List.nil_append, List.mem_cons] at h
    rcases h with h | h
    · exact h
    · exact blank_all c x h
theorem blank_tok {l : List UInt8} (h : ∀ x ∈ l, x = 32) (hl : l.length ≤ 262144) : tokensT l = .inl [⟨1, [], none, 1⟩] := by
  have e : l.dropWhile isGap = [] := by
    clear hl
    induction l with
    | nil => rfl
    | cons a l ih =>
      rw [List.dropWhile_cons, if_pos (by rw [h a (by simp)]; rfl)]
      exact ih fun x hx => h x (by simp [hx])
  have hc : l.count 10 = 0 := List.count_eq_zero.2 fun hm => absurd (h _ hm) (by decide)
  unfold tokensT
  rw [if_neg (by omega), toks_end (by rw [skip_nil e]; rfl) (by rw [skip_nil e]; rfl), skip_nil e]
  show Sum.inl [(⟨1, [], none, lineT l []⟩ : Tk)] = _
  have : lineT l [] = 1 := by unfold lineT; rw [hc]; rfl
  rw [this]
set_option maxRecDepth 100000 in
set_option maxHeartbeats 16000000 in
theorem tnumbers_r : Ret Try.prog 10 [] (.bool true) := by
  have l7 : sev9.length = 601 := by decide +kernel
  have r7 : Ret Try.prog 40 [.str [55], .int .i64 601] (.str sev9) := rep9_r (s := [55]) (c := 601) (by omega) (by decide)
  have w1 := wrong1_r (x := 10 :: sev9) (e := 3) (n := 2) (by rw [List.length_cons]; omega) (by decide +kernel)
  have w2 := wrong1_r (x := 10 :: 49 :: 47 :: sev9) (e := 3) (n := 2) (by simp only [List.length_cons]; omega) (by decide +kernel)
  have i0 := isNo_r (x := []) (l := [⟨1, [], none, 1⟩]) (by decide) (okB_eq (by decide +kernel))
  have i1 := isL_r (x := []) (l := [⟨1, [], none, 1⟩]) (by decide) (by decide +kernel)
  have i2 := isL_r (x := [35]) (l := [⟨1, [], none, 1⟩]) (by decide) (by decide +kernel)
  have i3 := isL_r (x := [97, 35, 98, 10, 99]) (l := [⟨2, [97], none, 1⟩, ⟨2, [99], none, 2⟩, ⟨1, [], none, 2⟩]) (by decide) (by decide +kernel)
  have i4 := isL_r (x := [97, 98, 91, 49, 44, 50, 93, 58, 120]) (l := [⟨2, [97, 98], none, 1⟩, ⟨4, [91], none, 1⟩, ⟨3, [], some ((1 : Int) /. 1), 1⟩, ⟨4, [44], none, 1⟩, ⟨3, [], some ((2 : Int) /. 1), 1⟩, ⟨4, [93], none, 1⟩, ⟨4, [58], none, 1⟩, ⟨2, [120], none, 1⟩, ⟨1, [], none, 1⟩]) (by decide) (by decide +kernel)
  have i5 := isL_r (x := [97, 49]) (l := [⟨2, [97], none, 1⟩, ⟨3, [], some ((1 : Int) /. 1), 1⟩, ⟨1, [], none, 1⟩]) (by decide) (by decide +kernel)
  have i6 := isL_r (x := [13, 9, 32, 10]) (l := [⟨1, [], none, 2⟩]) (by decide) (by decide +kernel)
  have n1 := numT_r (n := 1) (d := 1) (l := 1) (by omega) (by omega) (by omega) (by omega)
  have n2 := numT_r (n := 2) (d := 1) (l := 1) (by omega) (by omega) (by omega) (by omega)
  have rb : Ret Try.prog 40 [.str [32], .int .i64 262144] (.str (Lib.repeatL [32] 262144)) := rep9_r (s := [32]) (c := 262144) (by omega) (by decide)
  have rc : Ret Try.prog 40 [.str [32], .int .i64 262145] (.str (Lib.repeatL [32] 262145)) := rep9_r (s := [32]) (c := 262145) (by omega) (by decide)
  have lb := Lib.repeatL_length [32] 262144
  have lc := Lib.repeatL_length [32] 262145
  have ab := blank_all 262144
  generalize Lib.repeatL [32] 262144 = xb at *
  generalize Lib.repeatL [32] 262145 = xc at *
  have tb := tokens_r (x := xb) (by rw [lb]; decide)
  rw [blank_tok ab (by rw [lb]; decide)] at tb
  have wc := wrong_r (x := xc) (e := 3) (n := 0) (by rw [lc]; decide)
  have ec : wrongT xc 3 0 = true := by
    unfold wrongT tokensT
    rw [if_pos (by rw [lc]; decide)]
    rfl
  rw [ec] at wc
  generalize (2 : Int) /. 1 = q2 at *
  generalize (1 : Int) /. 1 = q1 at *
  generalize sev9 = sv at *
  refine ret_of (L := L) lay_ok Try.func10 rfl Try.ntmps10 rfl ?_
  refine goq ?_
  refine go ?_
  refine awp_frzRow (id := 7) (k := 7) (cs' := noTok.flatMap mt9) rfl rfl (by decide) rfl ?_
  refine awp_loopC (A := Nat) (B := Unit) (fun i => i ≤ 16) (fun i => [(9, some (.im (.int .i64 (i : Nat)))), (8, some (.im (.int .i64 16))), (7, some (.im (mS mt9 noTok)))]) (fun _ => []) (fun i => 16 - i)
    (fun _ => True) (fun _ => []) (fun _ => []) 0 (by omega) ?_ ?_ ?_
  · exact gou0
  · rintro i hi
    rcases Nat.lt_or_ge i 16 with hlt | hge
    · obtain ⟨g1, g2, g3⟩ := noTok_all _ (List.getElem_mem (show i < noTok.length from hlt))
      have p1 := wrong1_r (n := 1) (by omega) g1
      have p2 := wrong1_r (n := 4) (by rw [List.length_append]; have : pre9.length = 9 := rfl; omega) g2
      have hs : noTok[i].length ≤ 4 := g3
      generalize hx : noTok[i]'hlt = x at *
      refine go ?_
      refine awp_cT rfl (by rw [decide_eq_true_eq]; omega) ?_
      refine go ?_
      refine ar_at (enc := mt9) (l := noTok) i rfl rfl rfl rfl rfl (fun _ => rfl) rfl rfl hlt ?_
      rw [hx]
      refine go ?_
      refine cl (by exact rfl) plain39 rfl p1 ?_
      refine go ?_
      refine ar_addStr (wantF_ok rfl) rfl rfl rfl (by simp only [List.length_cons, List.length_nil]; omega) ?_
      refine go ?_
      refine cl (by exact rfl) plain39 rfl p2 ?_
      refine go ?_
      refine ⟨i + 1, by omega, ?_, by omega⟩
      exact gou0
    · have : i = 16 := by omega
      subst this
      refine go ?_
      refine .inl ⟨rfl, (), trivial, ?_⟩
      exact gou0
  rintro _ -
  refine go ?_
  refine cl (by exact rfl) plain40 rfl r7 ?_
  refine go ?_
  refine ar_addStr (wantF_ok rfl) rfl rfl rfl (by rw [l7]; simp) ?_
  refine cl (by exact rfl) plain39 rfl w1 ?_
  refine go ?_
  refine ar_addStr (wantF_ok rfl) rfl rfl rfl (by rw [l7]; simp) ?_
  refine cl (by exact rfl) plain39 rfl w2 ?_
  refine go ?_
  refine cl (by exact rfl) plain41 rfl i0 ?_
  refine go ?_
  refine cl (by exact rfl) plain42 rfl (end_r (l := 1)) ?_
  refine go ?_
  refine clz (by exact rfl) plain41 rfl i1 ?_
  refine go ?_
  refine cl (by exact rfl) plain42 rfl (end_r (l := 1)) ?_
  refine go ?_
  refine clz (by exact rfl) plain41 rfl i2 ?_
  refine go ?_
  refine cl (by exact rfl) plain43 rfl (word_r (s := [97]) (l := 1)) ?_
  refine go ?_
  refine cl (by exact rfl) plain43 rfl (word_r (s := [99]) (l := 2)) ?_
  refine go ?_
  refine cl (by exact rfl) plain42 rfl (end_r (l := 2)) ?_
  refine go ?_
  refine clz (by exact rfl) plain41 rfl i3 ?_
  refine go ?_
  refine cl (by exact rfl) plain43 rfl (word_r (s := [97, 98]) (l := 1)) ?_
  refine go ?_
  refine cl (by exact rfl) plain44 rfl (sign4_r (s := [91]) (l := 1)) ?_
  refine go ?_
  refine cl (by exact rfl) plain45 rfl n1 ?_
  refine go ?_
  refine cl (by exact rfl) plain44 rfl (sign4_r (s := [44]) (l := 1)) ?_
  refine go ?_
  refine cl (by exact rfl) plain45 rfl n2 ?_
  refine go ?_
  refine cl (by exact rfl) plain44 rfl (sign4_r (s := [93]) (l := 1)) ?_
  refine go ?_
  refine cl (by exact rfl) plain44 rfl (sign4_r (s := [58]) (l := 1)) ?_
  refine go ?_
  refine cl (by exact rfl) plain43 rfl (word_r (s := [120]) (l := 1)) ?_
  refine go ?_
  refine cl (by exact rfl) plain42 rfl (end_r (l := 1)) ?_
  refine go ?_
  refine clz (by exact rfl) plain41 rfl i4 ?_
  refine go ?_
  refine cl (by exact rfl) plain43 rfl (word_r (s := [97]) (l := 1)) ?_
  refine go ?_
  refine cl (by exact rfl) plain45 rfl n1 ?_
  refine go ?_
  refine cl (by exact rfl) plain42 rfl (end_r (l := 1)) ?_
  refine go ?_
  refine clz (by exact rfl) plain41 rfl i5 ?_
  refine go ?_
  refine cl (by exact rfl) plain42 rfl (end_r (l := 2)) ?_
  refine go ?_
  refine clz (by exact rfl) plain41 rfl i6 ?_
  refine go ?_
  refine cl (by exact rfl) plain40 rfl rb ?_
  refine go ?_
  refine cl (by exact rfl) plain34 rfl tb ?_
  refine go ?_
  refine ar_eqI fault_s [0, 0] [0, 0] rfl rfl rfl rfl rfl rfl ?_
  refine go ?_
  refine cl (by exact rfl) plain40 rfl rc ?_
  refine go ?_
  refine cl (by exact rfl) plain39 rfl wc ?_
  refine go ?_
  refine cl (by exact rfl) plain33 rfl awake9_r ?_
  refine go ?_
  refine ⟨_, rfl, ?_⟩
  rfl
end Go.Proofs.Ytkbhchlecokpiaa
