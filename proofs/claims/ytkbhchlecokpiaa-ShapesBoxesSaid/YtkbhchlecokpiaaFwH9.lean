/- The chapter's examples of layer 10. Printed by gen/gen_h8.py. -/
import Derived.Test.YtkbhchlecokpiaaFwH8
namespace Go.Proofs.Ytkbhchlecokpiaa
open Go Go.RowKit Fw Tw Rat
set_option linter.unusedVariables false
set_option linter.unusedSimpArgs false
def q10 : Rat := (1 : Int) /. 1
def q00 : Rat := (0 : Int) /. 1
theorem sq10 : Sq q10 10 := Sq.mono (j := 1) ⟨by decide +kernel, by decide +kernel, by omega⟩ (by omega)
theorem sq00 : Sq q00 10 := Sq.mono (j := 1) ⟨by decide +kernel, by decide +kernel, by omega⟩ (by omega)
theorem qsm_r {lo hi : Rat} {label r : Int} (h1 : Sq lo 10) (h2 : Sq hi 10) (h : (if cmpQ lo hi > 0 then 23 else if label < 0 ∨ label ≥ 1 then 24 else 0) = r) : Ret Try.prog 26 [.agg (ntC (smallNt 1)), .agg (qyC (qyT 2 lo hi label))] (.int .i64 r) := by
  have := query_r (n := smallNt 1) (q := qyT 2 lo hi label) (ok_small 2 1) (ok_qy (by omega) h1 h2)
  rwa [query_small1, h] at this
set_option maxHeartbeats 16000000 in
theorem awake10_r : Ret Try.prog 28 [] (.bool true) := by
  have c1 := check_r (ok_small 2 1)
  have z1 := sizes_r (ok_small 2 1)
  have e1 : lookF ⟨2, [affL 1, reluL]⟩ = ([2, 1, 1], 0) := look_small1
  rw [e1] at c1 z1
  have c2 := check_r (ok_small 2 2)
  have e2 : lookF ⟨2, [affL 2, reluL]⟩ = ([], 22) := look_small2
  rw [e2] at c2
  have c3 := check_r (ok_small 65 1)
  have e3 : lookF ⟨65, [affL 1, reluL]⟩ = ([], 25) := rfl
  rw [e3] at c3
  have z4 := sizes_r ok_picN
  rw [look_pic] at z4
  have s1 := sameInts_r (a := [2, 1, 1]) (b := [2, 1, 1]) (by decide)
  have s4 := sameInts_r (a := [4, 9]) (b := [4, 9]) (by decide)
  rw [decide_eq_true rfl] at s1 s4
  have k1 := qsm_r (label := 0) (r := 23) sq10 sq00 (by decide +kernel)
  have k2 := qsm_r (label := 1) (r := 24) sq00 sq10 (by decide +kernel)
  have k3 := qsm_r (label := 0) (r := 0) sq00 sq10 (by decide +kernel)
  have y1 := query2_r (lo := 1) (hi := 0) (label := 0) (by omega) (by omega) (by omega) (by omega)
  have y2 := query2_r (lo := 0) (hi := 1) (label := 1) (by omega) (by omega) (by omega) (by omega)
  have y3 := query2_r (lo := 0) (hi := 1) (label := 0) (by omega) (by omega) (by omega) (by omega)
  have eq1 : (1 : Int) /. 1 = q10 := rfl
  have eq0 : (0 : Int) /. 1 = q00 := rfl
  rw [eq1, eq0] at y1 y2 y3
  have w1 := small_r (a := 1)
  have w2 := small_r (a := 2)
  have hu1 : smallNt 1 = ⟨2, [affL 1, reluL]⟩ := rfl
  have hu2 : smallNt 2 = ⟨2, [affL 2, reluL]⟩ := rfl
  rw [hu1] at w1 k1 k2 k3
  rw [hu2] at w2
  generalize affL 1 = L1 at *
  generalize affL 2 = L2 at *
  generalize reluL = L3 at *
  generalize qyT 2 q10 q00 0 = Y1 at *
  generalize qyT 2 q00 q10 1 = Y2 at *
  generalize qyT 2 q00 q10 0 = Y3 at *
  have pc := pic_r
  generalize picNt = PN at *
  refine ret_of (L := L) lay_ok Try.func28 rfl Try.ntmps28 rfl ?_
  refine goq ?_
  refine go ?_
  refine cl (by exact rfl) plain27 rfl w1 ?_
  refine go ?_
  refine cl (by exact rfl) plain27 rfl w1 ?_
  refine go ?_
  refine cl (by exact rfl) plain21 rfl c1 ?_
  refine go ?_
  refine cl (by exact rfl) plain27 rfl w1 ?_
  refine go ?_
  refine cl (by exact rfl) plain22 rfl z1 ?_
  refine go ?_
  refine clz (by exact rfl) plain23 rfl s1 ?_
  refine go ?_
  refine cl (by exact rfl) plain27 rfl w2 ?_
  refine go ?_
  refine cl (by exact rfl) plain21 rfl c2 ?_
  refine go ?_
  refine cl (by exact rfl) plain21 rfl c3 ?_
  refine go ?_
  refine cl (by exact rfl) plain20 rfl pc ?_
  refine go ?_
  refine cl (by exact rfl) plain22 rfl z4 ?_
  refine go ?_
  refine clz (by exact rfl) plain23 rfl s4 ?_
  refine go ?_
  refine cl (by exact rfl) plain27 rfl w1 ?_
  refine go ?_
  refine cl (by exact rfl) plain25 rfl y1 ?_
  refine go ?_
  refine cl (by exact rfl) plain26 rfl k1 ?_
  refine go ?_
  refine cl (by exact rfl) plain27 rfl w1 ?_
  refine go ?_
  refine cl (by exact rfl) plain25 rfl y2 ?_
  refine go ?_
  refine cl (by exact rfl) plain26 rfl k2 ?_
  refine go ?_
  refine cl (by exact rfl) plain27 rfl w1 ?_
  refine go ?_
  refine cl (by exact rfl) plain25 rfl y3 ?_
  refine go ?_
  refine cl (by exact rfl) plain26 rfl k3 ?_
  refine go ?_
  refine ⟨_, rfl, ?_⟩
  rfl
end Go.Proofs.Ytkbhchlecokpiaa
