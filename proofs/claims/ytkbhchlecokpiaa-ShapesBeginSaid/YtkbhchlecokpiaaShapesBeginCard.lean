/- 'ShapesBegin': for every input the law returns true, each argument reads behind the call as it read before. No conditions. (The frame began as what the kit's proof-skeleton writes; the walk is in the texts that it imports.) -/
import Derived.Test.YtkbhchlecokpiaaRows
import Derived.Test.YtkbhchlecokpiaaFwQ10
import Derived.WalkKit
import Derived.ProofKit
import Derived.OpenShut
import Derived.ShutString
import Derived.ChangeOld
import Derived.Below
namespace Go.Proofs.Ytkbhchlecokpiaa.shapesBegin
open Go.ChangeShapes Go.WideShapes Go.ChangeAt Go.RowKit
open Fw (M Sh ValL valL_cons valL_nil args_open)
set_option linter.unusedVariables false

theorem own : ownKnob Try.prog.godebug = none := by kernel_rfl
theorem laidOut : laidOutB Try.prog = true := by kernel_rfl

theorem walk {ms : List M} (h : ValL [Go.Proofs.Ytkbhchlecokpiaa.shNet, .int .i64] ms) : Fw.Ret Try.prog 6 ms (.bool true) := by
  obtain ⟨m0, ms, rfl, h0, h⟩ := valL_cons h
  obtain ⟨m1, ms, rfl, h1, h⟩ := valL_cons h
  obtain rfl := valL_nil h
  obtain ⟨t0, rfl, d0⟩ := val_Nt h0
  obtain ⟨n1, rfl, x1, y1⟩ := Fw.val_i64 h1
  exact sbegin_r d0 x1 y1


set_option maxRecDepth 100000 in
theorem lifted (os : Os) (started : os.Started) (H : Type) (enc : TypeId × Value → H) :
    ReturnsInHanded {} Try.checked os 6 .any (Rows.shapesBeginSpec.pre6 enc Try.prog Try.f6 Rows.shapesBeginRow.domain false) (Rows.shapesBeginSpec.post enc Try.prog Try.f6 false true false false) := by
  refine returnsInHanded_of_change (C := Try.checked) own started (by kernel_rfl) Try.func6
    (ChangeSpec.witness6 (enc := enc) (C := Try.checked) false ⟨#[], #[.agg #[.int .i64 0, .slice none 0 0], .int .i64 0], []⟩ 8 (by kernel_rfl) (by kernel_rfl) (by kernel_rfl) (by kernel_rfl)) ?_
  intro W base args ds gs before hval0 hW hcnd _
  have hval : ∀ (j : Nat) t v, Try.f6.params[j]? = some t → args[j]? = some v → Value.okWide Try.prog W .any base t v := hval0
  have hW' := hW
  obtain ⟨p, q, hA0, hV, rfl, hfz, hnd⟩ := hW
  have hA : DataW.TrodAll enc Try.prog W 0 (fun _ => true) true Try.f6.params.toList args.toList ds p := hA0
  rw [Try.params6] at hA hval
  obtain ⟨ms, hms, hr, hT⟩ := args_open laidOut (r := .any) (b0 := base) (ts := [52, 3]) (ss := [Go.Proofs.Ytkbhchlecokpiaa.shNet, .int .i64]) (by kernel_rfl) (by kernel_rfl) hA (fun j t v hj hv => hval j t v (by simpa using hj) (by simpa using hv))
  obtain ⟨v0, vs0, d0, ds0, p0, q0, hv0, rfl, hp0, h0, r0⟩ := trodAll_cons hA
  obtain ⟨v1, vs1, d1, ds1, p1, q1, hv1, rfl, hp1, h1, r1⟩ := trodAll_cons r0
  obtain ⟨hv2, rfl, hp2⟩ := trodAll_nil r1
  obtain ⟨rfl, rfl⟩ := trodVars_none hV
  clear hA0 hval0
  have hc := walk hms _ W _ hr
  rw [Array.toArray_toList] at hc
  refine hc.mono fun e W' ⟨v, he, hv, bel⟩ => ?_
  simp only [Fw.RM] at hv
  subst hv
  subst he
  exact ⟨_, rfl, _, _, _, [], _, [], hW', trodAll_mk1 (shut_bool Try.underlying4 _), hT W' bel, rfl, bel.frame _, fun h => by cases h⟩

theorem over : Rows.shapesBeginRow.holds Try.pinned (OpenSpec.ofChange Rows.shapesBeginSpec) :=
  OpenClaim.holds_of_wide 6 Try.f6 rfl rfl rfl rfl rfl rfl rfl ⟨rfl, rfl, rfl, rfl, rfl⟩ rfl rfl rfl rfl rfl (by kernel_rfl) Try.func6 (by kernel_rfl)
    (of_decide_eq_true (by kernel_rfl)) (by unfold Func.isWrapper; first | (rw [if_pos (by decide +kernel)]; kernel_rfl) | (rw [if_neg (by decide +kernel)]; exact ⟨rfl, rfl⟩))
    (fun os started H enc _ => lifted os started H enc)

theorem proved : Rows.ShapesBeginSaid := over
#print axioms proved
end Go.Proofs.Ytkbhchlecokpiaa.shapesBegin
