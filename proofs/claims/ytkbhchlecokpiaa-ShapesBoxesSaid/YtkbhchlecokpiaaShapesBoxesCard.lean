/- 'ShapesBoxes': for every input the law returns true, each argument reads behind the call as it read before. No conditions. (The frame began as what the kit's proof-skeleton writes; the walk is in the texts that it imports.) -/
import Derived.Test.YtkbhchlecokpiaaRows
import Derived.Test.YtkbhchlecokpiaaFwQ10
import Derived.Test.YtkbhchlecokpiaaFwH11
import Derived.WalkKit
import Derived.ProofKit
import Derived.OpenShut
import Derived.ShutString
import Derived.ChangeOld
import Derived.Below
namespace Go.Proofs.Ytkbhchlecokpiaa.shapesBoxes
open Go.ChangeShapes Go.WideShapes Go.ChangeAt Go.RowKit
open Fw (M Sh ValL valL_cons valL_nil args_open)
set_option linter.unusedVariables false

theorem own : ownKnob Try.prog.godebug = none := by kernel_rfl
theorem laidOut : laidOutB Try.prog = true := by kernel_rfl

theorem walk {ms : List M} (h : ValL [Go.Proofs.Ytkbhchlecokpiaa.shNet, Go.Proofs.Ytkbhchlecokpiaa.shQuery] ms) : Fw.Ret Try.prog 7 ms (.bool true) := by
  obtain ⟨m0, ms, rfl, h0, h⟩ := valL_cons h
  obtain ⟨m1, ms, rfl, h1, h⟩ := valL_cons h
  obtain rfl := valL_nil h
  obtain ⟨t0, rfl, d0⟩ := val_Nt h0
  obtain ⟨y1, rfl, d1⟩ := val_Qy h1
  exact sboxes_r d0 d1


set_option maxRecDepth 100000 in
theorem lifted (os : Os) (started : os.Started) (H : Type) (enc : TypeId × Value → H) :
    ReturnsInHanded {} Try.checked os 7 .any (Rows.shapesBoxesSpec.pre6 enc Try.prog Try.f7 Rows.shapesBoxesRow.domain false) (Rows.shapesBoxesSpec.post enc Try.prog Try.f7 false true false false) := by
  refine returnsInHanded_of_change (C := Try.checked) own started (by kernel_rfl) Try.func7
    (ChangeSpec.witness6 (enc := enc) (C := Try.checked) false ⟨#[], #[.agg #[.int .i64 0, .slice none 0 0], .agg #[.slice none 0 0, .int .i64 0, .slice none 0 0, .slice none 0 0, .int .u8 0]], []⟩ 8 (by kernel_rfl) (by kernel_rfl) (by kernel_rfl) (by kernel_rfl)) ?_
  intro W base args ds gs before hval0 hW hcnd _
  have hval : ∀ (j : Nat) t v, Try.f7.params[j]? = some t → args[j]? = some v → Value.okWide Try.prog W .any base t v := hval0
  have hW' := hW
  obtain ⟨p, q, hA0, hV, rfl, hfz, hnd⟩ := hW
  have hA : DataW.TrodAll enc Try.prog W 0 (fun _ => true) true Try.f7.params.toList args.toList ds p := hA0
  rw [Try.params7] at hA hval
  obtain ⟨ms, hms, hr, hT⟩ := args_open laidOut (r := .any) (b0 := base) (ts := [52, 67]) (ss := [Go.Proofs.Ytkbhchlecokpiaa.shNet, Go.Proofs.Ytkbhchlecokpiaa.shQuery]) (by kernel_rfl) (by kernel_rfl) hA (fun j t v hj hv => hval j t v (by simpa using hj) (by simpa using hv))
  obtain ⟨v0, vs0, d0, ds0, p0, q0, hv0, rfl, hp0, h0, r0⟩ := trodAll_cons hA
  obtain ⟨v1, vs1, d1, ds1, p1, q1, hv1, rfl, hp1, h1, r1⟩ := trodAll_cons r0
  obtain ⟨hv2, rfl, hp2⟩ := trodAll_nil r1
  obtain ⟨rfl, rfl⟩ := trodVars_none hV
  clear hA0 hval0
  have hc := walk hms _ W _ hr
  rw [Array.toArray_toList] at hc
  refine hc.mono fun e W' ⟨v, he, hv, bel⟩ => ?_
  simp only [Fw.RM] at hv
  subst hv
  subst he
  exact ⟨_, rfl, _, _, _, [], _, [], hW', trodAll_mk1 (shut_bool Try.underlying4 _), hT W' bel, rfl, bel.frame _, fun h => by cases h⟩

theorem over : Rows.shapesBoxesRow.holds Try.pinned (OpenSpec.ofChange Rows.shapesBoxesSpec) :=
  OpenClaim.holds_of_wide 7 Try.f7 rfl rfl rfl rfl rfl rfl rfl ⟨rfl, rfl, rfl, rfl, rfl⟩ rfl rfl rfl rfl rfl (by kernel_rfl) Try.func7 (by kernel_rfl)
    (of_decide_eq_true (by kernel_rfl)) (by unfold Func.isWrapper; first | (rw [if_pos (by decide +kernel)]; kernel_rfl) | (rw [if_neg (by decide +kernel)]; exact ⟨rfl, rfl⟩))
    (fun os started H enc _ => lifted os started H enc)

theorem proved : Rows.ShapesBoxesSaid := over
#print axioms proved
end Go.Proofs.Ytkbhchlecokpiaa.shapesBoxes
