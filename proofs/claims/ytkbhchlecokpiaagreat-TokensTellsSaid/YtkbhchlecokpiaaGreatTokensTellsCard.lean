/- 'TokensTells': for every input the law returns true, each argument reads behind the call as it read before. No conditions. (The frame began as what the kit's proof-skeleton writes; the walk is in the texts that it imports.) -/
import Derived.Test.YtkbhchlecokpiaaGreatRows
import Derived.Test.YtkbhchlecokpiaaGreatFwQ4
import Derived.Test.YtkbhchlecokpiaaGreatFwT9
import Derived.WalkKit
import Derived.ProofKit
import Derived.OpenShut
import Derived.ShutString
import Derived.ChangeOld
import Derived.Below
namespace Go.Proofs.YtkbhchlecokpiaaGreat.tokensTells
open Go.ChangeShapes Go.WideShapes Go.ChangeAt Go.RowKit
open Fw (M Sh ValL valL_cons valL_nil args_open)
set_option linter.unusedVariables false

theorem own : ownKnob Tryz.prog.godebug = none := by kernel_rfl
theorem laidOut : laidOutB Tryz.prog = true := by kernel_rfl

theorem walk {ms : List M} (h : ValL [.str] ms) : Fw.Ret Tryz.prog 5 ms (.bool true) := by
  obtain ⟨m0, ms, rfl, h0, h⟩ := valL_cons h
  obtain rfl := valL_nil h
  obtain ⟨s0, rfl, z0⟩ := Fw.val_str h0
  exact ttells_r z0


set_option maxRecDepth 100000 in
theorem lifted (os : Os) (started : os.Started) (H : Type) (enc : TypeId × Value → H) :
    ReturnsInHanded {} Tryz.checked os 5 .any (Rows.tokensTellsSpec.pre6 enc Tryz.prog Tryz.f5 Rows.tokensTellsRow.domain false) (Rows.tokensTellsSpec.post enc Tryz.prog Tryz.f5 false true false false) := by
  refine returnsInHanded_of_change (C := Tryz.checked) own started (by kernel_rfl) Tryz.func5
    (ChangeSpec.witness6 (enc := enc) (C := Tryz.checked) false ⟨#[], #[.string ByteArray.empty], []⟩ 8 (by kernel_rfl) (by kernel_rfl) (by kernel_rfl) (by kernel_rfl)) ?_
  intro W base args ds gs before hval0 hW hcnd _
  have hval : ∀ (j : Nat) t v, Tryz.f5.params[j]? = some t → args[j]? = some v → Value.okWide Tryz.prog W .any base t v := hval0
  have hW' := hW
  obtain ⟨p, q, hA0, hV, rfl, hfz, hnd⟩ := hW
  have hA : DataW.TrodAll enc Tryz.prog W 0 (fun _ => true) true Tryz.f5.params.toList args.toList ds p := hA0
  rw [Tryz.params5] at hA hval
  obtain ⟨ms, hms, hr, hT⟩ := args_open laidOut (r := .any) (b0 := base) (ts := [9]) (ss := [.str]) (by kernel_rfl) (by kernel_rfl) hA (fun j t v hj hv => hval j t v (by simpa using hj) (by simpa using hv))
  obtain ⟨v0, vs0, d0, ds0, p0, q0, hv0, rfl, hp0, h0, r0⟩ := trodAll_cons hA
  obtain ⟨hv1, rfl, hp1⟩ := trodAll_nil r0
  obtain ⟨rfl, rfl⟩ := trodVars_none hV
  clear hA0 hval0
  have hc := walk hms _ W _ hr
  rw [Array.toArray_toList] at hc
  refine hc.mono fun e W' ⟨v, he, hv, bel⟩ => ?_
  simp only [Fw.RM] at hv
  subst hv
  subst he
  exact ⟨_, rfl, _, _, _, [], _, [], hW', trodAll_mk1 (shut_bool Tryz.underlying4 _), hT W' bel, rfl, bel.frame _, fun h => by cases h⟩

theorem over : Rows.tokensTellsRow.holds Tryz.pinned (OpenSpec.ofChange Rows.tokensTellsSpec) :=
  OpenClaim.holds_of_wide 5 Tryz.f5 rfl rfl rfl rfl rfl rfl rfl ⟨rfl, rfl, rfl, rfl, rfl⟩ rfl rfl rfl rfl rfl (by kernel_rfl) Tryz.func5 (by kernel_rfl)
    (of_decide_eq_true (by kernel_rfl)) (by unfold Func.isWrapper; first | (rw [if_pos (by decide +kernel)]; kernel_rfl) | (rw [if_neg (by decide +kernel)]; exact ⟨rfl, rfl⟩))
    (fun os started H enc _ => lifted os started H enc)

theorem proved : Rows.TokensTellsSaid := over
#print axioms proved
end Go.Proofs.YtkbhchlecokpiaaGreat.tokensTells
