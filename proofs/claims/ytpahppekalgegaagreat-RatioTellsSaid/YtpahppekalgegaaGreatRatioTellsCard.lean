/- 'RatioTells': for every input the law returns true, each argument reads behind the call as it read before. No conditions. (The frame began as what the kit's proof-skeleton writes; the walk is in the texts that it imports.) -/
import Derived.Test.YtpahppekalgegaaGreatRows
import Derived.Test.YtpahppekalgegaaGreatFwQ4
import Derived.Test.YtpahppekalgegaaGreatFwL4T
import Derived.WalkKit
import Derived.ProofKit
import Derived.OpenShut
import Derived.ShutString
import Derived.ChangeOld
import Derived.Below
namespace Go.Proofs.YtpahppekalgegaaGreat.ratioTells
open Go.ChangeShapes Go.WideShapes Go.ChangeAt Go.RowKit
open Fw (M Sh ValL valL_cons valL_nil args_open)
set_option linter.unusedVariables false

theorem own : ownKnob Tryz.prog.godebug = none := by kernel_rfl
theorem laidOut : laidOutB Tryz.prog = true := by kernel_rfl

theorem walk {ms : List M} (h : ValL [Fw.shRat, Fw.shRat, .str] ms) : Fw.Ret Tryz.prog 4 ms (.bool true) := by
  obtain ⟨m0, ms, rfl, h0, h⟩ := valL_cons h
  obtain ⟨m1, ms, rfl, h1, h⟩ := valL_cons h
  obtain ⟨m2, ms, rfl, h2, h⟩ := valL_cons h
  obtain rfl := valL_nil h
  obtain ⟨b0, l0, c0, k0, rfl, d0, e0, _, _⟩ := Fw.val_Rat h0
  obtain ⟨b1, l1, c1, k1, rfl, d1, e1, _, _⟩ := Fw.val_Rat h1
  obtain ⟨s2, rfl, z2⟩ := Fw.val_str h2
  exact qtells_r d0 e0 d1 e1 z2


set_option maxRecDepth 100000 in
theorem lifted (os : Os) (started : os.Started) (H : Type) (enc : TypeId × Value → H) :
    ReturnsInHanded {} Tryz.checked os 4 .any (Rows.ratioTellsSpec.pre6 enc Tryz.prog Tryz.f4 Rows.ratioTellsRow.domain false) (Rows.ratioTellsSpec.post enc Tryz.prog Tryz.f4 false true false false) := by
  refine returnsInHanded_of_change (C := Tryz.checked) own started (by kernel_rfl) Tryz.func4
    (ChangeSpec.witness6 (enc := enc) (C := Tryz.checked) false ⟨#[], #[.agg #[.bool false, .slice none 0 0, .bool false, .slice none 0 0], .agg #[.bool false, .slice none 0 0, .bool false, .slice none 0 0], .string ByteArray.empty], []⟩ 8 (by kernel_rfl) (by kernel_rfl) (by kernel_rfl) (by kernel_rfl)) ?_
  intro W base args ds gs before hval0 hW hcnd _
  have hval : ∀ (j : Nat) t v, Tryz.f4.params[j]? = some t → args[j]? = some v → Value.okWide Tryz.prog W .any base t v := hval0
  have hW' := hW
  obtain ⟨p, q, hA0, hV, rfl, hfz, hnd⟩ := hW
  have hA : DataW.TrodAll enc Tryz.prog W 0 (fun _ => true) true Tryz.f4.params.toList args.toList ds p := hA0
  rw [Tryz.params4] at hA hval
  obtain ⟨ms, hms, hr, hT⟩ := args_open laidOut (r := .any) (b0 := base) (ts := [35, 35, 9]) (ss := [Fw.shRat, Fw.shRat, .str]) (by kernel_rfl) (by kernel_rfl) hA (fun j t v hj hv => hval j t v (by simpa using hj) (by simpa using hv))
  obtain ⟨v0, vs0, d0, ds0, p0, q0, hv0, rfl, hp0, h0, r0⟩ := trodAll_cons hA
  obtain ⟨v1, vs1, d1, ds1, p1, q1, hv1, rfl, hp1, h1, r1⟩ := trodAll_cons r0
  obtain ⟨v2, vs2, d2, ds2, p2, q2, hv2, rfl, hp2, h2, r2⟩ := trodAll_cons r1
  obtain ⟨hv3, rfl, hp3⟩ := trodAll_nil r2
  obtain ⟨rfl, rfl⟩ := trodVars_none hV
  clear hA0 hval0
  have hc := walk hms _ W _ hr
  rw [Array.toArray_toList] at hc
  refine hc.mono fun e W' ⟨v, he, hv, bel⟩ => ?_
  simp only [Fw.RM] at hv
  subst hv
  subst he
  exact ⟨_, rfl, _, _, _, [], _, [], hW', trodAll_mk1 (shut_bool Tryz.underlying4 _), hT W' bel, rfl, bel.frame _, fun h => by cases h⟩

theorem over : Rows.ratioTellsRow.holds Tryz.pinned (OpenSpec.ofChange Rows.ratioTellsSpec) :=
  OpenClaim.holds_of_wide 4 Tryz.f4 rfl rfl rfl rfl rfl rfl rfl ⟨rfl, rfl, rfl, rfl, rfl⟩ rfl rfl rfl rfl rfl (by kernel_rfl) Tryz.func4 (by kernel_rfl)
    (of_decide_eq_true (by kernel_rfl)) (by unfold Func.isWrapper; first | (rw [if_pos (by decide +kernel)]; kernel_rfl) | (rw [if_neg (by decide +kernel)]; exact ⟨rfl, rfl⟩))
    (fun os started H enc _ => lifted os started H enc)

theorem proved : Rows.RatioTellsSaid := over
#print axioms proved
end Go.Proofs.YtpahppekalgegaaGreat.ratioTells
