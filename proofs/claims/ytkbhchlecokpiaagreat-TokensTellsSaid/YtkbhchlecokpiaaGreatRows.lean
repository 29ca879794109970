/-
  No cell of these rows narrows 'for every input' (looked for: loops, veiled, ifaces, maps, wideKeys, modest, calm, conditions, laid).
  DERIVED. THE GIVEN ROWS OF THIS SEAT. 3 by the template 'for every input the law returns true; each argument reads behind the call as it read before'; 0 by the template 'total and deterministic' (their statements: YtkbhchlecokpiaaGreatTotals.lean).
  GIVEN WITH THE SEED: the statements are not yours to turn. If you find one false, say at which input.
  Laid BY PROGRAM, IN A SANDBOX (cutbox-rows.mjs): the forced cells as the released guide's own fill.sh prints them over the translation fe9f89bfa834f5ff… (all of the seat's roots in one cut). By AI agents, Wed Nov 11 2026. No macro, syntax, notation, axiom, sorry.
-/
import Derived.Test.YtkbhchlecokpiaaGreatChecked
import GoSem.Claim
import GoSem.ClaimJoined
import GoSem.ClaimMapViews
import Derived.JoinedTies
import Derived.KernelRfl
namespace Go.Proofs.YtkbhchlecokpiaaGreat
/- THE CELL 'sum', in the pinned program and in every row, IS THE sha256 OF THE DUMP (.gsa) THAT YtkbhchlecokpiaaGreatProg.lean LOADS. Nothing in Lean hashes anything: it is a label: what it is worth is what the hold of that sum in a sandbox is worth. -/
noncomputable def Tryz.pinned : Pinned := { name := "ytkbhchlecokpiaagreat", sum := "fe9f89bfa834f5fff2eda47e3a6341af233793042f338ba60ae897ae77d2aca3", checked := Tryz.checked }
namespace Rows
def none {H : Type} : Left H := { results := [], args := [] }

/-- 'tripwirelaw24.QueueTells': WHATEVER THE INPUT: true; the input reads as it did. -/
def queueTellsSpec : ChangeSpec := { name := "queueTells", fn := fun _ => fun
  | [d] => { results := [.lit (.bool true)], args := [d] }
  | _ => none }
def queueTellsRow : OpenClaim := { program := "ytkbhchlecokpiaagreat", sum := "fe9f89bfa834f5fff2eda47e3a6341af233793042f338ba60ae897ae77d2aca3", func := "tripwire/tripwirelaw24.QueueTells", spec := "queueTells", inPlace := ["math/bits.Add64", "math/bits.Sub64"], unfollowed := true, recurses := true, named := ["math/bits.divideError", "math/bits.overflowError"], apart := false }
def QueueTellsSaid : Prop := queueTellsRow.holds Tryz.pinned (OpenSpec.ofChange queueTellsSpec)

/-- ITS FALSE NEIGHBOUR: 'it returns false'. Refute it at one input. -/
def queueTellsWrong : ChangeSpec := { name := "queueTells", fn := fun _ => fun
  | [d] => { results := [.lit (.bool false)], args := [d] }
  | _ => none }
def QueueTellsWrongFalsely : Prop := queueTellsRow.holds Tryz.pinned (OpenSpec.ofChange queueTellsWrong)

/-- 'tripwirelaw10.ShapesTells': WHATEVER THE INPUT: true; the input reads as it did. -/
def shapesTellsSpec : ChangeSpec := { name := "shapesTells", fn := fun _ => fun
  | [d1, d2] => { results := [.lit (.bool true)], args := [d1, d2] }
  | _ => none }
def shapesTellsRow : OpenClaim := { program := "ytkbhchlecokpiaagreat", sum := "fe9f89bfa834f5fff2eda47e3a6341af233793042f338ba60ae897ae77d2aca3", func := "tripwire/tripwirelaw10.ShapesTells", spec := "shapesTells", inPlace := ["math/bits.Add64", "math/bits.Sub64"], unfollowed := true, recurses := true, named := ["math/bits.divideError", "math/bits.overflowError"], apart := false }
def ShapesTellsSaid : Prop := shapesTellsRow.holds Tryz.pinned (OpenSpec.ofChange shapesTellsSpec)

/-- ITS FALSE NEIGHBOUR: 'it returns false'. Refute it at one input. -/
def shapesTellsWrong : ChangeSpec := { name := "shapesTells", fn := fun _ => fun
  | [d1, d2] => { results := [.lit (.bool false)], args := [d1, d2] }
  | _ => none }
def ShapesTellsWrongFalsely : Prop := shapesTellsRow.holds Tryz.pinned (OpenSpec.ofChange shapesTellsWrong)

/-- 'tripwirelaw09.TokensTells': WHATEVER THE INPUT: true; the input reads as it did. -/
def tokensTellsSpec : ChangeSpec := { name := "tokensTells", fn := fun _ => fun
  | [d] => { results := [.lit (.bool true)], args := [d] }
  | _ => none }
def tokensTellsRow : OpenClaim := { program := "ytkbhchlecokpiaagreat", sum := "fe9f89bfa834f5fff2eda47e3a6341af233793042f338ba60ae897ae77d2aca3", func := "tripwire/tripwirelaw09.TokensTells", spec := "tokensTells", inPlace := ["math/bits.Add64", "math/bits.Sub64", "internal/bytealg.IndexByteString", "internal/bytealg.IndexString"], unfollowed := true, recurses := true, named := ["math/bits.divideError", "math/bits.overflowError", "internal/bytealg.MaxLen"], apart := false }
def TokensTellsSaid : Prop := tokensTellsRow.holds Tryz.pinned (OpenSpec.ofChange tokensTellsSpec)

/-- ITS FALSE NEIGHBOUR: 'it returns false'. Refute it at one input. -/
def tokensTellsWrong : ChangeSpec := { name := "tokensTells", fn := fun _ => fun
  | [d] => { results := [.lit (.bool false)], args := [d] }
  | _ => none }
def TokensTellsWrongFalsely : Prop := tokensTellsRow.holds Tryz.pinned (OpenSpec.ofChange tokensTellsWrong)

/- THE SECOND FORM. 'bulk': how many values and letters a reading holds, each counted each time it is reached (what is shared counts as often as it is met; a slice's spare places count too). A statement '..UptoSaid' is the law's where the arguments, and the package variables that the reading takes, are together of bulk at most 1048576: NARROWER than '..Said'. Prove '..Said' where nothing that the law and all that it calls make is longer than what came in: it says more and counts as full. Else prove '..UptoSaid'. A law counts once. -/
mutual
def uptoBulk {H : Type} : DataW H → Nat
  | .lit (.string bytes) => bytes.length + 1
  | .lit _ => 1
  | .nil => 1
  | .ptr d => uptoBulk d + 1
  | .slice elems spare => uptoBulkAll elems + uptoBulkAll spare + 1
  | .agg parts => uptoBulkAll parts + 1
  | .iface _ d => uptoBulk d + 1
  | .map entries => uptoBulkEntries entries + 1
  | .held _ => 1
def uptoBulkAll {H : Type} : List (DataW H) → Nat
  | [] => 0
  | d :: r => uptoBulk d + uptoBulkAll r
def uptoBulkEntries {H : Type} : List (Lit × DataW H) → Nat
  | [] => 0
  | x :: r => uptoBulkEntry x + uptoBulkEntries r
def uptoBulkEntry {H : Type} : Lit × DataW H → Nat
  | (.string bytes, d) => bytes.length + uptoBulk d + 1
  | (_, d) => uptoBulk d + 1
 end
def uptoSmall : (H : Type) → List (DataW H) → Bool := fun _ ds => decide (uptoBulkAll ds ≤ 1048576)
def OpenSpec.upto (s : _root_.Go.ChangeSpec) : _root_.Go.OpenSpec := { _root_.Go.OpenSpec.ofChange s with cond := some uptoSmall }

/-- 'tripwirelaw24.QueueTells', WHERE WHAT IT READS IS OF BULK AT MOST 1048576: true; the input reads as it did. -/
def queueTellsUptoRow : OpenClaim := { program := "ytkbhchlecokpiaagreat", sum := "fe9f89bfa834f5fff2eda47e3a6341af233793042f338ba60ae897ae77d2aca3", func := "tripwire/tripwirelaw24.QueueTells", spec := "queueTells", inPlace := ["math/bits.Add64", "math/bits.Sub64"], unfollowed := true, recurses := true, named := ["math/bits.divideError", "math/bits.overflowError"], apart := false, narrowed := true }
def QueueTellsUptoSaid : Prop := queueTellsUptoRow.holds Tryz.pinned (OpenSpec.upto queueTellsSpec)

/-- 'tripwirelaw10.ShapesTells', WHERE WHAT IT READS IS OF BULK AT MOST 1048576: true; the input reads as it did. -/
def shapesTellsUptoRow : OpenClaim := { program := "ytkbhchlecokpiaagreat", sum := "fe9f89bfa834f5fff2eda47e3a6341af233793042f338ba60ae897ae77d2aca3", func := "tripwire/tripwirelaw10.ShapesTells", spec := "shapesTells", inPlace := ["math/bits.Add64", "math/bits.Sub64"], unfollowed := true, recurses := true, named := ["math/bits.divideError", "math/bits.overflowError"], apart := false, narrowed := true }
def ShapesTellsUptoSaid : Prop := shapesTellsUptoRow.holds Tryz.pinned (OpenSpec.upto shapesTellsSpec)

/-- 'tripwirelaw09.TokensTells', WHERE WHAT IT READS IS OF BULK AT MOST 1048576: true; the input reads as it did. -/
def tokensTellsUptoRow : OpenClaim := { program := "ytkbhchlecokpiaagreat", sum := "fe9f89bfa834f5fff2eda47e3a6341af233793042f338ba60ae897ae77d2aca3", func := "tripwire/tripwirelaw09.TokensTells", spec := "tokensTells", inPlace := ["math/bits.Add64", "math/bits.Sub64", "internal/bytealg.IndexByteString", "internal/bytealg.IndexString"], unfollowed := true, recurses := true, named := ["math/bits.divideError", "math/bits.overflowError", "internal/bytealg.MaxLen"], apart := false, narrowed := true }
def TokensTellsUptoSaid : Prop := tokensTellsUptoRow.holds Tryz.pinned (OpenSpec.upto tokensTellsSpec)

end Rows
end Go.Proofs.YtkbhchlecokpiaaGreat
