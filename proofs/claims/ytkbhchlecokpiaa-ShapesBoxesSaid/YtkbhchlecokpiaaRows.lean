/-
  No cell of these rows narrows 'for every input' (looked for: loops, veiled, ifaces, maps, wideKeys, modest, calm, conditions, laid).
  DERIVED. THE GIVEN ROWS OF THIS SEAT. 8 by the template 'for every input the law returns true; each argument reads behind the call as it read before'; 0 by the template 'total and deterministic' (their statements: YtkbhchlecokpiaaTotals.lean).
  GIVEN WITH THE SEED: the statements are not yours to turn. If you find one false, say at which input.
  Laid BY PROGRAM, IN A SANDBOX (cutbox-rows.mjs): the forced cells as the released guide's own fill.sh prints them over the translation 58837a981b6db5bd… (all of the seat's roots in one cut). By AI agents, Wed Nov 11 2026. No macro, syntax, notation, axiom, sorry.
-/
import Derived.Test.YtkbhchlecokpiaaChecked
import GoSem.Claim
import GoSem.ClaimJoined
import GoSem.ClaimMapViews
import Derived.JoinedTies
import Derived.KernelRfl
namespace Go.Proofs.Ytkbhchlecokpiaa
/- THE CELL 'sum', in the pinned program and in every row, IS THE sha256 OF THE DUMP (.gsa) THAT YtkbhchlecokpiaaProg.lean LOADS. Nothing in Lean hashes anything: it is a label: what it is worth is what the hold of that sum in a sandbox is worth. -/
noncomputable def Try.pinned : Pinned := { name := "ytkbhchlecokpiaa", sum := "58837a981b6db5bd9e77a7609dbd0046918f4c57abcbe2272bfd48e172d200bb", checked := Try.checked }
namespace Rows
def none {H : Type} : Left H := { results := [], args := [] }

/-- 'tripwirelaw24.QueueNone': WHATEVER THE INPUT: true; the input reads as it did. -/
def queueNoneSpec : ChangeSpec := { name := "queueNone", fn := fun _ => fun
  | [d] => { results := [.lit (.bool true)], args := [d] }
  | _ => none }
def queueNoneRow : OpenClaim := { program := "ytkbhchlecokpiaa", sum := "58837a981b6db5bd9e77a7609dbd0046918f4c57abcbe2272bfd48e172d200bb", func := "tripwire/tripwirelaw24.QueueNone", spec := "queueNone", inPlace := ["math/bits.Add64", "math/bits.Sub64"], unfollowed := true, recurses := true, named := ["math/bits.divideError", "math/bits.overflowError"], apart := false }
def QueueNoneSaid : Prop := queueNoneRow.holds Try.pinned (OpenSpec.ofChange queueNoneSpec)

/-- ITS FALSE NEIGHBOUR: 'it returns false'. Refute it at one input. -/
def queueNoneWrong : ChangeSpec := { name := "queueNone", fn := fun _ => fun
  | [d] => { results := [.lit (.bool false)], args := [d] }
  | _ => none }
def QueueNoneWrongFalsely : Prop := queueNoneRow.holds Try.pinned (OpenSpec.ofChange queueNoneWrong)

/-- 'tripwirelaw24.QueueOrders': WHATEVER THE INPUT: true; the input reads as it did. -/
def queueOrdersSpec : ChangeSpec := { name := "queueOrders", fn := fun _ => fun
  | [d] => { results := [.lit (.bool true)], args := [d] }
  | _ => none }
def queueOrdersRow : OpenClaim := { program := "ytkbhchlecokpiaa", sum := "58837a981b6db5bd9e77a7609dbd0046918f4c57abcbe2272bfd48e172d200bb", func := "tripwire/tripwirelaw24.QueueOrders", spec := "queueOrders", inPlace := ["math/bits.Add64", "math/bits.Sub64"], unfollowed := true, recurses := true, named := ["math/bits.divideError", "math/bits.overflowError"], apart := false }
def QueueOrdersSaid : Prop := queueOrdersRow.holds Try.pinned (OpenSpec.ofChange queueOrdersSpec)

/-- ITS FALSE NEIGHBOUR: 'it returns false'. Refute it at one input. -/
def queueOrdersWrong : ChangeSpec := { name := "queueOrders", fn := fun _ => fun
  | [d] => { results := [.lit (.bool false)], args := [d] }
  | _ => none }
def QueueOrdersWrongFalsely : Prop := queueOrdersRow.holds Try.pinned (OpenSpec.ofChange queueOrdersWrong)

/-- 'tripwirelaw10.ShapesNumbers': WHATEVER THE INPUT: true; the input reads as it did. -/
def shapesNumbersSpec : ChangeSpec := { name := "shapesNumbers", fn := fun _ => fun
  | [] => { results := [.lit (.bool true)], args := [] }
  | _ => none }
def shapesNumbersRow : OpenClaim := { program := "ytkbhchlecokpiaa", sum := "58837a981b6db5bd9e77a7609dbd0046918f4c57abcbe2272bfd48e172d200bb", func := "tripwire/tripwirelaw10.ShapesNumbers", spec := "shapesNumbers", inPlace := ["math/bits.Add64", "math/bits.Sub64"], unfollowed := true, recurses := true, named := ["math/bits.divideError", "math/bits.overflowError"], apart := false }
def ShapesNumbersSaid : Prop := shapesNumbersRow.holds Try.pinned (OpenSpec.ofChange shapesNumbersSpec)

/-- ITS FALSE NEIGHBOUR: 'it returns false'. Refute it at one input. -/
def shapesNumbersWrong : ChangeSpec := { name := "shapesNumbers", fn := fun _ => fun
  | [] => { results := [.lit (.bool false)], args := [] }
  | _ => none }
def ShapesNumbersWrongFalsely : Prop := shapesNumbersRow.holds Try.pinned (OpenSpec.ofChange shapesNumbersWrong)

/-- 'tripwirelaw10.ShapesBegin': WHATEVER THE INPUT: true; the input reads as it did. -/
def shapesBeginSpec : ChangeSpec := { name := "shapesBegin", fn := fun _ => fun
  | [d1, d2] => { results := [.lit (.bool true)], args := [d1, d2] }
  | _ => none }
def shapesBeginRow : OpenClaim := { program := "ytkbhchlecokpiaa", sum := "58837a981b6db5bd9e77a7609dbd0046918f4c57abcbe2272bfd48e172d200bb", func := "tripwire/tripwirelaw10.ShapesBegin", spec := "shapesBegin", inPlace := ["math/bits.Add64", "math/bits.Sub64"], unfollowed := true, recurses := true, named := ["math/bits.divideError", "math/bits.overflowError"], apart := false }
def ShapesBeginSaid : Prop := shapesBeginRow.holds Try.pinned (OpenSpec.ofChange shapesBeginSpec)

/-- ITS FALSE NEIGHBOUR: 'it returns false'. Refute it at one input. -/
def shapesBeginWrong : ChangeSpec := { name := "shapesBegin", fn := fun _ => fun
  | [d1, d2] => { results := [.lit (.bool false)], args := [d1, d2] }
  | _ => none }
def ShapesBeginWrongFalsely : Prop := shapesBeginRow.holds Try.pinned (OpenSpec.ofChange shapesBeginWrong)

/-- 'tripwirelaw10.ShapesBoxes': WHATEVER THE INPUT: true; the input reads as it did. -/
def shapesBoxesSpec : ChangeSpec := { name := "shapesBoxes", fn := fun _ => fun
  | [d1, d2] => { results := [.lit (.bool true)], args := [d1, d2] }
  | _ => none }
def shapesBoxesRow : OpenClaim := { program := "ytkbhchlecokpiaa", sum := "58837a981b6db5bd9e77a7609dbd0046918f4c57abcbe2272bfd48e172d200bb", func := "tripwire/tripwirelaw10.ShapesBoxes", spec := "shapesBoxes", inPlace := ["math/bits.Add64", "math/bits.Sub64"], unfollowed := true, recurses := true, named := ["math/bits.divideError", "math/bits.overflowError"], apart := false }
def ShapesBoxesSaid : Prop := shapesBoxesRow.holds Try.pinned (OpenSpec.ofChange shapesBoxesSpec)

/-- ITS FALSE NEIGHBOUR: 'it returns false'. Refute it at one input. -/
def shapesBoxesWrong : ChangeSpec := { name := "shapesBoxes", fn := fun _ => fun
  | [d1, d2] => { results := [.lit (.bool false)], args := [d1, d2] }
  | _ => none }
def ShapesBoxesWrongFalsely : Prop := shapesBoxesRow.holds Try.pinned (OpenSpec.ofChange shapesBoxesWrong)

/-- 'tripwirelaw09.TokensBoth': WHATEVER THE INPUT: true; the input reads as it did. -/
def tokensBothSpec : ChangeSpec := { name := "tokensBoth", fn := fun _ => fun
  | [d1, d2] => { results := [.lit (.bool true)], args := [d1, d2] }
  | _ => none }
def tokensBothRow : OpenClaim := { program := "ytkbhchlecokpiaa", sum := "58837a981b6db5bd9e77a7609dbd0046918f4c57abcbe2272bfd48e172d200bb", func := "tripwire/tripwirelaw09.TokensBoth", spec := "tokensBoth", inPlace := ["math/bits.Add64", "math/bits.Sub64", "internal/bytealg.IndexByteString", "internal/bytealg.IndexString", "internal/bytealg.CountString"], unfollowed := true, recurses := true, named := ["math/bits.divideError", "math/bits.overflowError", "internal/bytealg.MaxLen"], apart := false }
def TokensBothSaid : Prop := tokensBothRow.holds Try.pinned (OpenSpec.ofChange tokensBothSpec)

/-- ITS FALSE NEIGHBOUR: 'it returns false'. Refute it at one input. -/
def tokensBothWrong : ChangeSpec := { name := "tokensBoth", fn := fun _ => fun
  | [d1, d2] => { results := [.lit (.bool false)], args := [d1, d2] }
  | _ => none }
def TokensBothWrongFalsely : Prop := tokensBothRow.holds Try.pinned (OpenSpec.ofChange tokensBothWrong)

/-- 'tripwirelaw09.TokensBack': WHATEVER THE INPUT: true; the input reads as it did. -/
def tokensBackSpec : ChangeSpec := { name := "tokensBack", fn := fun _ => fun
  | [d1, d2] => { results := [.lit (.bool true)], args := [d1, d2] }
  | _ => none }
def tokensBackRow : OpenClaim := { program := "ytkbhchlecokpiaa", sum := "58837a981b6db5bd9e77a7609dbd0046918f4c57abcbe2272bfd48e172d200bb", func := "tripwire/tripwirelaw09.TokensBack", spec := "tokensBack", inPlace := ["internal/bytealg.IndexByteString", "internal/bytealg.IndexString", "math/bits.Add64", "math/bits.Sub64", "internal/bytealg.CountString"], unfollowed := true, recurses := true, named := ["internal/bytealg.MaxLen", "math/bits.divideError", "math/bits.overflowError"], apart := false }
def TokensBackSaid : Prop := tokensBackRow.holds Try.pinned (OpenSpec.ofChange tokensBackSpec)

/-- ITS FALSE NEIGHBOUR: 'it returns false'. Refute it at one input. -/
def tokensBackWrong : ChangeSpec := { name := "tokensBack", fn := fun _ => fun
  | [d1, d2] => { results := [.lit (.bool false)], args := [d1, d2] }
  | _ => none }
def TokensBackWrongFalsely : Prop := tokensBackRow.holds Try.pinned (OpenSpec.ofChange tokensBackWrong)

/-- 'tripwirelaw09.TokensNumbers': WHATEVER THE INPUT: true; the input reads as it did. -/
def tokensNumbersSpec : ChangeSpec := { name := "tokensNumbers", fn := fun _ => fun
  | [] => { results := [.lit (.bool true)], args := [] }
  | _ => none }
def tokensNumbersRow : OpenClaim := { program := "ytkbhchlecokpiaa", sum := "58837a981b6db5bd9e77a7609dbd0046918f4c57abcbe2272bfd48e172d200bb", func := "tripwire/tripwirelaw09.TokensNumbers", spec := "tokensNumbers", inPlace := ["internal/bytealg.IndexByteString", "internal/bytealg.IndexString", "math/bits.Add64", "math/bits.Sub64", "internal/abi.NoEscape", "internal/bytealg.MakeNoZero"], unfollowed := true, recurses := true, named := ["internal/bytealg.MaxLen", "math/bits.divideError", "math/bits.overflowError"], apart := false }
def TokensNumbersSaid : Prop := tokensNumbersRow.holds Try.pinned (OpenSpec.ofChange tokensNumbersSpec)

/-- ITS FALSE NEIGHBOUR: 'it returns false'. Refute it at one input. -/
def tokensNumbersWrong : ChangeSpec := { name := "tokensNumbers", fn := fun _ => fun
  | [] => { results := [.lit (.bool false)], args := [] }
  | _ => none }
def TokensNumbersWrongFalsely : Prop := tokensNumbersRow.holds Try.pinned (OpenSpec.ofChange tokensNumbersWrong)

/- THE SECOND FORM. 'bulk': how many values and letters a reading holds, each counted each time it is reached (what is shared counts as often as it is met; a slice's spare places count too). A statement '..UptoSaid' is the law's where the arguments, and the package variables that the reading takes, are together of bulk at most 1048576: NARROWER than '..Said'. Prove '..Said' where nothing that the law and all that it calls make is longer than what came in: it says more and counts as full. Else prove '..UptoSaid'. A law counts once. -/
mutual
def uptoBulk {H : Type} : DataW H → Nat
  | .lit (.string bytes) => bytes.length + 1
  | .lit _ => 1
  | .nil => 1
  | .ptr d => uptoBulk d + 1
  | .slice elems spare => uptoBulkAll elems + uptoBulkAll spare + 1
  | .agg parts => uptoBulkAll parts + 1
  | .iface _ d => uptoBulk d + 1
  | .map entries => uptoBulkEntries entries + 1
  | .held _ => 1
def uptoBulkAll {H : Type} : List (DataW H) → Nat
  | [] => 0
  | d :: r => uptoBulk d + uptoBulkAll r
def uptoBulkEntries {H : Type} : List (Lit × DataW H) → Nat
  | [] => 0
  | x :: r => uptoBulkEntry x + uptoBulkEntries r
def uptoBulkEntry {H : Type} : Lit × DataW H → Nat
  | (.string bytes, d) => bytes.length + uptoBulk d + 1
  | (_, d) => uptoBulk d + 1
 end
def uptoSmall : (H : Type) → List (DataW H) → Bool := fun _ ds => decide (uptoBulkAll ds ≤ 1048576)
def OpenSpec.upto (s : _root_.Go.ChangeSpec) : _root_.Go.OpenSpec := { _root_.Go.OpenSpec.ofChange s with cond := some uptoSmall }

/-- 'tripwirelaw24.QueueNone', WHERE WHAT IT READS IS OF BULK AT MOST 1048576: true; the input reads as it did. -/
def queueNoneUptoRow : OpenClaim := { program := "ytkbhchlecokpiaa", sum := "58837a981b6db5bd9e77a7609dbd0046918f4c57abcbe2272bfd48e172d200bb", func := "tripwire/tripwirelaw24.QueueNone", spec := "queueNone", inPlace := ["math/bits.Add64", "math/bits.Sub64"], unfollowed := true, recurses := true, named := ["math/bits.divideError", "math/bits.overflowError"], apart := false, narrowed := true }
def QueueNoneUptoSaid : Prop := queueNoneUptoRow.holds Try.pinned (OpenSpec.upto queueNoneSpec)

/-- 'tripwirelaw24.QueueOrders', WHERE WHAT IT READS IS OF BULK AT MOST 1048576: true; the input reads as it did. -/
def queueOrdersUptoRow : OpenClaim := { program := "ytkbhchlecokpiaa", sum := "58837a981b6db5bd9e77a7609dbd0046918f4c57abcbe2272bfd48e172d200bb", func := "tripwire/tripwirelaw24.QueueOrders", spec := "queueOrders", inPlace := ["math/bits.Add64", "math/bits.Sub64"], unfollowed := true, recurses := true, named := ["math/bits.divideError", "math/bits.overflowError"], apart := false, narrowed := true }
def QueueOrdersUptoSaid : Prop := queueOrdersUptoRow.holds Try.pinned (OpenSpec.upto queueOrdersSpec)

/-- 'tripwirelaw10.ShapesNumbers', WHERE WHAT IT READS IS OF BULK AT MOST 1048576: true; the input reads as it did. -/
def shapesNumbersUptoRow : OpenClaim := { program := "ytkbhchlecokpiaa", sum := "58837a981b6db5bd9e77a7609dbd0046918f4c57abcbe2272bfd48e172d200bb", func := "tripwire/tripwirelaw10.ShapesNumbers", spec := "shapesNumbers", inPlace := ["math/bits.Add64", "math/bits.Sub64"], unfollowed := true, recurses := true, named := ["math/bits.divideError", "math/bits.overflowError"], apart := false, narrowed := true }
def ShapesNumbersUptoSaid : Prop := shapesNumbersUptoRow.holds Try.pinned (OpenSpec.upto shapesNumbersSpec)

/-- 'tripwirelaw10.ShapesBegin', WHERE WHAT IT READS IS OF BULK AT MOST 1048576: true; the input reads as it did. -/
def shapesBeginUptoRow : OpenClaim := { program := "ytkbhchlecokpiaa", sum := "58837a981b6db5bd9e77a7609dbd0046918f4c57abcbe2272bfd48e172d200bb", func := "tripwire/tripwirelaw10.ShapesBegin", spec := "shapesBegin", inPlace := ["math/bits.Add64", "math/bits.Sub64"], unfollowed := true, recurses := true, named := ["math/bits.divideError", "math/bits.overflowError"], apart := false, narrowed := true }
def ShapesBeginUptoSaid : Prop := shapesBeginUptoRow.holds Try.pinned (OpenSpec.upto shapesBeginSpec)

/-- 'tripwirelaw10.ShapesBoxes', WHERE WHAT IT READS IS OF BULK AT MOST 1048576: true; the input reads as it did. -/
def shapesBoxesUptoRow : OpenClaim := { program := "ytkbhchlecokpiaa", sum := "58837a981b6db5bd9e77a7609dbd0046918f4c57abcbe2272bfd48e172d200bb", func := "tripwire/tripwirelaw10.ShapesBoxes", spec := "shapesBoxes", inPlace := ["math/bits.Add64", "math/bits.Sub64"], unfollowed := true, recurses := true, named := ["math/bits.divideError", "math/bits.overflowError"], apart := false, narrowed := true }
def ShapesBoxesUptoSaid : Prop := shapesBoxesUptoRow.holds Try.pinned (OpenSpec.upto shapesBoxesSpec)

/-- 'tripwirelaw09.TokensBoth', WHERE WHAT IT READS IS OF BULK AT MOST 1048576: true; the input reads as it did. -/
def tokensBothUptoRow : OpenClaim := { program := "ytkbhchlecokpiaa", sum := "58837a981b6db5bd9e77a7609dbd0046918f4c57abcbe2272bfd48e172d200bb", func := "tripwire/tripwirelaw09.TokensBoth", spec := "tokensBoth", inPlace := ["math/bits.Add64", "math/bits.Sub64", "internal/bytealg.IndexByteString", "internal/bytealg.IndexString", "internal/bytealg.CountString"], unfollowed := true, recurses := true, named := ["math/bits.divideError", "math/bits.overflowError", "internal/bytealg.MaxLen"], apart := false, narrowed := true }
def TokensBothUptoSaid : Prop := tokensBothUptoRow.holds Try.pinned (OpenSpec.upto tokensBothSpec)

/-- 'tripwirelaw09.TokensBack', WHERE WHAT IT READS IS OF BULK AT MOST 1048576: true; the input reads as it did. -/
def tokensBackUptoRow : OpenClaim := { program := "ytkbhchlecokpiaa", sum := "58837a981b6db5bd9e77a7609dbd0046918f4c57abcbe2272bfd48e172d200bb", func := "tripwire/tripwirelaw09.TokensBack", spec := "tokensBack", inPlace := ["internal/bytealg.IndexByteString", "internal/bytealg.IndexString", "math/bits.Add64", "math/bits.Sub64", "internal/bytealg.CountString"], unfollowed := true, recurses := true, named := ["internal/bytealg.MaxLen", "math/bits.divideError", "math/bits.overflowError"], apart := false, narrowed := true }
def TokensBackUptoSaid : Prop := tokensBackUptoRow.holds Try.pinned (OpenSpec.upto tokensBackSpec)

/-- 'tripwirelaw09.TokensNumbers', WHERE WHAT IT READS IS OF BULK AT MOST 1048576: true; the input reads as it did. -/
def tokensNumbersUptoRow : OpenClaim := { program := "ytkbhchlecokpiaa", sum := "58837a981b6db5bd9e77a7609dbd0046918f4c57abcbe2272bfd48e172d200bb", func := "tripwire/tripwirelaw09.TokensNumbers", spec := "tokensNumbers", inPlace := ["internal/bytealg.IndexByteString", "internal/bytealg.IndexString", "math/bits.Add64", "math/bits.Sub64", "internal/abi.NoEscape", "internal/bytealg.MakeNoZero"], unfollowed := true, recurses := true, named := ["internal/bytealg.MaxLen", "math/bits.divideError", "math/bits.overflowError"], apart := false, narrowed := true }
def TokensNumbersUptoSaid : Prop := tokensNumbersUptoRow.holds Try.pinned (OpenSpec.upto tokensNumbersSpec)

end Rows
end Go.Proofs.Ytkbhchlecokpiaa
