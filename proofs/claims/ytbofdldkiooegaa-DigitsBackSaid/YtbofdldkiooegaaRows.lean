/-
  No cell of these rows narrows 'for every input' (looked for: loops, veiled, ifaces, maps, wideKeys, modest, calm, conditions, laid).
  DERIVED. THE GIVEN ROWS OF THIS SEAT. 13 by the template 'for every input the law returns true; each argument reads behind the call as it read before'; 0 by the template 'total and deterministic' (their statements: YtbofdldkiooegaaTotals.lean).
  GIVEN WITH THE SEED: the statements are not yours to turn. If you find one false, say at which input.
  Laid BY PROGRAM, IN A SANDBOX (cutbox-rows.mjs): the forced cells as the released guide's own fill.sh prints them over the translation d990d6f54f0e9cc0… (all of the seat's roots in one cut). By AI agents, Wed Nov 11 2026. No macro, syntax, notation, axiom, sorry.
-/
import Derived.Test.YtbofdldkiooegaaChecked
import GoSem.Claim
import GoSem.ClaimJoined
import GoSem.ClaimMapViews
import Derived.JoinedTies
import Derived.KernelRfl
namespace Go.Proofs.Ytbofdldkiooegaa
/- THE CELL 'sum', in the pinned program and in every row, IS THE sha256 OF THE DUMP (.gsa) THAT YtbofdldkiooegaaProg.lean LOADS. Nothing in Lean hashes anything: it is a label: what it is worth is what the hold of that sum in a sandbox is worth. -/
noncomputable def Try.pinned : Pinned := { name := "ytbofdldkiooegaa", sum := "d990d6f54f0e9cc0a410ffbc512dde91b5df52addec2e7d6995f412a40859a4f", checked := Try.checked }
namespace Rows
def none {H : Type} : Left H := { results := [], args := [] }

/-- 'tripwirelaw01.LimbsGcds': WHATEVER THE INPUT: true; the input reads as it did. -/
def limbsGcdsSpec : ChangeSpec := { name := "limbsGcds", fn := fun _ => fun
  | [d1, d2] => { results := [.lit (.bool true)], args := [d1, d2] }
  | _ => none }
def limbsGcdsRow : OpenClaim := { program := "ytbofdldkiooegaa", sum := "d990d6f54f0e9cc0a410ffbc512dde91b5df52addec2e7d6995f412a40859a4f", func := "tripwire/tripwirelaw01.LimbsGcds", spec := "limbsGcds", inPlace := ["math/bits.Add64", "math/bits.Sub64"], unfollowed := true, recurses := true, named := ["math/bits.divideError", "math/bits.overflowError"], apart := false }
def LimbsGcdsSaid : Prop := limbsGcdsRow.holds Try.pinned (OpenSpec.ofChange limbsGcdsSpec)

/-- ITS FALSE NEIGHBOUR: 'it returns false'. Refute it at one input. -/
def limbsGcdsWrong : ChangeSpec := { name := "limbsGcds", fn := fun _ => fun
  | [d1, d2] => { results := [.lit (.bool false)], args := [d1, d2] }
  | _ => none }
def LimbsGcdsWrongFalsely : Prop := limbsGcdsRow.holds Try.pinned (OpenSpec.ofChange limbsGcdsWrong)

/-- 'tripwirelaw01.LimbsDivides': WHATEVER THE INPUT: true; the input reads as it did. -/
def limbsDividesSpec : ChangeSpec := { name := "limbsDivides", fn := fun _ => fun
  | [d1, d2, d3] => { results := [.lit (.bool true)], args := [d1, d2, d3] }
  | _ => none }
def limbsDividesRow : OpenClaim := { program := "ytbofdldkiooegaa", sum := "d990d6f54f0e9cc0a410ffbc512dde91b5df52addec2e7d6995f412a40859a4f", func := "tripwire/tripwirelaw01.LimbsDivides", spec := "limbsDivides", inPlace := ["math/bits.Add64", "math/bits.Sub64"], unfollowed := true, recurses := true, named := ["math/bits.divideError", "math/bits.overflowError"], apart := false }
def LimbsDividesSaid : Prop := limbsDividesRow.holds Try.pinned (OpenSpec.ofChange limbsDividesSpec)

/-- ITS FALSE NEIGHBOUR: 'it returns false'. Refute it at one input. -/
def limbsDividesWrong : ChangeSpec := { name := "limbsDivides", fn := fun _ => fun
  | [d1, d2, d3] => { results := [.lit (.bool false)], args := [d1, d2, d3] }
  | _ => none }
def LimbsDividesWrongFalsely : Prop := limbsDividesRow.holds Try.pinned (OpenSpec.ofChange limbsDividesWrong)

/-- 'tripwirelaw01.LimbsShifts': WHATEVER THE INPUT: true; the input reads as it did. -/
def limbsShiftsSpec : ChangeSpec := { name := "limbsShifts", fn := fun _ => fun
  | [d1, d2] => { results := [.lit (.bool true)], args := [d1, d2] }
  | _ => none }
def limbsShiftsRow : OpenClaim := { program := "ytbofdldkiooegaa", sum := "d990d6f54f0e9cc0a410ffbc512dde91b5df52addec2e7d6995f412a40859a4f", func := "tripwire/tripwirelaw01.LimbsShifts", spec := "limbsShifts", inPlace := ["math/bits.Add64", "math/bits.Sub64"], unfollowed := true, recurses := true, named := ["math/bits.divideError", "math/bits.overflowError"], apart := false }
def LimbsShiftsSaid : Prop := limbsShiftsRow.holds Try.pinned (OpenSpec.ofChange limbsShiftsSpec)

/-- ITS FALSE NEIGHBOUR: 'it returns false'. Refute it at one input. -/
def limbsShiftsWrong : ChangeSpec := { name := "limbsShifts", fn := fun _ => fun
  | [d1, d2] => { results := [.lit (.bool false)], args := [d1, d2] }
  | _ => none }
def LimbsShiftsWrongFalsely : Prop := limbsShiftsRow.holds Try.pinned (OpenSpec.ofChange limbsShiftsWrong)

/-- 'tripwirelaw01.LimbsRings': WHATEVER THE INPUT: true; the input reads as it did. -/
def limbsRingsSpec : ChangeSpec := { name := "limbsRings", fn := fun _ => fun
  | [d1, d2, d3] => { results := [.lit (.bool true)], args := [d1, d2, d3] }
  | _ => none }
def limbsRingsRow : OpenClaim := { program := "ytbofdldkiooegaa", sum := "d990d6f54f0e9cc0a410ffbc512dde91b5df52addec2e7d6995f412a40859a4f", func := "tripwire/tripwirelaw01.LimbsRings", spec := "limbsRings", inPlace := ["math/bits.Add64", "math/bits.Sub64"], unfollowed := true, recurses := true, named := ["math/bits.divideError", "math/bits.overflowError"], apart := false }
def LimbsRingsSaid : Prop := limbsRingsRow.holds Try.pinned (OpenSpec.ofChange limbsRingsSpec)

/-- ITS FALSE NEIGHBOUR: 'it returns false'. Refute it at one input. -/
def limbsRingsWrong : ChangeSpec := { name := "limbsRings", fn := fun _ => fun
  | [d1, d2, d3] => { results := [.lit (.bool false)], args := [d1, d2, d3] }
  | _ => none }
def LimbsRingsWrongFalsely : Prop := limbsRingsRow.holds Try.pinned (OpenSpec.ofChange limbsRingsWrong)

/-- 'tripwirelaw01.LimbsNumbers': WHATEVER THE INPUT: true; the input reads as it did. -/
def limbsNumbersSpec : ChangeSpec := { name := "limbsNumbers", fn := fun _ => fun
  | [] => { results := [.lit (.bool true)], args := [] }
  | _ => none }
def limbsNumbersRow : OpenClaim := { program := "ytbofdldkiooegaa", sum := "d990d6f54f0e9cc0a410ffbc512dde91b5df52addec2e7d6995f412a40859a4f", func := "tripwire/tripwirelaw01.LimbsNumbers", spec := "limbsNumbers", inPlace := ["math/bits.Sub64", "math/bits.Add64"], unfollowed := true, recurses := true, named := ["math/bits.divideError", "math/bits.overflowError"], apart := false }
def LimbsNumbersSaid : Prop := limbsNumbersRow.holds Try.pinned (OpenSpec.ofChange limbsNumbersSpec)

/-- ITS FALSE NEIGHBOUR: 'it returns false'. Refute it at one input. -/
def limbsNumbersWrong : ChangeSpec := { name := "limbsNumbers", fn := fun _ => fun
  | [] => { results := [.lit (.bool false)], args := [] }
  | _ => none }
def LimbsNumbersWrongFalsely : Prop := limbsNumbersRow.holds Try.pinned (OpenSpec.ofChange limbsNumbersWrong)

/-- 'tripwirelaw01.LimbsTells': WHATEVER THE INPUT: true; the input reads as it did. -/
def limbsTellsSpec : ChangeSpec := { name := "limbsTells", fn := fun _ => fun
  | [d1, d2, d3] => { results := [.lit (.bool true)], args := [d1, d2, d3] }
  | _ => none }
def limbsTellsRow : OpenClaim := { program := "ytbofdldkiooegaa", sum := "d990d6f54f0e9cc0a410ffbc512dde91b5df52addec2e7d6995f412a40859a4f", func := "tripwire/tripwirelaw01.LimbsTells", spec := "limbsTells", inPlace := ["math/bits.Add64", "math/bits.Sub64"], unfollowed := true, recurses := true, named := ["math/bits.divideError", "math/bits.overflowError"], apart := false }
def LimbsTellsSaid : Prop := limbsTellsRow.holds Try.pinned (OpenSpec.ofChange limbsTellsSpec)

/-- ITS FALSE NEIGHBOUR: 'it returns false'. Refute it at one input. -/
def limbsTellsWrong : ChangeSpec := { name := "limbsTells", fn := fun _ => fun
  | [d1, d2, d3] => { results := [.lit (.bool false)], args := [d1, d2, d3] }
  | _ => none }
def LimbsTellsWrongFalsely : Prop := limbsTellsRow.holds Try.pinned (OpenSpec.ofChange limbsTellsWrong)

/-- 'tripwirelaw02.WholeRing': WHATEVER THE INPUT: true; the input reads as it did. -/
def wholeRingSpec : ChangeSpec := { name := "wholeRing", fn := fun _ => fun
  | [d1, d2, d3] => { results := [.lit (.bool true)], args := [d1, d2, d3] }
  | _ => none }
def wholeRingRow : OpenClaim := { program := "ytbofdldkiooegaa", sum := "d990d6f54f0e9cc0a410ffbc512dde91b5df52addec2e7d6995f412a40859a4f", func := "tripwire/tripwirelaw02.WholeRing", spec := "wholeRing", inPlace := ["math/bits.Add64", "math/bits.Sub64"], unfollowed := true, recurses := true, named := ["math/bits.divideError", "math/bits.overflowError"], apart := false }
def WholeRingSaid : Prop := wholeRingRow.holds Try.pinned (OpenSpec.ofChange wholeRingSpec)

/-- ITS FALSE NEIGHBOUR: 'it returns false'. Refute it at one input. -/
def wholeRingWrong : ChangeSpec := { name := "wholeRing", fn := fun _ => fun
  | [d1, d2, d3] => { results := [.lit (.bool false)], args := [d1, d2, d3] }
  | _ => none }
def WholeRingWrongFalsely : Prop := wholeRingRow.holds Try.pinned (OpenSpec.ofChange wholeRingWrong)

/-- 'tripwirelaw03.DigitsTells': WHATEVER THE INPUT: true; the input reads as it did. -/
def digitsTellsSpec : ChangeSpec := { name := "digitsTells", fn := fun _ => fun
  | [d1, d2] => { results := [.lit (.bool true)], args := [d1, d2] }
  | _ => none }
def digitsTellsRow : OpenClaim := { program := "ytbofdldkiooegaa", sum := "d990d6f54f0e9cc0a410ffbc512dde91b5df52addec2e7d6995f412a40859a4f", func := "tripwire/tripwirelaw03.DigitsTells", spec := "digitsTells", inPlace := ["math/bits.Add64", "math/bits.Sub64"], unfollowed := true, recurses := true, named := ["math/bits.divideError", "math/bits.overflowError"], apart := false }
def DigitsTellsSaid : Prop := digitsTellsRow.holds Try.pinned (OpenSpec.ofChange digitsTellsSpec)

/-- ITS FALSE NEIGHBOUR: 'it returns false'. Refute it at one input. -/
def digitsTellsWrong : ChangeSpec := { name := "digitsTells", fn := fun _ => fun
  | [d1, d2] => { results := [.lit (.bool false)], args := [d1, d2] }
  | _ => none }
def DigitsTellsWrongFalsely : Prop := digitsTellsRow.holds Try.pinned (OpenSpec.ofChange digitsTellsWrong)

/-- 'tripwirelaw02.WholeOrder': WHATEVER THE INPUT: true; the input reads as it did. -/
def wholeOrderSpec : ChangeSpec := { name := "wholeOrder", fn := fun _ => fun
  | [d1, d2, d3] => { results := [.lit (.bool true)], args := [d1, d2, d3] }
  | _ => none }
def wholeOrderRow : OpenClaim := { program := "ytbofdldkiooegaa", sum := "d990d6f54f0e9cc0a410ffbc512dde91b5df52addec2e7d6995f412a40859a4f", func := "tripwire/tripwirelaw02.WholeOrder", spec := "wholeOrder", inPlace := ["math/bits.Add64", "math/bits.Sub64"], unfollowed := true, recurses := true, named := ["math/bits.divideError", "math/bits.overflowError"], apart := false }
def WholeOrderSaid : Prop := wholeOrderRow.holds Try.pinned (OpenSpec.ofChange wholeOrderSpec)

/-- ITS FALSE NEIGHBOUR: 'it returns false'. Refute it at one input. -/
def wholeOrderWrong : ChangeSpec := { name := "wholeOrder", fn := fun _ => fun
  | [d1, d2, d3] => { results := [.lit (.bool false)], args := [d1, d2, d3] }
  | _ => none }
def WholeOrderWrongFalsely : Prop := wholeOrderRow.holds Try.pinned (OpenSpec.ofChange wholeOrderWrong)

/-- 'tripwirelaw02.WholeNumbers': WHATEVER THE INPUT: true; the input reads as it did. -/
def wholeNumbersSpec : ChangeSpec := { name := "wholeNumbers", fn := fun _ => fun
  | [] => { results := [.lit (.bool true)], args := [] }
  | _ => none }
def wholeNumbersRow : OpenClaim := { program := "ytbofdldkiooegaa", sum := "d990d6f54f0e9cc0a410ffbc512dde91b5df52addec2e7d6995f412a40859a4f", func := "tripwire/tripwirelaw02.WholeNumbers", spec := "wholeNumbers", inPlace := ["math/bits.Add64", "math/bits.Sub64"], unfollowed := true, recurses := true, named := ["math/bits.divideError", "math/bits.overflowError"], apart := false }
def WholeNumbersSaid : Prop := wholeNumbersRow.holds Try.pinned (OpenSpec.ofChange wholeNumbersSpec)

/-- ITS FALSE NEIGHBOUR: 'it returns false'. Refute it at one input. -/
def wholeNumbersWrong : ChangeSpec := { name := "wholeNumbers", fn := fun _ => fun
  | [] => { results := [.lit (.bool false)], args := [] }
  | _ => none }
def WholeNumbersWrongFalsely : Prop := wholeNumbersRow.holds Try.pinned (OpenSpec.ofChange wholeNumbersWrong)

/-- 'tripwirelaw02.WholeTells': WHATEVER THE INPUT: true; the input reads as it did. -/
def wholeTellsSpec : ChangeSpec := { name := "wholeTells", fn := fun _ => fun
  | [d1, d2, d3] => { results := [.lit (.bool true)], args := [d1, d2, d3] }
  | _ => none }
def wholeTellsRow : OpenClaim := { program := "ytbofdldkiooegaa", sum := "d990d6f54f0e9cc0a410ffbc512dde91b5df52addec2e7d6995f412a40859a4f", func := "tripwire/tripwirelaw02.WholeTells", spec := "wholeTells", inPlace := ["math/bits.Add64", "math/bits.Sub64"], unfollowed := true, recurses := true, named := ["math/bits.divideError", "math/bits.overflowError"], apart := false }
def WholeTellsSaid : Prop := wholeTellsRow.holds Try.pinned (OpenSpec.ofChange wholeTellsSpec)

/-- ITS FALSE NEIGHBOUR: 'it returns false'. Refute it at one input. -/
def wholeTellsWrong : ChangeSpec := { name := "wholeTells", fn := fun _ => fun
  | [d1, d2, d3] => { results := [.lit (.bool false)], args := [d1, d2, d3] }
  | _ => none }
def WholeTellsWrongFalsely : Prop := wholeTellsRow.holds Try.pinned (OpenSpec.ofChange wholeTellsWrong)

/-- 'tripwirelaw03.DigitsBack': WHATEVER THE INPUT: true; the input reads as it did. -/
def digitsBackSpec : ChangeSpec := { name := "digitsBack", fn := fun _ => fun
  | [d1, d2, d3] => { results := [.lit (.bool true)], args := [d1, d2, d3] }
  | _ => none }
def digitsBackRow : OpenClaim := { program := "ytbofdldkiooegaa", sum := "d990d6f54f0e9cc0a410ffbc512dde91b5df52addec2e7d6995f412a40859a4f", func := "tripwire/tripwirelaw03.DigitsBack", spec := "digitsBack", inPlace := ["math/bits.Add64", "math/bits.Sub64"], unfollowed := true, recurses := true, named := ["math/bits.divideError", "math/bits.overflowError"], apart := false }
def DigitsBackSaid : Prop := digitsBackRow.holds Try.pinned (OpenSpec.ofChange digitsBackSpec)

/-- ITS FALSE NEIGHBOUR: 'it returns false'. Refute it at one input. -/
def digitsBackWrong : ChangeSpec := { name := "digitsBack", fn := fun _ => fun
  | [d1, d2, d3] => { results := [.lit (.bool false)], args := [d1, d2, d3] }
  | _ => none }
def DigitsBackWrongFalsely : Prop := digitsBackRow.holds Try.pinned (OpenSpec.ofChange digitsBackWrong)

/-- 'tripwirelaw03.DigitsNumbers': WHATEVER THE INPUT: true; the input reads as it did. -/
def digitsNumbersSpec : ChangeSpec := { name := "digitsNumbers", fn := fun _ => fun
  | [] => { results := [.lit (.bool true)], args := [] }
  | _ => none }
def digitsNumbersRow : OpenClaim := { program := "ytbofdldkiooegaa", sum := "d990d6f54f0e9cc0a410ffbc512dde91b5df52addec2e7d6995f412a40859a4f", func := "tripwire/tripwirelaw03.DigitsNumbers", spec := "digitsNumbers", inPlace := ["math/bits.Add64", "internal/abi.NoEscape", "internal/bytealg.MakeNoZero", "math/bits.Sub64"], unfollowed := true, recurses := true, named := ["math/bits.divideError", "math/bits.overflowError"], apart := false }
def DigitsNumbersSaid : Prop := digitsNumbersRow.holds Try.pinned (OpenSpec.ofChange digitsNumbersSpec)

/-- ITS FALSE NEIGHBOUR: 'it returns false'. Refute it at one input. -/
def digitsNumbersWrong : ChangeSpec := { name := "digitsNumbers", fn := fun _ => fun
  | [] => { results := [.lit (.bool false)], args := [] }
  | _ => none }
def DigitsNumbersWrongFalsely : Prop := digitsNumbersRow.holds Try.pinned (OpenSpec.ofChange digitsNumbersWrong)

/- THE SECOND FORM. 'bulk': how many values and letters a reading holds, each counted each time it is reached (what is shared counts as often as it is met; a slice's spare places count too). A statement '..UptoSaid' is the law's where the arguments, and the package variables that the reading takes, are together of bulk at most 1048576: NARROWER than '..Said'. Prove '..Said' where nothing that the law and all that it calls make is longer than what came in: it says more and counts as full. Else prove '..UptoSaid'. A law counts once. -/
mutual
def uptoBulk {H : Type} : DataW H → Nat
  | .lit (.string bytes) => bytes.length + 1
  | .lit _ => 1
  | .nil => 1
  | .ptr d => uptoBulk d + 1
  | .slice elems spare => uptoBulkAll elems + uptoBulkAll spare + 1
  | .agg parts => uptoBulkAll parts + 1
  | .iface _ d => uptoBulk d + 1
  | .map entries => uptoBulkEntries entries + 1
  | .held _ => 1
def uptoBulkAll {H : Type} : List (DataW H) → Nat
  | [] => 0
  | d :: r => uptoBulk d + uptoBulkAll r
def uptoBulkEntries {H : Type} : List (Lit × DataW H) → Nat
  | [] => 0
  | x :: r => uptoBulkEntry x + uptoBulkEntries r
def uptoBulkEntry {H : Type} : Lit × DataW H → Nat
  | (.string bytes, d) => bytes.length + uptoBulk d + 1
  | (_, d) => uptoBulk d + 1
 end
def uptoSmall : (H : Type) → List (DataW H) → Bool := fun _ ds => decide (uptoBulkAll ds ≤ 1048576)
def OpenSpec.upto (s : _root_.Go.ChangeSpec) : _root_.Go.OpenSpec := { _root_.Go.OpenSpec.ofChange s with cond := some uptoSmall }

/-- 'tripwirelaw01.LimbsGcds', WHERE WHAT IT READS IS OF BULK AT MOST 1048576: true; the input reads as it did. -/
def limbsGcdsUptoRow : OpenClaim := { program := "ytbofdldkiooegaa", sum := "d990d6f54f0e9cc0a410ffbc512dde91b5df52addec2e7d6995f412a40859a4f", func := "tripwire/tripwirelaw01.LimbsGcds", spec := "limbsGcds", inPlace := ["math/bits.Add64", "math/bits.Sub64"], unfollowed := true, recurses := true, named := ["math/bits.divideError", "math/bits.overflowError"], apart := false, narrowed := true }
def LimbsGcdsUptoSaid : Prop := limbsGcdsUptoRow.holds Try.pinned (OpenSpec.upto limbsGcdsSpec)

/-- 'tripwirelaw01.LimbsDivides', WHERE WHAT IT READS IS OF BULK AT MOST 1048576: true; the input reads as it did. -/
def limbsDividesUptoRow : OpenClaim := { program := "ytbofdldkiooegaa", sum := "d990d6f54f0e9cc0a410ffbc512dde91b5df52addec2e7d6995f412a40859a4f", func := "tripwire/tripwirelaw01.LimbsDivides", spec := "limbsDivides", inPlace := ["math/bits.Add64", "math/bits.Sub64"], unfollowed := true, recurses := true, named := ["math/bits.divideError", "math/bits.overflowError"], apart := false, narrowed := true }
def LimbsDividesUptoSaid : Prop := limbsDividesUptoRow.holds Try.pinned (OpenSpec.upto limbsDividesSpec)

/-- 'tripwirelaw01.LimbsShifts', WHERE WHAT IT READS IS OF BULK AT MOST 1048576: true; the input reads as it did. -/
def limbsShiftsUptoRow : OpenClaim := { program := "ytbofdldkiooegaa", sum := "d990d6f54f0e9cc0a410ffbc512dde91b5df52addec2e7d6995f412a40859a4f", func := "tripwire/tripwirelaw01.LimbsShifts", spec := "limbsShifts", inPlace := ["math/bits.Add64", "math/bits.Sub64"], unfollowed := true, recurses := true, named := ["math/bits.divideError", "math/bits.overflowError"], apart := false, narrowed := true }
def LimbsShiftsUptoSaid : Prop := limbsShiftsUptoRow.holds Try.pinned (OpenSpec.upto limbsShiftsSpec)

/-- 'tripwirelaw01.LimbsRings', WHERE WHAT IT READS IS OF BULK AT MOST 1048576: true; the input reads as it did. -/
def limbsRingsUptoRow : OpenClaim := { program := "ytbofdldkiooegaa", sum := "d990d6f54f0e9cc0a410ffbc512dde91b5df52addec2e7d6995f412a40859a4f", func := "tripwire/tripwirelaw01.LimbsRings", spec := "limbsRings", inPlace := ["math/bits.Add64", "math/bits.Sub64"], unfollowed := true, recurses := true, named := ["math/bits.divideError", "math/bits.overflowError"], apart := false, narrowed := true }
def LimbsRingsUptoSaid : Prop := limbsRingsUptoRow.holds Try.pinned (OpenSpec.upto limbsRingsSpec)

/-- 'tripwirelaw01.LimbsNumbers', WHERE WHAT IT READS IS OF BULK AT MOST 1048576: true; the input reads as it did. -/
def limbsNumbersUptoRow : OpenClaim := { program := "ytbofdldkiooegaa", sum := "d990d6f54f0e9cc0a410ffbc512dde91b5df52addec2e7d6995f412a40859a4f", func := "tripwire/tripwirelaw01.LimbsNumbers", spec := "limbsNumbers", inPlace := ["math/bits.Sub64", "math/bits.Add64"], unfollowed := true, recurses := true, named := ["math/bits.divideError", "math/bits.overflowError"], apart := false, narrowed := true }
def LimbsNumbersUptoSaid : Prop := limbsNumbersUptoRow.holds Try.pinned (OpenSpec.upto limbsNumbersSpec)

/-- 'tripwirelaw01.LimbsTells', WHERE WHAT IT READS IS OF BULK AT MOST 1048576: true; the input reads as it did. -/
def limbsTellsUptoRow : OpenClaim := { program := "ytbofdldkiooegaa", sum := "d990d6f54f0e9cc0a410ffbc512dde91b5df52addec2e7d6995f412a40859a4f", func := "tripwire/tripwirelaw01.LimbsTells", spec := "limbsTells", inPlace := ["math/bits.Add64", "math/bits.Sub64"], unfollowed := true, recurses := true, named := ["math/bits.divideError", "math/bits.overflowError"], apart := false, narrowed := true }
def LimbsTellsUptoSaid : Prop := limbsTellsUptoRow.holds Try.pinned (OpenSpec.upto limbsTellsSpec)

/-- 'tripwirelaw02.WholeRing', WHERE WHAT IT READS IS OF BULK AT MOST 1048576: true; the input reads as it did. -/
def wholeRingUptoRow : OpenClaim := { program := "ytbofdldkiooegaa", sum := "d990d6f54f0e9cc0a410ffbc512dde91b5df52addec2e7d6995f412a40859a4f", func := "tripwire/tripwirelaw02.WholeRing", spec := "wholeRing", inPlace := ["math/bits.Add64", "math/bits.Sub64"], unfollowed := true, recurses := true, named := ["math/bits.divideError", "math/bits.overflowError"], apart := false, narrowed := true }
def WholeRingUptoSaid : Prop := wholeRingUptoRow.holds Try.pinned (OpenSpec.upto wholeRingSpec)

/-- 'tripwirelaw03.DigitsTells', WHERE WHAT IT READS IS OF BULK AT MOST 1048576: true; the input reads as it did. -/
def digitsTellsUptoRow : OpenClaim := { program := "ytbofdldkiooegaa", sum := "d990d6f54f0e9cc0a410ffbc512dde91b5df52addec2e7d6995f412a40859a4f", func := "tripwire/tripwirelaw03.DigitsTells", spec := "digitsTells", inPlace := ["math/bits.Add64", "math/bits.Sub64"], unfollowed := true, recurses := true, named := ["math/bits.divideError", "math/bits.overflowError"], apart := false, narrowed := true }
def DigitsTellsUptoSaid : Prop := digitsTellsUptoRow.holds Try.pinned (OpenSpec.upto digitsTellsSpec)

/-- 'tripwirelaw02.WholeOrder', WHERE WHAT IT READS IS OF BULK AT MOST 1048576: true; the input reads as it did. -/
def wholeOrderUptoRow : OpenClaim := { program := "ytbofdldkiooegaa", sum := "d990d6f54f0e9cc0a410ffbc512dde91b5df52addec2e7d6995f412a40859a4f", func := "tripwire/tripwirelaw02.WholeOrder", spec := "wholeOrder", inPlace := ["math/bits.Add64", "math/bits.Sub64"], unfollowed := true, recurses := true, named := ["math/bits.divideError", "math/bits.overflowError"], apart := false, narrowed := true }
def WholeOrderUptoSaid : Prop := wholeOrderUptoRow.holds Try.pinned (OpenSpec.upto wholeOrderSpec)

/-- 'tripwirelaw02.WholeNumbers', WHERE WHAT IT READS IS OF BULK AT MOST 1048576: true; the input reads as it did. -/
def wholeNumbersUptoRow : OpenClaim := { program := "ytbofdldkiooegaa", sum := "d990d6f54f0e9cc0a410ffbc512dde91b5df52addec2e7d6995f412a40859a4f", func := "tripwire/tripwirelaw02.WholeNumbers", spec := "wholeNumbers", inPlace := ["math/bits.Add64", "math/bits.Sub64"], unfollowed := true, recurses := true, named := ["math/bits.divideError", "math/bits.overflowError"], apart := false, narrowed := true }
def WholeNumbersUptoSaid : Prop := wholeNumbersUptoRow.holds Try.pinned (OpenSpec.upto wholeNumbersSpec)

/-- 'tripwirelaw02.WholeTells', WHERE WHAT IT READS IS OF BULK AT MOST 1048576: true; the input reads as it did. -/
def wholeTellsUptoRow : OpenClaim := { program := "ytbofdldkiooegaa", sum := "d990d6f54f0e9cc0a410ffbc512dde91b5df52addec2e7d6995f412a40859a4f", func := "tripwire/tripwirelaw02.WholeTells", spec := "wholeTells", inPlace := ["math/bits.Add64", "math/bits.Sub64"], unfollowed := true, recurses := true, named := ["math/bits.divideError", "math/bits.overflowError"], apart := false, narrowed := true }
def WholeTellsUptoSaid : Prop := wholeTellsUptoRow.holds Try.pinned (OpenSpec.upto wholeTellsSpec)

/-- 'tripwirelaw03.DigitsBack', WHERE WHAT IT READS IS OF BULK AT MOST 1048576: true; the input reads as it did. -/
def digitsBackUptoRow : OpenClaim := { program := "ytbofdldkiooegaa", sum := "d990d6f54f0e9cc0a410ffbc512dde91b5df52addec2e7d6995f412a40859a4f", func := "tripwire/tripwirelaw03.DigitsBack", spec := "digitsBack", inPlace := ["math/bits.Add64", "math/bits.Sub64"], unfollowed := true, recurses := true, named := ["math/bits.divideError", "math/bits.overflowError"], apart := false, narrowed := true }
def DigitsBackUptoSaid : Prop := digitsBackUptoRow.holds Try.pinned (OpenSpec.upto digitsBackSpec)

/-- 'tripwirelaw03.DigitsNumbers', WHERE WHAT IT READS IS OF BULK AT MOST 1048576: true; the input reads as it did. -/
def digitsNumbersUptoRow : OpenClaim := { program := "ytbofdldkiooegaa", sum := "d990d6f54f0e9cc0a410ffbc512dde91b5df52addec2e7d6995f412a40859a4f", func := "tripwire/tripwirelaw03.DigitsNumbers", spec := "digitsNumbers", inPlace := ["math/bits.Add64", "internal/abi.NoEscape", "internal/bytealg.MakeNoZero", "math/bits.Sub64"], unfollowed := true, recurses := true, named := ["math/bits.divideError", "math/bits.overflowError"], apart := false, narrowed := true }
def DigitsNumbersUptoSaid : Prop := digitsNumbersUptoRow.holds Try.pinned (OpenSpec.upto digitsNumbersSpec)

end Rows
end Go.Proofs.Ytbofdldkiooegaa
