/-
  No cell of these rows narrows 'for every input' (looked for: loops, veiled, ifaces, maps, wideKeys, modest, calm, conditions, laid).
  DERIVED. THE GIVEN ROWS OF THIS SEAT. 9 by the template 'for every input the law returns true; each argument reads behind the call as it read before'; 0 by the template 'total and deterministic' (their statements: YtpahppekalgegaaTotals.lean).
  GIVEN WITH THE SEED: the statements are not yours to turn. If you find one false, say at which input.
  Laid BY PROGRAM, IN A SANDBOX (cutbox-rows.mjs): the forced cells as the released guide's own fill.sh prints them over the translation e016896bc5d9a619… (all of the seat's roots in one cut). By AI agents, Wed Nov 11 2026. No macro, syntax, notation, axiom, sorry.
-/
import Derived.Test.YtpahppekalgegaaChecked
import GoSem.Claim
import GoSem.ClaimJoined
import GoSem.ClaimMapViews
import Derived.JoinedTies
import Derived.KernelRfl
namespace Go.Proofs.Ytpahppekalgegaa
/- THE CELL 'sum', in the pinned program and in every row, IS THE sha256 OF THE DUMP (.gsa) THAT YtpahppekalgegaaProg.lean LOADS. Nothing in Lean hashes anything: it is a label: what it is worth is what the hold of that sum in a sandbox is worth. -/
noncomputable def Try.pinned : Pinned := { name := "ytpahppekalgegaa", sum := "e016896bc5d9a619295b16767639b0827a7c509d82bf63173d78d5cbbd6677f8", checked := Try.checked }
namespace Rows
def none {H : Type} : Left H := { results := [], args := [] }

/-- 'tripwirelaw03.DigitsTells': WHATEVER THE INPUT: true; the input reads as it did. -/
def digitsTellsSpec : ChangeSpec := { name := "digitsTells", fn := fun _ => fun
  | [d1, d2] => { results := [.lit (.bool true)], args := [d1, d2] }
  | _ => none }
def digitsTellsRow : OpenClaim := { program := "ytpahppekalgegaa", sum := "e016896bc5d9a619295b16767639b0827a7c509d82bf63173d78d5cbbd6677f8", func := "tripwire/tripwirelaw03.DigitsTells", spec := "digitsTells", inPlace := ["math/bits.Add64", "math/bits.Sub64"], unfollowed := true, recurses := true, named := ["math/bits.divideError", "math/bits.overflowError"], apart := false }
def DigitsTellsSaid : Prop := digitsTellsRow.holds Try.pinned (OpenSpec.ofChange digitsTellsSpec)

/-- ITS FALSE NEIGHBOUR: 'it returns false'. Refute it at one input. -/
def digitsTellsWrong : ChangeSpec := { name := "digitsTells", fn := fun _ => fun
  | [d1, d2] => { results := [.lit (.bool false)], args := [d1, d2] }
  | _ => none }
def DigitsTellsWrongFalsely : Prop := digitsTellsRow.holds Try.pinned (OpenSpec.ofChange digitsTellsWrong)

/-- 'tripwirelaw03.DigitsNumbers': WHATEVER THE INPUT: true; the input reads as it did. -/
def digitsNumbersSpec : ChangeSpec := { name := "digitsNumbers", fn := fun _ => fun
  | [] => { results := [.lit (.bool true)], args := [] }
  | _ => none }
def digitsNumbersRow : OpenClaim := { program := "ytpahppekalgegaa", sum := "e016896bc5d9a619295b16767639b0827a7c509d82bf63173d78d5cbbd6677f8", func := "tripwire/tripwirelaw03.DigitsNumbers", spec := "digitsNumbers", inPlace := ["math/bits.Add64", "internal/abi.NoEscape", "internal/bytealg.MakeNoZero", "math/bits.Sub64"], unfollowed := true, recurses := true, named := ["math/bits.divideError", "math/bits.overflowError"], apart := false }
def DigitsNumbersSaid : Prop := digitsNumbersRow.holds Try.pinned (OpenSpec.ofChange digitsNumbersSpec)

/-- ITS FALSE NEIGHBOUR: 'it returns false'. Refute it at one input. -/
def digitsNumbersWrong : ChangeSpec := { name := "digitsNumbers", fn := fun _ => fun
  | [] => { results := [.lit (.bool false)], args := [] }
  | _ => none }
def DigitsNumbersWrongFalsely : Prop := digitsNumbersRow.holds Try.pinned (OpenSpec.ofChange digitsNumbersWrong)

/-- 'tripwirelaw04.RatioOf': WHATEVER THE INPUT: true; the input reads as it did. -/
def ratioOfSpec : ChangeSpec := { name := "ratioOf", fn := fun _ => fun
  | [d1, d2] => { results := [.lit (.bool true)], args := [d1, d2] }
  | _ => none }
def ratioOfRow : OpenClaim := { program := "ytpahppekalgegaa", sum := "e016896bc5d9a619295b16767639b0827a7c509d82bf63173d78d5cbbd6677f8", func := "tripwire/tripwirelaw04.RatioOf", spec := "ratioOf", inPlace := ["math/bits.Add64", "math/bits.Sub64", "internal/bytealg.IndexByteString", "internal/bytealg.IndexString"], unfollowed := true, recurses := true, named := ["math/bits.divideError", "math/bits.overflowError", "internal/bytealg.MaxLen"], apart := false }
def RatioOfSaid : Prop := ratioOfRow.holds Try.pinned (OpenSpec.ofChange ratioOfSpec)

/-- ITS FALSE NEIGHBOUR: 'it returns false'. Refute it at one input. -/
def ratioOfWrong : ChangeSpec := { name := "ratioOf", fn := fun _ => fun
  | [d1, d2] => { results := [.lit (.bool false)], args := [d1, d2] }
  | _ => none }
def RatioOfWrongFalsely : Prop := ratioOfRow.holds Try.pinned (OpenSpec.ofChange ratioOfWrong)

/-- 'tripwirelaw04.RatioField': WHATEVER THE INPUT: true; the input reads as it did. -/
def ratioFieldSpec : ChangeSpec := { name := "ratioField", fn := fun _ => fun
  | [d1, d2, d3] => { results := [.lit (.bool true)], args := [d1, d2, d3] }
  | _ => none }
def ratioFieldRow : OpenClaim := { program := "ytpahppekalgegaa", sum := "e016896bc5d9a619295b16767639b0827a7c509d82bf63173d78d5cbbd6677f8", func := "tripwire/tripwirelaw04.RatioField", spec := "ratioField", inPlace := ["math/bits.Add64", "math/bits.Sub64", "internal/bytealg.IndexByteString", "internal/bytealg.IndexString"], unfollowed := true, recurses := true, named := ["math/bits.divideError", "math/bits.overflowError", "internal/bytealg.MaxLen"], apart := false }
def RatioFieldSaid : Prop := ratioFieldRow.holds Try.pinned (OpenSpec.ofChange ratioFieldSpec)

/-- ITS FALSE NEIGHBOUR: 'it returns false'. Refute it at one input. -/
def ratioFieldWrong : ChangeSpec := { name := "ratioField", fn := fun _ => fun
  | [d1, d2, d3] => { results := [.lit (.bool false)], args := [d1, d2, d3] }
  | _ => none }
def RatioFieldWrongFalsely : Prop := ratioFieldRow.holds Try.pinned (OpenSpec.ofChange ratioFieldWrong)

/-- 'tripwirelaw09.TokensBoth': WHATEVER THE INPUT: true; the input reads as it did. -/
def tokensBothSpec : ChangeSpec := { name := "tokensBoth", fn := fun _ => fun
  | [d1, d2] => { results := [.lit (.bool true)], args := [d1, d2] }
  | _ => none }
def tokensBothRow : OpenClaim := { program := "ytpahppekalgegaa", sum := "e016896bc5d9a619295b16767639b0827a7c509d82bf63173d78d5cbbd6677f8", func := "tripwire/tripwirelaw09.TokensBoth", spec := "tokensBoth", inPlace := ["math/bits.Add64", "math/bits.Sub64", "internal/bytealg.IndexByteString", "internal/bytealg.IndexString", "internal/bytealg.CountString"], unfollowed := true, recurses := true, named := ["math/bits.divideError", "math/bits.overflowError", "internal/bytealg.MaxLen"], apart := false }
def TokensBothSaid : Prop := tokensBothRow.holds Try.pinned (OpenSpec.ofChange tokensBothSpec)

/-- ITS FALSE NEIGHBOUR: 'it returns false'. Refute it at one input. -/
def tokensBothWrong : ChangeSpec := { name := "tokensBoth", fn := fun _ => fun
  | [d1, d2] => { results := [.lit (.bool false)], args := [d1, d2] }
  | _ => none }
def TokensBothWrongFalsely : Prop := tokensBothRow.holds Try.pinned (OpenSpec.ofChange tokensBothWrong)

/-- 'tripwirelaw04.RatioOrder': WHATEVER THE INPUT: true; the input reads as it did. -/
def ratioOrderSpec : ChangeSpec := { name := "ratioOrder", fn := fun _ => fun
  | [d1, d2, d3] => { results := [.lit (.bool true)], args := [d1, d2, d3] }
  | _ => none }
def ratioOrderRow : OpenClaim := { program := "ytpahppekalgegaa", sum := "e016896bc5d9a619295b16767639b0827a7c509d82bf63173d78d5cbbd6677f8", func := "tripwire/tripwirelaw04.RatioOrder", spec := "ratioOrder", inPlace := ["math/bits.Add64", "math/bits.Sub64", "internal/bytealg.IndexByteString", "internal/bytealg.IndexString"], unfollowed := true, recurses := true, named := ["math/bits.divideError", "math/bits.overflowError", "internal/bytealg.MaxLen"], apart := false }
def RatioOrderSaid : Prop := ratioOrderRow.holds Try.pinned (OpenSpec.ofChange ratioOrderSpec)

/-- ITS FALSE NEIGHBOUR: 'it returns false'. Refute it at one input. -/
def ratioOrderWrong : ChangeSpec := { name := "ratioOrder", fn := fun _ => fun
  | [d1, d2, d3] => { results := [.lit (.bool false)], args := [d1, d2, d3] }
  | _ => none }
def RatioOrderWrongFalsely : Prop := ratioOrderRow.holds Try.pinned (OpenSpec.ofChange ratioOrderWrong)

/-- 'tripwirelaw09.TokensBack': WHATEVER THE INPUT: true; the input reads as it did. -/
def tokensBackSpec : ChangeSpec := { name := "tokensBack", fn := fun _ => fun
  | [d1, d2] => { results := [.lit (.bool true)], args := [d1, d2] }
  | _ => none }
def tokensBackRow : OpenClaim := { program := "ytpahppekalgegaa", sum := "e016896bc5d9a619295b16767639b0827a7c509d82bf63173d78d5cbbd6677f8", func := "tripwire/tripwirelaw09.TokensBack", spec := "tokensBack", inPlace := ["internal/bytealg.IndexByteString", "internal/bytealg.IndexString", "math/bits.Add64", "math/bits.Sub64", "internal/bytealg.CountString"], unfollowed := true, recurses := true, named := ["internal/bytealg.MaxLen", "math/bits.divideError", "math/bits.overflowError"], apart := false }
def TokensBackSaid : Prop := tokensBackRow.holds Try.pinned (OpenSpec.ofChange tokensBackSpec)

/-- ITS FALSE NEIGHBOUR: 'it returns false'. Refute it at one input. -/
def tokensBackWrong : ChangeSpec := { name := "tokensBack", fn := fun _ => fun
  | [d1, d2] => { results := [.lit (.bool false)], args := [d1, d2] }
  | _ => none }
def TokensBackWrongFalsely : Prop := tokensBackRow.holds Try.pinned (OpenSpec.ofChange tokensBackWrong)

/-- 'tripwirelaw09.TokensNumbers': WHATEVER THE INPUT: true; the input reads as it did. -/
def tokensNumbersSpec : ChangeSpec := { name := "tokensNumbers", fn := fun _ => fun
  | [] => { results := [.lit (.bool true)], args := [] }
  | _ => none }
def tokensNumbersRow : OpenClaim := { program := "ytpahppekalgegaa", sum := "e016896bc5d9a619295b16767639b0827a7c509d82bf63173d78d5cbbd6677f8", func := "tripwire/tripwirelaw09.TokensNumbers", spec := "tokensNumbers", inPlace := ["internal/bytealg.IndexByteString", "internal/bytealg.IndexString", "math/bits.Add64", "math/bits.Sub64", "internal/abi.NoEscape", "internal/bytealg.MakeNoZero"], unfollowed := true, recurses := true, named := ["internal/bytealg.MaxLen", "math/bits.divideError", "math/bits.overflowError"], apart := false }
def TokensNumbersSaid : Prop := tokensNumbersRow.holds Try.pinned (OpenSpec.ofChange tokensNumbersSpec)

/-- ITS FALSE NEIGHBOUR: 'it returns false'. Refute it at one input. -/
def tokensNumbersWrong : ChangeSpec := { name := "tokensNumbers", fn := fun _ => fun
  | [] => { results := [.lit (.bool false)], args := [] }
  | _ => none }
def TokensNumbersWrongFalsely : Prop := tokensNumbersRow.holds Try.pinned (OpenSpec.ofChange tokensNumbersWrong)

/-- 'tripwirelaw04.RatioNumbers': WHATEVER THE INPUT: true; the input reads as it did. -/
def ratioNumbersSpec : ChangeSpec := { name := "ratioNumbers", fn := fun _ => fun
  | [] => { results := [.lit (.bool true)], args := [] }
  | _ => none }
def ratioNumbersRow : OpenClaim := { program := "ytpahppekalgegaa", sum := "e016896bc5d9a619295b16767639b0827a7c509d82bf63173d78d5cbbd6677f8", func := "tripwire/tripwirelaw04.RatioNumbers", spec := "ratioNumbers", inPlace := ["math/bits.Add64", "math/bits.Sub64", "internal/bytealg.IndexByteString", "internal/bytealg.IndexString", "internal/abi.NoEscape", "internal/bytealg.MakeNoZero"], unfollowed := true, recurses := true, named := ["math/bits.divideError", "math/bits.overflowError", "internal/bytealg.MaxLen"], apart := false }
def RatioNumbersSaid : Prop := ratioNumbersRow.holds Try.pinned (OpenSpec.ofChange ratioNumbersSpec)

/-- ITS FALSE NEIGHBOUR: 'it returns false'. Refute it at one input. -/
def ratioNumbersWrong : ChangeSpec := { name := "ratioNumbers", fn := fun _ => fun
  | [] => { results := [.lit (.bool false)], args := [] }
  | _ => none }
def RatioNumbersWrongFalsely : Prop := ratioNumbersRow.holds Try.pinned (OpenSpec.ofChange ratioNumbersWrong)

/- THE SECOND FORM. 'bulk': how many values and letters a reading holds, each counted each time it is reached (what is shared counts as often as it is met; a slice's spare places count too). A statement '..UptoSaid' is the law's where the arguments, and the package variables that the reading takes, are together of bulk at most 1048576: NARROWER than '..Said'. Prove '..Said' where nothing that the law and all that it calls make is longer than what came in: it says more and counts as full. Else prove '..UptoSaid'. A law counts once. -/
mutual
def uptoBulk {H : Type} : DataW H → Nat
  | .lit (.string bytes) => bytes.length + 1
  | .lit _ => 1
  | .nil => 1
  | .ptr d => uptoBulk d + 1
  | .slice elems spare => uptoBulkAll elems + uptoBulkAll spare + 1
  | .agg parts => uptoBulkAll parts + 1
  | .iface _ d => uptoBulk d + 1
  | .map entries => uptoBulkEntries entries + 1
  | .held _ => 1
def uptoBulkAll {H : Type} : List (DataW H) → Nat
  | [] => 0
  | d :: r => uptoBulk d + uptoBulkAll r
def uptoBulkEntries {H : Type} : List (Lit × DataW H) → Nat
  | [] => 0
  | x :: r => uptoBulkEntry x + uptoBulkEntries r
def uptoBulkEntry {H : Type} : Lit × DataW H → Nat
  | (.string bytes, d) => bytes.length + uptoBulk d + 1
  | (_, d) => uptoBulk d + 1
 end
def uptoSmall : (H : Type) → List (DataW H) → Bool := fun _ ds => decide (uptoBulkAll ds ≤ 1048576)
def OpenSpec.upto (s : _root_.Go.ChangeSpec) : _root_.Go.OpenSpec := { _root_.Go.OpenSpec.ofChange s with cond := some uptoSmall }

/-- 'tripwirelaw03.DigitsTells', WHERE WHAT IT READS IS OF BULK AT MOST 1048576: true; the input reads as it did. -/
def digitsTellsUptoRow : OpenClaim := { program := "ytpahppekalgegaa", sum := "e016896bc5d9a619295b16767639b0827a7c509d82bf63173d78d5cbbd6677f8", func := "tripwire/tripwirelaw03.DigitsTells", spec := "digitsTells", inPlace := ["math/bits.Add64", "math/bits.Sub64"], unfollowed := true, recurses := true, named := ["math/bits.divideError", "math/bits.overflowError"], apart := false, narrowed := true }
def DigitsTellsUptoSaid : Prop := digitsTellsUptoRow.holds Try.pinned (OpenSpec.upto digitsTellsSpec)

/-- 'tripwirelaw03.DigitsNumbers', WHERE WHAT IT READS IS OF BULK AT MOST 1048576: true; the input reads as it did. -/
def digitsNumbersUptoRow : OpenClaim := { program := "ytpahppekalgegaa", sum := "e016896bc5d9a619295b16767639b0827a7c509d82bf63173d78d5cbbd6677f8", func := "tripwire/tripwirelaw03.DigitsNumbers", spec := "digitsNumbers", inPlace := ["math/bits.Add64", "internal/abi.NoEscape", "internal/bytealg.MakeNoZero", "math/bits.Sub64"], unfollowed := true, recurses := true, named := ["math/bits.divideError", "math/bits.overflowError"], apart := false, narrowed := true }
def DigitsNumbersUptoSaid : Prop := digitsNumbersUptoRow.holds Try.pinned (OpenSpec.upto digitsNumbersSpec)

/-- 'tripwirelaw04.RatioOf', WHERE WHAT IT READS IS OF BULK AT MOST 1048576: true; the input reads as it did. -/
def ratioOfUptoRow : OpenClaim := { program := "ytpahppekalgegaa", sum := "e016896bc5d9a619295b16767639b0827a7c509d82bf63173d78d5cbbd6677f8", func := "tripwire/tripwirelaw04.RatioOf", spec := "ratioOf", inPlace := ["math/bits.Add64", "math/bits.Sub64", "internal/bytealg.IndexByteString", "internal/bytealg.IndexString"], unfollowed := true, recurses := true, named := ["math/bits.divideError", "math/bits.overflowError", "internal/bytealg.MaxLen"], apart := false, narrowed := true }
def RatioOfUptoSaid : Prop := ratioOfUptoRow.holds Try.pinned (OpenSpec.upto ratioOfSpec)

/-- 'tripwirelaw04.RatioField', WHERE WHAT IT READS IS OF BULK AT MOST 1048576: true; the input reads as it did. -/
def ratioFieldUptoRow : OpenClaim := { program := "ytpahppekalgegaa", sum := "e016896bc5d9a619295b16767639b0827a7c509d82bf63173d78d5cbbd6677f8", func := "tripwire/tripwirelaw04.RatioField", spec := "ratioField", inPlace := ["math/bits.Add64", "math/bits.Sub64", "internal/bytealg.IndexByteString", "internal/bytealg.IndexString"], unfollowed := true, recurses := true, named := ["math/bits.divideError", "math/bits.overflowError", "internal/bytealg.MaxLen"], apart := false, narrowed := true }
def RatioFieldUptoSaid : Prop := ratioFieldUptoRow.holds Try.pinned (OpenSpec.upto ratioFieldSpec)

/-- 'tripwirelaw09.TokensBoth', WHERE WHAT IT READS IS OF BULK AT MOST 1048576: true; the input reads as it did. -/
def tokensBothUptoRow : OpenClaim := { program := "ytpahppekalgegaa", sum := "e016896bc5d9a619295b16767639b0827a7c509d82bf63173d78d5cbbd6677f8", func := "tripwire/tripwirelaw09.TokensBoth", spec := "tokensBoth", inPlace := ["math/bits.Add64", "math/bits.Sub64", "internal/bytealg.IndexByteString", "internal/bytealg.IndexString", "internal/bytealg.CountString"], unfollowed := true, recurses := true, named := ["math/bits.divideError", "math/bits.overflowError", "internal/bytealg.MaxLen"], apart := false, narrowed := true }
def TokensBothUptoSaid : Prop := tokensBothUptoRow.holds Try.pinned (OpenSpec.upto tokensBothSpec)

/-- 'tripwirelaw04.RatioOrder', WHERE WHAT IT READS IS OF BULK AT MOST 1048576: true; the input reads as it did. -/
def ratioOrderUptoRow : OpenClaim := { program := "ytpahppekalgegaa", sum := "e016896bc5d9a619295b16767639b0827a7c509d82bf63173d78d5cbbd6677f8", func := "tripwire/tripwirelaw04.RatioOrder", spec := "ratioOrder", inPlace := ["math/bits.Add64", "math/bits.Sub64", "internal/bytealg.IndexByteString", "internal/bytealg.IndexString"], unfollowed := true, recurses := true, named := ["math/bits.divideError", "math/bits.overflowError", "internal/bytealg.MaxLen"], apart := false, narrowed := true }
def RatioOrderUptoSaid : Prop := ratioOrderUptoRow.holds Try.pinned (OpenSpec.upto ratioOrderSpec)

/-- 'tripwirelaw09.TokensBack', WHERE WHAT IT READS IS OF BULK AT MOST 1048576: true; the input reads as it did. -/
def tokensBackUptoRow : OpenClaim := { program := "ytpahppekalgegaa", sum := "e016896bc5d9a619295b16767639b0827a7c509d82bf63173d78d5cbbd6677f8", func := "tripwire/tripwirelaw09.TokensBack", spec := "tokensBack", inPlace := ["internal/bytealg.IndexByteString", "internal/bytealg.IndexString", "math/bits.Add64", "math/bits.Sub64", "internal/bytealg.CountString"], unfollowed := true, recurses := true, named := ["internal/bytealg.MaxLen", "math/bits.divideError", "math/bits.overflowError"], apart := false, narrowed := true }
def TokensBackUptoSaid : Prop := tokensBackUptoRow.holds Try.pinned (OpenSpec.upto tokensBackSpec)

/-- 'tripwirelaw09.TokensNumbers', WHERE WHAT IT READS IS OF BULK AT MOST 1048576: true; the input reads as it did. -/
def tokensNumbersUptoRow : OpenClaim := { program := "ytpahppekalgegaa", sum := "e016896bc5d9a619295b16767639b0827a7c509d82bf63173d78d5cbbd6677f8", func := "tripwire/tripwirelaw09.TokensNumbers", spec := "tokensNumbers", inPlace := ["internal/bytealg.IndexByteString", "internal/bytealg.IndexString", "math/bits.Add64", "math/bits.Sub64", "internal/abi.NoEscape", "internal/bytealg.MakeNoZero"], unfollowed := true, recurses := true, named := ["internal/bytealg.MaxLen", "math/bits.divideError", "math/bits.overflowError"], apart := false, narrowed := true }
def TokensNumbersUptoSaid : Prop := tokensNumbersUptoRow.holds Try.pinned (OpenSpec.upto tokensNumbersSpec)

/-- 'tripwirelaw04.RatioNumbers', WHERE WHAT IT READS IS OF BULK AT MOST 1048576: true; the input reads as it did. -/
def ratioNumbersUptoRow : OpenClaim := { program := "ytpahppekalgegaa", sum := "e016896bc5d9a619295b16767639b0827a7c509d82bf63173d78d5cbbd6677f8", func := "tripwire/tripwirelaw04.RatioNumbers", spec := "ratioNumbers", inPlace := ["math/bits.Add64", "math/bits.Sub64", "internal/bytealg.IndexByteString", "internal/bytealg.IndexString", "internal/abi.NoEscape", "internal/bytealg.MakeNoZero"], unfollowed := true, recurses := true, named := ["math/bits.divideError", "math/bits.overflowError", "internal/bytealg.MaxLen"], apart := false, narrowed := true }
def RatioNumbersUptoSaid : Prop := ratioNumbersUptoRow.holds Try.pinned (OpenSpec.upto ratioNumbersSpec)

end Rows
end Go.Proofs.Ytpahppekalgegaa
