/- Statements of layer 3: what is asked awake. -/
import Derived.Test.YtkbhchlecokpiaaFwD4
import Derived.Test.YtkbhchlecokpiaaFwT2
set_option linter.unusedVariables false
set_option linter.unusedSimpArgs false
namespace Go.Proofs.Ytkbhchlecokpiaa
open Go Go.RowKit Fw Tw
set_option linter.unusedVariables false
set_option linter.unusedSimpArgs false
theorem text_lit {z : Int} {s : List UInt8} (h : parseZ s = (z, 0)) : textZ z = s := by
  have := text_parse (s := s) (by rw [h])
  rwa [h] at this
theorem textl_r {m : M} {z : Int} {k : Nat} {s : List UInt8} (h : IsZ m z k) (hk : k ≤ 10000) (hs : parseZ s = (z, 0)) : Ret Try.prog 99 [m] (.str s) := by
  have := text_r h hk
  rwa [text_lit hs] at this
theorem parsel_r {s : List UInt8} {z e : Int} (hs : s.length ≤ 700) (h : parseZ s = (z, e)) : Ret Try.prog 126 [.str s] (.tup [mI z, .int .i64 e]) := by
  have := parse_r (s := s) (by unfold maxLen; omega)
  rwa [h] at this
end Go.Proofs.Ytkbhchlecokpiaa
