/- slices.Reverse at bytes, by the kit's contract. -/
import Derived.Test.YtkbhchlecokpiaaGreatProg
import Derived.Shelf.SlicesE.Reverse
set_option linter.unusedVariables false
set_option linter.unusedSimpArgs false
namespace Go.Proofs
open Go.Shelf
end Go.Proofs
