/-
  ref02.Digit, ref02.Decode: the walks.
-/
import Derived.Test.YtapbljaohhcpoaaDoorBytes
import Derived.Test.YtapbljaohhcpoaaDoorEscapes
import Derived.Test.YtapbljaohhcpoaaDoorRefDigit
import Derived.StillTailTactics
import Derived.Deep.RegionHeld3
namespace Go.Proofs.YtapbljaohhcpoaaDoor
set_option linter.unusedVariables false
set_option linter.unusedSimpArgs false
open Go.RowKit PT
end Go.Proofs.YtapbljaohhcpoaaDoor
