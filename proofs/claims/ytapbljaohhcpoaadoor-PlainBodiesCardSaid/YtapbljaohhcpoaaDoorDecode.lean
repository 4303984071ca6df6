/-
  escape.digit, escape.Decode: the walks.
-/
import Derived.Test.YtapbljaohhcpoaaDoorBuilder
import Derived.Test.YtapbljaohhcpoaaDoorEscapes
import Derived.StillTailTactics
namespace Go.Proofs.YtapbljaohhcpoaaDoor
set_option linter.unusedVariables false
set_option linter.unusedSimpArgs false
open Go.RowKit PT
end Go.Proofs.YtapbljaohhcpoaaDoor
