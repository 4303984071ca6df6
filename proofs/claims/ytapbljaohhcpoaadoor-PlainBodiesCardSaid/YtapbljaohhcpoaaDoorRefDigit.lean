/-
  ref02.Digit: the walk.
-/
import Derived.Test.YtapbljaohhcpoaaDoorBytes
import Derived.Test.YtapbljaohhcpoaaDoorPlainEscape
namespace Go.Proofs.YtapbljaohhcpoaaDoor
set_option linter.unusedVariables false
set_option linter.unusedSimpArgs false
open Go.RowKit PT
end Go.Proofs.YtapbljaohhcpoaaDoor
