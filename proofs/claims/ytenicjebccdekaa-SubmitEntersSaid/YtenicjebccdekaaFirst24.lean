/-
  ref24.first: where a sign stands first.
-/
import Derived.Test.YtenicjebccdekaaBase
import Derived.Test.YtenicjebccdekaaPlainQuery
namespace Go.Proofs.Ytenicjebccdekaa
set_option linter.unusedVariables false
set_option linter.unusedSimpArgs false
open Go.RowKit PT

end Go.Proofs.Ytenicjebccdekaa
