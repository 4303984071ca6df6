/-
  DOCUMENTS THAT CAME IN: what the row's reach says of their sizes.
-/
import Derived.Test.YtenicjebccdekaaRightRef
namespace Go.Proofs.Ytenicjebccdekaa
set_option linter.unusedVariables false
set_option linter.unusedSimpArgs false
open Go.RowKit

/-- what the row's reach says of a document -/
structure Sized (l : List Nd) : Prop where
  len : l.length * 88 ≤ 140737488351232
  at' : ∀ x ∈ l, x.ats.length * 32 ≤ 140737488351232
  ki' : ∀ x ∈ l, x.ks.length * 8 ≤ 140737488351232
/-- a document that came in -/
structure Came (l : List Nd) (v : Value) (w : World) : Prop where
  nodes : Nodes l v w
  fits : ∀ x ∈ l, Fits x
  sized : Sized l
theorem Came.len {l : List Nd} {v : Value} {w : World} (h : Came l v w) : l.length ≤ 1000000000000000000 := by
  have := h.sized.len
  omega
theorem Came.kept {l : List Nd} {v : Value} {w w' : World} (h : Came l v w) (hb : Below w.heap.size w w') : Came l v w' := ⟨h.nodes.kept hb, h.fits, h.sized⟩
end Go.Proofs.Ytenicjebccdekaa
