/-
  plain.Split, ref21.Split, law21.same: the walks.
-/
import Derived.Test.YtapbljaohhcpoaaDoorTexts
import Derived.Test.YtapbljaohhcpoaaDoorLines
import Derived.Test.YtapbljaohhcpoaaDoorPlainLines
import Derived.Deep.Slices
namespace Go.Proofs.YtapbljaohhcpoaaDoor
set_option linter.unusedVariables false
set_option linter.unusedSimpArgs false
open Go.RowKit PT

theorem Txts.init {X : List (List UInt8)} {v : Value} {w : World} (h : Txts X v w) {b o cap : Nat} (hv : v = .slice (some ⟨b, o, none⟩) X.length cap) (hb : b < w.heap.size) (hc : ∀ j x, X[j]? = some x → w.cell? ⟨b, o + j, none⟩ = some (txt x)) (hcap : X.length ≤ cap) : Txts X.dropLast (.slice (some ⟨b, o, none⟩) (X.length - 1) cap) w := by
  refine .inr ⟨b, o, cap, by rw [List.length_dropLast], hb, by rw [List.length_dropLast]; omega, fun j x hx => ?_⟩
  have hj : j < X.dropLast.length := (List.getElem?_eq_some_iff.1 hx).1
  rw [List.length_dropLast] at hj
  refine hc j x ?_
  rw [List.getElem?_dropLast, if_pos (by omega)] at hx
  exact hx
theorem some_bytes21 (x : List UInt8) : ∃ P : ByteArray, x = P.data.toList := ⟨⟨x.toArray⟩, rfl⟩
theorem txt_of21 (P : ByteArray) : txt P.data.toList = .string P := rfl
end Go.Proofs.YtapbljaohhcpoaaDoor
