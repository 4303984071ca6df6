/-
  The laws of chapter 24: the example (wakes): the walk.
-/
import Derived.Test.YtenicjebccdekaaQuery24
namespace Go.Proofs.Ytenicjebccdekaa
set_option linter.unusedVariables false
set_option linter.unusedSimpArgs false
open Go.RowKit PT

theorem qry_abc : qry [47, 97, 63, 98, 35, 99] [100, 61, 49] = [47, 97, 63, 100, 61, 49, 35, 99] := by decide

theorem wakes24_any (w : World) :
    Calls Try.prog 40 #[] w fun e w' => e = .returned (.bool true) ∧ Below w.heap.size w w' := by
  go_enter Try.func40, Try.ntmps40
  go_wp2_with fail
  refine (query_any _ _ (by decide) (by decide) _).mono ?_
  rintro e w1 ⟨rfl, hb1⟩
  rw [show qry (ByteArray.mk #[47, 97, 63, 98, 35, 99]).data.toList (ByteArray.mk #[100, 61, 49]).data.toList = _ from qry_abc]
  go_wp2_with fail
  go_ret
  exact ⟨rfl, hb1⟩
end Go.Proofs.Ytenicjebccdekaa
