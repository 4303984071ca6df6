/-
  ref02.Digits: the walk.
-/
import Derived.Test.YtapbljaohhcpoaaDoorBytes
import Derived.Test.YtapbljaohhcpoaaDoorPlainEscape
import Derived.Test.YtapbljaohhcpoaaDoorDraws
namespace Go.Proofs.YtapbljaohhcpoaaDoor
set_option linter.unusedVariables false
set_option linter.unusedSimpArgs false
open Go.RowKit PT

theorem hex_cut (j : Nat) (h : j < 16) : (ByteArray.mk #[48, 49, 50, 51, 52, 53, 54, 55, 56, 57, 65, 66, 67, 68, 69, 70]).extract j (j + 1) = ⟨[hexU j].toArray⟩ := by
  obtain rfl | rfl | rfl | rfl | rfl | rfl | rfl | rfl | rfl | rfl | rfl | rfl | rfl | rfl | rfl | rfl : j = 0 ∨ j = 1 ∨ j = 2 ∨ j = 3 ∨ j = 4 ∨ j = 5 ∨ j = 6 ∨ j = 7 ∨ j = 8 ∨ j = 9 ∨ j = 10 ∨ j = 11 ∨ j = 12 ∨ j = 13 ∨ j = 14 ∨ j = 15 := by omega
  all_goals rfl
set_option maxHeartbeats 1000000 in
set_option maxRecDepth 100000 in
theorem refDigits_any (c : UInt8) (w : World) :
    Calls Tryd.prog 95 #[.int .u8 c.toNat] w fun e w' => e = .returned (.string ⟨[hexU (c.toNat / 16), hexU (c.toNat % 16)].toArray⟩) ∧ Below w.heap.size w w' := by
  have hcb : c.toNat < 256 := c.toNat_lt
  have hq1 : (0 : Int) ≤ (c.toNat : Int) / 16 := by omega
  have hq2 : (c.toNat : Int) / 16 < 16 := by omega
  have hq3 : (0 : Int) ≤ (c.toNat : Int) % 16 := by omega
  have hq4 : (c.toNat : Int) % 16 < 16 := by omega
  go_enter Tryd.func95, Tryd.ntmps95
  go_wp2_with fail
  go_quiet (fail)
  go_wp2
  go_ret
  exact ⟨ret_text (by rw [hex_cut _ (by omega), hex_cut _ (by omega), mk_append]; rfl), below_draws _ _⟩

end Go.Proofs.YtapbljaohhcpoaaDoor
