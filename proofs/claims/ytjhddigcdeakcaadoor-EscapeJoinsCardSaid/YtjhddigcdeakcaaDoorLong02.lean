/-
  law02.long.
-/
import Derived.Test.YtjhddigcdeakcaaDoorBase
namespace Go.Proofs.YtjhddigcdeakcaaDoor
open Go.RowKit
theorem long02_no (s : ByteArray) (w : World) (h : s.size ≤ 16384) : Calls Tryd.prog 27 #[.string s] w fun e w' => e = .returned (.bool false) ∧ w = w' := by
  have h' : decide ((16384 : Int) < (s.size : Int)) = false := by simp; omega
  go_enter Tryd.func27, Tryd.ntmps27
  go_wp2
  go_ret
  exact ⟨rfl, rfl⟩
theorem long02_yes (s : ByteArray) (w : World) (h : 16384 < s.size) : Calls Tryd.prog 27 #[.string s] w fun e w' => e = .returned (.bool true) ∧ w = w' := by
  have h' : decide ((16384 : Int) < (s.size : Int)) = true := by simp; omega
  go_enter Tryd.func27, Tryd.ntmps27
  go_wp2
  go_ret
  exact ⟨rfl, rfl⟩
end Go.Proofs.YtjhddigcdeakcaaDoor
