/-
  law01.long.
-/
import Derived.Test.YtjhddigcdeakcaaDoorBase
namespace Go.Proofs.YtjhddigcdeakcaaDoor
open Go.RowKit
theorem long01_no (s : ByteArray) (w : World) (h : s.size ≤ 65536) : Calls Tryd.prog 13 #[.string s] w fun e w' => e = .returned (.bool false) ∧ w = w' := by
  have h' : decide ((65536 : Int) < (s.size : Int)) = false := by simp; omega
  go_enter Tryd.func13, Tryd.ntmps13
  go_wp2
  go_ret
  exact ⟨rfl, rfl⟩
theorem long01_yes (s : ByteArray) (w : World) (h : 65536 < s.size) : Calls Tryd.prog 13 #[.string s] w fun e w' => e = .returned (.bool true) ∧ w = w' := by
  have h' : decide ((65536 : Int) < (s.size : Int)) = true := by simp; omega
  go_enter Tryd.func13, Tryd.ntmps13
  go_wp2
  go_ret
  exact ⟨rfl, rfl⟩
end Go.Proofs.YtjhddigcdeakcaaDoor
