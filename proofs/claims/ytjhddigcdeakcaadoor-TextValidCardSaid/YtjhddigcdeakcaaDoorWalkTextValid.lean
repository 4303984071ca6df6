/-
  The laws TextValid, TextJoined: the walks.
-/
import Derived.Test.YtjhddigcdeakcaaDoorUnits
import Derived.Test.YtjhddigcdeakcaaDoorLong01
namespace Go.Proofs.YtjhddigcdeakcaaDoor
open Go.RowKit PT

theorem units_a : units [97] = 1 := by decide
theorem valid_a : Lib.validD [97] = true := by decide

set_option maxHeartbeats 1000000 in
set_option maxRecDepth 100000 in
theorem textValid_walk (s : ByteArray) (_hs : s.size ≤ maxLen) (w : World) (hT : Tables w) :
    Calls Tryd.prog 3 #[.string s] w fun e w' => e = .returned (.bool true) ∧ Below w.heap.size w w' := by
  go_enter Tryd.func3, Tryd.ntmps3
  go_wp2_with fail
  refine (units_any _ (by decide) _).mono ?_
  rintro e w1 ⟨rfl, hb1⟩
  have hT1 := hT.kept hb1
  rw [show units (ByteArray.mk #[97]).data.toList = _ from units_a]
  go_wp2_with fail
  refine (valid_any _ (by decide) _ hT1).mono ?_
  rintro e w2 ⟨rfl, hb2⟩
  have hT2 := hT1.kept hb2
  rw [show Lib.validD (ByteArray.mk #[97]).data.toList = _ from valid_a]
  by_cases hl : s.size ≤ 65536
  · go_wp2_with fail
    refine (long01_no _ _ hl).mono ?_
    rintro e w' ⟨rfl, rfl⟩
    go_wp2_with fail
    refine (valid_any s (by omega) _ hT2).mono ?_
    rintro e w3 ⟨rfl, hb3⟩
    go_wp2_with fail
    refine (refValid_any s (by omega) _).mono ?_
    rintro e w' ⟨rfl, rfl⟩
    go_wp2_with fail
    refine (units_any s (by omega) _).mono ?_
    rintro e w4 ⟨rfl, hb4⟩
    go_wp2_with fail
    refine (refUnits_any s (by omega) _).mono ?_
    rintro e w' ⟨rfl, rfl⟩
    go_wp2_with fail
    go_ret
    exact ⟨ret_bool (by simp), bs (bs (bs hb1 hb2) hb3) hb4⟩
  · go_wp2_with fail
    refine (long01_yes _ _ (by omega)).mono ?_
    rintro e w' ⟨rfl, rfl⟩
    go_wp2
    go_ret
    exact ⟨rfl, bs hb1 hb2⟩
end Go.Proofs.YtjhddigcdeakcaaDoor
