/-
  The law TextJoined: the walk.
-/
import Derived.Test.YtjhddigcdeakcaaDoorUnits
import Derived.Test.YtjhddigcdeakcaaDoorLong01
import Derived.Test.YtjhddigcdeakcaaDoorPlainJoin
namespace Go.Proofs.YtjhddigcdeakcaaDoor
open Go.RowKit PT

theorem units_ab : units [97, 98] = 2 := by decide

set_option maxHeartbeats 1000000 in
set_option maxRecDepth 100000 in
theorem textJoined_walk (a b : ByteArray) (_ha : a.size ≤ maxLen) (_hb : b.size ≤ maxLen) (w : World) (hT : Tables w) :
    Calls Tryd.prog 4 #[.string a, .string b] w fun e w' => e = .returned (.bool true) ∧ Below w.heap.size w w' := by
  go_enter Tryd.func4, Tryd.ntmps4
  go_wp2_with fail
  refine (units_any _ (by decide) _).mono ?_
  rintro e w1 ⟨rfl, hb1⟩
  have hT1 := hT.kept hb1
  rw [show units (ByteArray.mk #[97, 98]).data.toList = _ from units_ab]
  by_cases hla : a.size ≤ 65536
  · go_wp2_with fail
    refine (long01_no _ _ hla).mono ?_
    rintro e w' ⟨rfl, rfl⟩
    by_cases hlb : b.size ≤ 65536
    · have hab : (a ++ b).data.toList = a.data.toList ++ b.data.toList := by simp
      have habz : (a ++ b).size ≤ 1000000 := by rw [← size_list, hab, List.length_append, size_list, size_list]; omega
      have hua := units_le _ _ (Nat.le_refl a.data.toList.length)
      have hub := units_le _ _ (Nat.le_refl b.data.toList.length)
      rw [size_list] at hua hub
      go_wp2_with fail
      refine (long01_no _ _ hlb).mono ?_
      rintro e w' ⟨rfl, rfl⟩
      go_wp2_with fail
      refine (refValid_any a (by omega) _).mono ?_
      rintro e w' ⟨rfl, rfl⟩
      cases hv : Lib.validD a.data.toList
      · go_wp2_with fail
        go_ret
        exact ⟨rfl, hb1⟩
      · obtain ⟨j1, j2⟩ := joined _ a.data.toList b.data.toList (Nat.le_refl _) hv
        rw [← hab] at j1 j2
        have J1 := Lib.hid j1
        have J2 := Lib.hid j2
        clear hab j1 j2 hv
        go_wp2_with fail
        refine (units_any (a ++ b) habz _).mono ?_
        rintro e w2 ⟨rfl, hb2⟩
        have hT2 := hT1.kept hb2
        rw [J1.out]
        go_wp2_with fail
        refine (units_any a (by omega) _).mono ?_
        rintro e w3 ⟨rfl, hb3⟩
        have hT3 := hT2.kept hb3
        go_wp2_with fail
        refine (units_any b (by omega) _).mono ?_
        rintro e w4 ⟨rfl, hb4⟩
        have hT4 := hT3.kept hb4
        go_wp2_with fail
        refine (valid_any (a ++ b) habz _ hT4).mono ?_
        rintro e w5 ⟨rfl, hb5⟩
        have hT5 := hT4.kept hb5
        rw [J2.out]
        go_wp2_with fail
        refine (valid_any b (by omega) _ hT5).mono ?_
        rintro e w6 ⟨rfl, hb6⟩
        go_wp2_with fail
        go_ret
        exact ⟨ret_bool (by simp), bs (bs (bs (bs (bs hb1 hb2) hb3) hb4) hb5) hb6⟩
    · go_wp2_with fail
      refine (long01_yes _ _ (by omega)).mono ?_
      rintro e w' ⟨rfl, rfl⟩
      go_wp2
      go_ret
      exact ⟨rfl, hb1⟩
  · go_wp2_with fail
    refine (long01_yes _ _ (by omega)).mono ?_
    rintro e w' ⟨rfl, rfl⟩
    go_wp2
    go_ret
    exact ⟨rfl, hb1⟩
end Go.Proofs.YtjhddigcdeakcaaDoor
