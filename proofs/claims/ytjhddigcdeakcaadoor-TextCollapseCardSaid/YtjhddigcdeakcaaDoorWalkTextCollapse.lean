/-
  The law TextCollapse: the walk.
-/
import Derived.Test.YtjhddigcdeakcaaDoorCollapse
import Derived.Test.YtjhddigcdeakcaaDoorLong01
import Derived.Test.YtjhddigcdeakcaaDoorTables
namespace Go.Proofs.YtjhddigcdeakcaaDoor
open Go.RowKit PT

theorem collapse_lit : collapse [32, 97, 32, 32, 98, 32] = [97, 32, 98] := by decide
theorem collapse_len (l : List UInt8) : (collapse l).length ≤ 2 * l.length + 1 := by
  have h1 := wds_size l []
  have h2 := join_len (wds [] l)
  unfold collapse
  simp only [List.length_nil] at h1
  omega

set_option maxHeartbeats 1000000 in
theorem textCollapse_walk (s : ByteArray) (_hs : s.size ≤ maxLen) (w : World) (_hT : Tables w) :
    Calls Tryd.prog 8 #[.string s] w fun e w' => e = .returned (.bool true) ∧ Below w.heap.size w w' := by
  go_enter Tryd.func8, Tryd.ntmps8
  go_wp2_with fail
  refine (collapse_any _ _ (by decide)).mono ?_
  rintro e w1 ⟨rfl, hb1⟩
  rw [show collapse (ByteArray.mk #[32, 97, 32, 32, 98, 32]).data.toList = _ from collapse_lit]
  by_cases hl : s.size ≤ 65536
  · have hcl := collapse_len s.data.toList
    have hsl := strip_len s.data.toList
    rw [size_list] at hcl hsl
    go_wp2_with fail
    refine (long01_no _ _ hl).mono ?_
    rintro e w' ⟨rfl, rfl⟩
    go_wp2_with fail
    refine (collapse_any s _ (by omega)).mono ?_
    rintro e w2 ⟨rfl, hb2⟩
    go_wp2_with fail
    refine (refCollapse_any s _ (by omega)).mono ?_
    rintro e w3 ⟨rfl, hb3⟩
    go_wp2_with fail
    refine (collapse_any _ _ (by rw [size_mk]; omega)).mono ?_
    rintro e w4 ⟨rfl, hb4⟩
    rw [show collapse (ByteArray.mk (collapse s.data.toList).toArray).data.toList = _ from collapse_twice _]
    go_wp2_with fail
    refine (strip_any _ _ (by rw [size_mk]; omega)).mono ?_
    rintro e w5 ⟨rfl, hb5⟩
    rw [show strip (ByteArray.mk (collapse s.data.toList).toArray).data.toList = _ from strip_collapse _]
    go_wp2_with fail
    refine (strip_any s _ (by omega)).mono ?_
    rintro e w6 ⟨rfl, hb6⟩
    go_wp2_with fail
    refine (collapse_any _ _ (by rw [size_mk]; omega)).mono ?_
    rintro e w7 ⟨rfl, hb7⟩
    rw [show collapse (ByteArray.mk (strip s.data.toList).toArray).data.toList = _ from collapse_strip _]
    go_wp2_with fail
    go_ret
    exact ⟨rfl, bs (bs (bs (bs (bs (bs hb1 hb2) hb3) hb4) hb5) hb6) hb7⟩
  · go_wp2_with fail
    refine (long01_yes _ _ (by omega)).mono ?_
    rintro e w' ⟨rfl, rfl⟩
    go_wp2
    go_ret
    exact ⟨rfl, hb1⟩
end Go.Proofs.YtjhddigcdeakcaaDoor
