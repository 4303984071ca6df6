/-
  The law TextStrip: the walk.
-/
import Derived.Test.YtjhddigcdeakcaaDoorStrip
import Derived.Test.YtjhddigcdeakcaaDoorLong01
import Derived.Test.YtjhddigcdeakcaaDoorTables
namespace Go.Proofs.YtjhddigcdeakcaaDoor
open Go.RowKit PT

theorem strip_lit : strip [32, 97, 32] = [97] := by decide
theorem mk_app (a b : List UInt8) : ByteArray.mk a.toArray ++ ByteArray.mk b.toArray = ⟨(a ++ b).toArray⟩ := by
  apply ByteArray.ext
  simp

set_option maxHeartbeats 1000000 in
theorem textStrip_walk (s : ByteArray) (_hs : s.size ≤ maxLen) (w : World) (_hT : Tables w) :
    Calls Tryd.prog 7 #[.string s] w fun e w' => e = .returned (.bool true) ∧ Below w.heap.size w w' := by
  go_enter Tryd.func7, Tryd.ntmps7
  go_wp2_with fail
  refine (strip_any _ _ (by decide)).mono ?_
  rintro e w1 ⟨rfl, hb1⟩
  rw [show strip (ByteArray.mk #[32, 97, 32]).data.toList = _ from strip_lit]
  by_cases hl : s.size ≤ 65536
  · have hlen := strip_len s.data.toList
    rw [size_list] at hlen
    go_wp2_with fail
    refine (long01_no _ _ hl).mono ?_
    rintro e w' ⟨rfl, rfl⟩
    go_wp2_with fail
    refine (strip_any s _ (by omega)).mono ?_
    rintro e w2 ⟨rfl, hb2⟩
    go_wp2_with fail
    refine (refStrip_any s _ (by omega)).mono ?_
    rintro e w' ⟨rfl, rfl⟩
    go_wp2_with fail
    refine (strip_any _ _ (by rw [size_mk]; omega)).mono ?_
    rintro e w4 ⟨rfl, hb4⟩
    rw [show strip (ByteArray.mk (strip s.data.toList).toArray).data.toList = _ from strip_strip _]
    have hw : (ByteArray.mk #[9] ++ s ++ ByteArray.mk #[10, 32]).data.toList = [9] ++ s.data.toList ++ [10, 32] := by simp
    have hz : (ByteArray.mk #[9] ++ s ++ ByteArray.mk #[10, 32]).size ≤ 9223372036854775807 := by
      rw [← size_list, hw]; simp only [List.length_append, size_list, List.length_cons, List.length_nil]; omega
    have hw2 := strip_wide [9] [10, 32] s.data.toList (by decide) (by decide)
    rw [← hw] at hw2
    have HW := Lib.hid hw2
    clear hw hw2
    go_wp2_with fail
    refine (strip_any _ _ hz).mono ?_
    rintro e w5 ⟨rfl, hb5⟩
    rw [HW.out]
    go_wp2_with fail
    go_ret
    exact ⟨rfl, bs (bs (bs hb1 hb2) hb4) hb5⟩
  · go_wp2_with fail
    refine (long01_yes _ _ (by omega)).mono ?_
    rintro e w' ⟨rfl, rfl⟩
    go_wp2
    go_ret
    exact ⟨rfl, hb1⟩
end Go.Proofs.YtjhddigcdeakcaaDoor
