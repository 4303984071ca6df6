/-
  The laws of colours: wakes, and the walk of ColourCleans.
-/
import Derived.Test.YtiflaniobnjlpaaDoorRefShow
import Derived.Test.YtiflaniobnjlpaaDoorColParts
import Derived.Test.YtiflaniobnjlpaaDoorTables
namespace Go.Proofs.YtiflaniobnjlpaaDoor
open Go.RowKit PT

theorem wakes06_a : clean [35, 65, 98, 67, 48, 49, 50] = [35, 97, 98, 99, 48, 49, 50] := by decide
theorem wakes06_b : clean [35, 97, 98, 99] = [35, 48, 48, 48, 48, 48, 48] := by decide
set_option maxHeartbeats 1000000 in
set_option maxRecDepth 100000 in
theorem wakes06_any (w : World) :
    Calls Tryd.prog 15 #[] w fun e w' => e = .returned (.bool true) ∧ Below w.heap.size w w' := by
  go_enter Tryd.func15, Tryd.ntmps15
  go_wp2_with fail
  refine (clean_any _ _).mono ?_
  rintro e w1 ⟨rfl, hb1⟩
  rw [show clean (ByteArray.mk #[35, 65, 98, 67, 48, 49, 50]).data.toList = _ from wakes06_a]
  go_wp2_with fail
  refine (clean_any _ _).mono ?_
  rintro e w2 ⟨rfl, hb2⟩
  rw [show clean (ByteArray.mk #[35, 97, 98, 99]).data.toList = _ from wakes06_b]
  go_wp2_with fail
  go_ret
  exact ⟨rfl, bs hb1 hb2⟩

set_option maxHeartbeats 1000000 in
set_option maxRecDepth 100000 in
theorem colourCleans_walk (s : ByteArray) (_hs : s.size ≤ maxLen) (w : World) (_hT : Tables w) :
    Calls Tryd.prog 5 #[.string s] w fun e w' => e = .returned (.bool true) ∧ Below w.heap.size w w' := by
  go_enter Tryd.func5, Tryd.ntmps5
  go_wp2_with fail
  refine (clean_any _ _).mono ?_
  rintro e w1 ⟨rfl, hb1⟩
  go_wp2_with fail
  refine (wakes06_any _).mono ?_
  rintro e w2 ⟨rfl, hb2⟩
  go_wp2_with fail
  refine (simple_any _ _).mono ?_
  rintro e w3 ⟨rfl, hb3⟩
  go_wp2_with fail
  refine (refSimple_any _ _).mono ?_
  rintro e w' ⟨rfl, rfl⟩
  go_wp2_with fail
  refine (refClean_any _ _).mono ?_
  rintro e w5 ⟨rfl, hb5⟩
  go_wp2_with fail
  refine (clean_any _ _).mono ?_
  rintro e w6 ⟨rfl, hb6⟩
  rw [show clean (ByteArray.mk (clean s.data.toList).toArray).data.toList = _ from clean_clean _]
  go_wp2_with fail
  refine (simple_any _ _).mono ?_
  rintro e w7 ⟨rfl, hb7⟩
  rw [show isCol (ByteArray.mk (clean s.data.toList).toArray).data.toList = _ from isCol_clean _]
  go_wp2_with fail
  go_ret
  exact ⟨rfl, bs (bs (bs (bs (bs hb1 hb2) hb3) hb5) hb6) hb7⟩
end Go.Proofs.YtiflaniobnjlpaaDoor
