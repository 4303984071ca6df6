/-
  The laws TextEnds, TextAgain: the walks.
-/
import Derived.Test.YtjhddigcdeakcaaDoorLines
import Derived.Test.YtjhddigcdeakcaaDoorLong01
namespace Go.Proofs.YtjhddigcdeakcaaDoor
open Go.RowKit PT

theorem lines_lit : ends [10] [13, 10] = [10] := by decide
theorem pairs_lit : ends [13, 10] [10] = [13, 10] := by decide

set_option maxHeartbeats 1000000 in
theorem textEnds_walk (s : ByteArray) (_hs : s.size ≤ maxLen) (w : World) (hT : Tables w) :
    Calls Tryd.prog 5 #[.string s] w fun e w' => e = .returned (.bool true) ∧ Below w.heap.size w w' := by
  go_enter Tryd.func5, Tryd.ntmps5
  go_wp2_with fail
  refine (lines_any _ (by decide) _ hT).mono ?_
  rintro e w1 ⟨rfl, hb1⟩
  have hT1 := hT.kept hb1
  rw [show ends [10] (ByteArray.mk #[13, 10]).data.toList = _ from lines_lit]
  by_cases hl : s.size ≤ 65536
  · go_wp2_with fail
    refine (long01_no _ _ hl).mono ?_
    rintro e w' ⟨rfl, rfl⟩
    go_wp2_with fail
    refine (lines_any s (by omega) _ hT1).mono ?_
    rintro e w2 ⟨rfl, hb2⟩
    have hT2 := hT1.kept hb2
    go_wp2_with fail
    refine (refLines_any s (by omega) _).mono ?_
    rintro e w3 ⟨rfl, hb3⟩
    have hT3 := hT2.kept hb3
    go_wp2_with fail
    refine (pairs_any s (by omega) _ hT3).mono ?_
    rintro e w4 ⟨rfl, hb4⟩
    have hT4 := hT3.kept hb4
    go_wp2_with fail
    refine (refPairs_any s (by omega) _).mono ?_
    rintro e w5 ⟨rfl, hb5⟩
    have hT5 := hT4.kept hb5
    go_wp2_with fail
    refine (noBreaks_any s (by omega) _ hT5).mono ?_
    rintro e w6 ⟨rfl, hb6⟩
    go_wp2_with fail
    refine (refNoBreaks_any s (by omega) _).mono ?_
    rintro e w7 ⟨rfl, hb7⟩
    go_wp2_with fail
    go_ret
    exact ⟨rfl, bs (bs (bs (bs (bs (bs hb1 hb2) hb3) hb4) hb5) hb6) hb7⟩
  · go_wp2_with fail
    refine (long01_yes _ _ (by omega)).mono ?_
    rintro e w' ⟨rfl, rfl⟩
    go_wp2
    go_ret
    exact ⟨rfl, hb1⟩

set_option maxHeartbeats 1000000 in
theorem textAgain_walk (s : ByteArray) (_hs : s.size ≤ maxLen) (w : World) (hT : Tables w) :
    Calls Tryd.prog 6 #[.string s] w fun e w' => e = .returned (.bool true) ∧ Below w.heap.size w w' := by
  go_enter Tryd.func6, Tryd.ntmps6
  go_wp2_with fail
  refine (pairs_any _ (by decide) _ hT).mono ?_
  rintro e w1 ⟨rfl, hb1⟩
  have hT1 := hT.kept hb1
  rw [show ends [13, 10] (ByteArray.mk #[10]).data.toList = _ from pairs_lit]
  by_cases hl : s.size ≤ 65536
  · have l1 := ends_len [10] s.data.toList
    have l2 := ends_len [13, 10] s.data.toList
    rw [size_list] at l1 l2
    simp only [List.length_cons, List.length_nil] at l1 l2
    go_wp2_with fail
    refine (long01_no _ _ hl).mono ?_
    rintro e w' ⟨rfl, rfl⟩
    go_wp2_with fail
    refine (lines_any s (by omega) _ hT1).mono ?_
    rintro e w2 ⟨rfl, hb2⟩
    have hT2 := hT1.kept hb2
    go_wp2_with fail
    refine (pairs_any s (by omega) _ hT2).mono ?_
    rintro e w3 ⟨rfl, hb3⟩
    have hT3 := hT2.kept hb3
    go_wp2_with fail
    refine (lines_any _ (by rw [size_mk]; omega) _ hT3).mono ?_
    rintro e w4 ⟨rfl, hb4⟩
    have hT4 := hT3.kept hb4
    rw [show ends [10] (ByteArray.mk (ends [10] s.data.toList).toArray).data.toList = _ from ends_of_lines _ _]
    go_wp2_with fail
    refine (pairs_any _ (by rw [size_mk]; omega) _ hT4).mono ?_
    rintro e w5 ⟨rfl, hb5⟩
    have hT5 := hT4.kept hb5
    rw [show ends [13, 10] (ByteArray.mk (ends [13, 10] s.data.toList).toArray).data.toList = _ from ends_of_pairs _ _]
    go_wp2_with fail
    refine (lines_any _ (by rw [size_mk]; omega) _ hT5).mono ?_
    rintro e w6 ⟨rfl, hb6⟩
    have hT6 := hT5.kept hb6
    rw [show ends [10] (ByteArray.mk (ends [13, 10] s.data.toList).toArray).data.toList = _ from ends_of_pairs _ _]
    go_wp2_with fail
    refine (pairs_any _ (by rw [size_mk]; omega) _ hT6).mono ?_
    rintro e w7 ⟨rfl, hb7⟩
    have hT7 := hT6.kept hb7
    rw [show ends [13, 10] (ByteArray.mk (ends [10] s.data.toList).toArray).data.toList = _ from ends_of_lines _ _]
    go_wp2_with fail
    refine (noBreaks_any _ (by rw [size_mk]; omega) _ hT7).mono ?_
    rintro e w8 ⟨rfl, hb8⟩
    have hT8 := hT7.kept hb8
    rw [show ends [] (ByteArray.mk (ends [10] s.data.toList).toArray).data.toList = _ from ends_of_lines _ _]
    go_wp2_with fail
    refine (noBreaks_any s (by omega) _ hT8).mono ?_
    rintro e w9 ⟨rfl, hb9⟩
    go_wp2_with fail
    go_ret
    exact ⟨rfl, bs (bs (bs (bs (bs (bs (bs (bs hb1 hb2) hb3) hb4) hb5) hb6) hb7) hb8) hb9⟩
  · go_wp2_with fail
    refine (long01_yes _ _ (by omega)).mono ?_
    rintro e w' ⟨rfl, rfl⟩
    go_wp2
    go_ret
    exact ⟨rfl, hb1⟩
end Go.Proofs.YtjhddigcdeakcaaDoor
