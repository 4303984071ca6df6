/-
  The laws on patterns: law09.wakes, long, and the walks of PatternRight, PatternFits.
-/
import Derived.Test.YtfhgnnlhacjnkaaDoorPart10
import Derived.Test.YtfhgnnlhacjnkaaDoorPart12
namespace Go.Proofs.YtfhgnnlhacjnkaaDoor
set_option linter.unusedVariables false
set_option linter.unusedSimpArgs false
open Go.RowKit PT

theorem wake_1 : fitsF [40, 97, 98, 41, 43] [97, 98, 97, 98] = (true, 0) := by decide +kernel
theorem wake_2 : fitsF [91, 94, 97, 45, 99, 93, 92, 100, 123, 50, 125] [120, 52] = (false, 0) := by decide +kernel
theorem wake_3 : rightF [40, 97] = false := by decide +kernel
theorem lit_small {s : ByteArray} (h : s.size ≤ 100) : s.size ≤ maxLen := by unfold maxLen; omega
set_option maxHeartbeats 1000000 in
set_option maxRecDepth 100000 in
theorem wakes9_any (w : World) (hT : Tables w) : Calls Tryd.prog 8 #[] w fun e w' => e = .returned (.bool true) ∧ Below w.heap.size w w' := by
  go_enter Tryd.func8, Tryd.ntmps8
  go_wp2_with fail
  refine (fits_any _ _ (lit_small (by decide)) (lit_small (by decide)) _ hT.utf).mono ?_
  rintro e w1 ⟨rfl, hb1⟩
  have hT1 := hT.kept hb1
  rw [show fitsF (ByteArray.mk #[40, 97, 98, 41, 43]).data.toList (ByteArray.mk #[97, 98, 97, 98]).data.toList = _ from wake_1]
  go_wp2_with fail
  refine (fits_any _ _ (lit_small (by decide)) (lit_small (by decide)) _ hT1.utf).mono ?_
  rintro e w2 ⟨rfl, hb2⟩
  have hT2 := hT1.kept hb2
  rw [show fitsF (ByteArray.mk #[91, 94, 97, 45, 99, 93, 92, 100, 123, 50, 125]).data.toList (ByteArray.mk #[120, 52]).data.toList = _ from wake_2]
  go_wp2_with fail
  refine (right_any _ _ (lit_small (by decide)) hT2.utf).mono ?_
  rintro e w3 ⟨rfl, hb3⟩
  rw [show rightF (ByteArray.mk #[40, 97]).data.toList = _ from wake_3]
  go_wp2_with fail
  go_ret
  exact ⟨rfl, bs (bs hb1 hb2) hb3⟩
theorem long09_yes (s : ByteArray) (w : World) (h : 120 < s.size) (h2 : s.size ≤ 4000) : Calls Tryd.prog 11 #[.string s] w fun e w' => e = .returned (.bool true) ∧ w = w' := by
  have h' : decide ((120 : Int) < (s.size : Int)) = true := decide_eq_true (by omega)
  have h'' : decide ((s.size : Int) ≤ 4000) = true := decide_eq_true (by omega)
  go_enter Tryd.func11, Tryd.ntmps11
  go_wp2
  go_ret
  exact ⟨rfl, rfl⟩
theorem long09_no (s : ByteArray) (w : World) (h : ¬ (120 < s.size ∧ s.size ≤ 4000)) (hs : s.size ≤ maxLen) : Calls Tryd.prog 11 #[.string s] w fun e w' => e = .returned (.bool false) ∧ w = w' := by
  unfold maxLen at hs
  by_cases h1 : 120 < s.size
  · have h' : decide ((120 : Int) < (s.size : Int)) = true := decide_eq_true (by omega)
    have h'' : decide ((s.size : Int) ≤ 4000) = false := decide_eq_false (by omega)
    clear h
    go_enter Tryd.func11, Tryd.ntmps11
    go_wp2
    go_ret
    exact ⟨rfl, rfl⟩
  · have h' : decide ((120 : Int) < (s.size : Int)) = false := decide_eq_false (by omega)
    clear h
    go_enter Tryd.func11, Tryd.ntmps11
    go_wp2
    go_ret
    exact ⟨rfl, rfl⟩
set_option maxHeartbeats 1000000 in
set_option maxRecDepth 100000 in
theorem patternRight_walk (p : ByteArray) (hp : p.size ≤ maxLen) (w : World) (hT : Tables w) : Calls Tryd.prog 3 #[.string p] w fun e w' => e = .returned (.bool true) ∧ Below w.heap.size w w' := by
  go_enter Tryd.func3, Tryd.ntmps3
  go_wp2_with fail
  refine (wakes9_any _ hT).mono ?_
  rintro e w1 ⟨rfl, hb1⟩
  have hT1 := hT.kept hb1
  go_wp2_with fail
  refine (right_any p _ hp hT1.utf).mono ?_
  rintro e w2 ⟨rfl, hb2⟩
  go_wp2_with fail
  refine (refRight9_any p hp _).mono ?_
  rintro e w3 ⟨rfl, hb3⟩
  go_wp2_with fail
  go_ret
  exact ⟨ret_bool (by simp), bs (bs hb1 hb2) hb3⟩
set_option maxHeartbeats 1000000 in
set_option maxRecDepth 100000 in
theorem patternFits_walk (p s : ByteArray) (hp : p.size ≤ maxLen) (hs : s.size ≤ maxLen) (w : World) (hT : Tables w) : Calls Tryd.prog 4 #[.string p, .string s] w fun e w' => e = .returned (.bool true) ∧ Below w.heap.size w w' := by
  go_enter Tryd.func4, Tryd.ntmps4
  go_wp2_with fail
  refine (wakes9_any _ hT).mono ?_
  rintro e w1 ⟨rfl, hb1⟩
  have hT1 := hT.kept hb1
  go_wp2_with fail
  by_cases hl : 120 < s.size ∧ s.size ≤ 4000
  · refine (long09_yes s _ hl.1 hl.2).mono ?_
    rintro e w' ⟨rfl, rfl⟩
    go_wp2_with fail
    go_ret
    exact ⟨rfl, hb1⟩
  · refine (long09_no s _ hl hs).mono ?_
    rintro e w' ⟨rfl, rfl⟩
    go_wp2_with fail
    refine (fits_any p s hp hs _ hT1.utf).mono ?_
    rintro e w2 ⟨rfl, hb2⟩
    go_wp2_with fail
    refine (refFits9_any p s hp hs _).mono ?_
    rintro e w3 ⟨rfl, hb3⟩
    generalize fitsF p.data.toList s.data.toList = q
    go_wp2_with fail
    go_ret
    exact ⟨ret_bool (by simp), bs (bs hb1 hb2) hb3⟩
end Go.Proofs.YtfhgnnlhacjnkaaDoor
