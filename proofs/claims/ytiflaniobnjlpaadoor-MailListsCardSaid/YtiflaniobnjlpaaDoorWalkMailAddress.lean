/-
  The laws of mail: long; the walks of MailAddress, MailLists.
-/
import Derived.Test.YtiflaniobnjlpaaDoorRefMailMore
namespace Go.Proofs.YtiflaniobnjlpaaDoor
open Go.RowKit PT

theorem long07_any (s : ByteArray) (w : World) :
    Calls Tryd.prog 11 #[.string s] w fun e w' => e = .returned (.bool (decide (8192 < s.size))) ∧ w = w' := by
  go_enter Tryd.func11, Tryd.ntmps11
  go_wp2_with fail
  go_ret
  exact ⟨ret_bool (by rw [Bool.eq_iff_iff]; simp; omega), rfl⟩
theorem addr_ex1 : isAddr [97, 46, 98, 64, 99, 45, 100, 46, 101] = true := by decide
theorem addr_ex2 : isAddr [97, 64, 45, 98] = false := by decide
set_option maxHeartbeats 1000000 in
set_option maxRecDepth 100000 in
theorem mailAddress_walk (s : ByteArray) (_hs : s.size ≤ maxLen) (w : World) (hT : Tables w) :
    Calls Tryd.prog 3 #[.string s] w fun e w' => e = .returned (.bool true) ∧ Below w.heap.size w w' := by
  go_enter Tryd.func3, Tryd.ntmps3
  go_wp2_with fail
  refine (mailAddress_any _ (by decide) _ hT).mono ?_
  rintro e w1 ⟨rfl, hb1⟩
  rw [show isAddr (ByteArray.mk #[97, 46, 98, 64, 99, 45, 100, 46, 101]).data.toList = _ from addr_ex1]
  have hT1 := hT.kept hb1
  go_wp2_with fail
  refine (mailAddress_any _ (by decide) _ hT1).mono ?_
  rintro e w2 ⟨rfl, hb2⟩
  rw [show isAddr (ByteArray.mk #[97, 64, 45, 98]).data.toList = _ from addr_ex2]
  have hT2 := hT1.kept hb2
  go_wp2_with fail
  refine (long07_any s _).mono ?_
  rintro e w' ⟨rfl, rfl⟩
  by_cases hl : 8192 < s.size
  · rw [decide_eq_true hl]
    go_wp2_with fail
    go_ret
    exact ⟨rfl, bs hb1 hb2⟩
  · rw [decide_eq_false hl]
    go_wp2_with fail
    refine (mailAddress_any s (by omega) _ hT2).mono ?_
    rintro e w3 ⟨rfl, hb3⟩
    go_wp2_with fail
    refine (refAddress_any s (by omega) _).mono ?_
    rintro e w4 ⟨rfl, hb4⟩
    go_wp2_with fail
    go_ret
    exact ⟨rfl, bs (bs (bs hb1 hb2) hb3) hb4⟩
theorem list_ex1 : isList [97, 64, 98, 44, 32, 99, 64, 100] = true := by decide
theorem list_ex2 : isList [97, 64, 98, 44, 44, 99, 64, 100] = false := by decide
set_option maxHeartbeats 1000000 in
set_option maxRecDepth 100000 in
theorem mailLists_walk (s : ByteArray) (_hs : s.size ≤ maxLen) (w : World) (hT : Tables w) :
    Calls Tryd.prog 8 #[.string s] w fun e w' => e = .returned (.bool true) ∧ Below w.heap.size w w' := by
  go_enter Tryd.func8, Tryd.ntmps8
  go_wp2_with fail
  refine (mailList_any _ (by decide) _ hT).mono ?_
  rintro e w1 ⟨rfl, hb1⟩
  rw [show isList (ByteArray.mk #[97, 64, 98, 44, 32, 99, 64, 100]).data.toList = _ from list_ex1]
  have hT1 := hT.kept hb1
  go_wp2_with fail
  refine (mailList_any _ (by decide) _ hT1).mono ?_
  rintro e w2 ⟨rfl, hb2⟩
  rw [show isList (ByteArray.mk #[97, 64, 98, 44, 44, 99, 64, 100]).data.toList = _ from list_ex2]
  have hT2 := hT1.kept hb2
  go_wp2_with fail
  refine (long07_any s _).mono ?_
  rintro e w' ⟨rfl, rfl⟩
  by_cases hl : 8192 < s.size
  · rw [decide_eq_true hl]
    go_wp2_with fail
    go_ret
    exact ⟨rfl, bs hb1 hb2⟩
  · rw [decide_eq_false hl]
    go_wp2_with fail
    refine (mailList_any s (by omega) _ hT2).mono ?_
    rintro e w3 ⟨rfl, hb3⟩
    go_wp2_with fail
    refine (refList_any s (by omega) _).mono ?_
    rintro e w4 ⟨rfl, hb4⟩
    go_wp2_with fail
    go_ret
    exact ⟨rfl, bs (bs (bs hb1 hb2) hb3) hb4⟩
end Go.Proofs.YtiflaniobnjlpaaDoor
