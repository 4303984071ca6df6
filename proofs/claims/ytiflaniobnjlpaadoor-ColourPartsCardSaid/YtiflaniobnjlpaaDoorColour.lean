/-
  colour.Simple, colour.Clean: the walks.
-/
import Derived.Test.YtiflaniobnjlpaaDoorLow
import Derived.Test.YtiflaniobnjlpaaDoorShelf
import Derived.Test.YtiflaniobnjlpaaDoorPlainColour
namespace Go.Proofs.YtiflaniobnjlpaaDoor
open Go.RowKit PT

theorem hexCs_ascii : ∀ (j : Nat) b, (ByteArray.mk #[48, 49, 50, 51, 52, 53, 54, 55, 56, 57, 97, 98, 99, 100, 101, 102]).data.toList[j]? = some b → b.toNat < 128 := by
  intro j b h
  have hm := List.mem_of_getElem? h
  revert b
  have : ∀ b ∈ hexCs, b.toNat < 128 := by decide
  exact fun b _ hm => this b hm

set_option maxHeartbeats 1000000 in
set_option maxRecDepth 100000 in
theorem simple_any (s : ByteArray) (w : World) :
    Calls Tryd.prog 16 #[.string s] w fun e w' => e = .returned (.bool (isCol s.data.toList)) ∧ Below w.heap.size w w' := by
  go_enter Tryd.func16, Tryd.ntmps16
  go_wp2_with fail
  refine (Tryd.strings_CutPrefix s ⟨#[35]⟩ _).mono ?_
  rintro e w1 ⟨rfl, rfl⟩
  by_cases hp : Lib.hasPrefix s.data.toList [35] = true
  · have hT : Lib.trimPrefix s.data.toList (ByteArray.mk #[35]).data.toList = s.data.toList.drop 1 := by
      unfold Lib.trimPrefix
      rw [if_pos hp]; rfl
    rw [hT, show Lib.hasPrefix s.data.toList (ByteArray.mk #[35]).data.toList = true from hp]
    have hI : isCol s.data.toList = (decide ((s.data.toList.drop 1).length = 6) && (s.data.toList.drop 1).all isHex) := by
      unfold isCol; rw [hp, Bool.true_and]
    have hI' := Lib.hid hI
    clear hT hI hp
    generalize s.data.toList.drop 1 = r at *
    by_cases h6 : r.length = 6
    · have h6' : (((ByteArray.mk r.toArray).size : Int) == 6) = true := by rw [size_mk, h6]; rfl
      have h6s : (ByteArray.mk r.toArray).size = 6 := by rw [size_mk, h6]
      go_wp2_with fail
      refine (lower_any _ _ (by rw [size_mk, h6]; decide)).mono ?_
      rintro e w2 ⟨rfl, hb2⟩
      go_wp2_with fail
      refine (Tryd.strings_Trim_laid _ ⟨#[48, 49, 50, 51, 52, 53, 54, 55, 56, 57, 97, 98, 99, 100, 101, 102]⟩ _ (by rw [size_mk, low_length]; simp [h6]) (by decide) hexCs_ascii).mono ?_
      rintro e w3 ⟨rfl, hb3⟩
      have hTr := trim_hex r
      have hcc : Lib.trimS (ByteArray.mk (low (ByteArray.mk r.toArray).data.toList).toArray).data.toList (ByteArray.mk #[48, 49, 50, 51, 52, 53, 54, 55, 56, 57, 97, 98, 99, 100, 101, 102]).data.toList = Lib.trimS (low r) hexCs := rfl
      rw [hcc]
      clear hcc
      generalize Lib.trimS (low r) hexCs = t at *
      by_cases ht : t = []
      · subst ht
        have hR := Lib.hid (show isCol s.data.toList = true by rw [hI'.out, ← hTr, h6]; rfl)
        clear hTr
        go_wp2_with fail
        go_ret
        exact ⟨ret_bool hR.out.symm, bs hb2 hb3⟩
      · have hR := Lib.hid (show isCol s.data.toList = false by rw [hI'.out, ← hTr, decide_eq_false ht, Bool.and_false])
        have hE := Lib.hid (show t.isEmpty = false by cases t with | nil => exact absurd rfl ht | cons _ _ => rfl)
        clear hTr ht
        go_wp2_with fail
        go_ret
        exact ⟨ret_bool (hE.out.trans hR.out.symm), bs hb2 hb3⟩
    · have hR := Lib.hid (show isCol s.data.toList = false by rw [hI'.out, decide_eq_false h6, Bool.false_and])
      have h6' : (((ByteArray.mk r.toArray).size : Int) == 6) = false := by
        rw [size_mk]; simp only [beq_eq_false_iff_ne, ne_eq]; omega
      have h7 : ((r.length : Int) == 6) = false := by simp only [beq_eq_false_iff_ne, ne_eq]; omega
      go_wp2_with fail
      go_ret
      exact ⟨ret_bool hR.out.symm, Below.refl _ _⟩
  · have hR := Lib.hid (show isCol s.data.toList = false by unfold isCol; rw [Bool.eq_false_iff.2 hp, Bool.false_and])
    rw [show Lib.hasPrefix s.data.toList (ByteArray.mk #[35]).data.toList = false from Bool.eq_false_iff.2 hp]
    go_wp2_with fail
    go_ret
    exact ⟨ret_bool hR.out.symm, Below.refl _ _⟩

set_option maxHeartbeats 1000000 in
set_option maxRecDepth 100000 in
theorem clean_any (s : ByteArray) (w : World) :
    Calls Tryd.prog 14 #[.string s] w fun e w' => e = .returned (.string ⟨(clean s.data.toList).toArray⟩) ∧ Below w.heap.size w w' := by
  go_enter Tryd.func14, Tryd.ntmps14
  go_wp2_with fail
  refine (simple_any s _).mono ?_
  rintro e w1 ⟨rfl, hb1⟩
  cases hc : isCol s.data.toList
  · have hR := Lib.hid (show clean s.data.toList = black by unfold clean; rw [hc]; rfl)
    clear hc
    go_wp2_with fail
    go_ret
    exact ⟨ret_str (by rw [hR.out]; rfl), hb1⟩
  · have hR := Lib.hid (show clean s.data.toList = low s.data.toList by unfold clean; rw [if_pos hc])
    obtain ⟨r, hr, h6, _⟩ := isCol_shape _ hc
    have hz : s.size = 7 := by rw [← size_list, hr]; simp [h6]
    clear hc hr
    go_wp2_with fail
    refine (lower_any s _ (by omega)).mono ?_
    rintro e w2 ⟨rfl, hb2⟩
    go_wp2_with fail
    go_ret
    exact ⟨ret_str (by rw [hR.out]), bs hb1 hb2⟩
end Go.Proofs.YtiflaniobnjlpaaDoor
