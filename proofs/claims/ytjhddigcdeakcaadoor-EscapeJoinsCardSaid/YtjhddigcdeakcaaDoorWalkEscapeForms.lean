/-
  The laws EscapeForms, EscapeJoins: the walks.
-/
import Derived.Test.YtjhddigcdeakcaaDoorForm
import Derived.Test.YtjhddigcdeakcaaDoorLong02
namespace Go.Proofs.YtjhddigcdeakcaaDoor
open Go.RowKit PT

theorem form_ab : form [97, 32, 98] = [97, 43, 98] := by decide

set_option maxHeartbeats 1000000 in
theorem escapeForms_walk (s : ByteArray) (_hs : s.size ≤ maxLen) (w : World) (hT : Tables w) :
    Calls Tryd.prog 10 #[.string s] w fun e w' => e = .returned (.bool true) ∧ Below w.heap.size w w' := by
  go_enter Tryd.func10, Tryd.ntmps10
  go_wp2_with fail
  refine (form_any _ (by decide) _ hT).mono ?_
  rintro e w1 ⟨rfl, hb1⟩
  have hT1 := hT.kept hb1
  rw [show form (ByteArray.mk #[97, 32, 98]).data.toList = _ from form_ab]
  by_cases hl : s.size ≤ 16384
  · have hfl := form_len s.data.toList
    rw [size_list] at hfl
    go_wp2_with fail
    refine (long02_no _ _ hl).mono ?_
    rintro e w' ⟨rfl, rfl⟩
    go_wp2_with fail
    refine (form_any s (by omega) _ hT1).mono ?_
    rintro e w2 ⟨rfl, hb2⟩
    have hT2 := hT1.kept hb2
    go_wp2_with fail
    refine (refForm_any s (by omega) _).mono ?_
    rintro e w3 ⟨rfl, hb3⟩
    have hT3 := hT2.kept hb3
    go_wp2_with fail
    refine (unform_any s (by omega) _ hT3).mono ?_
    rintro e w4 ⟨rfl, hb4⟩
    have hT4 := hT3.kept hb4
    go_wp2_with fail
    refine (refUnform_any s (by omega) _).mono ?_
    rintro e w5 ⟨rfl, hb5⟩
    have hT5 := hT4.kept hb5
    go_wp2_with fail
    refine (unform_any _ (by rw [size_mk]; omega) _ hT5).mono ?_
    rintro e w6 ⟨rfl, hb6⟩
    rw [show unform (ByteArray.mk (form s.data.toList).toArray).data.toList = _ from unform_form _, mk_list]
    go_wp2_with fail
    go_ret
    exact ⟨rfl, bs (bs (bs (bs (bs hb1 hb2) hb3) hb4) hb5) hb6⟩
  · go_wp2_with fail
    refine (long02_yes _ _ (by omega)).mono ?_
    rintro e w' ⟨rfl, rfl⟩
    go_wp2
    go_ret
    exact ⟨rfl, hb1⟩

set_option maxHeartbeats 2000000 in
theorem escapeJoins_walk (a b : ByteArray) (z : Int) (_ha : a.size ≤ maxLen) (_hb : b.size ≤ maxLen) (_hz : (Lit.int .i64 z).wf = true) (w : World) (hT : Tables w) :
    Calls Tryd.prog 9 #[.string a, .string b, .int .i64 z] w fun e w' => e = .returned (.bool true) ∧ Below w.heap.size w w' := by
  go_enter Tryd.func9, Tryd.ntmps9
  go_wp2_with fail
  refine (form_any _ (by decide) _ hT).mono ?_
  rintro e w1 ⟨rfl, hb1⟩
  have hT1 := hT.kept hb1
  rw [show form (ByteArray.mk #[97, 32, 98]).data.toList = _ from form_ab]
  by_cases hla : a.size ≤ 16384
  · go_wp2_with fail
    refine (long02_no _ _ hla).mono ?_
    rintro e w' ⟨rfl, rfl⟩
    by_cases hlb : b.size ≤ 16384
    · have hab : (a ++ b).data.toList = a.data.toList ++ b.data.toList := by simp
      have habz : (a ++ b).size ≤ 40000 := by rw [← size_list, hab, List.length_append, size_list, size_list]; omega
      have hfa : form (a ++ b).data.toList = form a.data.toList ++ form b.data.toList := by rw [hab, form_append]
      have hea : encL z (a ++ b).data.toList = encL z a.data.toList ++ encL z b.data.toList := by rw [hab, encL_append]
      have HF := Lib.hid hfa
      have HE := Lib.hid hea
      clear hab hfa hea
      have e0 : ByteArray.mk #[] ++ ByteArray.mk #[] = ByteArray.mk #[] := mk_append [] []
      have e1 := mk_append (form a.data.toList) (form b.data.toList)
      have e2 := mk_append (encL z a.data.toList) (encL z b.data.toList)
      have l1 := form_len a.data.toList
      have l2 := form_len b.data.toList
      have l3 := encL_len z a.data.toList
      have l4 := encL_len z b.data.toList
      rw [size_list] at l1 l2 l3 l4
      have z1 : (ByteArray.mk (form a.data.toList).toArray).size ≤ 100000 := by rw [size_mk]; omega
      have z2 : (ByteArray.mk (form b.data.toList).toArray).size ≤ 100000 := by rw [size_mk]; omega
      have z3 : (ByteArray.mk (encL z a.data.toList).toArray).size ≤ 100000 := by rw [size_mk]; omega
      have z4 : (ByteArray.mk (encL z b.data.toList).toArray).size ≤ 100000 := by rw [size_mk]; omega
      go_wp2_with fail
      refine (long02_no _ _ hlb).mono ?_
      rintro e w' ⟨rfl, rfl⟩
      by_cases hz : z < 0 ∨ 7 < z
      · go_wp2_with fail
        refine (encode_out a z _ hz).mono ?_
        rintro e w' ⟨rfl, rfl⟩
        go_wp2_with fail
        refine (encode_out b z _ hz).mono ?_
        rintro e w' ⟨rfl, rfl⟩
        go_wp2_with fail
        refine (encode_out (a ++ b) z _ hz).mono ?_
        rintro e w' ⟨rfl, rfl⟩
        go_wp2_with fail
        refine (form_any (a ++ b) (by omega) _ hT1).mono ?_
        rintro e w2 ⟨rfl, hb2⟩
        rw [HF.out]
        have hT2 := hT1.kept hb2
        go_wp2_with fail
        refine (form_any a (by omega) _ hT2).mono ?_
        rintro e w3 ⟨rfl, hb3⟩
        have hT3 := hT2.kept hb3
        go_wp2_with fail
        refine (form_any b (by omega) _ hT3).mono ?_
        rintro e w4 ⟨rfl, hb4⟩
        go_wp2_with fail
        go_ret
        exact ⟨rfl, bs (bs (bs hb1 hb2) hb3) hb4⟩
      · go_wp2_with fail
        refine (encode_any a z _ (by omega) hz).mono ?_
        rintro e w5 ⟨rfl, hb5⟩
        have hT5 := hT1.kept hb5
        go_wp2_with fail
        refine (encode_any b z _ (by omega) hz).mono ?_
        rintro e w6 ⟨rfl, hb6⟩
        have hT6 := hT5.kept hb6
        go_wp2_with fail
        refine (encode_any (a ++ b) z _ (by omega) hz).mono ?_
        rintro e w7 ⟨rfl, hb7⟩
        rw [HE.out]
        have hT7 := hT6.kept hb7
        go_wp2_with fail
        refine (form_any (a ++ b) (by omega) _ hT7).mono ?_
        rintro e w2 ⟨rfl, hb2⟩
        rw [HF.out]
        have hT2 := hT7.kept hb2
        go_wp2_with fail
        refine (form_any a (by omega) _ hT2).mono ?_
        rintro e w3 ⟨rfl, hb3⟩
        have hT3 := hT2.kept hb3
        go_wp2_with fail
        refine (form_any b (by omega) _ hT3).mono ?_
        rintro e w4 ⟨rfl, hb4⟩
        go_wp2_with fail
        go_ret
        exact ⟨rfl, bs (bs (bs (bs (bs (bs hb1 hb5) hb6) hb7) hb2) hb3) hb4⟩
    · go_wp2_with fail
      refine (long02_yes _ _ (by omega)).mono ?_
      rintro e w' ⟨rfl, rfl⟩
      go_wp2
      go_ret
      exact ⟨rfl, hb1⟩
  · go_wp2_with fail
    refine (long02_yes _ _ (by omega)).mono ?_
    rintro e w' ⟨rfl, rfl⟩
    go_wp2
    go_ret
    exact ⟨rfl, hb1⟩
end Go.Proofs.YtjhddigcdeakcaaDoor
