/-
  ref06.Simple, ref06.Clean: the walks.
-/
import Derived.Test.YtiflaniobnjlpaaDoorColour
import Derived.Test.YtiflaniobnjlpaaDoorRefDigit
namespace Go.Proofs.YtiflaniobnjlpaaDoor
open Go.RowKit PT

theorem isCol_iff (s : ByteArray) (h7 : s.size = 7) (h0 : s[0]'(by omega) = 35) : isCol s.data.toList = (s.data.toList.drop 1).all isHex := by
  have hd := drop_cons' s 0 (by omega)
  rw [List.drop_zero] at hd
  unfold isCol
  have h1 : Lib.hasPrefix s.data.toList [35] = true := by rw [hd, h0]; simp [Lib.hasPrefix, List.isPrefixOf]
  have h2 : (s.data.toList.drop 1).length = 6 := by rw [List.length_drop, size_list]; omega
  rw [h1, decide_eq_true h2, Bool.true_and, Bool.true_and]
theorem isCol_no7 (s : ByteArray) (h7 : s.size ≠ 7) : isCol s.data.toList = false := by
  rw [Bool.eq_false_iff]
  intro h
  obtain ⟨r, hr, h6, _⟩ := isCol_shape _ h
  exact h7 (by rw [← size_list, hr]; simp [h6])
theorem isCol_no35 (s : ByteArray) (h7 : s.size = 7) (h0 : s[0]'(by omega) ≠ 35) : isCol s.data.toList = false := by
  rw [Bool.eq_false_iff]
  intro h
  obtain ⟨r, hr, h6, _⟩ := isCol_shape _ h
  have hd := drop_cons' s 0 (by omega)
  rw [List.drop_zero, hr] at hd
  exact h0 (List.cons.inj hd).1.symm

set_option maxHeartbeats 1000000 in
set_option maxRecDepth 100000 in
theorem refSimple_any (s : ByteArray) (w : World) :
    Calls Tryd.prog 17 #[.string s] w fun e w' => e = .returned (.bool (isCol s.data.toList)) ∧ w = w' := by
  by_cases h7 : s.size = 7
  · have h7' : ((s.size : Int) != 7) = false := by rw [h7]; rfl
    have h70 : 0 < s.size := by omega
    by_cases h0 : s[0] = 35
    · have h0' : ((s[0].toNat : Int) != 35) = false := by rw [h0]; rfl
      have hI := Lib.hid (isCol_iff s h7 h0)
      go_enter Tryd.func17, Tryd.ntmps17
      go_wp2_with fail
      go_loop [3] (fun i => ∃ k : Nat, 1 ≤ k ∧ k ≤ 7 ∧ i = .int .i64 k ∧ Hid ((s.data.toList.drop k).all isHex = (s.data.toList.drop 1).all isHex)) (fun i => 7 - (intOf i).toNat)
      case atStart => exact ⟨1, by omega, by omega, rfl, Lib.hid rfl⟩
      case round =>
        obtain ⟨k, hk1, hk, rfl, hH⟩ := hrel
        by_cases hlt : k < 7
        · have hlt' : (k : Int) < 7 := by omega
          have hks : k < s.size := by omega
          by_cases hx : digN s[k] < 16
          · have hN := Lib.hid (show (s.data.toList.drop (k + 1)).all isHex = (s.data.toList.drop 1).all isHex by
              rw [← hH.out, drop_cons' s k hks, List.all_cons, show isHex s[k] = true from decide_eq_true hx, Bool.true_and])
            go_wp2_with fail
            refine (refDigit_yes s[k] _ hx).mono ?_
            rintro e w' ⟨rfl, rfl⟩
            have hz : decide ((digN s[k] : Int) < 0) = false := by simp
            go_wp2_with fail
            go_round
            case rel => exact ⟨k + 1, by omega, by omega, by go_num, hN⟩
            case measure => simp [intOf]; omega
          · have hN := Lib.hid (show isCol s.data.toList = false by
              rw [hI.out, ← hH.out, drop_cons' s k hks, List.all_cons, show isHex s[k] = false from decide_eq_false hx, Bool.false_and])
            go_wp2_with fail
            refine (refDigit_no s[k] _ hx).mono ?_
            rintro e w' ⟨rfl, rfl⟩
            go_wp2_with fail
            go_ret
            exact ⟨ret_bool hN.out.symm, rfl⟩
        · have hN := Lib.hid (show isCol s.data.toList = true by
            rw [hI.out, ← hH.out, List.drop_eq_nil_of_le (by rw [size_list]; omega)]; rfl)
          have hlt' : decide ((k : Int) < 7) = false := by simp; omega
          go_wp2_with fail
          go_ret
          exact ⟨ret_bool hN.out.symm, rfl⟩
    · have h0' : ((s[0].toNat : Int) != 35) = true := by
        simp only [bne_iff_ne, ne_eq]
        intro e
        exact h0 (UInt8.toNat_inj.1 (by have : (35 : UInt8).toNat = 35 := rfl; omega))
      have hN := Lib.hid (isCol_no35 s h7 h0)
      go_enter Tryd.func17, Tryd.ntmps17
      go_wp2_with fail
      go_ret
      exact ⟨ret_bool hN.out.symm, rfl⟩
  · have h7' : ((s.size : Int) != 7) = true := by simp only [bne_iff_ne, ne_eq]; omega
    have hN := Lib.hid (isCol_no7 s h7)
    go_enter Tryd.func17, Tryd.ntmps17
    go_wp2_with fail
    go_ret
    exact ⟨ret_bool hN.out.symm, rfl⟩
end Go.Proofs.YtiflaniobnjlpaaDoor
