/-
  text.Valid, text.Units and ref01.Valid, ref01.Units: the walks.
-/
import Derived.Test.YtjhddigcdeakcaaDoorSign
import Derived.Test.YtjhddigcdeakcaaDoorPlainUnits
import Derived.Test.YtjhddigcdeakcaaDoorShelf
import Derived.Test.YtjhddigcdeakcaaDoorTables
namespace Go.Proofs.YtjhddigcdeakcaaDoor
open Go.RowKit PT

theorem valid_any (s : ByteArray) (hs : s.size ≤ 1000000) (w : World) (hT : Tables w) :
    Calls Tryd.prog 12 #[.string s] w fun e w' => e = .returned (.bool (Lib.validD s.data.toList)) ∧ Below w.heap.size w w' := by
  go_enter Tryd.func12, Tryd.ntmps12
  go_wp2_with fail
  refine (Tryd.utf8_ValidString s _ (by omega) hT.utf).mono ?_
  rintro e w1 ⟨rfl, hb1⟩
  go_wp2_with fail
  go_ret
  exact ⟨rfl, hb1⟩

set_option maxHeartbeats 1000000 in
set_option maxRecDepth 100000 in
theorem refValid_any (s : ByteArray) (hs : s.size ≤ 1000000) (w : World) :
    Calls Tryd.prog 14 #[.string s] w fun e w' => e = .returned (.bool (Lib.validD s.data.toList)) ∧ w = w' := by
  go_enter Tryd.func14, Tryd.ntmps14
  go_wp2_with fail
  go_loop [3] (fun i => ∃ k : Nat, k ≤ s.size ∧ i = .int .i64 k ∧ Hid (Lib.validD (s.data.toList.drop k) = Lib.validD s.data.toList)) (fun i => s.size - (intOf i).toNat)
  case atStart => exact ⟨0, Nat.zero_le _, rfl, rfl⟩
  case round =>
    obtain ⟨k, hk, rfl, hV⟩ := hrel
    by_cases hlt : k < s.size
    · have hle := sgn_le s k hlt
      go_wp2_with fail
      refine (sign_any s k hlt hs _).mono ?_
      rintro e w' ⟨rfl, rfl⟩
      by_cases h0 : (sgn s k).1 = 0
      · have hB := Lib.hid (valid_bad s k hlt h0)
        rw [h0]
        clear h0
        go_wp2_with fail
        go_ret
        exact ⟨ret_bool (by rw [← hV.out, hB.out]), rfl⟩
      · have hB := Lib.hid (valid_ok s k hlt h0)
        have h0' : (((sgn s k).1 : Int) == 0) = false := intNe (by omega)
        have hpos : 0 < (sgn s k).1 := by omega
        generalize (sgn s k).1 = q at *
        clear h0
        go_wp2_with fail
        go_round
        case rel => exact ⟨k + q, by omega, by go_num, hB.out.symm.trans hV.out⟩
        case measure => simp [intOf]; omega
    · obtain rfl : k = s.size := by omega
      have hE : Hid (Lib.validD s.data.toList = true) := by
        have := hV.out
        rw [List.drop_eq_nil_of_le (by simp)] at this
        exact this.symm
      go_wp2_with fail
      go_ret
      exact ⟨ret_bool hE.out.symm, rfl⟩

set_option maxHeartbeats 1000000 in
set_option maxRecDepth 100000 in
theorem refUnits_any (s : ByteArray) (hs : s.size ≤ 1000000) (w : World) :
    Calls Tryd.prog 15 #[.string s] w fun e w' => e = .returned (.int .i64 (units s.data.toList : Nat)) ∧ w = w' := by
  go_enter Tryd.func15, Tryd.ntmps15
  go_wp2_with fail
  go_loop [3, 4] (fun n i => ∃ k : Nat, ∃ c : Nat, k ≤ s.size ∧ i = .int .i64 k ∧ n = .int .i64 c ∧ Hid (c + units (s.data.toList.drop k) = units s.data.toList) ∧ c ≤ 2 * k) (fun _ i => s.size - (intOf i).toNat)
  case atStart => exact ⟨0, 0, Nat.zero_le _, rfl, rfl, by unfold Hid; simp, by omega⟩
  case round =>
    obtain ⟨k, c, hk, rfl, rfl, hU, hc⟩ := hrel
    by_cases hlt : k < s.size
    · have hle := sgn_le s k hlt
      have hD := Lib.hid (units_at s k hlt)
      go_wp2_with fail
      refine (sign_any s k hlt hs _).mono ?_
      rintro e w' ⟨rfl, rfl⟩
      generalize (sgn s k).2 = g at *
      generalize (sgn s k).1 = q at *
      by_cases h0 : q = 0
      · subst h0
        cases g
        · go_wp2_with fail
          go_round
          case rel => exact ⟨k + 1, c + 1, by omega, by go_num, by go_num, by unfold Hid; rw [← hU.out, hD.out]; simp; omega, by omega⟩
          case measure => simp [intOf]; omega
        · go_wp2_with fail
          go_round
          case rel => exact ⟨k + 1, c + 2, by omega, by go_num, by go_num, by unfold Hid; rw [← hU.out, hD.out]; simp; omega, by omega⟩
          case measure => simp [intOf]; omega
      · have h0' : ((q : Int) == 0) = false := intNe (by omega)
        cases g
        · go_wp2_with fail
          go_round
          case rel => exact ⟨k + q, c + 1, by omega, by go_num, by go_num, by unfold Hid; rw [← hU.out, hD.out]; simp [h0]; omega, by omega⟩
          case measure => simp [intOf]; omega
        · go_wp2_with fail
          go_round
          case rel => exact ⟨k + q, c + 2, by omega, by go_num, by go_num, by unfold Hid; rw [← hU.out, hD.out]; simp [h0]; omega, by omega⟩
          case measure => simp [intOf]; omega
    · obtain rfl : k = s.size := by omega
      have hE : Hid (c = units s.data.toList) := by
        have := hU.out
        rw [List.drop_eq_nil_of_le (by simp), units_nil] at this
        exact this
      go_wp2_with fail
      go_ret
      exact ⟨ret_int (by rw [hE.out]), rfl⟩

set_option maxHeartbeats 1000000 in
set_option maxRecDepth 100000 in
theorem units_any (s : ByteArray) (hs : s.size ≤ 1000000) (w : World) :
    Calls Tryd.prog 11 #[.string s] w fun e w' => e = .returned (.int .i64 (units s.data.toList : Nat)) ∧ Below w.heap.size w w' := by
  go_enter Tryd.func11, Tryd.ntmps11
  go_wp2_with fail
  go_loopw [3] (fun n wr => ∃ k : Nat, ∃ c : Nat, k ≤ s.size ∧ wr = w.iter s k ∧ n = .int .i64 c ∧ Hid (c + units (s.data.toList.drop k) = units s.data.toList) ∧ c ≤ 2 * k) (fun _ wr => s.size - wr.iterPos w.heap.size)
  case atStart => exact ⟨0, 0, Nat.zero_le _, rfl, rfl, by unfold Hid; simp, by omega⟩
  case round =>
    obtain ⟨k, c, hk, rfl, rfl, hU, hc⟩ := hrel
    by_cases hlt : k < s.size
    · have hnx : ∀ ty, (Instr.next (.pointer (some ⟨w.heap.size, 0, none⟩)) true ty).run Tryd.prog (w.iter s k) = _ := fun ty => run_next_any w s k ty hlt
      have hD := Lib.hid (units_dec s k hlt)
      have hw1 : 1 ≤ (Utf8.decode s k).2 := by rw [← Lib.decodeL_drop]; exact decodeL_pos _
      have hw2 : k + (Utf8.decode s k).2 ≤ s.size := by
        have := Lib.decodeL_le _ (drop_ne s k hlt)
        rw [Lib.decodeL_drop, List.length_drop, size_list] at this
        omega
      generalize Utf8.decode s k = d at *
      by_cases hg : 65535 < d.1
      · have hg' : (65535 : Int) < (d.1 : Int) := by omega
        go_wp2_with fail
        go_roundw
        case rel => exact ⟨k + d.2, c + 2, hw2, rfl, by go_num, by unfold Hid; rw [← hU.out, hD.out, if_pos hg]; omega, by omega⟩
        case measure => simp; omega
      · have hg' : decide ((65535 : Int) < (d.1 : Int)) = false := by simp; omega
        go_wp2_with fail
        go_roundw
        case rel => exact ⟨k + d.2, c + 1, hw2, rfl, by go_num, by unfold Hid; rw [← hU.out, hD.out, if_neg hg]; omega, by omega⟩
        case measure => simp; omega
    · have hnx : ∀ ty, (Instr.next (.pointer (some ⟨w.heap.size, 0, none⟩)) true ty).run Tryd.prog (w.iter s k) = _ := fun ty => run_next_end w s k ty hlt
      obtain rfl : k = s.size := by omega
      have hE : Hid (c = units s.data.toList) := by
        have := hU.out
        rw [List.drop_eq_nil_of_le (by simp), units_nil] at this
        exact this
      go_wp2_with fail
      go_ret
      exact ⟨ret_int (by rw [hE.out]), (Below.refl _ _).alloc (Nat.le_refl _) _⟩
end Go.Proofs.YtjhddigcdeakcaaDoor
