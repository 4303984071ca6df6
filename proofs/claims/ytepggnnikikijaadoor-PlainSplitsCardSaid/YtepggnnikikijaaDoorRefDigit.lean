/-
  ref02.Digit: the walk.
-/
import Derived.Test.YtepggnnikikijaaDoorBytes
import Derived.Test.YtepggnnikikijaaDoorPlainEscape
namespace Go.Proofs.YtepggnnikikijaaDoor
open Go.RowKit PT

set_option maxHeartbeats 400000 in
set_option maxRecDepth 100000 in
theorem refDigit_any (c : UInt8) (w : World) :
    Calls Tryd.prog 64 #[.int .u8 c.toNat] w fun e w' => e = .returned (.int .i64 (digI c)) ∧ w = w' := by
  go_enter Tryd.func64, Tryd.ntmps64
  go_wp2
  have hall : ∃ A : ByteArray, A = ⟨#[48, 49, 50, 51, 52, 53, 54, 55, 56, 57, 65, 66, 67, 68, 69, 70, 97, 98, 99, 100, 101, 102]⟩ ∧ A.data.toList = hexAll ∧ A.size = 22 := ⟨_, rfl, rfl, rfl⟩
  obtain ⟨A, hA, hA1, hA2⟩ := hall
  rw [← hA]
  have HA := Lib.hid hA1
  have HZ := Lib.hid hA2
  clear hA hA1
  go_loop [4] (fun i => ∃ k : Nat, k ≤ 22 ∧ i = .int .i64 k ∧ Hid (c ∉ hexAll.take k)) (fun i => 22 - (intOf i).toNat)
  case atStart => exact ⟨0, Nat.zero_le _, rfl, by unfold Hid; simp⟩
  case round =>
    obtain ⟨k, hk, rfl, hno⟩ := hrel
    by_cases hlt : k < 22
    · have hlt2 : k < A.size := by omega
      have hk2 : k < hexAll.length := hlt
      have hAk : A[k] = hexAll[k]'hk2 := by
        have h1 : A[k] = A.data.toList[k]'(by simpa using hlt2) := rfl
        rw [h1]
        simp only [HA.out]
      have Hk := Lib.hid hAk
      have Hd := Lib.hid (digI_at k hk2)
      clear hAk
      by_cases e : A[k] = c
      · have e' := byteEq_yes e
        have E := Lib.hid e
        clear e
        by_cases h15 : 15 < k
        · go_wp2
          go_ret
          exact ⟨ret_int (by rw [← E.out, Hk.out, Hd.out, if_pos h15]), rfl⟩
        · go_wp2
          go_ret
          exact ⟨ret_int (by rw [← E.out, Hk.out, Hd.out, if_neg h15]), rfl⟩
      · have e' := byteEq_no e
        have E := Lib.hid e
        clear e
        go_wp2
        go_round
        case rel =>
          refine ⟨k + 1, by omega, by go_num, ?_⟩
          unfold Hid
          rw [List.take_succ_eq_append_getElem hk2, List.mem_append, List.mem_singleton]
          exact fun h => h.elim hno.out fun h => E.out (Hk.out.trans h.symm)
        case measure => simp [intOf]; omega
    · go_wp2
      go_ret
      have := hno.out
      rw [List.take_of_length_le (by simp [hexAll]; omega)] at this
      exact ⟨ret_int (digI_none c this).symm, rfl⟩
theorem refDigit_yes (c : UInt8) (w : World) (h : digN c < 16) :
    Calls Tryd.prog 64 #[.int .u8 c.toNat] w fun e w' => e = .returned (.int .i64 (digN c)) ∧ w = w' :=
  (refDigit_any c w).mono fun e w' ⟨he, hw⟩ => ⟨by rw [he, show digI c = digN c from if_pos h], hw⟩
theorem refDigit_no (c : UInt8) (w : World) (h : ¬ digN c < 16) :
    Calls Tryd.prog 64 #[.int .u8 c.toNat] w fun e w' => e = .returned (.int .i64 (-1)) ∧ w = w' :=
  (refDigit_any c w).mono fun e w' ⟨he, hw⟩ => ⟨by rw [he, show digI c = -1 from if_neg h], hw⟩
end Go.Proofs.YtepggnnikikijaaDoor
