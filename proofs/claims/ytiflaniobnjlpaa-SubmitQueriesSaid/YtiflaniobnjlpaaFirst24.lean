/-
  ref24.first: where a sign stands first.
-/
import Derived.Test.YtiflaniobnjlpaaBase
import Derived.Test.YtiflaniobnjlpaaPlainQuery
namespace Go.Proofs.Ytiflaniobnjlpaa
open Go.RowKit PT

set_option maxHeartbeats 1000000 in
theorem first24_any (s : ByteArray) (c : UInt8) (hs : s.size ≤ 900000000000000) (w : World) :
    Calls Try.prog 8 #[.string s, .int .u8 c.toNat] w fun e w' => e = .returned (.int .i64 ((upTo c s.data.toList).length : Nat)) ∧ w = w' := by
  go_enter Try.func8, Try.ntmps8
  go_wp2_with fail
  go_loop [5] (fun i => ∃ k : Nat, k ≤ s.size ∧ i = .int .i64 k ∧ Hid (k + (upTo c (s.data.toList.drop k)).length = (upTo c s.data.toList).length)) (fun i => s.size - (intOf i).toNat)
  case atStart => exact ⟨0, Nat.zero_le _, rfl, Lib.hid (by simp)⟩
  case round =>
    obtain ⟨k, hk, rfl, hH⟩ := hrel
    by_cases hlt : k < s.size
    · have hlt' : (k : Int) < (s.size : Int) := by omega
      by_cases hc : s[k] = c
      · have hE : (upTo c s.data.toList).length = k := by
          rw [← hH.out, drop_cons' s k hlt, upTo, if_pos hc]; rfl
        have hE' := Lib.hid hE
        have E : ((s[k].toNat : Int) == (c.toNat : Int)) = true := by rw [hc]; simp
        clear hE
        go_wp2_with fail
        go_ret
        exact ⟨ret_int (by rw [hE'.out]), rfl⟩
      · have hH' := Lib.hid (show k + 1 + (upTo c (s.data.toList.drop (k + 1))).length = (upTo c s.data.toList).length by
          rw [← hH.out, drop_cons' s k hlt, upTo, if_neg hc, List.length_cons]; omega)
        have E : ((s[k].toNat : Int) == (c.toNat : Int)) = false := by
          simp only [beq_eq_false_iff_ne, ne_eq]
          intro e
          exact hc (UInt8.toNat_inj.1 (by omega))
        go_wp2_with fail
        go_round
        case rel => exact ⟨k + 1, by omega, by go_num, hH'⟩
        case measure => simp [intOf]; omega
    · have hz : k = s.size := by omega
      have hE := Lib.hid (show (upTo c s.data.toList).length = s.size by
        rw [← hH.out, List.drop_eq_nil_of_le (by rw [size_list]; omega)]; simp [upTo]; exact hz)
      have hlt' : decide ((k : Int) < (s.size : Int)) = false := by simp; omega
      go_wp2_with fail
      go_ret
      exact ⟨ret_int (by rw [hE.out]), rfl⟩
end Go.Proofs.Ytiflaniobnjlpaa
