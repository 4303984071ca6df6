/-
  ref02.Plain, ref02.In: the walks.
-/
import Derived.Test.YtapbljaohhcpoaaDoorBytes
import Derived.Test.YtapbljaohhcpoaaDoorPlainEscape
namespace Go.Proofs.YtapbljaohhcpoaaDoor
open Go.RowKit PT

theorem refPlain_any (c : UInt8) (w : World) :
    Calls Tryd.prog 29 #[.int .u8 c.toNat] w fun e w' => e = .returned (.bool (letterB c)) ∧ w = w' := by
  go_enter Tryd.func29, Tryd.ntmps29
  go_wp2
  all_goals
    go_ret
    exact ⟨ret_bool (by rw [Bool.eq_iff_iff]; simp [letterB]; omega), rfl⟩

theorem inText (s : ByteArray) (k : Nat) (h : k < s.size) : s[k] ∈ s.data.toList := by
  have : s[k] = s.data.toList[k]'(by simpa using h) := rfl
  rw [this]
  exact List.getElem_mem _
set_option maxHeartbeats 400000 in
set_option maxRecDepth 100000 in
theorem refIn_any (c : UInt8) (s : ByteArray) (w : World) (hs : s.size ≤ 4294967296) :
    Calls Tryd.prog 106 #[.int .u8 c.toNat, .string s] w fun e w' => e = .returned (.bool (inB c s.data.toList)) ∧ w = w' := by
  go_enter Tryd.func106, Tryd.ntmps106
  go_wp2
  go_loop [5] (fun i => ∃ k : Nat, k ≤ s.size ∧ i = .int .i64 k ∧ c ∉ s.data.toList.take k) (fun i => s.size - (intOf i).toNat)
  case atStart => exact ⟨0, Nat.zero_le _, rfl, by simp⟩
  case round =>
    obtain ⟨k, hk, rfl, hno⟩ := hrel
    have Hno := Lib.hid hno
    clear hno
    by_cases hlt : k < s.size
    · have hT := Lib.hid (take_snoc s k hlt)
      have hin := Lib.hid (inText s k hlt)
      by_cases e : s[k] = c
      · have e' := byteEq_yes e
        have E := Lib.hid e
        clear e
        go_wp2
        go_ret
        exact ⟨ret_bool (by rw [← E.out]; exact (inB_yes hin.out).symm), rfl⟩
      · have e' := byteEq_no e
        have E := Lib.hid e
        clear e
        go_wp2
        go_round
        case rel => exact ⟨k + 1, by omega, by go_num, by rw [hT.out, List.mem_append, List.mem_singleton]; intro h; exact h.elim Hno.out fun h => E.out h.symm⟩
        case measure => simp [intOf]; omega
    · go_wp2
      go_ret
      have := Hno.out
      rw [List.take_of_length_le (by simp; omega)] at this
      exact ⟨ret_bool (inB_no this).symm, rfl⟩

end Go.Proofs.YtapbljaohhcpoaaDoor
