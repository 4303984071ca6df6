/-
  ref02.Escapes: what it answers.
-/
import Derived.Test.YtapbljaohhcpoaaDoorEscapes
namespace Go.Proofs.YtapbljaohhcpoaaDoor
set_option linter.unusedVariables false
set_option linter.unusedSimpArgs false
open Go.RowKit PT

set_option maxHeartbeats 800000 in
theorem refEscapes_out (z : Int) (c : UInt8) (w : World) (h : z < 0 ∨ 7 < z) :
    Calls Tryd.prog 94 #[.int .i64 z, .int .u8 c.toNat] w fun e w' => e = .returned (.bool false) ∧ w = w' := by
  have e0 := intNe (a := z) (b := 0) (by omega)
  have e1 := intNe (a := z) (b := 1) (by omega)
  have e2 := intNe (a := z) (b := 2) (by omega)
  have e3 := intNe (a := z) (b := 3) (by omega)
  have e4 := intNe (a := z) (b := 4) (by omega)
  have e5 := intNe (a := z) (b := 5) (by omega)
  have e6 := intNe (a := z) (b := 6) (by omega)
  have e7 := intNe (a := z) (b := 7) (by omega)
  clear h
  go_enter Tryd.func94, Tryd.ntmps94
  go_wp2_with fail
  go_ret
  exact ⟨rfl, rfl⟩
set_option maxHeartbeats 800000 in
theorem refEscapes_7 (c : UInt8) (w : World) :
    Calls Tryd.prog 94 #[.int .i64 7, .int .u8 c.toNat] w fun e w' => e = .returned (.bool (!letterB c && !inB c plain7)) ∧ w = w' := by
  go_enter Tryd.func94, Tryd.ntmps94
  go_wp2_with fail
  refine (refPlain_any _ _).mono ?_
  rintro e w' ⟨rfl, rfl⟩
  cases hl : letterB c
  · go_wp2_with fail
    refine (refIn_any c ⟨plain7.toArray⟩ _ (by decide)).mono ?_
    rintro e w' ⟨rfl, rfl⟩
    go_wp2
    go_ret
    exact ⟨ret_bool (by simp [hl]), rfl⟩
  · go_wp2
    go_ret
    exact ⟨ret_bool (by simp [hl]), rfl⟩
set_option maxHeartbeats 2000000 in
theorem refEscapes_far (k : Nat) (c : UInt8) (w : World) (hk : k ≤ 6) (h : c.toNat < 32 ∨ 126 < c.toNat) :
    Calls Tryd.prog 94 #[.int .i64 k, .int .u8 c.toNat] w fun e w' => e = .returned (.bool true) ∧ w = w' := by
  obtain rfl | rfl | rfl | rfl | rfl | rfl | rfl : k = 0 ∨ k = 1 ∨ k = 2 ∨ k = 3 ∨ k = 4 ∨ k = 5 ∨ k = 6 := by omega
  all_goals
    rcases h with h | h
    · have h1 : (c.toNat : Int) < 32 := by omega
      go_enter Tryd.func94, Tryd.ntmps94
      go_wp2_with fail
      go_ret
      exact ⟨rfl, rfl⟩
    · have h1 : (126 : Int) < (c.toNat : Int) := by omega
      have h2 : (32 : Int) ≤ (c.toNat : Int) := by omega
      go_enter Tryd.func94, Tryd.ntmps94
      go_wp2_with fail
      go_ret
      exact ⟨rfl, rfl⟩
set_option maxHeartbeats 2000000 in
theorem refEscapes_near (k : Nat) (c : UInt8) (w : World) (hk : k ≤ 6) (h : ¬ (c.toNat < 32 ∨ 126 < c.toNat)) :
    Calls Tryd.prog 94 #[.int .i64 k, .int .u8 c.toNat] w fun e w' => e = .returned (.bool (inB c (escL k))) ∧ w = w' := by
  have h1 : (c.toNat : Int) ≤ 126 := by omega
  have h2 : (32 : Int) ≤ (c.toNat : Int) := by omega
  have h3 : decide (126 < (c.toNat : Int)) = false := by simp; omega
  have h4 : decide ((c.toNat : Int) < 32) = false := by simp; omega
  clear h
  by_cases k0 : k = 0
  · subst k0
    go_enter Tryd.func94, Tryd.ntmps94
    go_wp2_with fail
    go_ret
    exact ⟨ret_bool rfl, rfl⟩
  · obtain rfl | rfl | rfl | rfl | rfl | rfl : k = 1 ∨ k = 2 ∨ k = 3 ∨ k = 4 ∨ k = 5 ∨ k = 6 := by omega
    all_goals
      go_enter Tryd.func94, Tryd.ntmps94
      go_wp2_with fail
      refine (refIn_any c _ _ (by decide)).mono ?_
      rintro e w' ⟨rfl, rfl⟩
      go_wp2
      go_ret
      exact ⟨ret_bool rfl, rfl⟩
theorem refEscapes_any (z : Int) (c : UInt8) (w : World) :
    Calls Tryd.prog 94 #[.int .i64 z, .int .u8 c.toNat] w fun e w' => e = .returned (.bool (escB z c)) ∧ w = w' := by
  by_cases h : z < 0 ∨ 7 < z
  · rw [escB_out z c h]; exact refEscapes_out z c w h
  · obtain ⟨k, rfl⟩ : ∃ k : Nat, z = k := ⟨z.toNat, by omega⟩
    by_cases h7 : k = 7
    · subst h7
      rw [show escB ((7 : Nat) : Int) c = _ from escB_7 c]
      exact refEscapes_7 c w
    · by_cases hc : c.toNat < 32 ∨ 126 < c.toNat
      · rw [escB_far k c (by omega) hc]; exact refEscapes_far k c w (by omega) hc
      · rw [escB_near k c (by omega) hc]; exact refEscapes_near k c w (by omega) hc
end Go.Proofs.YtapbljaohhcpoaaDoor
