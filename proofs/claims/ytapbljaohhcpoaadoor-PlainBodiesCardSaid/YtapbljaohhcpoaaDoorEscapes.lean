/-
  escape.Escapes and ref02.Escapes, with what they call: pure functions on a set and a byte.
-/
import Derived.Test.YtapbljaohhcpoaaDoorBytes
import Derived.Test.YtapbljaohhcpoaaDoorShelf
import Derived.Test.YtapbljaohhcpoaaDoorPlainEscape
import Derived.Test.YtapbljaohhcpoaaDoorIb
import Derived.Test.YtapbljaohhcpoaaDoorRefSigns
namespace Go.Proofs.YtapbljaohhcpoaaDoor
set_option linter.unusedVariables false
set_option linter.unusedSimpArgs false
open Go.RowKit PT

def moreArr : Value := .agg #[.string ⟨#[]⟩, .string ⟨#[32, 34, 60, 62, 96]⟩, .string ⟨#[32, 34, 35, 60, 62]⟩, .string ⟨#[39]⟩, .string ⟨#[63, 94, 123, 125, 96]⟩, .string ⟨#[47, 58, 59, 61, 64, 91, 92, 93, 124]⟩, .string ⟨#[36, 37, 38, 43, 44]⟩]
theorem more_idx (k : Nat) (hk : k ≤ 6) (w : World) : (Instr.index 116 moreArr (.int .i64 k)).run Tryd.prog w = .ok (.string ⟨(moreL k).toArray⟩) w := by
  obtain rfl | rfl | rfl | rfl | rfl | rfl | rfl : k = 0 ∨ k = 1 ∨ k = 2 ∨ k = 3 ∨ k = 4 ∨ k = 5 ∨ k = 6 := by omega
  all_goals kernel_rfl
theorem more_any (k : Nat) (hk : k ≤ 6) (w : World) :
    Calls Tryd.prog 104 #[.int .i64 k] w fun e w' => e = .returned (.string ⟨(moreL k).toArray⟩) ∧ w = w' := by
  have hi := more_idx k hk w
  unfold moreArr at hi
  go_enter Tryd.func104, Tryd.ntmps104
  go_wp2
  go_ret
  exact ⟨rfl, rfl⟩
def aheadArr : Value := .agg #[.int .i64 0, .int .i64 0, .int .i64 0, .int .i64 2, .int .i64 2, .int .i64 4, .int .i64 5]
theorem ahead_idx (k : Nat) (hk : k ≤ 6) (w : World) : (Instr.index 115 aheadArr (.int .i64 k)).run Tryd.prog w = .ok (.int .i64 (aheadN k)) w := by
  obtain rfl | rfl | rfl | rfl | rfl | rfl | rfl : k = 0 ∨ k = 1 ∨ k = 2 ∨ k = 3 ∨ k = 4 ∨ k = 5 ∨ k = 6 := by omega
  all_goals kernel_rfl
theorem ahead_any (k : Nat) (hk : k ≤ 6) (w : World) :
    Calls Tryd.prog 103 #[.int .i64 k] w fun e w' => e = .returned (.int .i64 (aheadN k)) ∧ w = w' := by
  have hi := ahead_idx k hk w
  unfold aheadArr at hi
  go_enter Tryd.func103, Tryd.ntmps103
  go_wp2
  go_ret
  exact ⟨rfl, rfl⟩

theorem letter_any (c : UInt8) (w : World) :
    Calls Tryd.prog 101 #[.int .u8 c.toNat] w fun e w' => e = .returned (.bool (letterB c)) ∧ w = w' := by
  go_enter Tryd.func101, Tryd.ntmps101
  go_wp2
  all_goals
    go_ret
    exact ⟨ret_bool (by rw [Bool.eq_iff_iff]; simp [letterB]; omega), rfl⟩
theorem escapes_out (z : Int) (c : UInt8) (w : World) (h : z < 0 ∨ 7 < z) :
    Calls Tryd.prog 90 #[.int .i64 z, .int .u8 c.toNat] w fun e w' => e = .returned (.bool false) ∧ w = w' := by
  rcases h with h | h
  · go_enter Tryd.func90, Tryd.ntmps90
    go_wp2_with fail
    go_ret
    exact ⟨rfl, rfl⟩
  · have h0 : (0 : Int) ≤ z := by omega
    go_enter Tryd.func90, Tryd.ntmps90
    go_wp2_with fail
    go_ret
    exact ⟨rfl, rfl⟩
theorem escapes_7 (c : UInt8) (w : World) :
    Calls Tryd.prog 90 #[.int .i64 7, .int .u8 c.toNat] w fun e w' => e = .returned (.bool (!letterB c && !inB c plain7)) ∧ w = w' := by
  go_enter Tryd.func90, Tryd.ntmps90
  go_wp2_with fail
  refine (letter_any _ _).mono ?_
  rintro e w' ⟨rfl, rfl⟩
  cases hl : letterB c
  · by_cases hp : c ∈ plain7
    · go_wp2_with fail
      refine (ib_yes ⟨plain7.toArray⟩ c _ hp).mono ?_
      rintro e w' ⟨z, _, rfl, rfl⟩
      have hz : decide ((z : Int) < 0) = false := by simp
      go_wp2
      go_ret
      exact ⟨ret_bool (by simp [inB_yes hp]), rfl⟩
    · go_wp2_with fail
      refine (ib_no ⟨plain7.toArray⟩ c _ hp).mono ?_
      rintro e w' ⟨rfl, rfl⟩
      go_wp2
      go_ret
      exact ⟨ret_bool (by simp [inB_no hp, hl]), rfl⟩
  · go_wp2
    go_ret
    exact ⟨ret_bool (by simp [hl]), rfl⟩
theorem escapes_far (k : Nat) (c : UInt8) (w : World) (hk : k ≤ 6) (h : c.toNat < 32 ∨ 126 < c.toNat) :
    Calls Tryd.prog 90 #[.int .i64 k, .int .u8 c.toNat] w fun e w' => e = .returned (.bool true) ∧ w = w' := by
  have h7 : ((k : Int) == 7) = false := by rw [beq_eq_false_iff_ne]; omega
  rcases h with h | h
  · have h1 : (c.toNat : Int) < 32 := by omega
    go_enter Tryd.func90, Tryd.ntmps90
    go_wp2_with fail
    go_ret
    exact ⟨rfl, rfl⟩
  · have h1 : (126 : Int) < (c.toNat : Int) := by omega
    have h2 : (32 : Int) ≤ (c.toNat : Int) := by omega
    go_enter Tryd.func90, Tryd.ntmps90
    go_wp2_with fail
    go_ret
    exact ⟨rfl, rfl⟩
set_option maxHeartbeats 400000 in
set_option maxRecDepth 100000 in
theorem escapes_near (k : Nat) (c : UInt8) (w : World) (hk : k ≤ 6) (h : ¬ (c.toNat < 32 ∨ 126 < c.toNat)) :
    Calls Tryd.prog 90 #[.int .i64 k, .int .u8 c.toNat] w fun e w' => e = .returned (.bool (inB c (escL k))) ∧ w = w' := by
  have h7 : ((k : Int) == 7) = false := by rw [beq_eq_false_iff_ne]; omega
  have h1 : (c.toNat : Int) ≤ 126 := by omega
  have h2 : (32 : Int) ≤ (c.toNat : Int) := by omega
  clear h
  go_enter Tryd.func90, Tryd.ntmps90
  go_wp2_with fail
  go_loop [0] (fun i => ∃ q : Nat, q ≤ 6 ∧ i = .int .i64 q ∧ Hid (inB c (escL k) = inB c (escL q))) (fun i => (intOf i).toNat)
  case atStart => exact ⟨k, hk, rfl, rfl⟩
  case round =>
    obtain ⟨q, hq, rfl, hH⟩ := hrel
    clear h7
    by_cases h0 : 0 < q
    · by_cases hm : c ∈ moreL q
      · go_wp2_with fail
        refine (more_any q hq _).mono ?_
        rintro e w' ⟨rfl, rfl⟩
        go_wp2_with fail
        refine (ib_yes ⟨(moreL q).toArray⟩ c _ hm).mono ?_
        rintro e w' ⟨z, _, rfl, rfl⟩
        go_wp2
        go_ret
        exact ⟨ret_bool (by rw [hH.out, inB_here q h0 hq c hm]), rfl⟩
      · go_wp2_with fail
        refine (more_any q hq _).mono ?_
        rintro e w' ⟨rfl, rfl⟩
        go_wp2_with fail
        refine (ib_no ⟨(moreL q).toArray⟩ c _ hm).mono ?_
        rintro e w' ⟨rfl, rfl⟩
        go_wp2_with fail
        refine (ahead_any q hq _).mono ?_
        rintro e w' ⟨rfl, rfl⟩
        go_wp2
        go_round
        case rel => exact ⟨aheadN q, aheadN_le q, rfl, hH.out.trans (inB_step q h0 hq c hm)⟩
        case measure => have := aheadN_lt q h0; simp [intOf]; omega
    · obtain rfl : q = 0 := by omega
      go_wp2
      go_ret
      exact ⟨ret_bool (by rw [hH.out]; rfl), rfl⟩
theorem escapes_any (z : Int) (c : UInt8) (w : World) :
    Calls Tryd.prog 90 #[.int .i64 z, .int .u8 c.toNat] w fun e w' => e = .returned (.bool (escB z c)) ∧ w = w' := by
  by_cases h : z < 0 ∨ 7 < z
  · rw [escB_out z c h]; exact escapes_out z c w h
  · obtain ⟨k, rfl⟩ : ∃ k : Nat, z = k := ⟨z.toNat, by omega⟩
    by_cases h7 : k = 7
    · subst h7
      rw [show escB ((7 : Nat) : Int) c = _ from escB_7 c]
      exact escapes_7 c w
    · by_cases hc : c.toNat < 32 ∨ 126 < c.toNat
      · rw [escB_far k c (by omega) hc]; exact escapes_far k c w (by omega) hc
      · rw [escB_near k c (by omega) hc]; exact escapes_near k c w (by omega) hc
end Go.Proofs.YtapbljaohhcpoaaDoor
