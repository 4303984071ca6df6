/-
  KINDS OF NODES: kinds.attr, kinds.Of, ref11.Of; what goes with a kind: the walks.
-/
import Derived.Test.YtenicjebccdekaaAttrs
import Derived.Test.YtenicjebccdekaaLow
namespace Go.Proofs.Ytenicjebccdekaa
set_option linter.unusedVariables false
set_option linter.unusedSimpArgs false
open Go.RowKit PT

theorem kinds36 (k : Int) (h0 : 0 ≤ k) (h1 : k ≤ 35) : k = 0 ∨ k = 1 ∨ k = 2 ∨ k = 3 ∨ k = 4 ∨ k = 5 ∨ k = 6 ∨ k = 7 ∨ k = 8 ∨ k = 9 ∨ k = 10 ∨ k = 11 ∨ k = 12 ∨ k = 13 ∨ k = 14 ∨ k = 15 ∨ k = 16 ∨ k = 17 ∨ k = 18 ∨ k = 19 ∨ k = 20 ∨ k = 21 ∨ k = 22 ∨ k = 23 ∨ k = 24 ∨ k = 25 ∨ k = 26 ∨ k = 27 ∨ k = 28 ∨ k = 29 ∨ k = 30 ∨ k = 31 ∨ k = 32 ∨ k = 33 ∨ k = 34 ∨ k = 35 := by omega
def submB (k : Int) : Bool := decide (k ∈ ([1, 2, 3, 4, 5, 6, 7, 8, 9, 10, 11, 12, 13, 14, 15, 16, 17, 18, 19, 20, 21, 22, 23, 24, 25, 26, 27] : List Int))
set_option maxHeartbeats 4000000 in
set_option maxRecDepth 100000 in
theorem kindsSubmits_any (k : Int) (h0 : 0 ≤ k) (h1 : k ≤ 35) (w : World) : Calls Try.prog 65 #[.int .i64 k] w fun e w' => e = .returned (.bool (submB k)) ∧ w = w' := by
  rcases kinds36 k h0 h1 with rfl | rfl | rfl | rfl | rfl | rfl | rfl | rfl | rfl | rfl | rfl | rfl | rfl | rfl | rfl | rfl | rfl | rfl | rfl | rfl | rfl | rfl | rfl | rfl | rfl | rfl | rfl | rfl | rfl | rfl | rfl | rfl | rfl | rfl | rfl | rfl
  all_goals
    go_enter Try.func65, Try.ntmps65
    go_wp2
    go_ret
    exact ⟨rfl, rfl⟩
def listB (k : Int) : Bool := decide (k ∈ ([1, 2, 3, 4, 5, 6, 7, 8, 9, 10, 11, 12, 13, 14, 15, 16, 17, 18, 19, 21, 22, 23, 24, 25, 26, 27, 28, 29] : List Int))
set_option maxHeartbeats 4000000 in
set_option maxRecDepth 100000 in
theorem kindsListed_any (k : Int) (h0 : 0 ≤ k) (h1 : k ≤ 35) (w : World) : Calls Try.prog 60 #[.int .i64 k] w fun e w' => e = .returned (.bool (listB k)) ∧ w = w' := by
  rcases kinds36 k h0 h1 with rfl | rfl | rfl | rfl | rfl | rfl | rfl | rfl | rfl | rfl | rfl | rfl | rfl | rfl | rfl | rfl | rfl | rfl | rfl | rfl | rfl | rfl | rfl | rfl | rfl | rfl | rfl | rfl | rfl | rfl | rfl | rfl | rfl | rfl | rfl | rfl
  all_goals
    go_enter Try.func60, Try.ntmps60
    go_wp2
    go_ret
    exact ⟨rfl, rfl⟩
def labelB (k : Int) : Bool := decide (k ∈ ([2, 3, 4, 5, 6, 7, 8, 9, 10, 11, 12, 13, 14, 15, 16, 17, 18, 19, 20, 21, 22, 23, 24, 25, 26, 27, 28] : List Int))
set_option maxHeartbeats 4000000 in
set_option maxRecDepth 100000 in
theorem kindsLabels_any (k : Int) (h0 : 0 ≤ k) (h1 : k ≤ 35) (w : World) : Calls Try.prog 87 #[.int .i64 k] w fun e w' => e = .returned (.bool (labelB k)) ∧ w = w' := by
  rcases kinds36 k h0 h1 with rfl | rfl | rfl | rfl | rfl | rfl | rfl | rfl | rfl | rfl | rfl | rfl | rfl | rfl | rfl | rfl | rfl | rfl | rfl | rfl | rfl | rfl | rfl | rfl | rfl | rfl | rfl | rfl | rfl | rfl | rfl | rfl | rfl | rfl | rfl | rfl
  all_goals
    go_enter Try.func87, Try.ntmps87
    go_wp2
    go_ret
    exact ⟨rfl, rfl⟩
def firesB (k : Int) : Bool := decide (k ∈ ([19, 20, 25] : List Int))
set_option maxHeartbeats 4000000 in
set_option maxRecDepth 100000 in
theorem kindsFires_any (k : Int) (h0 : 0 ≤ k) (h1 : k ≤ 35) (w : World) : Calls Try.prog 64 #[.int .i64 k] w fun e w' => e = .returned (.bool (firesB k)) ∧ w = w' := by
  rcases kinds36 k h0 h1 with rfl | rfl | rfl | rfl | rfl | rfl | rfl | rfl | rfl | rfl | rfl | rfl | rfl | rfl | rfl | rfl | rfl | rfl | rfl | rfl | rfl | rfl | rfl | rfl | rfl | rfl | rfl | rfl | rfl | rfl | rfl | rfl | rfl | rfl | rfl | rfl
  all_goals
    go_enter Try.func64, Try.ntmps64
    go_wp2
    go_ret
    exact ⟨rfl, rfl⟩
def blocksB (k : Int) : Bool := decide (k ∈ ([2, 3, 4, 5, 6, 7, 8, 9, 10, 11, 12, 13] : List Int))
set_option maxHeartbeats 4000000 in
set_option maxRecDepth 100000 in
theorem kindsBlocks_any (k : Int) (h0 : 0 ≤ k) (h1 : k ≤ 35) (w : World) : Calls Try.prog 96 #[.int .i64 k] w fun e w' => e = .returned (.bool (blocksB k)) ∧ w = w' := by
  rcases kinds36 k h0 h1 with rfl | rfl | rfl | rfl | rfl | rfl | rfl | rfl | rfl | rfl | rfl | rfl | rfl | rfl | rfl | rfl | rfl | rfl | rfl | rfl | rfl | rfl | rfl | rfl | rfl | rfl | rfl | rfl | rfl | rfl | rfl | rfl | rfl | rfl | rfl | rfl
  all_goals
    go_enter Try.func96, Try.ntmps96
    go_wp2
    go_ret
    exact ⟨rfl, rfl⟩
set_option maxHeartbeats 4000000 in
set_option maxRecDepth 100000 in
theorem refIs1_any (k : Int) (h0 : 0 ≤ k) (h1 : k ≤ 35) (w : World) : Calls Try.prog 26 #[.int .i64 1, .int .i64 k] w fun e w' => e = .returned (.bool (listB k)) ∧ w = w' := by
  rcases kinds36 k h0 h1 with rfl | rfl | rfl | rfl | rfl | rfl | rfl | rfl | rfl | rfl | rfl | rfl | rfl | rfl | rfl | rfl | rfl | rfl | rfl | rfl | rfl | rfl | rfl | rfl | rfl | rfl | rfl | rfl | rfl | rfl | rfl | rfl | rfl | rfl | rfl | rfl
  all_goals
    go_enter Try.func26, Try.ntmps26
    go_wp2
    go_ret
    exact ⟨rfl, rfl⟩
set_option maxHeartbeats 4000000 in
set_option maxRecDepth 100000 in
theorem refIs2_any (k : Int) (h0 : 0 ≤ k) (h1 : k ≤ 35) (w : World) : Calls Try.prog 26 #[.int .i64 2, .int .i64 k] w fun e w' => e = .returned (.bool (submB k)) ∧ w = w' := by
  rcases kinds36 k h0 h1 with rfl | rfl | rfl | rfl | rfl | rfl | rfl | rfl | rfl | rfl | rfl | rfl | rfl | rfl | rfl | rfl | rfl | rfl | rfl | rfl | rfl | rfl | rfl | rfl | rfl | rfl | rfl | rfl | rfl | rfl | rfl | rfl | rfl | rfl | rfl | rfl
  all_goals
    go_enter Try.func26, Try.ntmps26
    go_wp2
    go_ret
    exact ⟨rfl, rfl⟩
set_option maxHeartbeats 4000000 in
set_option maxRecDepth 100000 in
theorem refIs4_any (k : Int) (h0 : 0 ≤ k) (h1 : k ≤ 35) (w : World) : Calls Try.prog 26 #[.int .i64 4, .int .i64 k] w fun e w' => e = .returned (.bool (labelB k)) ∧ w = w' := by
  rcases kinds36 k h0 h1 with rfl | rfl | rfl | rfl | rfl | rfl | rfl | rfl | rfl | rfl | rfl | rfl | rfl | rfl | rfl | rfl | rfl | rfl | rfl | rfl | rfl | rfl | rfl | rfl | rfl | rfl | rfl | rfl | rfl | rfl | rfl | rfl | rfl | rfl | rfl | rfl
  all_goals
    go_enter Try.func26, Try.ntmps26
    go_wp2
    go_ret
    exact ⟨rfl, rfl⟩
set_option maxHeartbeats 4000000 in
set_option maxRecDepth 100000 in
theorem refIs5_any (k : Int) (h0 : 0 ≤ k) (h1 : k ≤ 35) (w : World) : Calls Try.prog 26 #[.int .i64 5, .int .i64 k] w fun e w' => e = .returned (.bool (firesB k)) ∧ w = w' := by
  rcases kinds36 k h0 h1 with rfl | rfl | rfl | rfl | rfl | rfl | rfl | rfl | rfl | rfl | rfl | rfl | rfl | rfl | rfl | rfl | rfl | rfl | rfl | rfl | rfl | rfl | rfl | rfl | rfl | rfl | rfl | rfl | rfl | rfl | rfl | rfl | rfl | rfl | rfl | rfl
  all_goals
    go_enter Try.func26, Try.ntmps26
    go_wp2
    go_ret
    exact ⟨rfl, rfl⟩
set_option maxHeartbeats 4000000 in
set_option maxRecDepth 100000 in
theorem refIs6_any (k : Int) (h0 : 0 ≤ k) (h1 : k ≤ 35) (w : World) : Calls Try.prog 26 #[.int .i64 6, .int .i64 k] w fun e w' => e = .returned (.bool (blocksB k)) ∧ w = w' := by
  rcases kinds36 k h0 h1 with rfl | rfl | rfl | rfl | rfl | rfl | rfl | rfl | rfl | rfl | rfl | rfl | rfl | rfl | rfl | rfl | rfl | rfl | rfl | rfl | rfl | rfl | rfl | rfl | rfl | rfl | rfl | rfl | rfl | rfl | rfl | rfl | rfl | rfl | rfl | rfl
  all_goals
    go_enter Try.func26, Try.ntmps26
    go_wp2
    go_ret
    exact ⟨rfl, rfl⟩
end Go.Proofs.Ytenicjebccdekaa
