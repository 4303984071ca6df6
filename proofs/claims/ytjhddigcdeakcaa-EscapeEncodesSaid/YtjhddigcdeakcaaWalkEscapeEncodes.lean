/-
  The law EscapeEncodes: the walk.
-/
import Derived.Test.YtjhddigcdeakcaaRefEncode
import Derived.Test.YtjhddigcdeakcaaLong02
namespace Go.Proofs.Ytjhddigcdeakcaa
open Go.RowKit PT

theorem encL_ab : encL 2 [97, 32, 98] = [97, 37, 50, 48, 98] := by decide

set_option maxHeartbeats 1000000 in
theorem escapeEncodes_walk (s : ByteArray) (z : Int) (_hs : s.size ≤ maxLen) (_hz : (Lit.int .i64 z).wf = true) (w : World) :
    Calls Try.prog 6 #[.string s, .int .i64 z] w fun e w' => e = .returned (.bool true) ∧ Below w.heap.size w w' := by
  go_enter Try.func6, Try.ntmps6
  go_wp2_with fail
  refine (encode_any _ 2 _ (by decide) (by omega)).mono ?_
  rintro e w1 ⟨rfl, hb1⟩
  rw [show encL 2 (ByteArray.mk #[97, 32, 98]).data.toList = _ from encL_ab]
  by_cases hl : s.size ≤ 16384
  · go_wp2_with fail
    refine (long02_no _ _ hl).mono ?_
    rintro e w' ⟨rfl, rfl⟩
    by_cases hz : z < 0 ∨ 7 < z
    · go_wp2_with fail
      refine (encode_out s z _ hz).mono ?_
      rintro e w' ⟨rfl, rfl⟩
      go_wp2_with fail
      refine (refEncode_out s z _ hz).mono ?_
      rintro e w' ⟨rfl, rfl⟩
      go_wp2_with fail
      go_ret
      exact ⟨rfl, hb1⟩
    · go_wp2_with fail
      refine (encode_any s z _ (by omega) hz).mono ?_
      rintro e w2 ⟨rfl, hb2⟩
      go_wp2_with fail
      refine (refEncode_any s z _ (by omega) hz).mono ?_
      rintro e w3 ⟨rfl, hb3⟩
      go_wp2_with fail
      go_ret
      exact ⟨rfl, bs (bs hb1 hb2) hb3⟩
  · go_wp2_with fail
    refine (long02_yes _ _ (by omega)).mono ?_
    rintro e w' ⟨rfl, rfl⟩
    go_wp2
    go_ret
    exact ⟨rfl, hb1⟩
end Go.Proofs.Ytjhddigcdeakcaa
