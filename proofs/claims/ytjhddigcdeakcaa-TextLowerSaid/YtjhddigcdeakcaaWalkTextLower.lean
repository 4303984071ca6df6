/-
  The law TextLower: the walk.
-/
import Derived.Test.YtjhddigcdeakcaaLower
namespace Go.Proofs.Ytjhddigcdeakcaa
open Go.RowKit PT

theorem low_A : low [65] = [97] := by decide

set_option maxHeartbeats 1000000 in
theorem textLower_walk (a b : ByteArray) (_ha : a.size ≤ maxLen) (_hb : b.size ≤ maxLen) (w : World) :
    Calls Try.prog 3 #[.string a, .string b] w fun e w' => e = .returned (.bool true) ∧ Below w.heap.size w w' := by
  go_enter Try.func3, Try.ntmps3
  go_wp2_with fail
  refine (lower_any _ _ (by decide)).mono ?_
  rintro e w1 ⟨rfl, hb1⟩
  rw [show low (ByteArray.mk #[65]).data.toList = [97] from low_A]
  by_cases hla : a.size ≤ 65536
  · go_wp2_with fail
    refine (long01_no _ _ hla).mono ?_
    rintro e w' ⟨rfl, rfl⟩
    by_cases hlb : b.size ≤ 65536
    · go_wp2_with fail
      refine (long01_no _ _ hlb).mono ?_
      rintro e w' ⟨rfl, rfl⟩
      go_wp2_with fail
      refine (lower_any _ _ hla).mono ?_
      rintro e w2 ⟨rfl, hb2⟩
      go_wp2_with fail
      refine (refLower_any _ _ hla).mono ?_
      rintro e w3 ⟨rfl, hb3⟩
      go_wp2_with fail
      refine (same_any _ _ _ hla hlb).mono ?_
      rintro e w4 ⟨rfl, hb4⟩
      go_wp2_with fail
      refine (refLower_any _ _ hlb).mono ?_
      rintro e w5 ⟨rfl, hb5⟩
      go_wp2_with fail
      refine (lower_any _ _ (by rw [size_mk, low_length, size_list]; exact hla)).mono ?_
      rintro e w6 ⟨rfl, hb6⟩
      rw [show low (ByteArray.mk (low a.data.toList).toArray).data.toList = low a.data.toList from low_twice _]
      go_wp2_with fail
      go_ret
      exact ⟨rfl, bs (bs (bs (bs (bs hb1 hb2) hb3) hb4) hb5) hb6⟩
    · go_wp2_with fail
      refine (long01_yes _ _ (by omega)).mono ?_
      rintro e w' ⟨rfl, rfl⟩
      go_wp2
      go_ret
      exact ⟨rfl, hb1⟩
  · go_wp2_with fail
    refine (long01_yes _ _ (by omega)).mono ?_
    rintro e w' ⟨rfl, rfl⟩
    go_wp2
    go_ret
    exact ⟨rfl, hb1⟩
end Go.Proofs.Ytjhddigcdeakcaa
