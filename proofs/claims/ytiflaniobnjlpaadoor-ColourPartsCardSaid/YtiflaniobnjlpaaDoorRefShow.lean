/-
  ref06.Clean, ref06.Pair, ref06.Show: the walks.
-/
import Derived.Test.YtiflaniobnjlpaaDoorRefColour
import Derived.Test.YtiflaniobnjlpaaDoorRefDigits
import Derived.StillTactics
import Derived.Test.YtiflaniobnjlpaaDoorPlainShow
namespace Go.Proofs.YtiflaniobnjlpaaDoor
open Go.RowKit PT

set_option maxHeartbeats 1000000 in
set_option maxRecDepth 100000 in
theorem refClean_any (s : ByteArray) (w : World) :
    Calls Tryd.prog 18 #[.string s] w fun e w' => e = .returned (.string ⟨(clean s.data.toList).toArray⟩) ∧ Below w.heap.size w w' := by
  go_enter Tryd.func18, Tryd.ntmps18
  go_wp2_with fail
  refine (refSimple_any s _).mono ?_
  rintro e w1 ⟨rfl, rfl⟩
  cases hc : isCol s.data.toList
  · have hR := Lib.hid (show clean s.data.toList = black by unfold clean; rw [hc]; rfl)
    clear hc
    go_wp2_with fail
    go_ret
    exact ⟨ret_str (by rw [hR.out]; rfl), Below.refl _ _⟩
  · have hR := Lib.hid (show clean s.data.toList = low s.data.toList by unfold clean; rw [if_pos hc])
    obtain ⟨r, hr, h6, _⟩ := isCol_shape _ hc
    have hz : s.size = 7 := by rw [← size_list, hr]; simp [h6]
    clear hc hr
    go_wp2_with fail
    refine (refLower_any s _ (by omega)).mono ?_
    rintro e w2 ⟨rfl, hb2⟩
    go_wp2_with fail
    go_ret
    exact ⟨ret_str (by rw [hR.out]), hb2⟩

set_option maxHeartbeats 1000000 in
set_option maxRecDepth 100000 in
theorem pair_any (s : ByteArray) (k : Nat) (hk : k + 1 < s.size) (hz : s.size ≤ 65536) (h1 : digN s[k] < 16) (h2 : digN s[k + 1] < 16) (w : World) :
    Calls Tryd.prog 20 #[.string s, .int .i64 k] w fun e w' => e = .returned (.int .u8 ((digN s[k] * 16 + digN s[k + 1] : Nat) : Int)) ∧ Below w.heap.size w w' := by
  have hk0 : k < s.size := by omega
  have hk1 : (0 : Int) ≤ (k : Int) + 1 := by omega
  have hk2 : (k : Int) + 1 < (s.size : Int) := by omega
  have hk3 : IntKind.i64.wrap ((k : Int) + 1) = (k : Int) + 1 := IntWalk.i64_in _ (by omega)
  have hk4 : IntKind.i64.wrap ((digN s[k] : Int) * 16) = (digN s[k] : Int) * 16 := IntWalk.i64_in _ (by omega)
  have hk5 : IntKind.i64.wrap ((digN s[k] : Int) * 16 + (digN s[k + 1] : Int)) = (digN s[k] : Int) * 16 + (digN s[k + 1] : Int) := IntWalk.i64_in _ (by omega)
  go_enter Tryd.func20, Tryd.ntmps20
  go_wp2_with fail
  refine wp_region_still_lit (by kernel_rfl) (by kernel_rfl) ?_
  repeat still_step
  still_call ((refDigit_yes s[k] _ h1).mono fun e w' ⟨he, hw⟩ => ⟨he, hw.symm⟩)
  repeat still_step
  still_call ((refDigit_yes s[k + 1] _ h2).mono fun e w' ⟨he, hw⟩ => ⟨he, hw.symm⟩)
  repeat still_step
  refine wpStill_nil ?_
  go_wp2_with fail
  go_ret
  exact ⟨ret_int (by rw [IntWalk.u8_in _ (by omega)]; omega), below_draws _ _⟩

set_option maxHeartbeats 1000000 in
set_option maxRecDepth 100000 in
theorem refShow_any (r g b : UInt8) (w : World) :
    Calls Tryd.prog 22 #[.int .u8 r.toNat, .int .u8 g.toNat, .int .u8 b.toNat] w fun e w' => e = .returned (.string ⟨(showC r g b).toArray⟩) ∧ Below w.heap.size w w' := by
  go_enter Tryd.func22, Tryd.ntmps22
  go_wp2_with fail
  refine (refDigits_any r _).mono ?_
  rintro e w1 ⟨rfl, hb1⟩
  go_wp2_with fail
  refine (refDigits_any g _).mono ?_
  rintro e w2 ⟨rfl, hb2⟩
  go_wp2_with fail
  refine (refDigits_any b _).mono ?_
  rintro e w3 ⟨rfl, hb3⟩
  go_wp2_with fail
  refine (refLower_any _ _ (by simp [ByteArray.size])).mono ?_
  rintro e w4 ⟨rfl, hb4⟩
  go_wp2_with fail
  go_ret
  refine ⟨ret_str ?_, bs (bs (bs hb1 hb2) hb3) hb4⟩
  rw [← showC_low]
  simp
end Go.Proofs.YtiflaniobnjlpaaDoor
