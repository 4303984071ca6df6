/-
  The law ColourShows: the walk.
-/
import Derived.Test.YtiflaniobnjlpaaDoorWalkColourCleans
namespace Go.Proofs.YtiflaniobnjlpaaDoor
open Go.RowKit PT

set_option maxHeartbeats 1000000 in
set_option maxRecDepth 100000 in
theorem colourShows_walk8 (r g b : UInt8) (w : World) :
    Calls Tryd.prog 7 #[.int .u8 r.toNat, .int .u8 g.toNat, .int .u8 b.toNat] w fun e w' => e = .returned (.bool true) ∧ Below w.heap.size w w' := by
  go_enter Tryd.func7, Tryd.ntmps7
  go_wp2_with fail
  refine (show_any _ _ _ _).mono ?_
  rintro e w1 ⟨rfl, hb1⟩
  go_wp2_with fail
  refine (parts_yes _ (show isCol (ByteArray.mk (showC r g b).toArray).data.toList = true from isCol_showC r g b) _).mono ?_
  rintro e w2 ⟨rfl, hb2⟩
  have hp := partN_showC r g b
  rw [show partN (ByteArray.mk (showC r g b).toArray).data.toList 1 = _ from hp.1, show partN (ByteArray.mk (showC r g b).toArray).data.toList 3 = _ from hp.2.1, show partN (ByteArray.mk (showC r g b).toArray).data.toList 5 = _ from hp.2.2]
  clear hp
  go_wp2_with fail
  refine (wakes06_any _).mono ?_
  rintro e w3 ⟨rfl, hb3⟩
  go_wp2_with fail
  refine (refShow_any _ _ _ _).mono ?_
  rintro e w4 ⟨rfl, hb4⟩
  go_wp2_with fail
  go_ret
  exact ⟨rfl, bs (bs (bs hb1 hb2) hb3) hb4⟩
theorem u8_of {z : Int} (h : (Lit.int .u8 z).wf = true) : ∃ c : UInt8, z = (c.toNat : Int) := by
  have hb : 0 ≤ z ∧ z ≤ 255 := by simpa [Lit.wf, IntKind.min, IntKind.max, IntKind.signed, IntKind.bits] using h
  refine ⟨UInt8.ofNat z.toNat, ?_⟩
  simp
  omega
theorem colourShows_walk (r g b : Int) (hr : (Lit.int .u8 r).wf = true) (hg : (Lit.int .u8 g).wf = true) (hb : (Lit.int .u8 b).wf = true) (w : World) (_hT : Tables w) :
    Calls Tryd.prog 7 #[.int .u8 r, .int .u8 g, .int .u8 b] w fun e w' => e = .returned (.bool true) ∧ Below w.heap.size w w' := by
  obtain ⟨r, rfl⟩ := u8_of hr
  obtain ⟨g, rfl⟩ := u8_of hg
  obtain ⟨b, rfl⟩ := u8_of hb
  exact colourShows_walk8 r g b w
end Go.Proofs.YtiflaniobnjlpaaDoor
