/-
  The law EscapeSets: the walk.
-/
import Derived.Test.YtjhddigcdeakcaaRefEscapes
namespace Go.Proofs.Ytjhddigcdeakcaa
open Go.RowKit PT

set_option maxHeartbeats 1000000 in
theorem escapeSets_walk (z n : Int) (_hz : (Lit.int .i64 z).wf = true) (hn : (Lit.int .u8 n).wf = true) (w : World) :
    Calls Try.prog 4 #[.int .i64 z, .int .u8 n] w fun e w' => e = .returned (.bool true) ∧ Below w.heap.size w w' := by
  have hb : 0 ≤ n ∧ n ≤ 255 := by simpa [Lit.wf, IntKind.min, IntKind.max, IntKind.signed, IntKind.bits] using hn
  obtain ⟨c, rfl⟩ : ∃ c : UInt8, n = (c.toNat : Int) := ⟨UInt8.ofNat n.toNat, by simp; omega⟩
  clear hn hb
  go_enter Try.func4, Try.ntmps4
  go_wp2_with fail
  refine (escapes_any 0 0 _).mono ?_
  rintro e w' ⟨rfl, rfl⟩
  rw [show escB 0 0 = true from by decide]
  go_wp2_with fail
  refine (escapes_any 0 97 _).mono ?_
  rintro e w' ⟨rfl, rfl⟩
  rw [show escB 0 97 = false from by decide]
  go_wp2_with fail
  refine (escapes_any z c _).mono ?_
  rintro e w' ⟨rfl, rfl⟩
  go_wp2_with fail
  refine (refEscapes_any z c _).mono ?_
  rintro e w' ⟨rfl, rfl⟩
  go_wp2_with fail
  go_ret
  exact ⟨ret_bool (by simp), Below.refl _ _⟩
end Go.Proofs.Ytjhddigcdeakcaa
