/-
  Go's two tables of UTF-8, as the rows list them: what a walk reads of them, how they are carried, and a world for the witness.
-/
import Derived.Test.YtapbljaohhcpoaaDoorRows
import Derived.Test.YtapbljaohhcpoaaDoorCards
import Derived.Test.YtapbljaohhcpoaaDoorTie
import Derived.PinnedBridge
import Derived.Lib.LaidU8T
import Derived.Lib.LaidIn
import Derived.Deep.DeepHandedRow
import Derived.Deep.DeepWitnessRowRef
import Derived.WalkKit
namespace Go.Proofs.YtapbljaohhcpoaaDoor
open Go.Shelf Go.RowKit

def u8ren : Ren := ⟨fun n => n, fun | 5 => 5 | 119 => 111 | 138 => 113 | 139 => 114 | n => n, fun | 3 => 1 | 4 => 2 | n => n⟩
theorem u8types : U8Types Tryd.prog u8ren := ⟨Tryd.underlying5, Tryd.underlying111, Tryd.underlying113, Tryd.underlying114⟩
theorem u8extra : U8Extra Tryd.prog u8ren := ⟨by kernel_rfl, by kernel_rfl, by kernel_rfl, by kernel_rfl, by kernel_rfl, by kernel_rfl, by kernel_rfl⟩

/-- the two tables stand in the world; the package variables have their shapes -/
structure Tables (w : World) : Prop where
  utf : Lib.Utf8Tabs 1 2 w
  shape : w.ShapedOpen Tryd.prog

theorem Tables.kept {w w' : World} (h : Tables w) (hb : Below w.heap.size w w') : Tables w' :=
  ⟨Utf8Tabs_below h.utf hb, h.shape.keptBut (hb.frame (fun _ => False)) (fun _ f => f.elim)⟩

def laidList : List (String × DataW Unit) := [("unicode/utf8.acceptRanges", Rows.laid_unicode_utf8_acceptRanges), ("unicode/utf8.first", Rows.laid_unicode_utf8_first)]
theorem accept_eq : Rows.laid_unicode_utf8_acceptRanges = Lib.acceptData := by kernel_rfl
theorem first_eq : Rows.laid_unicode_utf8_first = Lib.firstData := Pinned.utf8First_eq

theorem tables_of {W : World} (hL : laidMetH Tryd.prog laidList W) (hS : W.ShapedOpen Tryd.prog) : Tables W := by
  refine ⟨utf8Tabs_of_readsT u8types u8extra ?_ ?_, hS⟩
  · have h := Lib.laidMet.reads hL (n := "unicode/utf8.first") (d := Rows.laid_unicode_utf8_first) (.tail _ (.head _))
    rw [first_eq] at h
    exact h
  · have h := Lib.laidMet.reads hL (n := "unicode/utf8.acceptRanges") (d := Rows.laid_unicode_utf8_acceptRanges) (.head _)
    rw [accept_eq] at h
    exact h

/-- THE WITNESS's WORLD -/
noncomputable def laidWorld (os : Os) : World :=
  let w0 := World.holding Tryd.prog os ⟨#[], #[], []⟩
  let put (h : Array Obj) (g : Nat) (cs : Array Value) : Array Obj := h.modify g fun
    | .cells _ t frozen => .cells cs t frozen
    | o => o
  let h1 := put w0.heap 1 (Lib.firstTab.map fun z => Value.int .u8 z).toArray
  let h2 := put h1 2 ((List.range 16).flatMap fun i => [Value.int .u8 (Lib.accLo i), Value.int .u8 (Lib.accHi i)]).toArray
  { w0 with heap := h2 }
theorem laid_met (os : Os) (args : Array Value) : laidMet Tryd.prog laidList ((laidWorld os).forCall (fun _ _ => 0) ⟨#[], args, []⟩).memory := by
  have h : laidMet Tryd.prog [("unicode/utf8.acceptRanges", Lib.acceptData), ("unicode/utf8.first", Lib.firstData)] ((laidWorld os).forCall (fun _ _ => 0) ⟨#[], args, []⟩).memory :=
    (LaidIn.of_run (l := [("unicode/utf8.acceptRanges", Lib.acceptData), ("unicode/utf8.first", Lib.firstData)]) [1, 2] 8 (by kernel_rfl) (by kernel_rfl) (by kernel_rfl) (by kernel_rfl)).met
  unfold laidList
  rw [accept_eq, first_eq]
  exact h
end Go.Proofs.YtapbljaohhcpoaaDoor
