/-
  strings.IndexByte: found, or not.
-/
import Derived.Test.YtapbljaohhcpoaaDoorBytes
import Derived.Test.YtapbljaohhcpoaaDoorShelf
import Derived.Test.YtapbljaohhcpoaaDoorPlainText
namespace Go.Proofs.YtapbljaohhcpoaaDoor
set_option linter.unusedVariables false
set_option linter.unusedSimpArgs false
open Go.RowKit PT

theorem ib_no (s : ByteArray) (c : UInt8) (w : World) (h : c ∉ s.data.toList) :
    Calls Tryd.prog 102 #[.string s, .int .u8 c.toNat] w fun e w' => e = .returned (.int .i64 (-1)) ∧ w = w' :=
  (Tryd.strings_IndexByte s c.toNat w).mono fun e w' ⟨he, hw⟩ => ⟨by rw [he, show ((c.toNat : Int).toNat).toUInt8 = c by simp, indexByte_no h], hw.symm⟩
def SomeNat (n : Nat) (w : World) (e : Ending) (w' : World) : Prop := ∃ z : Nat, z < n ∧ e = .returned (.int .i64 z) ∧ w = w'
theorem ib_yes (s : ByteArray) (c : UInt8) (w : World) (h : c ∈ s.data.toList) :
    Calls Tryd.prog 102 #[.string s, .int .u8 c.toNat] w (SomeNat s.size w) :=
  (Tryd.strings_IndexByte s c.toNat w).mono fun e w' ⟨he, hw⟩ => by
    obtain ⟨z, hz, hl⟩ := indexByte_yes h
    exact ⟨z, by simpa using hl, by rw [he, show ((c.toNat : Int).toNat).toUInt8 = c by simp, hz], hw.symm⟩

end Go.Proofs.YtapbljaohhcpoaaDoor
