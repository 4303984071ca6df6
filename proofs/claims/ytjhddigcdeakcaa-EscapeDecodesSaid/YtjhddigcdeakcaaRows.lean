/-
  No cell of these rows narrows 'for every input' (looked for: loops, veiled, ifaces, maps, wideKeys, modest, calm, conditions, laid).
  DERIVED. THE GIVEN ROWS OF THIS SEAT. 5 by the template 'for every input the law returns true; each argument reads behind the call as it read before'; 0 by the template 'total and deterministic' (their statements: YtjhddigcdeakcaaTotals.lean).
  GIVEN WITH THE SEED: the statements are not yours to turn. If you find one false, say at which input.
  Laid BY PROGRAM, IN A SANDBOX (cutbox-rows.mjs): the forced cells as the released guide's own fill.sh prints them over the translation 385e04c2dca74685… (all of the seat's roots in one cut). By AI agents, Wed Nov 11 2026. No macro, syntax, notation, axiom, sorry.
-/
import Derived.Test.YtjhddigcdeakcaaChecked
import GoSem.Claim
import GoSem.ClaimJoined
import GoSem.ClaimMapViews
import Derived.JoinedTies
import Derived.KernelRfl
namespace Go.Proofs.Ytjhddigcdeakcaa
/- THE CELL 'sum', in the pinned program and in every row, IS THE sha256 OF THE DUMP (.gsa) THAT YtjhddigcdeakcaaProg.lean LOADS. Nothing in Lean hashes anything: it is a label: what it is worth is what the hold of that sum in a sandbox is worth. -/
noncomputable def Try.pinned : Pinned := { name := "ytjhddigcdeakcaa", sum := "385e04c2dca746853f0f2ec3e3505110545b06085ebc48c176bfe57b9d33e23b", checked := Try.checked }
namespace Rows
def none {H : Type} : Left H := { results := [], args := [] }

/-- 'counterfoillaw01.TextLower': WHATEVER THE INPUT: true; the input reads as it did. -/
def textLowerSpec : ChangeSpec := { name := "textLower", fn := fun _ => fun
  | [d1, d2] => { results := [.lit (.bool true)], args := [d1, d2] }
  | _ => none }
def textLowerRow : OpenClaim := { program := "ytjhddigcdeakcaa", sum := "385e04c2dca746853f0f2ec3e3505110545b06085ebc48c176bfe57b9d33e23b", func := "counterfoil/counterfoillaw01.TextLower", spec := "textLower", apart := false }
def TextLowerSaid : Prop := textLowerRow.holds Try.pinned (OpenSpec.ofChange textLowerSpec)

/-- ITS FALSE NEIGHBOUR: 'it returns false'. Refute it at one input. -/
def textLowerWrong : ChangeSpec := { name := "textLower", fn := fun _ => fun
  | [d1, d2] => { results := [.lit (.bool false)], args := [d1, d2] }
  | _ => none }
def TextLowerWrongFalsely : Prop := textLowerRow.holds Try.pinned (OpenSpec.ofChange textLowerWrong)

/-- 'counterfoillaw02.EscapeSets': WHATEVER THE INPUT: true; the input reads as it did. -/
def escapeSetsSpec : ChangeSpec := { name := "escapeSets", fn := fun _ => fun
  | [d1, d2] => { results := [.lit (.bool true)], args := [d1, d2] }
  | _ => none }
def escapeSetsRow : OpenClaim := { program := "ytjhddigcdeakcaa", sum := "385e04c2dca746853f0f2ec3e3505110545b06085ebc48c176bfe57b9d33e23b", func := "counterfoil/counterfoillaw02.EscapeSets", spec := "escapeSets", inPlace := ["internal/bytealg.IndexByteString"], apart := false }
def EscapeSetsSaid : Prop := escapeSetsRow.holds Try.pinned (OpenSpec.ofChange escapeSetsSpec)

/-- ITS FALSE NEIGHBOUR: 'it returns false'. Refute it at one input. -/
def escapeSetsWrong : ChangeSpec := { name := "escapeSets", fn := fun _ => fun
  | [d1, d2] => { results := [.lit (.bool false)], args := [d1, d2] }
  | _ => none }
def EscapeSetsWrongFalsely : Prop := escapeSetsRow.holds Try.pinned (OpenSpec.ofChange escapeSetsWrong)

/-- 'counterfoillaw02.EscapeDecodes': WHATEVER THE INPUT: true; the input reads as it did. -/
def escapeDecodesSpec : ChangeSpec := { name := "escapeDecodes", fn := fun _ => fun
  | [d] => { results := [.lit (.bool true)], args := [d] }
  | _ => none }
def escapeDecodesRow : OpenClaim := { program := "ytjhddigcdeakcaa", sum := "385e04c2dca746853f0f2ec3e3505110545b06085ebc48c176bfe57b9d33e23b", func := "counterfoil/counterfoillaw02.EscapeDecodes", spec := "escapeDecodes", inPlace := ["internal/abi.NoEscape"], apart := false }
def EscapeDecodesSaid : Prop := escapeDecodesRow.holds Try.pinned (OpenSpec.ofChange escapeDecodesSpec)

/-- ITS FALSE NEIGHBOUR: 'it returns false'. Refute it at one input. -/
def escapeDecodesWrong : ChangeSpec := { name := "escapeDecodes", fn := fun _ => fun
  | [d] => { results := [.lit (.bool false)], args := [d] }
  | _ => none }
def EscapeDecodesWrongFalsely : Prop := escapeDecodesRow.holds Try.pinned (OpenSpec.ofChange escapeDecodesWrong)

/-- 'counterfoillaw02.EscapeEncodes': WHATEVER THE INPUT: true; the input reads as it did. -/
def escapeEncodesSpec : ChangeSpec := { name := "escapeEncodes", fn := fun _ => fun
  | [d1, d2] => { results := [.lit (.bool true)], args := [d1, d2] }
  | _ => none }
def escapeEncodesRow : OpenClaim := { program := "ytjhddigcdeakcaa", sum := "385e04c2dca746853f0f2ec3e3505110545b06085ebc48c176bfe57b9d33e23b", func := "counterfoil/counterfoillaw02.EscapeEncodes", spec := "escapeEncodes", inPlace := ["internal/bytealg.IndexByteString", "internal/abi.NoEscape"], apart := false }
def EscapeEncodesSaid : Prop := escapeEncodesRow.holds Try.pinned (OpenSpec.ofChange escapeEncodesSpec)

/-- ITS FALSE NEIGHBOUR: 'it returns false'. Refute it at one input. -/
def escapeEncodesWrong : ChangeSpec := { name := "escapeEncodes", fn := fun _ => fun
  | [d1, d2] => { results := [.lit (.bool false)], args := [d1, d2] }
  | _ => none }
def EscapeEncodesWrongFalsely : Prop := escapeEncodesRow.holds Try.pinned (OpenSpec.ofChange escapeEncodesWrong)

/-- 'counterfoillaw02.EscapeBack': WHATEVER THE INPUT: true; the input reads as it did. -/
def escapeBackSpec : ChangeSpec := { name := "escapeBack", fn := fun _ => fun
  | [d1, d2] => { results := [.lit (.bool true)], args := [d1, d2] }
  | _ => none }
def escapeBackRow : OpenClaim := { program := "ytjhddigcdeakcaa", sum := "385e04c2dca746853f0f2ec3e3505110545b06085ebc48c176bfe57b9d33e23b", func := "counterfoil/counterfoillaw02.EscapeBack", spec := "escapeBack", inPlace := ["internal/abi.NoEscape", "internal/bytealg.IndexByteString"], apart := false }
def EscapeBackSaid : Prop := escapeBackRow.holds Try.pinned (OpenSpec.ofChange escapeBackSpec)

/-- ITS FALSE NEIGHBOUR: 'it returns false'. Refute it at one input. -/
def escapeBackWrong : ChangeSpec := { name := "escapeBack", fn := fun _ => fun
  | [d1, d2] => { results := [.lit (.bool false)], args := [d1, d2] }
  | _ => none }
def EscapeBackWrongFalsely : Prop := escapeBackRow.holds Try.pinned (OpenSpec.ofChange escapeBackWrong)

/- THE SECOND FORM. 'bulk': how many values and letters a reading holds, each counted each time it is reached (what is shared counts as often as it is met; a slice's spare places count too). A statement '..UptoSaid' is the law's where the arguments, and the package variables that the reading takes, are together of bulk at most 1048576: NARROWER than '..Said'. Prove '..Said' where nothing that the law and all that it calls make is longer than what came in: it says more and counts as full. Else prove '..UptoSaid'. A law counts once. -/
mutual
def uptoBulk {H : Type} : DataW H → Nat
  | .lit (.string bytes) => bytes.length + 1
  | .lit _ => 1
  | .nil => 1
  | .ptr d => uptoBulk d + 1
  | .slice elems spare => uptoBulkAll elems + uptoBulkAll spare + 1
  | .agg parts => uptoBulkAll parts + 1
  | .iface _ d => uptoBulk d + 1
  | .map entries => uptoBulkEntries entries + 1
  | .held _ => 1
def uptoBulkAll {H : Type} : List (DataW H) → Nat
  | [] => 0
  | d :: r => uptoBulk d + uptoBulkAll r
def uptoBulkEntries {H : Type} : List (Lit × DataW H) → Nat
  | [] => 0
  | x :: r => uptoBulkEntry x + uptoBulkEntries r
def uptoBulkEntry {H : Type} : Lit × DataW H → Nat
  | (.string bytes, d) => bytes.length + uptoBulk d + 1
  | (_, d) => uptoBulk d + 1
 end
def uptoSmall : (H : Type) → List (DataW H) → Bool := fun _ ds => decide (uptoBulkAll ds ≤ 1048576)
def OpenSpec.upto (s : _root_.Go.ChangeSpec) : _root_.Go.OpenSpec := { _root_.Go.OpenSpec.ofChange s with cond := some uptoSmall }

/-- 'counterfoillaw01.TextLower', WHERE WHAT IT READS IS OF BULK AT MOST 1048576: true; the input reads as it did. -/
def textLowerUptoRow : OpenClaim := { program := "ytjhddigcdeakcaa", sum := "385e04c2dca746853f0f2ec3e3505110545b06085ebc48c176bfe57b9d33e23b", func := "counterfoil/counterfoillaw01.TextLower", spec := "textLower", apart := false, narrowed := true }
def TextLowerUptoSaid : Prop := textLowerUptoRow.holds Try.pinned (OpenSpec.upto textLowerSpec)

/-- 'counterfoillaw02.EscapeSets', WHERE WHAT IT READS IS OF BULK AT MOST 1048576: true; the input reads as it did. -/
def escapeSetsUptoRow : OpenClaim := { program := "ytjhddigcdeakcaa", sum := "385e04c2dca746853f0f2ec3e3505110545b06085ebc48c176bfe57b9d33e23b", func := "counterfoil/counterfoillaw02.EscapeSets", spec := "escapeSets", inPlace := ["internal/bytealg.IndexByteString"], apart := false, narrowed := true }
def EscapeSetsUptoSaid : Prop := escapeSetsUptoRow.holds Try.pinned (OpenSpec.upto escapeSetsSpec)

/-- 'counterfoillaw02.EscapeDecodes', WHERE WHAT IT READS IS OF BULK AT MOST 1048576: true; the input reads as it did. -/
def escapeDecodesUptoRow : OpenClaim := { program := "ytjhddigcdeakcaa", sum := "385e04c2dca746853f0f2ec3e3505110545b06085ebc48c176bfe57b9d33e23b", func := "counterfoil/counterfoillaw02.EscapeDecodes", spec := "escapeDecodes", inPlace := ["internal/abi.NoEscape"], apart := false, narrowed := true }
def EscapeDecodesUptoSaid : Prop := escapeDecodesUptoRow.holds Try.pinned (OpenSpec.upto escapeDecodesSpec)

/-- 'counterfoillaw02.EscapeEncodes', WHERE WHAT IT READS IS OF BULK AT MOST 1048576: true; the input reads as it did. -/
def escapeEncodesUptoRow : OpenClaim := { program := "ytjhddigcdeakcaa", sum := "385e04c2dca746853f0f2ec3e3505110545b06085ebc48c176bfe57b9d33e23b", func := "counterfoil/counterfoillaw02.EscapeEncodes", spec := "escapeEncodes", inPlace := ["internal/bytealg.IndexByteString", "internal/abi.NoEscape"], apart := false, narrowed := true }
def EscapeEncodesUptoSaid : Prop := escapeEncodesUptoRow.holds Try.pinned (OpenSpec.upto escapeEncodesSpec)

/-- 'counterfoillaw02.EscapeBack', WHERE WHAT IT READS IS OF BULK AT MOST 1048576: true; the input reads as it did. -/
def escapeBackUptoRow : OpenClaim := { program := "ytjhddigcdeakcaa", sum := "385e04c2dca746853f0f2ec3e3505110545b06085ebc48c176bfe57b9d33e23b", func := "counterfoil/counterfoillaw02.EscapeBack", spec := "escapeBack", inPlace := ["internal/abi.NoEscape", "internal/bytealg.IndexByteString"], apart := false, narrowed := true }
def EscapeBackUptoSaid : Prop := escapeBackUptoRow.holds Try.pinned (OpenSpec.upto escapeBackSpec)

end Rows
end Go.Proofs.Ytjhddigcdeakcaa
