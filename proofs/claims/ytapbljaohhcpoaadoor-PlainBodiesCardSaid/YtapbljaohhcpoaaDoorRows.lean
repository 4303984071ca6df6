/-
  NARROWER THAN 'FOR EVERY INPUT', by the rows' own cells (each row's printed sentence says how): PartsClear: laid · PartsEncodes: laid · PlainBodies: laid · PartsDecodes: laid · PartsBack: laid · PartsExact: laid.
  DERIVED. THE GIVEN ROWS OF THIS SEAT. 6 by the template 'for every input the law returns true; each argument reads behind the call as it read before'; 0 by the template 'total and deterministic' (their statements: YtapbljaohhcpoaaDoorTotals.lean).
  GIVEN WITH THE SEED: the statements are not yours to turn. If you find one false, say at which input.
  Laid BY PROGRAM, IN A SANDBOX (cutbox-rows.mjs): the forced cells as the released guide's own fill.sh prints them over the translation 676f8cafcfd1bb6f… (all of the seat's roots in one cut). By AI agents, Wed Nov 11 2026. No macro, syntax, notation, axiom, sorry.
-/
import Derived.Test.YtapbljaohhcpoaaDoorChecked
import GoSem.PinnedTables
import GoSem.Claim
import GoSem.ClaimJoined
import GoSem.ClaimMapViews
import Derived.JoinedTies
import Derived.KernelRfl
namespace Go.Proofs.YtapbljaohhcpoaaDoor
/- THE CELL 'sum', in the pinned program and in every row, IS THE sha256 OF THE DUMP (.gsa) THAT YtapbljaohhcpoaaDoorProg.lean LOADS. Nothing in Lean hashes anything: it is a label: what it is worth is what the hold of that sum in a sandbox is worth. -/
noncomputable def Tryd.pinned : Pinned := { name := "ytapbljaohhcpoaadoor", sum := "676f8cafcfd1bb6f42dd77378b7a7adea2c092aab76c4e555691b11226c808dd", checked := Tryd.checked }
namespace Rows
def none {H : Type} : Left H := { results := [], args := [] }

/- WHAT THE LISTED PACKAGE-LEVEL VARIABLES READ AS WHEN THE CALL BEGINS. Each datum BY PROGRAM (the guide's laid-datum.mjs) off the statement by which the dump's own 'gosem.cut.vars' lays the variable. In a bare row this is a premise. The card (YtapbljaohhcpoaaDoorCards.lean) ties it to the program's text. -/
def laid_unicode_utf8_acceptRanges {H : Type} : DataW H := .agg [.agg [.lit (.int .u8 128), .lit (.int .u8 191)], .agg [.lit (.int .u8 160), .lit (.int .u8 191)], .agg [.lit (.int .u8 128), .lit (.int .u8 159)], .agg [.lit (.int .u8 144), .lit (.int .u8 191)], .agg [.lit (.int .u8 128), .lit (.int .u8 143)], .agg [.lit (.int .u8 0), .lit (.int .u8 0)], .agg [.lit (.int .u8 0), .lit (.int .u8 0)], .agg [.lit (.int .u8 0), .lit (.int .u8 0)], .agg [.lit (.int .u8 0), .lit (.int .u8 0)], .agg [.lit (.int .u8 0), .lit (.int .u8 0)], .agg [.lit (.int .u8 0), .lit (.int .u8 0)], .agg [.lit (.int .u8 0), .lit (.int .u8 0)], .agg [.lit (.int .u8 0), .lit (.int .u8 0)], .agg [.lit (.int .u8 0), .lit (.int .u8 0)], .agg [.lit (.int .u8 0), .lit (.int .u8 0)], .agg [.lit (.int .u8 0), .lit (.int .u8 0)]]
/-- One of Go's own tables, pinned by name: the form's constant. -/
def laid_unicode_utf8_first : DataW Unit := Go.Pinned.utf8First

/-- 'counterfoillaw20.PartsClear': WHATEVER THE INPUT: true; the input reads as it did. -/
def partsClearSpec : ChangeSpec := { name := "partsClear", fn := fun _ => fun
  | [d1, d2] => { results := [.lit (.bool true)], args := [d1, d2] }
  | _ => none }
def partsClearRow : OpenClaim := { program := "ytapbljaohhcpoaadoor", sum := "676f8cafcfd1bb6f42dd77378b7a7adea2c092aab76c4e555691b11226c808dd", func := "counterfoil/counterfoillaw20.PartsClear", spec := "partsClear", inPlace := ["internal/bytealg.CountString", "internal/bytealg.IndexByteString", "internal/bytealg.IndexString", "internal/abi.NoEscape", "internal/bytealg.MakeNoZero"], unfollowed := true, recurses := true, named := ["internal/bytealg.MaxLen", "unicode/utf8.first", "unicode/utf8.acceptRanges"], apart := false, laid := [("unicode/utf8.acceptRanges", laid_unicode_utf8_acceptRanges), ("unicode/utf8.first", laid_unicode_utf8_first)] }
def PartsClearSaid : Prop := partsClearRow.holds Tryd.pinned (OpenSpec.ofChange partsClearSpec)

/-- ITS FALSE NEIGHBOUR: 'it returns false'. Refute it at one input. -/
def partsClearWrong : ChangeSpec := { name := "partsClear", fn := fun _ => fun
  | [d1, d2] => { results := [.lit (.bool false)], args := [d1, d2] }
  | _ => none }
def PartsClearWrongFalsely : Prop := partsClearRow.holds Tryd.pinned (OpenSpec.ofChange partsClearWrong)

/-- 'counterfoillaw20.PartsEncodes': WHATEVER THE INPUT: true; the input reads as it did. -/
def partsEncodesSpec : ChangeSpec := { name := "partsEncodes", fn := fun _ => fun
  | [d1, d2] => { results := [.lit (.bool true)], args := [d1, d2] }
  | _ => none }
def partsEncodesRow : OpenClaim := { program := "ytapbljaohhcpoaadoor", sum := "676f8cafcfd1bb6f42dd77378b7a7adea2c092aab76c4e555691b11226c808dd", func := "counterfoil/counterfoillaw20.PartsEncodes", spec := "partsEncodes", inPlace := ["internal/bytealg.CountString", "internal/bytealg.IndexByteString", "internal/bytealg.IndexString", "internal/abi.NoEscape", "internal/bytealg.MakeNoZero"], unfollowed := true, recurses := true, named := ["internal/bytealg.MaxLen", "unicode/utf8.first", "unicode/utf8.acceptRanges"], apart := false, laid := [("unicode/utf8.acceptRanges", laid_unicode_utf8_acceptRanges), ("unicode/utf8.first", laid_unicode_utf8_first)] }
def PartsEncodesSaid : Prop := partsEncodesRow.holds Tryd.pinned (OpenSpec.ofChange partsEncodesSpec)

/-- ITS FALSE NEIGHBOUR: 'it returns false'. Refute it at one input. -/
def partsEncodesWrong : ChangeSpec := { name := "partsEncodes", fn := fun _ => fun
  | [d1, d2] => { results := [.lit (.bool false)], args := [d1, d2] }
  | _ => none }
def PartsEncodesWrongFalsely : Prop := partsEncodesRow.holds Tryd.pinned (OpenSpec.ofChange partsEncodesWrong)

/-- 'counterfoillaw21.PlainBodies': WHATEVER THE INPUT: true; the input reads as it did. -/
def plainBodiesSpec : ChangeSpec := { name := "plainBodies", fn := fun _ => fun
  | [d1, d2, d3] => { results := [.lit (.bool true)], args := [d1, d2, d3] }
  | _ => none }
def plainBodiesRow : OpenClaim := { program := "ytapbljaohhcpoaadoor", sum := "676f8cafcfd1bb6f42dd77378b7a7adea2c092aab76c4e555691b11226c808dd", func := "counterfoil/counterfoillaw21.PlainBodies", spec := "plainBodies", inPlace := ["internal/bytealg.CountString", "internal/bytealg.IndexByteString", "internal/bytealg.IndexString", "internal/abi.NoEscape", "internal/bytealg.MakeNoZero"], unfollowed := true, recurses := true, named := ["internal/bytealg.MaxLen", "unicode/utf8.first", "unicode/utf8.acceptRanges"], apart := false, laid := [("unicode/utf8.acceptRanges", laid_unicode_utf8_acceptRanges), ("unicode/utf8.first", laid_unicode_utf8_first)] }
def PlainBodiesSaid : Prop := plainBodiesRow.holds Tryd.pinned (OpenSpec.ofChange plainBodiesSpec)

/-- ITS FALSE NEIGHBOUR: 'it returns false'. Refute it at one input. -/
def plainBodiesWrong : ChangeSpec := { name := "plainBodies", fn := fun _ => fun
  | [d1, d2, d3] => { results := [.lit (.bool false)], args := [d1, d2, d3] }
  | _ => none }
def PlainBodiesWrongFalsely : Prop := plainBodiesRow.holds Tryd.pinned (OpenSpec.ofChange plainBodiesWrong)

/-- 'counterfoillaw20.PartsDecodes': WHATEVER THE INPUT: true; the input reads as it did. -/
def partsDecodesSpec : ChangeSpec := { name := "partsDecodes", fn := fun _ => fun
  | [d1, d2] => { results := [.lit (.bool true)], args := [d1, d2] }
  | _ => none }
def partsDecodesRow : OpenClaim := { program := "ytapbljaohhcpoaadoor", sum := "676f8cafcfd1bb6f42dd77378b7a7adea2c092aab76c4e555691b11226c808dd", func := "counterfoil/counterfoillaw20.PartsDecodes", spec := "partsDecodes", inPlace := ["internal/bytealg.CountString", "internal/bytealg.IndexByteString", "internal/bytealg.IndexString", "internal/abi.NoEscape", "internal/bytealg.MakeNoZero"], unfollowed := true, recurses := true, named := ["internal/bytealg.MaxLen", "unicode/utf8.first", "unicode/utf8.acceptRanges"], apart := false, laid := [("unicode/utf8.acceptRanges", laid_unicode_utf8_acceptRanges), ("unicode/utf8.first", laid_unicode_utf8_first)] }
def PartsDecodesSaid : Prop := partsDecodesRow.holds Tryd.pinned (OpenSpec.ofChange partsDecodesSpec)

/-- ITS FALSE NEIGHBOUR: 'it returns false'. Refute it at one input. -/
def partsDecodesWrong : ChangeSpec := { name := "partsDecodes", fn := fun _ => fun
  | [d1, d2] => { results := [.lit (.bool false)], args := [d1, d2] }
  | _ => none }
def PartsDecodesWrongFalsely : Prop := partsDecodesRow.holds Tryd.pinned (OpenSpec.ofChange partsDecodesWrong)

/-- 'counterfoillaw20.PartsBack': WHATEVER THE INPUT: true; the input reads as it did. -/
def partsBackSpec : ChangeSpec := { name := "partsBack", fn := fun _ => fun
  | [d1, d2] => { results := [.lit (.bool true)], args := [d1, d2] }
  | _ => none }
def partsBackRow : OpenClaim := { program := "ytapbljaohhcpoaadoor", sum := "676f8cafcfd1bb6f42dd77378b7a7adea2c092aab76c4e555691b11226c808dd", func := "counterfoil/counterfoillaw20.PartsBack", spec := "partsBack", inPlace := ["internal/bytealg.CountString", "internal/bytealg.IndexByteString", "internal/bytealg.IndexString", "internal/abi.NoEscape", "internal/bytealg.MakeNoZero"], unfollowed := true, recurses := true, named := ["internal/bytealg.MaxLen", "unicode/utf8.first", "unicode/utf8.acceptRanges"], apart := false, laid := [("unicode/utf8.acceptRanges", laid_unicode_utf8_acceptRanges), ("unicode/utf8.first", laid_unicode_utf8_first)] }
def PartsBackSaid : Prop := partsBackRow.holds Tryd.pinned (OpenSpec.ofChange partsBackSpec)

/-- ITS FALSE NEIGHBOUR: 'it returns false'. Refute it at one input. -/
def partsBackWrong : ChangeSpec := { name := "partsBack", fn := fun _ => fun
  | [d1, d2] => { results := [.lit (.bool false)], args := [d1, d2] }
  | _ => none }
def PartsBackWrongFalsely : Prop := partsBackRow.holds Tryd.pinned (OpenSpec.ofChange partsBackWrong)

/-- 'counterfoillaw20.PartsExact': WHATEVER THE INPUT: true; the input reads as it did. -/
def partsExactSpec : ChangeSpec := { name := "partsExact", fn := fun _ => fun
  | [d1, d2] => { results := [.lit (.bool true)], args := [d1, d2] }
  | _ => none }
def partsExactRow : OpenClaim := { program := "ytapbljaohhcpoaadoor", sum := "676f8cafcfd1bb6f42dd77378b7a7adea2c092aab76c4e555691b11226c808dd", func := "counterfoil/counterfoillaw20.PartsExact", spec := "partsExact", inPlace := ["internal/bytealg.CountString", "internal/bytealg.IndexByteString", "internal/bytealg.IndexString", "internal/abi.NoEscape", "internal/bytealg.MakeNoZero"], unfollowed := true, recurses := true, named := ["internal/bytealg.MaxLen", "unicode/utf8.first", "unicode/utf8.acceptRanges"], apart := false, laid := [("unicode/utf8.acceptRanges", laid_unicode_utf8_acceptRanges), ("unicode/utf8.first", laid_unicode_utf8_first)] }
def PartsExactSaid : Prop := partsExactRow.holds Tryd.pinned (OpenSpec.ofChange partsExactSpec)

/-- ITS FALSE NEIGHBOUR: 'it returns false'. Refute it at one input. -/
def partsExactWrong : ChangeSpec := { name := "partsExact", fn := fun _ => fun
  | [d1, d2] => { results := [.lit (.bool false)], args := [d1, d2] }
  | _ => none }
def PartsExactWrongFalsely : Prop := partsExactRow.holds Tryd.pinned (OpenSpec.ofChange partsExactWrong)

/- THE SECOND FORM. 'bulk': how many values and letters a reading holds, each counted each time it is reached (what is shared counts as often as it is met; a slice's spare places count too). A statement '..UptoSaid' is the law's where the arguments, and the package variables that the reading takes, are together of bulk at most 1048576: NARROWER than '..Said'. Prove '..Said' where nothing that the law and all that it calls make is longer than what came in: it says more and counts as full. Else prove '..UptoSaid'. A law counts once. -/
mutual
def uptoBulk {H : Type} : DataW H → Nat
  | .lit (.string bytes) => bytes.length + 1
  | .lit _ => 1
  | .nil => 1
  | .ptr d => uptoBulk d + 1
  | .slice elems spare => uptoBulkAll elems + uptoBulkAll spare + 1
  | .agg parts => uptoBulkAll parts + 1
  | .iface _ d => uptoBulk d + 1
  | .map entries => uptoBulkEntries entries + 1
  | .held _ => 1
def uptoBulkAll {H : Type} : List (DataW H) → Nat
  | [] => 0
  | d :: r => uptoBulk d + uptoBulkAll r
def uptoBulkEntries {H : Type} : List (Lit × DataW H) → Nat
  | [] => 0
  | x :: r => uptoBulkEntry x + uptoBulkEntries r
def uptoBulkEntry {H : Type} : Lit × DataW H → Nat
  | (.string bytes, d) => bytes.length + uptoBulk d + 1
  | (_, d) => uptoBulk d + 1
 end
def uptoSmall : (H : Type) → List (DataW H) → Bool := fun _ ds => decide (uptoBulkAll ds ≤ 1048576)
def OpenSpec.upto (s : _root_.Go.ChangeSpec) : _root_.Go.OpenSpec := { _root_.Go.OpenSpec.ofChange s with cond := some uptoSmall }

/-- 'counterfoillaw20.PartsClear', WHERE WHAT IT READS IS OF BULK AT MOST 1048576: true; the input reads as it did. -/
def partsClearUptoRow : OpenClaim := { program := "ytapbljaohhcpoaadoor", sum := "676f8cafcfd1bb6f42dd77378b7a7adea2c092aab76c4e555691b11226c808dd", func := "counterfoil/counterfoillaw20.PartsClear", spec := "partsClear", inPlace := ["internal/bytealg.CountString", "internal/bytealg.IndexByteString", "internal/bytealg.IndexString", "internal/abi.NoEscape", "internal/bytealg.MakeNoZero"], unfollowed := true, recurses := true, named := ["internal/bytealg.MaxLen", "unicode/utf8.first", "unicode/utf8.acceptRanges"], apart := false, laid := [("unicode/utf8.acceptRanges", laid_unicode_utf8_acceptRanges), ("unicode/utf8.first", laid_unicode_utf8_first)], narrowed := true }
def PartsClearUptoSaid : Prop := partsClearUptoRow.holds Tryd.pinned (OpenSpec.upto partsClearSpec)

/-- 'counterfoillaw20.PartsEncodes', WHERE WHAT IT READS IS OF BULK AT MOST 1048576: true; the input reads as it did. -/
def partsEncodesUptoRow : OpenClaim := { program := "ytapbljaohhcpoaadoor", sum := "676f8cafcfd1bb6f42dd77378b7a7adea2c092aab76c4e555691b11226c808dd", func := "counterfoil/counterfoillaw20.PartsEncodes", spec := "partsEncodes", inPlace := ["internal/bytealg.CountString", "internal/bytealg.IndexByteString", "internal/bytealg.IndexString", "internal/abi.NoEscape", "internal/bytealg.MakeNoZero"], unfollowed := true, recurses := true, named := ["internal/bytealg.MaxLen", "unicode/utf8.first", "unicode/utf8.acceptRanges"], apart := false, laid := [("unicode/utf8.acceptRanges", laid_unicode_utf8_acceptRanges), ("unicode/utf8.first", laid_unicode_utf8_first)], narrowed := true }
def PartsEncodesUptoSaid : Prop := partsEncodesUptoRow.holds Tryd.pinned (OpenSpec.upto partsEncodesSpec)

/-- 'counterfoillaw21.PlainBodies', WHERE WHAT IT READS IS OF BULK AT MOST 1048576: true; the input reads as it did. -/
def plainBodiesUptoRow : OpenClaim := { program := "ytapbljaohhcpoaadoor", sum := "676f8cafcfd1bb6f42dd77378b7a7adea2c092aab76c4e555691b11226c808dd", func := "counterfoil/counterfoillaw21.PlainBodies", spec := "plainBodies", inPlace := ["internal/bytealg.CountString", "internal/bytealg.IndexByteString", "internal/bytealg.IndexString", "internal/abi.NoEscape", "internal/bytealg.MakeNoZero"], unfollowed := true, recurses := true, named := ["internal/bytealg.MaxLen", "unicode/utf8.first", "unicode/utf8.acceptRanges"], apart := false, laid := [("unicode/utf8.acceptRanges", laid_unicode_utf8_acceptRanges), ("unicode/utf8.first", laid_unicode_utf8_first)], narrowed := true }
def PlainBodiesUptoSaid : Prop := plainBodiesUptoRow.holds Tryd.pinned (OpenSpec.upto plainBodiesSpec)

/-- 'counterfoillaw20.PartsDecodes', WHERE WHAT IT READS IS OF BULK AT MOST 1048576: true; the input reads as it did. -/
def partsDecodesUptoRow : OpenClaim := { program := "ytapbljaohhcpoaadoor", sum := "676f8cafcfd1bb6f42dd77378b7a7adea2c092aab76c4e555691b11226c808dd", func := "counterfoil/counterfoillaw20.PartsDecodes", spec := "partsDecodes", inPlace := ["internal/bytealg.CountString", "internal/bytealg.IndexByteString", "internal/bytealg.IndexString", "internal/abi.NoEscape", "internal/bytealg.MakeNoZero"], unfollowed := true, recurses := true, named := ["internal/bytealg.MaxLen", "unicode/utf8.first", "unicode/utf8.acceptRanges"], apart := false, laid := [("unicode/utf8.acceptRanges", laid_unicode_utf8_acceptRanges), ("unicode/utf8.first", laid_unicode_utf8_first)], narrowed := true }
def PartsDecodesUptoSaid : Prop := partsDecodesUptoRow.holds Tryd.pinned (OpenSpec.upto partsDecodesSpec)

/-- 'counterfoillaw20.PartsBack', WHERE WHAT IT READS IS OF BULK AT MOST 1048576: true; the input reads as it did. -/
def partsBackUptoRow : OpenClaim := { program := "ytapbljaohhcpoaadoor", sum := "676f8cafcfd1bb6f42dd77378b7a7adea2c092aab76c4e555691b11226c808dd", func := "counterfoil/counterfoillaw20.PartsBack", spec := "partsBack", inPlace := ["internal/bytealg.CountString", "internal/bytealg.IndexByteString", "internal/bytealg.IndexString", "internal/abi.NoEscape", "internal/bytealg.MakeNoZero"], unfollowed := true, recurses := true, named := ["internal/bytealg.MaxLen", "unicode/utf8.first", "unicode/utf8.acceptRanges"], apart := false, laid := [("unicode/utf8.acceptRanges", laid_unicode_utf8_acceptRanges), ("unicode/utf8.first", laid_unicode_utf8_first)], narrowed := true }
def PartsBackUptoSaid : Prop := partsBackUptoRow.holds Tryd.pinned (OpenSpec.upto partsBackSpec)

/-- 'counterfoillaw20.PartsExact', WHERE WHAT IT READS IS OF BULK AT MOST 1048576: true; the input reads as it did. -/
def partsExactUptoRow : OpenClaim := { program := "ytapbljaohhcpoaadoor", sum := "676f8cafcfd1bb6f42dd77378b7a7adea2c092aab76c4e555691b11226c808dd", func := "counterfoil/counterfoillaw20.PartsExact", spec := "partsExact", inPlace := ["internal/bytealg.CountString", "internal/bytealg.IndexByteString", "internal/bytealg.IndexString", "internal/abi.NoEscape", "internal/bytealg.MakeNoZero"], unfollowed := true, recurses := true, named := ["internal/bytealg.MaxLen", "unicode/utf8.first", "unicode/utf8.acceptRanges"], apart := false, laid := [("unicode/utf8.acceptRanges", laid_unicode_utf8_acceptRanges), ("unicode/utf8.first", laid_unicode_utf8_first)], narrowed := true }
def PartsExactUptoSaid : Prop := partsExactUptoRow.holds Tryd.pinned (OpenSpec.upto partsExactSpec)

end Rows
end Go.Proofs.YtapbljaohhcpoaaDoor
