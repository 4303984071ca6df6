/-
  NARROWER THAN 'FOR EVERY INPUT', by the rows' own cells (each row's printed sentence says how): MailAddress: laid · MailParts: laid · ColourCleans: laid · ColourParts: laid · ColourShows: laid · MailLists: laid · MailCleans: laid.
  DERIVED. THE GIVEN ROWS OF THIS SEAT. 7 by the template 'for every input the law returns true; each argument reads behind the call as it read before'; 0 by the template 'total and deterministic' (their statements: YtiflaniobnjlpaaDoorTotals.lean).
  GIVEN WITH THE SEED: the statements are not yours to turn. If you find one false, say at which input.
  Laid BY PROGRAM, IN A SANDBOX (cutbox-rows.mjs): the forced cells as the released guide's own fill.sh prints them over the translation 392db72109efb187… (all of the seat's roots in one cut). By AI agents, Wed Nov 11 2026. No macro, syntax, notation, axiom, sorry.
-/
import Derived.Test.YtiflaniobnjlpaaDoorChecked
import GoSem.PinnedTables
import GoSem.Claim
import GoSem.ClaimJoined
import GoSem.ClaimMapViews
import Derived.JoinedTies
import Derived.KernelRfl
namespace Go.Proofs.YtiflaniobnjlpaaDoor
/- THE CELL 'sum', in the pinned program and in every row, IS THE sha256 OF THE DUMP (.gsa) THAT YtiflaniobnjlpaaDoorProg.lean LOADS. Nothing in Lean hashes anything: it is a label: what it is worth is what the hold of that sum in a sandbox is worth. -/
noncomputable def Tryd.pinned : Pinned := { name := "ytiflaniobnjlpaadoor", sum := "392db72109efb18748d5fa06b6bda582c3d02d75e9b6a249621c352a42522877", checked := Tryd.checked }
namespace Rows
def none {H : Type} : Left H := { results := [], args := [] }

/- WHAT THE LISTED PACKAGE-LEVEL VARIABLES READ AS WHEN THE CALL BEGINS. Each datum BY PROGRAM (the guide's laid-datum.mjs) off the statement by which the dump's own 'gosem.cut.vars' lays the variable. In a bare row this is a premise. The card (YtiflaniobnjlpaaDoorCards.lean) ties it to the program's text. -/
def laid_unicode_utf8_acceptRanges {H : Type} : DataW H := .agg [.agg [.lit (.int .u8 128), .lit (.int .u8 191)], .agg [.lit (.int .u8 160), .lit (.int .u8 191)], .agg [.lit (.int .u8 128), .lit (.int .u8 159)], .agg [.lit (.int .u8 144), .lit (.int .u8 191)], .agg [.lit (.int .u8 128), .lit (.int .u8 143)], .agg [.lit (.int .u8 0), .lit (.int .u8 0)], .agg [.lit (.int .u8 0), .lit (.int .u8 0)], .agg [.lit (.int .u8 0), .lit (.int .u8 0)], .agg [.lit (.int .u8 0), .lit (.int .u8 0)], .agg [.lit (.int .u8 0), .lit (.int .u8 0)], .agg [.lit (.int .u8 0), .lit (.int .u8 0)], .agg [.lit (.int .u8 0), .lit (.int .u8 0)], .agg [.lit (.int .u8 0), .lit (.int .u8 0)], .agg [.lit (.int .u8 0), .lit (.int .u8 0)], .agg [.lit (.int .u8 0), .lit (.int .u8 0)], .agg [.lit (.int .u8 0), .lit (.int .u8 0)]]
/-- One of Go's own tables, pinned by name: the form's constant. -/
def laid_unicode_utf8_first : DataW Unit := Go.Pinned.utf8First

/-- 'counterfoillaw07.MailAddress': WHATEVER THE INPUT: true; the input reads as it did. -/
def mailAddressSpec : ChangeSpec := { name := "mailAddress", fn := fun _ => fun
  | [d] => { results := [.lit (.bool true)], args := [d] }
  | _ => none }
def mailAddressRow : OpenClaim := { program := "ytiflaniobnjlpaadoor", sum := "392db72109efb18748d5fa06b6bda582c3d02d75e9b6a249621c352a42522877", func := "counterfoil/counterfoillaw07.MailAddress", spec := "mailAddress", inPlace := ["internal/bytealg.IndexByteString", "internal/bytealg.IndexString", "internal/bytealg.CountString"], named := ["internal/bytealg.MaxLen", "unicode/utf8.first", "unicode/utf8.acceptRanges"], apart := false, laid := [("unicode/utf8.acceptRanges", laid_unicode_utf8_acceptRanges), ("unicode/utf8.first", laid_unicode_utf8_first)] }
def MailAddressSaid : Prop := mailAddressRow.holds Tryd.pinned (OpenSpec.ofChange mailAddressSpec)

/-- ITS FALSE NEIGHBOUR: 'it returns false'. Refute it at one input. -/
def mailAddressWrong : ChangeSpec := { name := "mailAddress", fn := fun _ => fun
  | [d] => { results := [.lit (.bool false)], args := [d] }
  | _ => none }
def MailAddressWrongFalsely : Prop := mailAddressRow.holds Tryd.pinned (OpenSpec.ofChange mailAddressWrong)

/-- 'counterfoillaw07.MailParts': WHATEVER THE INPUT: true; the input reads as it did. -/
def mailPartsSpec : ChangeSpec := { name := "mailParts", fn := fun _ => fun
  | [d1, d2] => { results := [.lit (.bool true)], args := [d1, d2] }
  | _ => none }
def mailPartsRow : OpenClaim := { program := "ytiflaniobnjlpaadoor", sum := "392db72109efb18748d5fa06b6bda582c3d02d75e9b6a249621c352a42522877", func := "counterfoil/counterfoillaw07.MailParts", spec := "mailParts", inPlace := ["internal/bytealg.IndexByteString", "internal/bytealg.IndexString", "internal/bytealg.CountString"], named := ["internal/bytealg.MaxLen", "unicode/utf8.first", "unicode/utf8.acceptRanges"], apart := false, laid := [("unicode/utf8.acceptRanges", laid_unicode_utf8_acceptRanges), ("unicode/utf8.first", laid_unicode_utf8_first)] }
def MailPartsSaid : Prop := mailPartsRow.holds Tryd.pinned (OpenSpec.ofChange mailPartsSpec)

/-- ITS FALSE NEIGHBOUR: 'it returns false'. Refute it at one input. -/
def mailPartsWrong : ChangeSpec := { name := "mailParts", fn := fun _ => fun
  | [d1, d2] => { results := [.lit (.bool false)], args := [d1, d2] }
  | _ => none }
def MailPartsWrongFalsely : Prop := mailPartsRow.holds Tryd.pinned (OpenSpec.ofChange mailPartsWrong)

/-- 'counterfoillaw06.ColourCleans': WHATEVER THE INPUT: true; the input reads as it did. -/
def colourCleansSpec : ChangeSpec := { name := "colourCleans", fn := fun _ => fun
  | [d] => { results := [.lit (.bool true)], args := [d] }
  | _ => none }
def colourCleansRow : OpenClaim := { program := "ytiflaniobnjlpaadoor", sum := "392db72109efb18748d5fa06b6bda582c3d02d75e9b6a249621c352a42522877", func := "counterfoil/counterfoillaw06.ColourCleans", spec := "colourCleans", inPlace := ["internal/bytealg.IndexByteString", "internal/bytealg.IndexString"], named := ["unicode/utf8.first", "unicode/utf8.acceptRanges", "internal/bytealg.MaxLen"], apart := false, laid := [("unicode/utf8.acceptRanges", laid_unicode_utf8_acceptRanges), ("unicode/utf8.first", laid_unicode_utf8_first)] }
def ColourCleansSaid : Prop := colourCleansRow.holds Tryd.pinned (OpenSpec.ofChange colourCleansSpec)

/-- ITS FALSE NEIGHBOUR: 'it returns false'. Refute it at one input. -/
def colourCleansWrong : ChangeSpec := { name := "colourCleans", fn := fun _ => fun
  | [d] => { results := [.lit (.bool false)], args := [d] }
  | _ => none }
def ColourCleansWrongFalsely : Prop := colourCleansRow.holds Tryd.pinned (OpenSpec.ofChange colourCleansWrong)

/-- 'counterfoillaw06.ColourParts': WHATEVER THE INPUT: true; the input reads as it did. -/
def colourPartsSpec : ChangeSpec := { name := "colourParts", fn := fun _ => fun
  | [d] => { results := [.lit (.bool true)], args := [d] }
  | _ => none }
def colourPartsRow : OpenClaim := { program := "ytiflaniobnjlpaadoor", sum := "392db72109efb18748d5fa06b6bda582c3d02d75e9b6a249621c352a42522877", func := "counterfoil/counterfoillaw06.ColourParts", spec := "colourParts", inPlace := ["internal/bytealg.IndexByteString", "internal/bytealg.IndexString"], named := ["unicode/utf8.first", "unicode/utf8.acceptRanges", "internal/bytealg.MaxLen"], apart := false, laid := [("unicode/utf8.acceptRanges", laid_unicode_utf8_acceptRanges), ("unicode/utf8.first", laid_unicode_utf8_first)] }
def ColourPartsSaid : Prop := colourPartsRow.holds Tryd.pinned (OpenSpec.ofChange colourPartsSpec)

/-- ITS FALSE NEIGHBOUR: 'it returns false'. Refute it at one input. -/
def colourPartsWrong : ChangeSpec := { name := "colourParts", fn := fun _ => fun
  | [d] => { results := [.lit (.bool false)], args := [d] }
  | _ => none }
def ColourPartsWrongFalsely : Prop := colourPartsRow.holds Tryd.pinned (OpenSpec.ofChange colourPartsWrong)

/-- 'counterfoillaw06.ColourShows': WHATEVER THE INPUT: true; the input reads as it did. -/
def colourShowsSpec : ChangeSpec := { name := "colourShows", fn := fun _ => fun
  | [d1, d2, d3] => { results := [.lit (.bool true)], args := [d1, d2, d3] }
  | _ => none }
def colourShowsRow : OpenClaim := { program := "ytiflaniobnjlpaadoor", sum := "392db72109efb18748d5fa06b6bda582c3d02d75e9b6a249621c352a42522877", func := "counterfoil/counterfoillaw06.ColourShows", spec := "colourShows", inPlace := ["internal/bytealg.IndexByteString", "internal/bytealg.IndexString"], named := ["unicode/utf8.first", "unicode/utf8.acceptRanges", "internal/bytealg.MaxLen"], apart := false, laid := [("unicode/utf8.acceptRanges", laid_unicode_utf8_acceptRanges), ("unicode/utf8.first", laid_unicode_utf8_first)] }
def ColourShowsSaid : Prop := colourShowsRow.holds Tryd.pinned (OpenSpec.ofChange colourShowsSpec)

/-- ITS FALSE NEIGHBOUR: 'it returns false'. Refute it at one input. -/
def colourShowsWrong : ChangeSpec := { name := "colourShows", fn := fun _ => fun
  | [d1, d2, d3] => { results := [.lit (.bool false)], args := [d1, d2, d3] }
  | _ => none }
def ColourShowsWrongFalsely : Prop := colourShowsRow.holds Tryd.pinned (OpenSpec.ofChange colourShowsWrong)

/-- 'counterfoillaw07.MailLists': WHATEVER THE INPUT: true; the input reads as it did. -/
def mailListsSpec : ChangeSpec := { name := "mailLists", fn := fun _ => fun
  | [d] => { results := [.lit (.bool true)], args := [d] }
  | _ => none }
def mailListsRow : OpenClaim := { program := "ytiflaniobnjlpaadoor", sum := "392db72109efb18748d5fa06b6bda582c3d02d75e9b6a249621c352a42522877", func := "counterfoil/counterfoillaw07.MailLists", spec := "mailLists", inPlace := ["internal/bytealg.CountString", "internal/bytealg.IndexByteString", "internal/bytealg.IndexString"], named := ["unicode/utf8.first", "unicode/utf8.acceptRanges", "internal/bytealg.MaxLen"], apart := false, laid := [("unicode/utf8.acceptRanges", laid_unicode_utf8_acceptRanges), ("unicode/utf8.first", laid_unicode_utf8_first)] }
def MailListsSaid : Prop := mailListsRow.holds Tryd.pinned (OpenSpec.ofChange mailListsSpec)

/-- ITS FALSE NEIGHBOUR: 'it returns false'. Refute it at one input. -/
def mailListsWrong : ChangeSpec := { name := "mailLists", fn := fun _ => fun
  | [d] => { results := [.lit (.bool false)], args := [d] }
  | _ => none }
def MailListsWrongFalsely : Prop := mailListsRow.holds Tryd.pinned (OpenSpec.ofChange mailListsWrong)

/-- 'counterfoillaw07.MailCleans': WHATEVER THE INPUT: true; the input reads as it did. -/
def mailCleansSpec : ChangeSpec := { name := "mailCleans", fn := fun _ => fun
  | [d] => { results := [.lit (.bool true)], args := [d] }
  | _ => none }
def mailCleansRow : OpenClaim := { program := "ytiflaniobnjlpaadoor", sum := "392db72109efb18748d5fa06b6bda582c3d02d75e9b6a249621c352a42522877", func := "counterfoil/counterfoillaw07.MailCleans", spec := "mailCleans", inPlace := ["internal/bytealg.CountString", "internal/bytealg.IndexByteString", "internal/bytealg.IndexString", "internal/abi.NoEscape", "internal/bytealg.MakeNoZero"], named := ["unicode/utf8.first", "unicode/utf8.acceptRanges", "internal/bytealg.MaxLen"], apart := false, laid := [("unicode/utf8.acceptRanges", laid_unicode_utf8_acceptRanges), ("unicode/utf8.first", laid_unicode_utf8_first)] }
def MailCleansSaid : Prop := mailCleansRow.holds Tryd.pinned (OpenSpec.ofChange mailCleansSpec)

/-- ITS FALSE NEIGHBOUR: 'it returns false'. Refute it at one input. -/
def mailCleansWrong : ChangeSpec := { name := "mailCleans", fn := fun _ => fun
  | [d] => { results := [.lit (.bool false)], args := [d] }
  | _ => none }
def MailCleansWrongFalsely : Prop := mailCleansRow.holds Tryd.pinned (OpenSpec.ofChange mailCleansWrong)

/- THE SECOND FORM. 'bulk': how many values and letters a reading holds, each counted each time it is reached (what is shared counts as often as it is met; a slice's spare places count too). A statement '..UptoSaid' is the law's where the arguments, and the package variables that the reading takes, are together of bulk at most 1048576: NARROWER than '..Said'. Prove '..Said' where nothing that the law and all that it calls make is longer than what came in: it says more and counts as full. Else prove '..UptoSaid'. A law counts once. -/
mutual
def uptoBulk {H : Type} : DataW H → Nat
  | .lit (.string bytes) => bytes.length + 1
  | .lit _ => 1
  | .nil => 1
  | .ptr d => uptoBulk d + 1
  | .slice elems spare => uptoBulkAll elems + uptoBulkAll spare + 1
  | .agg parts => uptoBulkAll parts + 1
  | .iface _ d => uptoBulk d + 1
  | .map entries => uptoBulkEntries entries + 1
  | .held _ => 1
def uptoBulkAll {H : Type} : List (DataW H) → Nat
  | [] => 0
  | d :: r => uptoBulk d + uptoBulkAll r
def uptoBulkEntries {H : Type} : List (Lit × DataW H) → Nat
  | [] => 0
  | x :: r => uptoBulkEntry x + uptoBulkEntries r
def uptoBulkEntry {H : Type} : Lit × DataW H → Nat
  | (.string bytes, d) => bytes.length + uptoBulk d + 1
  | (_, d) => uptoBulk d + 1
 end
def uptoSmall : (H : Type) → List (DataW H) → Bool := fun _ ds => decide (uptoBulkAll ds ≤ 1048576)
def OpenSpec.upto (s : _root_.Go.ChangeSpec) : _root_.Go.OpenSpec := { _root_.Go.OpenSpec.ofChange s with cond := some uptoSmall }

/-- 'counterfoillaw07.MailAddress', WHERE WHAT IT READS IS OF BULK AT MOST 1048576: true; the input reads as it did. -/
def mailAddressUptoRow : OpenClaim := { program := "ytiflaniobnjlpaadoor", sum := "392db72109efb18748d5fa06b6bda582c3d02d75e9b6a249621c352a42522877", func := "counterfoil/counterfoillaw07.MailAddress", spec := "mailAddress", inPlace := ["internal/bytealg.IndexByteString", "internal/bytealg.IndexString", "internal/bytealg.CountString"], named := ["internal/bytealg.MaxLen", "unicode/utf8.first", "unicode/utf8.acceptRanges"], apart := false, laid := [("unicode/utf8.acceptRanges", laid_unicode_utf8_acceptRanges), ("unicode/utf8.first", laid_unicode_utf8_first)], narrowed := true }
def MailAddressUptoSaid : Prop := mailAddressUptoRow.holds Tryd.pinned (OpenSpec.upto mailAddressSpec)

/-- 'counterfoillaw07.MailParts', WHERE WHAT IT READS IS OF BULK AT MOST 1048576: true; the input reads as it did. -/
def mailPartsUptoRow : OpenClaim := { program := "ytiflaniobnjlpaadoor", sum := "392db72109efb18748d5fa06b6bda582c3d02d75e9b6a249621c352a42522877", func := "counterfoil/counterfoillaw07.MailParts", spec := "mailParts", inPlace := ["internal/bytealg.IndexByteString", "internal/bytealg.IndexString", "internal/bytealg.CountString"], named := ["internal/bytealg.MaxLen", "unicode/utf8.first", "unicode/utf8.acceptRanges"], apart := false, laid := [("unicode/utf8.acceptRanges", laid_unicode_utf8_acceptRanges), ("unicode/utf8.first", laid_unicode_utf8_first)], narrowed := true }
def MailPartsUptoSaid : Prop := mailPartsUptoRow.holds Tryd.pinned (OpenSpec.upto mailPartsSpec)

/-- 'counterfoillaw06.ColourCleans', WHERE WHAT IT READS IS OF BULK AT MOST 1048576: true; the input reads as it did. -/
def colourCleansUptoRow : OpenClaim := { program := "ytiflaniobnjlpaadoor", sum := "392db72109efb18748d5fa06b6bda582c3d02d75e9b6a249621c352a42522877", func := "counterfoil/counterfoillaw06.ColourCleans", spec := "colourCleans", inPlace := ["internal/bytealg.IndexByteString", "internal/bytealg.IndexString"], named := ["unicode/utf8.first", "unicode/utf8.acceptRanges", "internal/bytealg.MaxLen"], apart := false, laid := [("unicode/utf8.acceptRanges", laid_unicode_utf8_acceptRanges), ("unicode/utf8.first", laid_unicode_utf8_first)], narrowed := true }
def ColourCleansUptoSaid : Prop := colourCleansUptoRow.holds Tryd.pinned (OpenSpec.upto colourCleansSpec)

/-- 'counterfoillaw06.ColourParts', WHERE WHAT IT READS IS OF BULK AT MOST 1048576: true; the input reads as it did. -/
def colourPartsUptoRow : OpenClaim := { program := "ytiflaniobnjlpaadoor", sum := "392db72109efb18748d5fa06b6bda582c3d02d75e9b6a249621c352a42522877", func := "counterfoil/counterfoillaw06.ColourParts", spec := "colourParts", inPlace := ["internal/bytealg.IndexByteString", "internal/bytealg.IndexString"], named := ["unicode/utf8.first", "unicode/utf8.acceptRanges", "internal/bytealg.MaxLen"], apart := false, laid := [("unicode/utf8.acceptRanges", laid_unicode_utf8_acceptRanges), ("unicode/utf8.first", laid_unicode_utf8_first)], narrowed := true }
def ColourPartsUptoSaid : Prop := colourPartsUptoRow.holds Tryd.pinned (OpenSpec.upto colourPartsSpec)

/-- 'counterfoillaw06.ColourShows', WHERE WHAT IT READS IS OF BULK AT MOST 1048576: true; the input reads as it did. -/
def colourShowsUptoRow : OpenClaim := { program := "ytiflaniobnjlpaadoor", sum := "392db72109efb18748d5fa06b6bda582c3d02d75e9b6a249621c352a42522877", func := "counterfoil/counterfoillaw06.ColourShows", spec := "colourShows", inPlace := ["internal/bytealg.IndexByteString", "internal/bytealg.IndexString"], named := ["unicode/utf8.first", "unicode/utf8.acceptRanges", "internal/bytealg.MaxLen"], apart := false, laid := [("unicode/utf8.acceptRanges", laid_unicode_utf8_acceptRanges), ("unicode/utf8.first", laid_unicode_utf8_first)], narrowed := true }
def ColourShowsUptoSaid : Prop := colourShowsUptoRow.holds Tryd.pinned (OpenSpec.upto colourShowsSpec)

/-- 'counterfoillaw07.MailLists', WHERE WHAT IT READS IS OF BULK AT MOST 1048576: true; the input reads as it did. -/
def mailListsUptoRow : OpenClaim := { program := "ytiflaniobnjlpaadoor", sum := "392db72109efb18748d5fa06b6bda582c3d02d75e9b6a249621c352a42522877", func := "counterfoil/counterfoillaw07.MailLists", spec := "mailLists", inPlace := ["internal/bytealg.CountString", "internal/bytealg.IndexByteString", "internal/bytealg.IndexString"], named := ["unicode/utf8.first", "unicode/utf8.acceptRanges", "internal/bytealg.MaxLen"], apart := false, laid := [("unicode/utf8.acceptRanges", laid_unicode_utf8_acceptRanges), ("unicode/utf8.first", laid_unicode_utf8_first)], narrowed := true }
def MailListsUptoSaid : Prop := mailListsUptoRow.holds Tryd.pinned (OpenSpec.upto mailListsSpec)

/-- 'counterfoillaw07.MailCleans', WHERE WHAT IT READS IS OF BULK AT MOST 1048576: true; the input reads as it did. -/
def mailCleansUptoRow : OpenClaim := { program := "ytiflaniobnjlpaadoor", sum := "392db72109efb18748d5fa06b6bda582c3d02d75e9b6a249621c352a42522877", func := "counterfoil/counterfoillaw07.MailCleans", spec := "mailCleans", inPlace := ["internal/bytealg.CountString", "internal/bytealg.IndexByteString", "internal/bytealg.IndexString", "internal/abi.NoEscape", "internal/bytealg.MakeNoZero"], named := ["unicode/utf8.first", "unicode/utf8.acceptRanges", "internal/bytealg.MaxLen"], apart := false, laid := [("unicode/utf8.acceptRanges", laid_unicode_utf8_acceptRanges), ("unicode/utf8.first", laid_unicode_utf8_first)], narrowed := true }
def MailCleansUptoSaid : Prop := mailCleansUptoRow.holds Tryd.pinned (OpenSpec.upto mailCleansSpec)

end Rows
end Go.Proofs.YtiflaniobnjlpaaDoor
