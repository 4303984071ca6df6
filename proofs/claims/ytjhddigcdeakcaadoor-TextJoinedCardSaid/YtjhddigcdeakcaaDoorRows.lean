/-
  NARROWER THAN 'FOR EVERY INPUT', by the rows' own cells (each row's printed sentence says how): TextValid: laid · TextJoined: laid · TextEnds: laid · TextAgain: laid · TextStrip: laid · TextCollapse: laid · EscapeJoins: laid · EscapeForms: laid.
  DERIVED. THE GIVEN ROWS OF THIS SEAT. 8 by the template 'for every input the law returns true; each argument reads behind the call as it read before'; 0 by the template 'total and deterministic' (their statements: YtjhddigcdeakcaaDoorTotals.lean).
  GIVEN WITH THE SEED: the statements are not yours to turn. If you find one false, say at which input.
  Laid BY PROGRAM, IN A SANDBOX (cutbox-rows.mjs): the forced cells as the released guide's own fill.sh prints them over the translation 701d2d85f27984cb… (all of the seat's roots in one cut). By AI agents, Wed Nov 11 2026. No macro, syntax, notation, axiom, sorry.
-/
import Derived.Test.YtjhddigcdeakcaaDoorChecked
import GoSem.PinnedTables
import GoSem.Claim
import GoSem.ClaimJoined
import GoSem.ClaimMapViews
import Derived.JoinedTies
import Derived.KernelRfl
namespace Go.Proofs.YtjhddigcdeakcaaDoor
/- THE CELL 'sum', in the pinned program and in every row, IS THE sha256 OF THE DUMP (.gsa) THAT YtjhddigcdeakcaaDoorProg.lean LOADS. Nothing in Lean hashes anything: it is a label: what it is worth is what the hold of that sum in a sandbox is worth. -/
noncomputable def Tryd.pinned : Pinned := { name := "ytjhddigcdeakcaadoor", sum := "701d2d85f27984cb4f3627c228980a75c6ed256f7d6f95c116ab6ceee8008c72", checked := Tryd.checked }
namespace Rows
def none {H : Type} : Left H := { results := [], args := [] }

/- WHAT THE LISTED PACKAGE-LEVEL VARIABLES READ AS WHEN THE CALL BEGINS. Each datum BY PROGRAM (the guide's laid-datum.mjs) off the statement by which the dump's own 'gosem.cut.vars' lays the variable. In a bare row this is a premise. The card (YtjhddigcdeakcaaDoorCards.lean) ties it to the program's text. -/
def laid_unicode_utf8_acceptRanges {H : Type} : DataW H := .agg [.agg [.lit (.int .u8 128), .lit (.int .u8 191)], .agg [.lit (.int .u8 160), .lit (.int .u8 191)], .agg [.lit (.int .u8 128), .lit (.int .u8 159)], .agg [.lit (.int .u8 144), .lit (.int .u8 191)], .agg [.lit (.int .u8 128), .lit (.int .u8 143)], .agg [.lit (.int .u8 0), .lit (.int .u8 0)], .agg [.lit (.int .u8 0), .lit (.int .u8 0)], .agg [.lit (.int .u8 0), .lit (.int .u8 0)], .agg [.lit (.int .u8 0), .lit (.int .u8 0)], .agg [.lit (.int .u8 0), .lit (.int .u8 0)], .agg [.lit (.int .u8 0), .lit (.int .u8 0)], .agg [.lit (.int .u8 0), .lit (.int .u8 0)], .agg [.lit (.int .u8 0), .lit (.int .u8 0)], .agg [.lit (.int .u8 0), .lit (.int .u8 0)], .agg [.lit (.int .u8 0), .lit (.int .u8 0)], .agg [.lit (.int .u8 0), .lit (.int .u8 0)]]
/-- One of Go's own tables, pinned by name: the form's constant. -/
def laid_unicode_utf8_first : DataW Unit := Go.Pinned.utf8First

/-- 'counterfoillaw01.TextValid': WHATEVER THE INPUT: true; the input reads as it did. -/
def textValidSpec : ChangeSpec := { name := "textValid", fn := fun _ => fun
  | [d] => { results := [.lit (.bool true)], args := [d] }
  | _ => none }
def textValidRow : OpenClaim := { program := "ytjhddigcdeakcaadoor", sum := "701d2d85f27984cb4f3627c228980a75c6ed256f7d6f95c116ab6ceee8008c72", func := "counterfoil/counterfoillaw01.TextValid", spec := "textValid", named := ["unicode/utf8.first", "unicode/utf8.acceptRanges"], apart := false, laid := [("unicode/utf8.acceptRanges", laid_unicode_utf8_acceptRanges), ("unicode/utf8.first", laid_unicode_utf8_first)] }
def TextValidSaid : Prop := textValidRow.holds Tryd.pinned (OpenSpec.ofChange textValidSpec)

/-- ITS FALSE NEIGHBOUR: 'it returns false'. Refute it at one input. -/
def textValidWrong : ChangeSpec := { name := "textValid", fn := fun _ => fun
  | [d] => { results := [.lit (.bool false)], args := [d] }
  | _ => none }
def TextValidWrongFalsely : Prop := textValidRow.holds Tryd.pinned (OpenSpec.ofChange textValidWrong)

/-- 'counterfoillaw01.TextJoined': WHATEVER THE INPUT: true; the input reads as it did. -/
def textJoinedSpec : ChangeSpec := { name := "textJoined", fn := fun _ => fun
  | [d1, d2] => { results := [.lit (.bool true)], args := [d1, d2] }
  | _ => none }
def textJoinedRow : OpenClaim := { program := "ytjhddigcdeakcaadoor", sum := "701d2d85f27984cb4f3627c228980a75c6ed256f7d6f95c116ab6ceee8008c72", func := "counterfoil/counterfoillaw01.TextJoined", spec := "textJoined", named := ["unicode/utf8.first", "unicode/utf8.acceptRanges"], apart := false, laid := [("unicode/utf8.acceptRanges", laid_unicode_utf8_acceptRanges), ("unicode/utf8.first", laid_unicode_utf8_first)] }
def TextJoinedSaid : Prop := textJoinedRow.holds Tryd.pinned (OpenSpec.ofChange textJoinedSpec)

/-- ITS FALSE NEIGHBOUR: 'it returns false'. Refute it at one input. -/
def textJoinedWrong : ChangeSpec := { name := "textJoined", fn := fun _ => fun
  | [d1, d2] => { results := [.lit (.bool false)], args := [d1, d2] }
  | _ => none }
def TextJoinedWrongFalsely : Prop := textJoinedRow.holds Tryd.pinned (OpenSpec.ofChange textJoinedWrong)

/-- 'counterfoillaw01.TextEnds': WHATEVER THE INPUT: true; the input reads as it did. -/
def textEndsSpec : ChangeSpec := { name := "textEnds", fn := fun _ => fun
  | [d] => { results := [.lit (.bool true)], args := [d] }
  | _ => none }
def textEndsRow : OpenClaim := { program := "ytjhddigcdeakcaadoor", sum := "701d2d85f27984cb4f3627c228980a75c6ed256f7d6f95c116ab6ceee8008c72", func := "counterfoil/counterfoillaw01.TextEnds", spec := "textEnds", inPlace := ["internal/bytealg.CountString", "internal/bytealg.IndexByteString", "internal/bytealg.IndexString", "internal/abi.NoEscape", "internal/bytealg.MakeNoZero"], named := ["internal/bytealg.MaxLen", "unicode/utf8.first", "unicode/utf8.acceptRanges"], apart := false, laid := [("unicode/utf8.acceptRanges", laid_unicode_utf8_acceptRanges), ("unicode/utf8.first", laid_unicode_utf8_first)] }
def TextEndsSaid : Prop := textEndsRow.holds Tryd.pinned (OpenSpec.ofChange textEndsSpec)

/-- ITS FALSE NEIGHBOUR: 'it returns false'. Refute it at one input. -/
def textEndsWrong : ChangeSpec := { name := "textEnds", fn := fun _ => fun
  | [d] => { results := [.lit (.bool false)], args := [d] }
  | _ => none }
def TextEndsWrongFalsely : Prop := textEndsRow.holds Tryd.pinned (OpenSpec.ofChange textEndsWrong)

/-- 'counterfoillaw01.TextAgain': WHATEVER THE INPUT: true; the input reads as it did. -/
def textAgainSpec : ChangeSpec := { name := "textAgain", fn := fun _ => fun
  | [d] => { results := [.lit (.bool true)], args := [d] }
  | _ => none }
def textAgainRow : OpenClaim := { program := "ytjhddigcdeakcaadoor", sum := "701d2d85f27984cb4f3627c228980a75c6ed256f7d6f95c116ab6ceee8008c72", func := "counterfoil/counterfoillaw01.TextAgain", spec := "textAgain", inPlace := ["internal/bytealg.CountString", "internal/bytealg.IndexByteString", "internal/bytealg.IndexString", "internal/abi.NoEscape", "internal/bytealg.MakeNoZero"], named := ["internal/bytealg.MaxLen", "unicode/utf8.first", "unicode/utf8.acceptRanges"], apart := false, laid := [("unicode/utf8.acceptRanges", laid_unicode_utf8_acceptRanges), ("unicode/utf8.first", laid_unicode_utf8_first)] }
def TextAgainSaid : Prop := textAgainRow.holds Tryd.pinned (OpenSpec.ofChange textAgainSpec)

/-- ITS FALSE NEIGHBOUR: 'it returns false'. Refute it at one input. -/
def textAgainWrong : ChangeSpec := { name := "textAgain", fn := fun _ => fun
  | [d] => { results := [.lit (.bool false)], args := [d] }
  | _ => none }
def TextAgainWrongFalsely : Prop := textAgainRow.holds Tryd.pinned (OpenSpec.ofChange textAgainWrong)

/-- 'counterfoillaw01.TextStrip': WHATEVER THE INPUT: true; the input reads as it did. -/
def textStripSpec : ChangeSpec := { name := "textStrip", fn := fun _ => fun
  | [d] => { results := [.lit (.bool true)], args := [d] }
  | _ => none }
def textStripRow : OpenClaim := { program := "ytjhddigcdeakcaadoor", sum := "701d2d85f27984cb4f3627c228980a75c6ed256f7d6f95c116ab6ceee8008c72", func := "counterfoil/counterfoillaw01.TextStrip", spec := "textStrip", inPlace := ["internal/bytealg.IndexByteString", "internal/bytealg.IndexString"], named := ["unicode/utf8.first", "unicode/utf8.acceptRanges", "internal/bytealg.MaxLen"], apart := false, laid := [("unicode/utf8.acceptRanges", laid_unicode_utf8_acceptRanges), ("unicode/utf8.first", laid_unicode_utf8_first)] }
def TextStripSaid : Prop := textStripRow.holds Tryd.pinned (OpenSpec.ofChange textStripSpec)

/-- ITS FALSE NEIGHBOUR: 'it returns false'. Refute it at one input. -/
def textStripWrong : ChangeSpec := { name := "textStrip", fn := fun _ => fun
  | [d] => { results := [.lit (.bool false)], args := [d] }
  | _ => none }
def TextStripWrongFalsely : Prop := textStripRow.holds Tryd.pinned (OpenSpec.ofChange textStripWrong)

/-- 'counterfoillaw01.TextCollapse': WHATEVER THE INPUT: true; the input reads as it did. -/
def textCollapseSpec : ChangeSpec := { name := "textCollapse", fn := fun _ => fun
  | [d] => { results := [.lit (.bool true)], args := [d] }
  | _ => none }
def textCollapseRow : OpenClaim := { program := "ytjhddigcdeakcaadoor", sum := "701d2d85f27984cb4f3627c228980a75c6ed256f7d6f95c116ab6ceee8008c72", func := "counterfoil/counterfoillaw01.TextCollapse", spec := "textCollapse", inPlace := ["internal/bytealg.IndexByteString", "internal/abi.NoEscape", "internal/bytealg.IndexString"], named := ["unicode/utf8.first", "unicode/utf8.acceptRanges", "internal/bytealg.MaxLen"], apart := false, laid := [("unicode/utf8.acceptRanges", laid_unicode_utf8_acceptRanges), ("unicode/utf8.first", laid_unicode_utf8_first)] }
def TextCollapseSaid : Prop := textCollapseRow.holds Tryd.pinned (OpenSpec.ofChange textCollapseSpec)

/-- ITS FALSE NEIGHBOUR: 'it returns false'. Refute it at one input. -/
def textCollapseWrong : ChangeSpec := { name := "textCollapse", fn := fun _ => fun
  | [d] => { results := [.lit (.bool false)], args := [d] }
  | _ => none }
def TextCollapseWrongFalsely : Prop := textCollapseRow.holds Tryd.pinned (OpenSpec.ofChange textCollapseWrong)

/-- 'counterfoillaw02.EscapeJoins': WHATEVER THE INPUT: true; the input reads as it did. -/
def escapeJoinsSpec : ChangeSpec := { name := "escapeJoins", fn := fun _ => fun
  | [d1, d2, d3] => { results := [.lit (.bool true)], args := [d1, d2, d3] }
  | _ => none }
def escapeJoinsRow : OpenClaim := { program := "ytjhddigcdeakcaadoor", sum := "701d2d85f27984cb4f3627c228980a75c6ed256f7d6f95c116ab6ceee8008c72", func := "counterfoil/counterfoillaw02.EscapeJoins", spec := "escapeJoins", inPlace := ["internal/bytealg.IndexByteString", "internal/abi.NoEscape", "internal/bytealg.CountString", "internal/bytealg.IndexString", "internal/bytealg.MakeNoZero"], named := ["internal/bytealg.MaxLen", "unicode/utf8.first", "unicode/utf8.acceptRanges"], apart := false, laid := [("unicode/utf8.acceptRanges", laid_unicode_utf8_acceptRanges), ("unicode/utf8.first", laid_unicode_utf8_first)] }
def EscapeJoinsSaid : Prop := escapeJoinsRow.holds Tryd.pinned (OpenSpec.ofChange escapeJoinsSpec)

/-- ITS FALSE NEIGHBOUR: 'it returns false'. Refute it at one input. -/
def escapeJoinsWrong : ChangeSpec := { name := "escapeJoins", fn := fun _ => fun
  | [d1, d2, d3] => { results := [.lit (.bool false)], args := [d1, d2, d3] }
  | _ => none }
def EscapeJoinsWrongFalsely : Prop := escapeJoinsRow.holds Tryd.pinned (OpenSpec.ofChange escapeJoinsWrong)

/-- 'counterfoillaw02.EscapeForms': WHATEVER THE INPUT: true; the input reads as it did. -/
def escapeFormsSpec : ChangeSpec := { name := "escapeForms", fn := fun _ => fun
  | [d] => { results := [.lit (.bool true)], args := [d] }
  | _ => none }
def escapeFormsRow : OpenClaim := { program := "ytjhddigcdeakcaadoor", sum := "701d2d85f27984cb4f3627c228980a75c6ed256f7d6f95c116ab6ceee8008c72", func := "counterfoil/counterfoillaw02.EscapeForms", spec := "escapeForms", inPlace := ["internal/bytealg.IndexByteString", "internal/abi.NoEscape", "internal/bytealg.CountString", "internal/bytealg.IndexString", "internal/bytealg.MakeNoZero"], named := ["internal/bytealg.MaxLen", "unicode/utf8.first", "unicode/utf8.acceptRanges"], apart := false, laid := [("unicode/utf8.acceptRanges", laid_unicode_utf8_acceptRanges), ("unicode/utf8.first", laid_unicode_utf8_first)] }
def EscapeFormsSaid : Prop := escapeFormsRow.holds Tryd.pinned (OpenSpec.ofChange escapeFormsSpec)

/-- ITS FALSE NEIGHBOUR: 'it returns false'. Refute it at one input. -/
def escapeFormsWrong : ChangeSpec := { name := "escapeForms", fn := fun _ => fun
  | [d] => { results := [.lit (.bool false)], args := [d] }
  | _ => none }
def EscapeFormsWrongFalsely : Prop := escapeFormsRow.holds Tryd.pinned (OpenSpec.ofChange escapeFormsWrong)

/- THE SECOND FORM. 'bulk': how many values and letters a reading holds, each counted each time it is reached (what is shared counts as often as it is met; a slice's spare places count too). A statement '..UptoSaid' is the law's where the arguments, and the package variables that the reading takes, are together of bulk at most 1048576: NARROWER than '..Said'. Prove '..Said' where nothing that the law and all that it calls make is longer than what came in: it says more and counts as full. Else prove '..UptoSaid'. A law counts once. -/
mutual
def uptoBulk {H : Type} : DataW H → Nat
  | .lit (.string bytes) => bytes.length + 1
  | .lit _ => 1
  | .nil => 1
  | .ptr d => uptoBulk d + 1
  | .slice elems spare => uptoBulkAll elems + uptoBulkAll spare + 1
  | .agg parts => uptoBulkAll parts + 1
  | .iface _ d => uptoBulk d + 1
  | .map entries => uptoBulkEntries entries + 1
  | .held _ => 1
def uptoBulkAll {H : Type} : List (DataW H) → Nat
  | [] => 0
  | d :: r => uptoBulk d + uptoBulkAll r
def uptoBulkEntries {H : Type} : List (Lit × DataW H) → Nat
  | [] => 0
  | x :: r => uptoBulkEntry x + uptoBulkEntries r
def uptoBulkEntry {H : Type} : Lit × DataW H → Nat
  | (.string bytes, d) => bytes.length + uptoBulk d + 1
  | (_, d) => uptoBulk d + 1
 end
def uptoSmall : (H : Type) → List (DataW H) → Bool := fun _ ds => decide (uptoBulkAll ds ≤ 1048576)
def OpenSpec.upto (s : _root_.Go.ChangeSpec) : _root_.Go.OpenSpec := { _root_.Go.OpenSpec.ofChange s with cond := some uptoSmall }

/-- 'counterfoillaw01.TextValid', WHERE WHAT IT READS IS OF BULK AT MOST 1048576: true; the input reads as it did. -/
def textValidUptoRow : OpenClaim := { program := "ytjhddigcdeakcaadoor", sum := "701d2d85f27984cb4f3627c228980a75c6ed256f7d6f95c116ab6ceee8008c72", func := "counterfoil/counterfoillaw01.TextValid", spec := "textValid", named := ["unicode/utf8.first", "unicode/utf8.acceptRanges"], apart := false, laid := [("unicode/utf8.acceptRanges", laid_unicode_utf8_acceptRanges), ("unicode/utf8.first", laid_unicode_utf8_first)], narrowed := true }
def TextValidUptoSaid : Prop := textValidUptoRow.holds Tryd.pinned (OpenSpec.upto textValidSpec)

/-- 'counterfoillaw01.TextJoined', WHERE WHAT IT READS IS OF BULK AT MOST 1048576: true; the input reads as it did. -/
def textJoinedUptoRow : OpenClaim := { program := "ytjhddigcdeakcaadoor", sum := "701d2d85f27984cb4f3627c228980a75c6ed256f7d6f95c116ab6ceee8008c72", func := "counterfoil/counterfoillaw01.TextJoined", spec := "textJoined", named := ["unicode/utf8.first", "unicode/utf8.acceptRanges"], apart := false, laid := [("unicode/utf8.acceptRanges", laid_unicode_utf8_acceptRanges), ("unicode/utf8.first", laid_unicode_utf8_first)], narrowed := true }
def TextJoinedUptoSaid : Prop := textJoinedUptoRow.holds Tryd.pinned (OpenSpec.upto textJoinedSpec)

/-- 'counterfoillaw01.TextEnds', WHERE WHAT IT READS IS OF BULK AT MOST 1048576: true; the input reads as it did. -/
def textEndsUptoRow : OpenClaim := { program := "ytjhddigcdeakcaadoor", sum := "701d2d85f27984cb4f3627c228980a75c6ed256f7d6f95c116ab6ceee8008c72", func := "counterfoil/counterfoillaw01.TextEnds", spec := "textEnds", inPlace := ["internal/bytealg.CountString", "internal/bytealg.IndexByteString", "internal/bytealg.IndexString", "internal/abi.NoEscape", "internal/bytealg.MakeNoZero"], named := ["internal/bytealg.MaxLen", "unicode/utf8.first", "unicode/utf8.acceptRanges"], apart := false, laid := [("unicode/utf8.acceptRanges", laid_unicode_utf8_acceptRanges), ("unicode/utf8.first", laid_unicode_utf8_first)], narrowed := true }
def TextEndsUptoSaid : Prop := textEndsUptoRow.holds Tryd.pinned (OpenSpec.upto textEndsSpec)

/-- 'counterfoillaw01.TextAgain', WHERE WHAT IT READS IS OF BULK AT MOST 1048576: true; the input reads as it did. -/
def textAgainUptoRow : OpenClaim := { program := "ytjhddigcdeakcaadoor", sum := "701d2d85f27984cb4f3627c228980a75c6ed256f7d6f95c116ab6ceee8008c72", func := "counterfoil/counterfoillaw01.TextAgain", spec := "textAgain", inPlace := ["internal/bytealg.CountString", "internal/bytealg.IndexByteString", "internal/bytealg.IndexString", "internal/abi.NoEscape", "internal/bytealg.MakeNoZero"], named := ["internal/bytealg.MaxLen", "unicode/utf8.first", "unicode/utf8.acceptRanges"], apart := false, laid := [("unicode/utf8.acceptRanges", laid_unicode_utf8_acceptRanges), ("unicode/utf8.first", laid_unicode_utf8_first)], narrowed := true }
def TextAgainUptoSaid : Prop := textAgainUptoRow.holds Tryd.pinned (OpenSpec.upto textAgainSpec)

/-- 'counterfoillaw01.TextStrip', WHERE WHAT IT READS IS OF BULK AT MOST 1048576: true; the input reads as it did. -/
def textStripUptoRow : OpenClaim := { program := "ytjhddigcdeakcaadoor", sum := "701d2d85f27984cb4f3627c228980a75c6ed256f7d6f95c116ab6ceee8008c72", func := "counterfoil/counterfoillaw01.TextStrip", spec := "textStrip", inPlace := ["internal/bytealg.IndexByteString", "internal/bytealg.IndexString"], named := ["unicode/utf8.first", "unicode/utf8.acceptRanges", "internal/bytealg.MaxLen"], apart := false, laid := [("unicode/utf8.acceptRanges", laid_unicode_utf8_acceptRanges), ("unicode/utf8.first", laid_unicode_utf8_first)], narrowed := true }
def TextStripUptoSaid : Prop := textStripUptoRow.holds Tryd.pinned (OpenSpec.upto textStripSpec)

/-- 'counterfoillaw01.TextCollapse', WHERE WHAT IT READS IS OF BULK AT MOST 1048576: true; the input reads as it did. -/
def textCollapseUptoRow : OpenClaim := { program := "ytjhddigcdeakcaadoor", sum := "701d2d85f27984cb4f3627c228980a75c6ed256f7d6f95c116ab6ceee8008c72", func := "counterfoil/counterfoillaw01.TextCollapse", spec := "textCollapse", inPlace := ["internal/bytealg.IndexByteString", "internal/abi.NoEscape", "internal/bytealg.IndexString"], named := ["unicode/utf8.first", "unicode/utf8.acceptRanges", "internal/bytealg.MaxLen"], apart := false, laid := [("unicode/utf8.acceptRanges", laid_unicode_utf8_acceptRanges), ("unicode/utf8.first", laid_unicode_utf8_first)], narrowed := true }
def TextCollapseUptoSaid : Prop := textCollapseUptoRow.holds Tryd.pinned (OpenSpec.upto textCollapseSpec)

/-- 'counterfoillaw02.EscapeJoins', WHERE WHAT IT READS IS OF BULK AT MOST 1048576: true; the input reads as it did. -/
def escapeJoinsUptoRow : OpenClaim := { program := "ytjhddigcdeakcaadoor", sum := "701d2d85f27984cb4f3627c228980a75c6ed256f7d6f95c116ab6ceee8008c72", func := "counterfoil/counterfoillaw02.EscapeJoins", spec := "escapeJoins", inPlace := ["internal/bytealg.IndexByteString", "internal/abi.NoEscape", "internal/bytealg.CountString", "internal/bytealg.IndexString", "internal/bytealg.MakeNoZero"], named := ["internal/bytealg.MaxLen", "unicode/utf8.first", "unicode/utf8.acceptRanges"], apart := false, laid := [("unicode/utf8.acceptRanges", laid_unicode_utf8_acceptRanges), ("unicode/utf8.first", laid_unicode_utf8_first)], narrowed := true }
def EscapeJoinsUptoSaid : Prop := escapeJoinsUptoRow.holds Tryd.pinned (OpenSpec.upto escapeJoinsSpec)

/-- 'counterfoillaw02.EscapeForms', WHERE WHAT IT READS IS OF BULK AT MOST 1048576: true; the input reads as it did. -/
def escapeFormsUptoRow : OpenClaim := { program := "ytjhddigcdeakcaadoor", sum := "701d2d85f27984cb4f3627c228980a75c6ed256f7d6f95c116ab6ceee8008c72", func := "counterfoil/counterfoillaw02.EscapeForms", spec := "escapeForms", inPlace := ["internal/bytealg.IndexByteString", "internal/abi.NoEscape", "internal/bytealg.CountString", "internal/bytealg.IndexString", "internal/bytealg.MakeNoZero"], named := ["internal/bytealg.MaxLen", "unicode/utf8.first", "unicode/utf8.acceptRanges"], apart := false, laid := [("unicode/utf8.acceptRanges", laid_unicode_utf8_acceptRanges), ("unicode/utf8.first", laid_unicode_utf8_first)], narrowed := true }
def EscapeFormsUptoSaid : Prop := escapeFormsUptoRow.holds Tryd.pinned (OpenSpec.upto escapeFormsSpec)

end Rows
end Go.Proofs.YtjhddigcdeakcaaDoor
