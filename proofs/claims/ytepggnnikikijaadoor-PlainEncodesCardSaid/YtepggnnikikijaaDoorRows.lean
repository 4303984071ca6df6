/-
  NARROWER THAN 'FOR EVERY INPUT', by the rows' own cells (each row's printed sentence says how): PlainEncodes: laid · PlainSplits: laid · PlainBack: laid · UrlencJoins: laid · UrlencSigns: laid · UrlencEncodes: laid · UrlencDecodes: laid · UrlencBack: laid.
  DERIVED. THE GIVEN ROWS OF THIS SEAT. 8 by the template 'for every input the law returns true; each argument reads behind the call as it read before'; 0 by the template 'total and deterministic' (their statements: YtepggnnikikijaaDoorTotals.lean).
  GIVEN WITH THE SEED: the statements are not yours to turn. If you find one false, say at which input.
  Laid BY PROGRAM, IN A SANDBOX (cutbox-rows.mjs): the forced cells as the released guide's own fill.sh prints them over the translation 6f368c30c2adb43f… (all of the seat's roots in one cut). By AI agents, Wed Nov 11 2026. No macro, syntax, notation, axiom, sorry.
-/
import Derived.Test.YtepggnnikikijaaDoorChecked
import GoSem.PinnedTables
import GoSem.Claim
import GoSem.ClaimJoined
import GoSem.ClaimMapViews
import Derived.JoinedTies
import Derived.KernelRfl
namespace Go.Proofs.YtepggnnikikijaaDoor
/- THE CELL 'sum', in the pinned program and in every row, IS THE sha256 OF THE DUMP (.gsa) THAT YtepggnnikikijaaDoorProg.lean LOADS. Nothing in Lean hashes anything: it is a label: what it is worth is what the hold of that sum in a sandbox is worth. -/
noncomputable def Tryd.pinned : Pinned := { name := "ytepggnnikikijaadoor", sum := "6f368c30c2adb43f932bc974a3bfc005e8eb87b5021d6d8f1fde82ed9a371d9d", checked := Tryd.checked }
namespace Rows
def none {H : Type} : Left H := { results := [], args := [] }

/- WHAT THE LISTED PACKAGE-LEVEL VARIABLES READ AS WHEN THE CALL BEGINS. Each datum BY PROGRAM (the guide's laid-datum.mjs) off the statement by which the dump's own 'gosem.cut.vars' lays the variable. In a bare row this is a premise. The card (YtepggnnikikijaaDoorCards.lean) ties it to the program's text. -/
def laid_unicode_utf8_acceptRanges {H : Type} : DataW H := .agg [.agg [.lit (.int .u8 128), .lit (.int .u8 191)], .agg [.lit (.int .u8 160), .lit (.int .u8 191)], .agg [.lit (.int .u8 128), .lit (.int .u8 159)], .agg [.lit (.int .u8 144), .lit (.int .u8 191)], .agg [.lit (.int .u8 128), .lit (.int .u8 143)], .agg [.lit (.int .u8 0), .lit (.int .u8 0)], .agg [.lit (.int .u8 0), .lit (.int .u8 0)], .agg [.lit (.int .u8 0), .lit (.int .u8 0)], .agg [.lit (.int .u8 0), .lit (.int .u8 0)], .agg [.lit (.int .u8 0), .lit (.int .u8 0)], .agg [.lit (.int .u8 0), .lit (.int .u8 0)], .agg [.lit (.int .u8 0), .lit (.int .u8 0)], .agg [.lit (.int .u8 0), .lit (.int .u8 0)], .agg [.lit (.int .u8 0), .lit (.int .u8 0)], .agg [.lit (.int .u8 0), .lit (.int .u8 0)], .agg [.lit (.int .u8 0), .lit (.int .u8 0)]]
/-- One of Go's own tables, pinned by name: the form's constant. -/
def laid_unicode_utf8_first : DataW Unit := Go.Pinned.utf8First

/-- 'counterfoillaw21.PlainEncodes': WHATEVER THE INPUT: true; the input reads as it did. -/
def plainEncodesSpec : ChangeSpec := { name := "plainEncodes", fn := fun _ => fun
  | [d] => { results := [.lit (.bool true)], args := [d] }
  | _ => none }
def plainEncodesRow : OpenClaim := { program := "ytepggnnikikijaadoor", sum := "6f368c30c2adb43f932bc974a3bfc005e8eb87b5021d6d8f1fde82ed9a371d9d", func := "counterfoil/counterfoillaw21.PlainEncodes", spec := "plainEncodes", inPlace := ["internal/bytealg.CountString", "internal/bytealg.IndexByteString", "internal/bytealg.IndexString", "internal/abi.NoEscape", "internal/bytealg.MakeNoZero"], named := ["internal/bytealg.MaxLen", "unicode/utf8.first", "unicode/utf8.acceptRanges"], apart := false, laid := [("unicode/utf8.acceptRanges", laid_unicode_utf8_acceptRanges), ("unicode/utf8.first", laid_unicode_utf8_first)] }
def PlainEncodesSaid : Prop := plainEncodesRow.holds Tryd.pinned (OpenSpec.ofChange plainEncodesSpec)

/-- ITS FALSE NEIGHBOUR: 'it returns false'. Refute it at one input. -/
def plainEncodesWrong : ChangeSpec := { name := "plainEncodes", fn := fun _ => fun
  | [d] => { results := [.lit (.bool false)], args := [d] }
  | _ => none }
def PlainEncodesWrongFalsely : Prop := plainEncodesRow.holds Tryd.pinned (OpenSpec.ofChange plainEncodesWrong)

/-- 'counterfoillaw21.PlainSplits': WHATEVER THE INPUT: true; the input reads as it did. -/
def plainSplitsSpec : ChangeSpec := { name := "plainSplits", fn := fun _ => fun
  | [d] => { results := [.lit (.bool true)], args := [d] }
  | _ => none }
def plainSplitsRow : OpenClaim := { program := "ytepggnnikikijaadoor", sum := "6f368c30c2adb43f932bc974a3bfc005e8eb87b5021d6d8f1fde82ed9a371d9d", func := "counterfoil/counterfoillaw21.PlainSplits", spec := "plainSplits", inPlace := ["internal/bytealg.CountString", "internal/bytealg.IndexByteString", "internal/bytealg.IndexString", "internal/abi.NoEscape", "internal/bytealg.MakeNoZero"], named := ["internal/bytealg.MaxLen", "unicode/utf8.first", "unicode/utf8.acceptRanges"], apart := false, laid := [("unicode/utf8.acceptRanges", laid_unicode_utf8_acceptRanges), ("unicode/utf8.first", laid_unicode_utf8_first)] }
def PlainSplitsSaid : Prop := plainSplitsRow.holds Tryd.pinned (OpenSpec.ofChange plainSplitsSpec)

/-- ITS FALSE NEIGHBOUR: 'it returns false'. Refute it at one input. -/
def plainSplitsWrong : ChangeSpec := { name := "plainSplits", fn := fun _ => fun
  | [d] => { results := [.lit (.bool false)], args := [d] }
  | _ => none }
def PlainSplitsWrongFalsely : Prop := plainSplitsRow.holds Tryd.pinned (OpenSpec.ofChange plainSplitsWrong)

/-- 'counterfoillaw21.PlainBack': WHATEVER THE INPUT: true; the input reads as it did. -/
def plainBackSpec : ChangeSpec := { name := "plainBack", fn := fun _ => fun
  | [d] => { results := [.lit (.bool true)], args := [d] }
  | _ => none }
def plainBackRow : OpenClaim := { program := "ytepggnnikikijaadoor", sum := "6f368c30c2adb43f932bc974a3bfc005e8eb87b5021d6d8f1fde82ed9a371d9d", func := "counterfoil/counterfoillaw21.PlainBack", spec := "plainBack", inPlace := ["internal/bytealg.CountString", "internal/bytealg.IndexByteString", "internal/bytealg.IndexString", "internal/abi.NoEscape", "internal/bytealg.MakeNoZero"], named := ["internal/bytealg.MaxLen", "unicode/utf8.first", "unicode/utf8.acceptRanges"], apart := false, laid := [("unicode/utf8.acceptRanges", laid_unicode_utf8_acceptRanges), ("unicode/utf8.first", laid_unicode_utf8_first)] }
def PlainBackSaid : Prop := plainBackRow.holds Tryd.pinned (OpenSpec.ofChange plainBackSpec)

/-- ITS FALSE NEIGHBOUR: 'it returns false'. Refute it at one input. -/
def plainBackWrong : ChangeSpec := { name := "plainBack", fn := fun _ => fun
  | [d] => { results := [.lit (.bool false)], args := [d] }
  | _ => none }
def PlainBackWrongFalsely : Prop := plainBackRow.holds Tryd.pinned (OpenSpec.ofChange plainBackWrong)

/-- 'counterfoillaw19.UrlencJoins': WHATEVER THE INPUT: true; the input reads as it did. -/
def urlencJoinsSpec : ChangeSpec := { name := "urlencJoins", fn := fun _ => fun
  | [d1, d2] => { results := [.lit (.bool true)], args := [d1, d2] }
  | _ => none }
def urlencJoinsRow : OpenClaim := { program := "ytepggnnikikijaadoor", sum := "6f368c30c2adb43f932bc974a3bfc005e8eb87b5021d6d8f1fde82ed9a371d9d", func := "counterfoil/counterfoillaw19.UrlencJoins", spec := "urlencJoins", inPlace := ["internal/bytealg.CountString", "internal/bytealg.IndexByteString", "internal/bytealg.IndexString", "internal/abi.NoEscape", "internal/bytealg.MakeNoZero"], named := ["internal/bytealg.MaxLen", "unicode/utf8.first", "unicode/utf8.acceptRanges"], apart := false, laid := [("unicode/utf8.acceptRanges", laid_unicode_utf8_acceptRanges), ("unicode/utf8.first", laid_unicode_utf8_first)] }
def UrlencJoinsSaid : Prop := urlencJoinsRow.holds Tryd.pinned (OpenSpec.ofChange urlencJoinsSpec)

/-- ITS FALSE NEIGHBOUR: 'it returns false'. Refute it at one input. -/
def urlencJoinsWrong : ChangeSpec := { name := "urlencJoins", fn := fun _ => fun
  | [d1, d2] => { results := [.lit (.bool false)], args := [d1, d2] }
  | _ => none }
def UrlencJoinsWrongFalsely : Prop := urlencJoinsRow.holds Tryd.pinned (OpenSpec.ofChange urlencJoinsWrong)

/-- 'counterfoillaw19.UrlencSigns': WHATEVER THE INPUT: true; the input reads as it did. -/
def urlencSignsSpec : ChangeSpec := { name := "urlencSigns", fn := fun _ => fun
  | [d] => { results := [.lit (.bool true)], args := [d] }
  | _ => none }
def urlencSignsRow : OpenClaim := { program := "ytepggnnikikijaadoor", sum := "6f368c30c2adb43f932bc974a3bfc005e8eb87b5021d6d8f1fde82ed9a371d9d", func := "counterfoil/counterfoillaw19.UrlencSigns", spec := "urlencSigns", inPlace := ["internal/bytealg.CountString", "internal/bytealg.IndexByteString", "internal/bytealg.IndexString", "internal/abi.NoEscape", "internal/bytealg.MakeNoZero"], named := ["internal/bytealg.MaxLen", "unicode/utf8.first", "unicode/utf8.acceptRanges"], apart := false, laid := [("unicode/utf8.acceptRanges", laid_unicode_utf8_acceptRanges), ("unicode/utf8.first", laid_unicode_utf8_first)] }
def UrlencSignsSaid : Prop := urlencSignsRow.holds Tryd.pinned (OpenSpec.ofChange urlencSignsSpec)

/-- ITS FALSE NEIGHBOUR: 'it returns false'. Refute it at one input. -/
def urlencSignsWrong : ChangeSpec := { name := "urlencSigns", fn := fun _ => fun
  | [d] => { results := [.lit (.bool false)], args := [d] }
  | _ => none }
def UrlencSignsWrongFalsely : Prop := urlencSignsRow.holds Tryd.pinned (OpenSpec.ofChange urlencSignsWrong)

/-- 'counterfoillaw19.UrlencEncodes': WHATEVER THE INPUT: true; the input reads as it did. -/
def urlencEncodesSpec : ChangeSpec := { name := "urlencEncodes", fn := fun _ => fun
  | [d] => { results := [.lit (.bool true)], args := [d] }
  | _ => none }
def urlencEncodesRow : OpenClaim := { program := "ytepggnnikikijaadoor", sum := "6f368c30c2adb43f932bc974a3bfc005e8eb87b5021d6d8f1fde82ed9a371d9d", func := "counterfoil/counterfoillaw19.UrlencEncodes", spec := "urlencEncodes", inPlace := ["internal/bytealg.CountString", "internal/bytealg.IndexByteString", "internal/bytealg.IndexString", "internal/abi.NoEscape", "internal/bytealg.MakeNoZero"], named := ["internal/bytealg.MaxLen", "unicode/utf8.first", "unicode/utf8.acceptRanges"], apart := false, laid := [("unicode/utf8.acceptRanges", laid_unicode_utf8_acceptRanges), ("unicode/utf8.first", laid_unicode_utf8_first)] }
def UrlencEncodesSaid : Prop := urlencEncodesRow.holds Tryd.pinned (OpenSpec.ofChange urlencEncodesSpec)

/-- ITS FALSE NEIGHBOUR: 'it returns false'. Refute it at one input. -/
def urlencEncodesWrong : ChangeSpec := { name := "urlencEncodes", fn := fun _ => fun
  | [d] => { results := [.lit (.bool false)], args := [d] }
  | _ => none }
def UrlencEncodesWrongFalsely : Prop := urlencEncodesRow.holds Tryd.pinned (OpenSpec.ofChange urlencEncodesWrong)

/-- 'counterfoillaw19.UrlencDecodes': WHATEVER THE INPUT: true; the input reads as it did. -/
def urlencDecodesSpec : ChangeSpec := { name := "urlencDecodes", fn := fun _ => fun
  | [d] => { results := [.lit (.bool true)], args := [d] }
  | _ => none }
def urlencDecodesRow : OpenClaim := { program := "ytepggnnikikijaadoor", sum := "6f368c30c2adb43f932bc974a3bfc005e8eb87b5021d6d8f1fde82ed9a371d9d", func := "counterfoil/counterfoillaw19.UrlencDecodes", spec := "urlencDecodes", inPlace := ["internal/bytealg.CountString", "internal/bytealg.IndexByteString", "internal/bytealg.IndexString", "internal/abi.NoEscape", "internal/bytealg.MakeNoZero"], named := ["internal/bytealg.MaxLen", "unicode/utf8.first", "unicode/utf8.acceptRanges"], apart := false, laid := [("unicode/utf8.acceptRanges", laid_unicode_utf8_acceptRanges), ("unicode/utf8.first", laid_unicode_utf8_first)] }
def UrlencDecodesSaid : Prop := urlencDecodesRow.holds Tryd.pinned (OpenSpec.ofChange urlencDecodesSpec)

/-- ITS FALSE NEIGHBOUR: 'it returns false'. Refute it at one input. -/
def urlencDecodesWrong : ChangeSpec := { name := "urlencDecodes", fn := fun _ => fun
  | [d] => { results := [.lit (.bool false)], args := [d] }
  | _ => none }
def UrlencDecodesWrongFalsely : Prop := urlencDecodesRow.holds Tryd.pinned (OpenSpec.ofChange urlencDecodesWrong)

/-- 'counterfoillaw19.UrlencBack': WHATEVER THE INPUT: true; the input reads as it did. -/
def urlencBackSpec : ChangeSpec := { name := "urlencBack", fn := fun _ => fun
  | [d] => { results := [.lit (.bool true)], args := [d] }
  | _ => none }
def urlencBackRow : OpenClaim := { program := "ytepggnnikikijaadoor", sum := "6f368c30c2adb43f932bc974a3bfc005e8eb87b5021d6d8f1fde82ed9a371d9d", func := "counterfoil/counterfoillaw19.UrlencBack", spec := "urlencBack", inPlace := ["internal/bytealg.CountString", "internal/bytealg.IndexByteString", "internal/bytealg.IndexString", "internal/abi.NoEscape", "internal/bytealg.MakeNoZero"], named := ["internal/bytealg.MaxLen", "unicode/utf8.first", "unicode/utf8.acceptRanges"], apart := false, laid := [("unicode/utf8.acceptRanges", laid_unicode_utf8_acceptRanges), ("unicode/utf8.first", laid_unicode_utf8_first)] }
def UrlencBackSaid : Prop := urlencBackRow.holds Tryd.pinned (OpenSpec.ofChange urlencBackSpec)

/-- ITS FALSE NEIGHBOUR: 'it returns false'. Refute it at one input. -/
def urlencBackWrong : ChangeSpec := { name := "urlencBack", fn := fun _ => fun
  | [d] => { results := [.lit (.bool false)], args := [d] }
  | _ => none }
def UrlencBackWrongFalsely : Prop := urlencBackRow.holds Tryd.pinned (OpenSpec.ofChange urlencBackWrong)

/- THE SECOND FORM. 'bulk': how many values and letters a reading holds, each counted each time it is reached (what is shared counts as often as it is met; a slice's spare places count too). A statement '..UptoSaid' is the law's where the arguments, and the package variables that the reading takes, are together of bulk at most 1048576: NARROWER than '..Said'. Prove '..Said' where nothing that the law and all that it calls make is longer than what came in: it says more and counts as full. Else prove '..UptoSaid'. A law counts once. -/
mutual
def uptoBulk {H : Type} : DataW H → Nat
  | .lit (.string bytes) => bytes.length + 1
  | .lit _ => 1
  | .nil => 1
  | .ptr d => uptoBulk d + 1
  | .slice elems spare => uptoBulkAll elems + uptoBulkAll spare + 1
  | .agg parts => uptoBulkAll parts + 1
  | .iface _ d => uptoBulk d + 1
  | .map entries => uptoBulkEntries entries + 1
  | .held _ => 1
def uptoBulkAll {H : Type} : List (DataW H) → Nat
  | [] => 0
  | d :: r => uptoBulk d + uptoBulkAll r
def uptoBulkEntries {H : Type} : List (Lit × DataW H) → Nat
  | [] => 0
  | x :: r => uptoBulkEntry x + uptoBulkEntries r
def uptoBulkEntry {H : Type} : Lit × DataW H → Nat
  | (.string bytes, d) => bytes.length + uptoBulk d + 1
  | (_, d) => uptoBulk d + 1
 end
def uptoSmall : (H : Type) → List (DataW H) → Bool := fun _ ds => decide (uptoBulkAll ds ≤ 1048576)
def OpenSpec.upto (s : _root_.Go.ChangeSpec) : _root_.Go.OpenSpec := { _root_.Go.OpenSpec.ofChange s with cond := some uptoSmall }

/-- 'counterfoillaw21.PlainEncodes', WHERE WHAT IT READS IS OF BULK AT MOST 1048576: true; the input reads as it did. -/
def plainEncodesUptoRow : OpenClaim := { program := "ytepggnnikikijaadoor", sum := "6f368c30c2adb43f932bc974a3bfc005e8eb87b5021d6d8f1fde82ed9a371d9d", func := "counterfoil/counterfoillaw21.PlainEncodes", spec := "plainEncodes", inPlace := ["internal/bytealg.CountString", "internal/bytealg.IndexByteString", "internal/bytealg.IndexString", "internal/abi.NoEscape", "internal/bytealg.MakeNoZero"], named := ["internal/bytealg.MaxLen", "unicode/utf8.first", "unicode/utf8.acceptRanges"], apart := false, laid := [("unicode/utf8.acceptRanges", laid_unicode_utf8_acceptRanges), ("unicode/utf8.first", laid_unicode_utf8_first)], narrowed := true }
def PlainEncodesUptoSaid : Prop := plainEncodesUptoRow.holds Tryd.pinned (OpenSpec.upto plainEncodesSpec)

/-- 'counterfoillaw21.PlainSplits', WHERE WHAT IT READS IS OF BULK AT MOST 1048576: true; the input reads as it did. -/
def plainSplitsUptoRow : OpenClaim := { program := "ytepggnnikikijaadoor", sum := "6f368c30c2adb43f932bc974a3bfc005e8eb87b5021d6d8f1fde82ed9a371d9d", func := "counterfoil/counterfoillaw21.PlainSplits", spec := "plainSplits", inPlace := ["internal/bytealg.CountString", "internal/bytealg.IndexByteString", "internal/bytealg.IndexString", "internal/abi.NoEscape", "internal/bytealg.MakeNoZero"], named := ["internal/bytealg.MaxLen", "unicode/utf8.first", "unicode/utf8.acceptRanges"], apart := false, laid := [("unicode/utf8.acceptRanges", laid_unicode_utf8_acceptRanges), ("unicode/utf8.first", laid_unicode_utf8_first)], narrowed := true }
def PlainSplitsUptoSaid : Prop := plainSplitsUptoRow.holds Tryd.pinned (OpenSpec.upto plainSplitsSpec)

/-- 'counterfoillaw21.PlainBack', WHERE WHAT IT READS IS OF BULK AT MOST 1048576: true; the input reads as it did. -/
def plainBackUptoRow : OpenClaim := { program := "ytepggnnikikijaadoor", sum := "6f368c30c2adb43f932bc974a3bfc005e8eb87b5021d6d8f1fde82ed9a371d9d", func := "counterfoil/counterfoillaw21.PlainBack", spec := "plainBack", inPlace := ["internal/bytealg.CountString", "internal/bytealg.IndexByteString", "internal/bytealg.IndexString", "internal/abi.NoEscape", "internal/bytealg.MakeNoZero"], named := ["internal/bytealg.MaxLen", "unicode/utf8.first", "unicode/utf8.acceptRanges"], apart := false, laid := [("unicode/utf8.acceptRanges", laid_unicode_utf8_acceptRanges), ("unicode/utf8.first", laid_unicode_utf8_first)], narrowed := true }
def PlainBackUptoSaid : Prop := plainBackUptoRow.holds Tryd.pinned (OpenSpec.upto plainBackSpec)

/-- 'counterfoillaw19.UrlencJoins', WHERE WHAT IT READS IS OF BULK AT MOST 1048576: true; the input reads as it did. -/
def urlencJoinsUptoRow : OpenClaim := { program := "ytepggnnikikijaadoor", sum := "6f368c30c2adb43f932bc974a3bfc005e8eb87b5021d6d8f1fde82ed9a371d9d", func := "counterfoil/counterfoillaw19.UrlencJoins", spec := "urlencJoins", inPlace := ["internal/bytealg.CountString", "internal/bytealg.IndexByteString", "internal/bytealg.IndexString", "internal/abi.NoEscape", "internal/bytealg.MakeNoZero"], named := ["internal/bytealg.MaxLen", "unicode/utf8.first", "unicode/utf8.acceptRanges"], apart := false, laid := [("unicode/utf8.acceptRanges", laid_unicode_utf8_acceptRanges), ("unicode/utf8.first", laid_unicode_utf8_first)], narrowed := true }
def UrlencJoinsUptoSaid : Prop := urlencJoinsUptoRow.holds Tryd.pinned (OpenSpec.upto urlencJoinsSpec)

/-- 'counterfoillaw19.UrlencSigns', WHERE WHAT IT READS IS OF BULK AT MOST 1048576: true; the input reads as it did. -/
def urlencSignsUptoRow : OpenClaim := { program := "ytepggnnikikijaadoor", sum := "6f368c30c2adb43f932bc974a3bfc005e8eb87b5021d6d8f1fde82ed9a371d9d", func := "counterfoil/counterfoillaw19.UrlencSigns", spec := "urlencSigns", inPlace := ["internal/bytealg.CountString", "internal/bytealg.IndexByteString", "internal/bytealg.IndexString", "internal/abi.NoEscape", "internal/bytealg.MakeNoZero"], named := ["internal/bytealg.MaxLen", "unicode/utf8.first", "unicode/utf8.acceptRanges"], apart := false, laid := [("unicode/utf8.acceptRanges", laid_unicode_utf8_acceptRanges), ("unicode/utf8.first", laid_unicode_utf8_first)], narrowed := true }
def UrlencSignsUptoSaid : Prop := urlencSignsUptoRow.holds Tryd.pinned (OpenSpec.upto urlencSignsSpec)

/-- 'counterfoillaw19.UrlencEncodes', WHERE WHAT IT READS IS OF BULK AT MOST 1048576: true; the input reads as it did. -/
def urlencEncodesUptoRow : OpenClaim := { program := "ytepggnnikikijaadoor", sum := "6f368c30c2adb43f932bc974a3bfc005e8eb87b5021d6d8f1fde82ed9a371d9d", func := "counterfoil/counterfoillaw19.UrlencEncodes", spec := "urlencEncodes", inPlace := ["internal/bytealg.CountString", "internal/bytealg.IndexByteString", "internal/bytealg.IndexString", "internal/abi.NoEscape", "internal/bytealg.MakeNoZero"], named := ["internal/bytealg.MaxLen", "unicode/utf8.first", "unicode/utf8.acceptRanges"], apart := false, laid := [("unicode/utf8.acceptRanges", laid_unicode_utf8_acceptRanges), ("unicode/utf8.first", laid_unicode_utf8_first)], narrowed := true }
def UrlencEncodesUptoSaid : Prop := urlencEncodesUptoRow.holds Tryd.pinned (OpenSpec.upto urlencEncodesSpec)

/-- 'counterfoillaw19.UrlencDecodes', WHERE WHAT IT READS IS OF BULK AT MOST 1048576: true; the input reads as it did. -/
def urlencDecodesUptoRow : OpenClaim := { program := "ytepggnnikikijaadoor", sum := "6f368c30c2adb43f932bc974a3bfc005e8eb87b5021d6d8f1fde82ed9a371d9d", func := "counterfoil/counterfoillaw19.UrlencDecodes", spec := "urlencDecodes", inPlace := ["internal/bytealg.CountString", "internal/bytealg.IndexByteString", "internal/bytealg.IndexString", "internal/abi.NoEscape", "internal/bytealg.MakeNoZero"], named := ["internal/bytealg.MaxLen", "unicode/utf8.first", "unicode/utf8.acceptRanges"], apart := false, laid := [("unicode/utf8.acceptRanges", laid_unicode_utf8_acceptRanges), ("unicode/utf8.first", laid_unicode_utf8_first)], narrowed := true }
def UrlencDecodesUptoSaid : Prop := urlencDecodesUptoRow.holds Tryd.pinned (OpenSpec.upto urlencDecodesSpec)

/-- 'counterfoillaw19.UrlencBack', WHERE WHAT IT READS IS OF BULK AT MOST 1048576: true; the input reads as it did. -/
def urlencBackUptoRow : OpenClaim := { program := "ytepggnnikikijaadoor", sum := "6f368c30c2adb43f932bc974a3bfc005e8eb87b5021d6d8f1fde82ed9a371d9d", func := "counterfoil/counterfoillaw19.UrlencBack", spec := "urlencBack", inPlace := ["internal/bytealg.CountString", "internal/bytealg.IndexByteString", "internal/bytealg.IndexString", "internal/abi.NoEscape", "internal/bytealg.MakeNoZero"], named := ["internal/bytealg.MaxLen", "unicode/utf8.first", "unicode/utf8.acceptRanges"], apart := false, laid := [("unicode/utf8.acceptRanges", laid_unicode_utf8_acceptRanges), ("unicode/utf8.first", laid_unicode_utf8_first)], narrowed := true }
def UrlencBackUptoSaid : Prop := urlencBackUptoRow.holds Tryd.pinned (OpenSpec.upto urlencBackSpec)

end Rows
end Go.Proofs.YtepggnnikikijaaDoor
