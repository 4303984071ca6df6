/-
  NARROWER THAN 'FOR EVERY INPUT', by the rows' own cells (each row's printed sentence says how): PatternRight: laid · PatternFits: laid · PatternBars: laid · PatternGroups: laid · PatternPlain: laid.
  DERIVED. THE GIVEN ROWS OF THIS SEAT. 5 by the template 'for every input the law returns true; each argument reads behind the call as it read before'; 0 by the template 'total and deterministic' (their statements: YtfhgnnlhacjnkaaDoorTotals.lean).
  GIVEN WITH THE SEED: the statements are not yours to turn. If you find one false, say at which input.
  Laid BY PROGRAM, IN A SANDBOX (cutbox-rows.mjs): the forced cells as the released guide's own fill.sh prints them over the translation d5af2ef594b35739… (all of the seat's roots in one cut). By AI agents, Wed Nov 11 2026. No macro, syntax, notation, axiom, sorry.
-/
import Derived.Test.YtfhgnnlhacjnkaaDoorChecked
import GoSem.PinnedTables
import GoSem.Claim
import GoSem.ClaimJoined
import GoSem.ClaimMapViews
import Derived.JoinedTies
import Derived.KernelRfl
namespace Go.Proofs.YtfhgnnlhacjnkaaDoor
/- THE CELL 'sum', in the pinned program and in every row, IS THE sha256 OF THE DUMP (.gsa) THAT YtfhgnnlhacjnkaaDoorProg.lean LOADS. Nothing in Lean hashes anything: it is a label: what it is worth is what the hold of that sum in a sandbox is worth. -/
noncomputable def Tryd.pinned : Pinned := { name := "ytfhgnnlhacjnkaadoor", sum := "d5af2ef594b35739f0637b72fc69881030050b937ffdad38b812917e27946beb", checked := Tryd.checked }
namespace Rows
def none {H : Type} : Left H := { results := [], args := [] }

/- WHAT THE LISTED PACKAGE-LEVEL VARIABLES READ AS WHEN THE CALL BEGINS. Each datum BY PROGRAM (the guide's laid-datum.mjs) off the statement by which the dump's own 'gosem.cut.vars' lays the variable. In a bare row this is a premise. The card (YtfhgnnlhacjnkaaDoorCards.lean) ties it to the program's text. -/
def laid_unicode_utf8_acceptRanges {H : Type} : DataW H := .agg [.agg [.lit (.int .u8 128), .lit (.int .u8 191)], .agg [.lit (.int .u8 160), .lit (.int .u8 191)], .agg [.lit (.int .u8 128), .lit (.int .u8 159)], .agg [.lit (.int .u8 144), .lit (.int .u8 191)], .agg [.lit (.int .u8 128), .lit (.int .u8 143)], .agg [.lit (.int .u8 0), .lit (.int .u8 0)], .agg [.lit (.int .u8 0), .lit (.int .u8 0)], .agg [.lit (.int .u8 0), .lit (.int .u8 0)], .agg [.lit (.int .u8 0), .lit (.int .u8 0)], .agg [.lit (.int .u8 0), .lit (.int .u8 0)], .agg [.lit (.int .u8 0), .lit (.int .u8 0)], .agg [.lit (.int .u8 0), .lit (.int .u8 0)], .agg [.lit (.int .u8 0), .lit (.int .u8 0)], .agg [.lit (.int .u8 0), .lit (.int .u8 0)], .agg [.lit (.int .u8 0), .lit (.int .u8 0)], .agg [.lit (.int .u8 0), .lit (.int .u8 0)]]
/-- One of Go's own tables, pinned by name: the form's constant. -/
def laid_unicode_utf8_first : DataW Unit := Go.Pinned.utf8First

/-- 'counterfoillaw09.PatternRight': WHATEVER THE INPUT: true; the input reads as it did. -/
def patternRightSpec : ChangeSpec := { name := "patternRight", fn := fun _ => fun
  | [d] => { results := [.lit (.bool true)], args := [d] }
  | _ => none }
def patternRightRow : OpenClaim := { program := "ytfhgnnlhacjnkaadoor", sum := "d5af2ef594b35739f0637b72fc69881030050b937ffdad38b812917e27946beb", func := "counterfoil/counterfoillaw09.PatternRight", spec := "patternRight", inPlace := ["internal/bytealg.IndexByteString", "internal/bytealg.IndexString"], recurses := true, named := ["unicode/utf8.first", "unicode/utf8.acceptRanges", "internal/bytealg.MaxLen"], apart := false, laid := [("unicode/utf8.acceptRanges", laid_unicode_utf8_acceptRanges), ("unicode/utf8.first", laid_unicode_utf8_first)] }
def PatternRightSaid : Prop := patternRightRow.holds Tryd.pinned (OpenSpec.ofChange patternRightSpec)

/-- ITS FALSE NEIGHBOUR: 'it returns false'. Refute it at one input. -/
def patternRightWrong : ChangeSpec := { name := "patternRight", fn := fun _ => fun
  | [d] => { results := [.lit (.bool false)], args := [d] }
  | _ => none }
def PatternRightWrongFalsely : Prop := patternRightRow.holds Tryd.pinned (OpenSpec.ofChange patternRightWrong)

/-- 'counterfoillaw09.PatternFits': WHATEVER THE INPUT: true; the input reads as it did. -/
def patternFitsSpec : ChangeSpec := { name := "patternFits", fn := fun _ => fun
  | [d1, d2] => { results := [.lit (.bool true)], args := [d1, d2] }
  | _ => none }
def patternFitsRow : OpenClaim := { program := "ytfhgnnlhacjnkaadoor", sum := "d5af2ef594b35739f0637b72fc69881030050b937ffdad38b812917e27946beb", func := "counterfoil/counterfoillaw09.PatternFits", spec := "patternFits", inPlace := ["internal/bytealg.IndexByteString", "internal/bytealg.IndexString"], recurses := true, named := ["unicode/utf8.first", "unicode/utf8.acceptRanges", "internal/bytealg.MaxLen"], apart := false, laid := [("unicode/utf8.acceptRanges", laid_unicode_utf8_acceptRanges), ("unicode/utf8.first", laid_unicode_utf8_first)] }
def PatternFitsSaid : Prop := patternFitsRow.holds Tryd.pinned (OpenSpec.ofChange patternFitsSpec)

/-- ITS FALSE NEIGHBOUR: 'it returns false'. Refute it at one input. -/
def patternFitsWrong : ChangeSpec := { name := "patternFits", fn := fun _ => fun
  | [d1, d2] => { results := [.lit (.bool false)], args := [d1, d2] }
  | _ => none }
def PatternFitsWrongFalsely : Prop := patternFitsRow.holds Tryd.pinned (OpenSpec.ofChange patternFitsWrong)

/-- 'counterfoillaw09.PatternBars': WHATEVER THE INPUT: true; the input reads as it did. -/
def patternBarsSpec : ChangeSpec := { name := "patternBars", fn := fun _ => fun
  | [d1, d2, d3] => { results := [.lit (.bool true)], args := [d1, d2, d3] }
  | _ => none }
def patternBarsRow : OpenClaim := { program := "ytfhgnnlhacjnkaadoor", sum := "d5af2ef594b35739f0637b72fc69881030050b937ffdad38b812917e27946beb", func := "counterfoil/counterfoillaw09.PatternBars", spec := "patternBars", inPlace := ["internal/bytealg.IndexByteString", "internal/bytealg.IndexString"], recurses := true, named := ["unicode/utf8.first", "unicode/utf8.acceptRanges", "internal/bytealg.MaxLen"], apart := false, laid := [("unicode/utf8.acceptRanges", laid_unicode_utf8_acceptRanges), ("unicode/utf8.first", laid_unicode_utf8_first)] }
def PatternBarsSaid : Prop := patternBarsRow.holds Tryd.pinned (OpenSpec.ofChange patternBarsSpec)

/-- ITS FALSE NEIGHBOUR: 'it returns false'. Refute it at one input. -/
def patternBarsWrong : ChangeSpec := { name := "patternBars", fn := fun _ => fun
  | [d1, d2, d3] => { results := [.lit (.bool false)], args := [d1, d2, d3] }
  | _ => none }
def PatternBarsWrongFalsely : Prop := patternBarsRow.holds Tryd.pinned (OpenSpec.ofChange patternBarsWrong)

/-- 'counterfoillaw09.PatternGroups': WHATEVER THE INPUT: true; the input reads as it did. -/
def patternGroupsSpec : ChangeSpec := { name := "patternGroups", fn := fun _ => fun
  | [d1, d2] => { results := [.lit (.bool true)], args := [d1, d2] }
  | _ => none }
def patternGroupsRow : OpenClaim := { program := "ytfhgnnlhacjnkaadoor", sum := "d5af2ef594b35739f0637b72fc69881030050b937ffdad38b812917e27946beb", func := "counterfoil/counterfoillaw09.PatternGroups", spec := "patternGroups", inPlace := ["internal/bytealg.IndexByteString", "internal/bytealg.IndexString"], recurses := true, named := ["unicode/utf8.first", "unicode/utf8.acceptRanges", "internal/bytealg.MaxLen"], apart := false, laid := [("unicode/utf8.acceptRanges", laid_unicode_utf8_acceptRanges), ("unicode/utf8.first", laid_unicode_utf8_first)] }
def PatternGroupsSaid : Prop := patternGroupsRow.holds Tryd.pinned (OpenSpec.ofChange patternGroupsSpec)

/-- ITS FALSE NEIGHBOUR: 'it returns false'. Refute it at one input. -/
def patternGroupsWrong : ChangeSpec := { name := "patternGroups", fn := fun _ => fun
  | [d1, d2] => { results := [.lit (.bool false)], args := [d1, d2] }
  | _ => none }
def PatternGroupsWrongFalsely : Prop := patternGroupsRow.holds Tryd.pinned (OpenSpec.ofChange patternGroupsWrong)

/-- 'counterfoillaw09.PatternPlain': WHATEVER THE INPUT: true; the input reads as it did. -/
def patternPlainSpec : ChangeSpec := { name := "patternPlain", fn := fun _ => fun
  | [d1, d2] => { results := [.lit (.bool true)], args := [d1, d2] }
  | _ => none }
def patternPlainRow : OpenClaim := { program := "ytfhgnnlhacjnkaadoor", sum := "d5af2ef594b35739f0637b72fc69881030050b937ffdad38b812917e27946beb", func := "counterfoil/counterfoillaw09.PatternPlain", spec := "patternPlain", inPlace := ["internal/bytealg.IndexByteString", "internal/bytealg.IndexString"], recurses := true, named := ["unicode/utf8.first", "unicode/utf8.acceptRanges", "internal/bytealg.MaxLen"], apart := false, laid := [("unicode/utf8.acceptRanges", laid_unicode_utf8_acceptRanges), ("unicode/utf8.first", laid_unicode_utf8_first)] }
def PatternPlainSaid : Prop := patternPlainRow.holds Tryd.pinned (OpenSpec.ofChange patternPlainSpec)

/-- ITS FALSE NEIGHBOUR: 'it returns false'. Refute it at one input. -/
def patternPlainWrong : ChangeSpec := { name := "patternPlain", fn := fun _ => fun
  | [d1, d2] => { results := [.lit (.bool false)], args := [d1, d2] }
  | _ => none }
def PatternPlainWrongFalsely : Prop := patternPlainRow.holds Tryd.pinned (OpenSpec.ofChange patternPlainWrong)

/- THE SECOND FORM. 'bulk': how many values and letters a reading holds, each counted each time it is reached (what is shared counts as often as it is met; a slice's spare places count too). A statement '..UptoSaid' is the law's where the arguments, and the package variables that the reading takes, are together of bulk at most 1048576: NARROWER than '..Said'. Prove '..Said' where nothing that the law and all that it calls make is longer than what came in: it says more and counts as full. Else prove '..UptoSaid'. A law counts once. -/
mutual
def uptoBulk {H : Type} : DataW H → Nat
  | .lit (.string bytes) => bytes.length + 1
  | .lit _ => 1
  | .nil => 1
  | .ptr d => uptoBulk d + 1
  | .slice elems spare => uptoBulkAll elems + uptoBulkAll spare + 1
  | .agg parts => uptoBulkAll parts + 1
  | .iface _ d => uptoBulk d + 1
  | .map entries => uptoBulkEntries entries + 1
  | .held _ => 1
def uptoBulkAll {H : Type} : List (DataW H) → Nat
  | [] => 0
  | d :: r => uptoBulk d + uptoBulkAll r
def uptoBulkEntries {H : Type} : List (Lit × DataW H) → Nat
  | [] => 0
  | x :: r => uptoBulkEntry x + uptoBulkEntries r
def uptoBulkEntry {H : Type} : Lit × DataW H → Nat
  | (.string bytes, d) => bytes.length + uptoBulk d + 1
  | (_, d) => uptoBulk d + 1
 end
def uptoSmall : (H : Type) → List (DataW H) → Bool := fun _ ds => decide (uptoBulkAll ds ≤ 1048576)
def OpenSpec.upto (s : _root_.Go.ChangeSpec) : _root_.Go.OpenSpec := { _root_.Go.OpenSpec.ofChange s with cond := some uptoSmall }

/-- 'counterfoillaw09.PatternRight', WHERE WHAT IT READS IS OF BULK AT MOST 1048576: true; the input reads as it did. -/
def patternRightUptoRow : OpenClaim := { program := "ytfhgnnlhacjnkaadoor", sum := "d5af2ef594b35739f0637b72fc69881030050b937ffdad38b812917e27946beb", func := "counterfoil/counterfoillaw09.PatternRight", spec := "patternRight", inPlace := ["internal/bytealg.IndexByteString", "internal/bytealg.IndexString"], recurses := true, named := ["unicode/utf8.first", "unicode/utf8.acceptRanges", "internal/bytealg.MaxLen"], apart := false, laid := [("unicode/utf8.acceptRanges", laid_unicode_utf8_acceptRanges), ("unicode/utf8.first", laid_unicode_utf8_first)], narrowed := true }
def PatternRightUptoSaid : Prop := patternRightUptoRow.holds Tryd.pinned (OpenSpec.upto patternRightSpec)

/-- 'counterfoillaw09.PatternFits', WHERE WHAT IT READS IS OF BULK AT MOST 1048576: true; the input reads as it did. -/
def patternFitsUptoRow : OpenClaim := { program := "ytfhgnnlhacjnkaadoor", sum := "d5af2ef594b35739f0637b72fc69881030050b937ffdad38b812917e27946beb", func := "counterfoil/counterfoillaw09.PatternFits", spec := "patternFits", inPlace := ["internal/bytealg.IndexByteString", "internal/bytealg.IndexString"], recurses := true, named := ["unicode/utf8.first", "unicode/utf8.acceptRanges", "internal/bytealg.MaxLen"], apart := false, laid := [("unicode/utf8.acceptRanges", laid_unicode_utf8_acceptRanges), ("unicode/utf8.first", laid_unicode_utf8_first)], narrowed := true }
def PatternFitsUptoSaid : Prop := patternFitsUptoRow.holds Tryd.pinned (OpenSpec.upto patternFitsSpec)

/-- 'counterfoillaw09.PatternBars', WHERE WHAT IT READS IS OF BULK AT MOST 1048576: true; the input reads as it did. -/
def patternBarsUptoRow : OpenClaim := { program := "ytfhgnnlhacjnkaadoor", sum := "d5af2ef594b35739f0637b72fc69881030050b937ffdad38b812917e27946beb", func := "counterfoil/counterfoillaw09.PatternBars", spec := "patternBars", inPlace := ["internal/bytealg.IndexByteString", "internal/bytealg.IndexString"], recurses := true, named := ["unicode/utf8.first", "unicode/utf8.acceptRanges", "internal/bytealg.MaxLen"], apart := false, laid := [("unicode/utf8.acceptRanges", laid_unicode_utf8_acceptRanges), ("unicode/utf8.first", laid_unicode_utf8_first)], narrowed := true }
def PatternBarsUptoSaid : Prop := patternBarsUptoRow.holds Tryd.pinned (OpenSpec.upto patternBarsSpec)

/-- 'counterfoillaw09.PatternGroups', WHERE WHAT IT READS IS OF BULK AT MOST 1048576: true; the input reads as it did. -/
def patternGroupsUptoRow : OpenClaim := { program := "ytfhgnnlhacjnkaadoor", sum := "d5af2ef594b35739f0637b72fc69881030050b937ffdad38b812917e27946beb", func := "counterfoil/counterfoillaw09.PatternGroups", spec := "patternGroups", inPlace := ["internal/bytealg.IndexByteString", "internal/bytealg.IndexString"], recurses := true, named := ["unicode/utf8.first", "unicode/utf8.acceptRanges", "internal/bytealg.MaxLen"], apart := false, laid := [("unicode/utf8.acceptRanges", laid_unicode_utf8_acceptRanges), ("unicode/utf8.first", laid_unicode_utf8_first)], narrowed := true }
def PatternGroupsUptoSaid : Prop := patternGroupsUptoRow.holds Tryd.pinned (OpenSpec.upto patternGroupsSpec)

/-- 'counterfoillaw09.PatternPlain', WHERE WHAT IT READS IS OF BULK AT MOST 1048576: true; the input reads as it did. -/
def patternPlainUptoRow : OpenClaim := { program := "ytfhgnnlhacjnkaadoor", sum := "d5af2ef594b35739f0637b72fc69881030050b937ffdad38b812917e27946beb", func := "counterfoil/counterfoillaw09.PatternPlain", spec := "patternPlain", inPlace := ["internal/bytealg.IndexByteString", "internal/bytealg.IndexString"], recurses := true, named := ["unicode/utf8.first", "unicode/utf8.acceptRanges", "internal/bytealg.MaxLen"], apart := false, laid := [("unicode/utf8.acceptRanges", laid_unicode_utf8_acceptRanges), ("unicode/utf8.first", laid_unicode_utf8_first)], narrowed := true }
def PatternPlainUptoSaid : Prop := patternPlainUptoRow.holds Tryd.pinned (OpenSpec.upto patternPlainSpec)

end Rows
end Go.Proofs.YtfhgnnlhacjnkaaDoor
