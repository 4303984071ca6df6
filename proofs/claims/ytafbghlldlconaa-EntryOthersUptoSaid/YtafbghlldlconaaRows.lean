/-
  No cell of these rows narrows 'for every input' (looked for: loops, veiled, ifaces, maps, wideKeys, modest, calm, conditions, laid).
  DERIVED. THE GIVEN ROWS OF THIS SEAT. 3 by the template 'for every input the law returns true; each argument reads behind the call as it read before'; 0 by the template 'total and deterministic' (their statements: YtafbghlldlconaaTotals.lean).
  GIVEN WITH THE SEED: the statements are not yours to turn. If you find one false, say at which input.
  Laid BY PROGRAM, IN A SANDBOX (cutbox-rows.mjs): the forced cells as the released guide's own fill.sh prints them over the translation 73d8b94c8f20499f… (all of the seat's roots in one cut). By AI agents, Wed Nov 11 2026. No macro, syntax, notation, axiom, sorry.
-/
import Derived.Test.YtafbghlldlconaaChecked
import GoSem.Claim
import GoSem.ClaimJoined
import GoSem.ClaimMapViews
import Derived.JoinedTies
import Derived.KernelRfl
namespace Go.Proofs.Ytafbghlldlconaa
/- THE CELL 'sum', in the pinned program and in every row, IS THE sha256 OF THE DUMP (.gsa) THAT YtafbghlldlconaaProg.lean LOADS. Nothing in Lean hashes anything: it is a label: what it is worth is what the hold of that sum in a sandbox is worth. -/
noncomputable def Try.pinned : Pinned := { name := "ytafbghlldlconaa", sum := "73d8b94c8f20499f689bc29e6cf3cd4b95d3f2402aa946e2a709d39e9cf7fe6f", checked := Try.checked }
namespace Rows
def none {H : Type} : Left H := { results := [], args := [] }

/-- 'counterfoillaw22.EntryOthers': WHATEVER THE INPUT: true; the input reads as it did. -/
def entryOthersSpec : ChangeSpec := { name := "entryOthers", fn := fun _ => fun
  | [d1, d2, d3] => { results := [.lit (.bool true)], args := [d1, d2, d3] }
  | _ => none }
def entryOthersRow : OpenClaim := { program := "ytafbghlldlconaa", sum := "73d8b94c8f20499f689bc29e6cf3cd4b95d3f2402aa946e2a709d39e9cf7fe6f", func := "counterfoil/counterfoillaw22.EntryOthers", spec := "entryOthers", inPlace := ["internal/bytealg.IndexByteString", "internal/abi.NoEscape"], unfollowed := true, recurses := true, apart := false }
def EntryOthersSaid : Prop := entryOthersRow.holds Try.pinned (OpenSpec.ofChange entryOthersSpec)

/-- ITS FALSE NEIGHBOUR: 'it returns false'. Refute it at one input. -/
def entryOthersWrong : ChangeSpec := { name := "entryOthers", fn := fun _ => fun
  | [d1, d2, d3] => { results := [.lit (.bool false)], args := [d1, d2, d3] }
  | _ => none }
def EntryOthersWrongFalsely : Prop := entryOthersRow.holds Try.pinned (OpenSpec.ofChange entryOthersWrong)

/-- 'counterfoillaw22.EntryNames': WHATEVER THE INPUT: true; the input reads as it did. -/
def entryNamesSpec : ChangeSpec := { name := "entryNames", fn := fun _ => fun
  | [d1, d2, d3] => { results := [.lit (.bool true)], args := [d1, d2, d3] }
  | _ => none }
def entryNamesRow : OpenClaim := { program := "ytafbghlldlconaa", sum := "73d8b94c8f20499f689bc29e6cf3cd4b95d3f2402aa946e2a709d39e9cf7fe6f", func := "counterfoil/counterfoillaw22.EntryNames", spec := "entryNames", inPlace := ["internal/bytealg.IndexByteString", "internal/abi.NoEscape"], unfollowed := true, recurses := true, apart := false }
def EntryNamesSaid : Prop := entryNamesRow.holds Try.pinned (OpenSpec.ofChange entryNamesSpec)

/-- ITS FALSE NEIGHBOUR: 'it returns false'. Refute it at one input. -/
def entryNamesWrong : ChangeSpec := { name := "entryNames", fn := fun _ => fun
  | [d1, d2, d3] => { results := [.lit (.bool false)], args := [d1, d2, d3] }
  | _ => none }
def EntryNamesWrongFalsely : Prop := entryNamesRow.holds Try.pinned (OpenSpec.ofChange entryNamesWrong)

/-- 'counterfoillaw22.EntrySubmitter': WHATEVER THE INPUT: true; the input reads as it did. -/
def entrySubmitterSpec : ChangeSpec := { name := "entrySubmitter", fn := fun _ => fun
  | [d1, d2, d3] => { results := [.lit (.bool true)], args := [d1, d2, d3] }
  | _ => none }
def entrySubmitterRow : OpenClaim := { program := "ytafbghlldlconaa", sum := "73d8b94c8f20499f689bc29e6cf3cd4b95d3f2402aa946e2a709d39e9cf7fe6f", func := "counterfoil/counterfoillaw22.EntrySubmitter", spec := "entrySubmitter", inPlace := ["internal/bytealg.IndexByteString", "internal/abi.NoEscape"], unfollowed := true, recurses := true, apart := false }
def EntrySubmitterSaid : Prop := entrySubmitterRow.holds Try.pinned (OpenSpec.ofChange entrySubmitterSpec)

/-- ITS FALSE NEIGHBOUR: 'it returns false'. Refute it at one input. -/
def entrySubmitterWrong : ChangeSpec := { name := "entrySubmitter", fn := fun _ => fun
  | [d1, d2, d3] => { results := [.lit (.bool false)], args := [d1, d2, d3] }
  | _ => none }
def EntrySubmitterWrongFalsely : Prop := entrySubmitterRow.holds Try.pinned (OpenSpec.ofChange entrySubmitterWrong)

/- THE SECOND FORM. 'bulk': how many values and letters a reading holds, each counted each time it is reached (what is shared counts as often as it is met; a slice's spare places count too). A statement '..UptoSaid' is the law's where the arguments, and the package variables that the reading takes, are together of bulk at most 1048576: NARROWER than '..Said'. Prove '..Said' where nothing that the law and all that it calls make is longer than what came in: it says more and counts as full. Else prove '..UptoSaid'. A law counts once. -/
mutual
def uptoBulk {H : Type} : DataW H → Nat
  | .lit (.string bytes) => bytes.length + 1
  | .lit _ => 1
  | .nil => 1
  | .ptr d => uptoBulk d + 1
  | .slice elems spare => uptoBulkAll elems + uptoBulkAll spare + 1
  | .agg parts => uptoBulkAll parts + 1
  | .iface _ d => uptoBulk d + 1
  | .map entries => uptoBulkEntries entries + 1
  | .held _ => 1
def uptoBulkAll {H : Type} : List (DataW H) → Nat
  | [] => 0
  | d :: r => uptoBulk d + uptoBulkAll r
def uptoBulkEntries {H : Type} : List (Lit × DataW H) → Nat
  | [] => 0
  | x :: r => uptoBulkEntry x + uptoBulkEntries r
def uptoBulkEntry {H : Type} : Lit × DataW H → Nat
  | (.string bytes, d) => bytes.length + uptoBulk d + 1
  | (_, d) => uptoBulk d + 1
 end
def uptoSmall : (H : Type) → List (DataW H) → Bool := fun _ ds => decide (uptoBulkAll ds ≤ 1048576)
def OpenSpec.upto (s : _root_.Go.ChangeSpec) : _root_.Go.OpenSpec := { _root_.Go.OpenSpec.ofChange s with cond := some uptoSmall }

/-- 'counterfoillaw22.EntryOthers', WHERE WHAT IT READS IS OF BULK AT MOST 1048576: true; the input reads as it did. -/
def entryOthersUptoRow : OpenClaim := { program := "ytafbghlldlconaa", sum := "73d8b94c8f20499f689bc29e6cf3cd4b95d3f2402aa946e2a709d39e9cf7fe6f", func := "counterfoil/counterfoillaw22.EntryOthers", spec := "entryOthers", inPlace := ["internal/bytealg.IndexByteString", "internal/abi.NoEscape"], unfollowed := true, recurses := true, apart := false, narrowed := true }
def EntryOthersUptoSaid : Prop := entryOthersUptoRow.holds Try.pinned (OpenSpec.upto entryOthersSpec)

/-- 'counterfoillaw22.EntryNames', WHERE WHAT IT READS IS OF BULK AT MOST 1048576: true; the input reads as it did. -/
def entryNamesUptoRow : OpenClaim := { program := "ytafbghlldlconaa", sum := "73d8b94c8f20499f689bc29e6cf3cd4b95d3f2402aa946e2a709d39e9cf7fe6f", func := "counterfoil/counterfoillaw22.EntryNames", spec := "entryNames", inPlace := ["internal/bytealg.IndexByteString", "internal/abi.NoEscape"], unfollowed := true, recurses := true, apart := false, narrowed := true }
def EntryNamesUptoSaid : Prop := entryNamesUptoRow.holds Try.pinned (OpenSpec.upto entryNamesSpec)

/-- 'counterfoillaw22.EntrySubmitter', WHERE WHAT IT READS IS OF BULK AT MOST 1048576: true; the input reads as it did. -/
def entrySubmitterUptoRow : OpenClaim := { program := "ytafbghlldlconaa", sum := "73d8b94c8f20499f689bc29e6cf3cd4b95d3f2402aa946e2a709d39e9cf7fe6f", func := "counterfoil/counterfoillaw22.EntrySubmitter", spec := "entrySubmitter", inPlace := ["internal/bytealg.IndexByteString", "internal/abi.NoEscape"], unfollowed := true, recurses := true, apart := false, narrowed := true }
def EntrySubmitterUptoSaid : Prop := entrySubmitterUptoRow.holds Try.pinned (OpenSpec.upto entrySubmitterSpec)

end Rows
end Go.Proofs.Ytafbghlldlconaa
