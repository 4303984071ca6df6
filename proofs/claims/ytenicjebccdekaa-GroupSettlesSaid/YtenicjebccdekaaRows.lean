/-
  No cell of these rows narrows 'for every input' (looked for: loops, veiled, ifaces, maps, wideKeys, modest, calm, conditions, laid).
  DERIVED. THE GIVEN ROWS OF THIS SEAT. 11 by the template 'for every input the law returns true; each argument reads behind the call as it read before'; 0 by the template 'total and deterministic' (their statements: YtenicjebccdekaaTotals.lean).
  GIVEN WITH THE SEED: the statements are not yours to turn. If you find one false, say at which input.
  Laid BY PROGRAM, IN A SANDBOX (cutbox-rows.mjs): the forced cells as the released guide's own fill.sh prints them over the translation 6a621af62f781e39… (all of the seat's roots in one cut). By AI agents, Wed Nov 11 2026. No macro, syntax, notation, axiom, sorry.
-/
import Derived.Test.YtenicjebccdekaaChecked
import GoSem.Claim
import GoSem.ClaimJoined
import GoSem.ClaimMapViews
import Derived.JoinedTies
import Derived.KernelRfl
namespace Go.Proofs.Ytenicjebccdekaa
/- THE CELL 'sum', in the pinned program and in every row, IS THE sha256 OF THE DUMP (.gsa) THAT YtenicjebccdekaaProg.lean LOADS. Nothing in Lean hashes anything: it is a label: what it is worth is what the hold of that sum in a sandbox is worth. -/
noncomputable def Try.pinned : Pinned := { name := "ytenicjebccdekaa", sum := "6a621af62f781e39cf1e5cb93b6487de12c4e847ad7521248190e302987ea830", checked := Try.checked }
namespace Rows
def none {H : Type} : Left H := { results := [], args := [] }

/-- 'counterfoillaw16.OwnerForm': WHATEVER THE INPUT: true; the input reads as it did. -/
def ownerFormSpec : ChangeSpec := { name := "ownerForm", fn := fun _ => fun
  | [d1, d2] => { results := [.lit (.bool true)], args := [d1, d2] }
  | _ => none }
def ownerFormRow : OpenClaim := { program := "ytenicjebccdekaa", sum := "6a621af62f781e39cf1e5cb93b6487de12c4e847ad7521248190e302987ea830", func := "counterfoil/counterfoillaw16.OwnerForm", spec := "ownerForm", unfollowed := true, recurses := true, plainKeys := false, apart := false }
def OwnerFormSaid : Prop := ownerFormRow.holds Try.pinned (OpenSpec.ofChange ownerFormSpec)

/-- ITS FALSE NEIGHBOUR: 'it returns false'. Refute it at one input. -/
def ownerFormWrong : ChangeSpec := { name := "ownerForm", fn := fun _ => fun
  | [d1, d2] => { results := [.lit (.bool false)], args := [d1, d2] }
  | _ => none }
def OwnerFormWrongFalsely : Prop := ownerFormRow.holds Try.pinned (OpenSpec.ofChange ownerFormWrong)

/-- 'counterfoillaw16.OwnerElements': WHATEVER THE INPUT: true; the input reads as it did. -/
def ownerElementsSpec : ChangeSpec := { name := "ownerElements", fn := fun _ => fun
  | [d1, d2] => { results := [.lit (.bool true)], args := [d1, d2] }
  | _ => none }
def ownerElementsRow : OpenClaim := { program := "ytenicjebccdekaa", sum := "6a621af62f781e39cf1e5cb93b6487de12c4e847ad7521248190e302987ea830", func := "counterfoil/counterfoillaw16.OwnerElements", spec := "ownerElements", unfollowed := true, recurses := true, plainKeys := false, apart := false }
def OwnerElementsSaid : Prop := ownerElementsRow.holds Try.pinned (OpenSpec.ofChange ownerElementsSpec)

/-- ITS FALSE NEIGHBOUR: 'it returns false'. Refute it at one input. -/
def ownerElementsWrong : ChangeSpec := { name := "ownerElements", fn := fun _ => fun
  | [d1, d2] => { results := [.lit (.bool false)], args := [d1, d2] }
  | _ => none }
def OwnerElementsWrongFalsely : Prop := ownerElementsRow.holds Try.pinned (OpenSpec.ofChange ownerElementsWrong)

/-- 'counterfoillaw16.OwnerDisabled': WHATEVER THE INPUT: true; the input reads as it did. -/
def ownerDisabledSpec : ChangeSpec := { name := "ownerDisabled", fn := fun _ => fun
  | [d1, d2] => { results := [.lit (.bool true)], args := [d1, d2] }
  | _ => none }
def ownerDisabledRow : OpenClaim := { program := "ytenicjebccdekaa", sum := "6a621af62f781e39cf1e5cb93b6487de12c4e847ad7521248190e302987ea830", func := "counterfoil/counterfoillaw16.OwnerDisabled", spec := "ownerDisabled", unfollowed := true, recurses := true, plainKeys := false, apart := false }
def OwnerDisabledSaid : Prop := ownerDisabledRow.holds Try.pinned (OpenSpec.ofChange ownerDisabledSpec)

/-- ITS FALSE NEIGHBOUR: 'it returns false'. Refute it at one input. -/
def ownerDisabledWrong : ChangeSpec := { name := "ownerDisabled", fn := fun _ => fun
  | [d1, d2] => { results := [.lit (.bool false)], args := [d1, d2] }
  | _ => none }
def OwnerDisabledWrongFalsely : Prop := ownerDisabledRow.holds Try.pinned (OpenSpec.ofChange ownerDisabledWrong)

/-- 'counterfoillaw16.OwnerOnce': WHATEVER THE INPUT: true; the input reads as it did. -/
def ownerOnceSpec : ChangeSpec := { name := "ownerOnce", fn := fun _ => fun
  | [d] => { results := [.lit (.bool true)], args := [d] }
  | _ => none }
def ownerOnceRow : OpenClaim := { program := "ytenicjebccdekaa", sum := "6a621af62f781e39cf1e5cb93b6487de12c4e847ad7521248190e302987ea830", func := "counterfoil/counterfoillaw16.OwnerOnce", spec := "ownerOnce", unfollowed := true, recurses := true, plainKeys := false, apart := false }
def OwnerOnceSaid : Prop := ownerOnceRow.holds Try.pinned (OpenSpec.ofChange ownerOnceSpec)

/-- ITS FALSE NEIGHBOUR: 'it returns false'. Refute it at one input. -/
def ownerOnceWrong : ChangeSpec := { name := "ownerOnce", fn := fun _ => fun
  | [d] => { results := [.lit (.bool false)], args := [d] }
  | _ => none }
def OwnerOnceWrongFalsely : Prop := ownerOnceRow.holds Try.pinned (OpenSpec.ofChange ownerOnceWrong)

/-- 'counterfoillaw17.GroupMembers': WHATEVER THE INPUT: true; the input reads as it did. -/
def groupMembersSpec : ChangeSpec := { name := "groupMembers", fn := fun _ => fun
  | [d1, d2] => { results := [.lit (.bool true)], args := [d1, d2] }
  | _ => none }
def groupMembersRow : OpenClaim := { program := "ytenicjebccdekaa", sum := "6a621af62f781e39cf1e5cb93b6487de12c4e847ad7521248190e302987ea830", func := "counterfoil/counterfoillaw17.GroupMembers", spec := "groupMembers", unfollowed := true, recurses := true, plainKeys := false, apart := false }
def GroupMembersSaid : Prop := groupMembersRow.holds Try.pinned (OpenSpec.ofChange groupMembersSpec)

/-- ITS FALSE NEIGHBOUR: 'it returns false'. Refute it at one input. -/
def groupMembersWrong : ChangeSpec := { name := "groupMembers", fn := fun _ => fun
  | [d1, d2] => { results := [.lit (.bool false)], args := [d1, d2] }
  | _ => none }
def GroupMembersWrongFalsely : Prop := groupMembersRow.holds Try.pinned (OpenSpec.ofChange groupMembersWrong)

/-- 'counterfoillaw17.GroupChecks': WHATEVER THE INPUT: true; the input reads as it did. -/
def groupChecksSpec : ChangeSpec := { name := "groupChecks", fn := fun _ => fun
  | [d1, d2, d3] => { results := [.lit (.bool true)], args := [d1, d2, d3] }
  | _ => none }
def groupChecksRow : OpenClaim := { program := "ytenicjebccdekaa", sum := "6a621af62f781e39cf1e5cb93b6487de12c4e847ad7521248190e302987ea830", func := "counterfoil/counterfoillaw17.GroupChecks", spec := "groupChecks", unfollowed := true, recurses := true, plainKeys := false, apart := false }
def GroupChecksSaid : Prop := groupChecksRow.holds Try.pinned (OpenSpec.ofChange groupChecksSpec)

/-- ITS FALSE NEIGHBOUR: 'it returns false'. Refute it at one input. -/
def groupChecksWrong : ChangeSpec := { name := "groupChecks", fn := fun _ => fun
  | [d1, d2, d3] => { results := [.lit (.bool false)], args := [d1, d2, d3] }
  | _ => none }
def GroupChecksWrongFalsely : Prop := groupChecksRow.holds Try.pinned (OpenSpec.ofChange groupChecksWrong)

/-- 'counterfoillaw16.OwnerLabels': WHATEVER THE INPUT: true; the input reads as it did. -/
def ownerLabelsSpec : ChangeSpec := { name := "ownerLabels", fn := fun _ => fun
  | [d1, d2] => { results := [.lit (.bool true)], args := [d1, d2] }
  | _ => none }
def ownerLabelsRow : OpenClaim := { program := "ytenicjebccdekaa", sum := "6a621af62f781e39cf1e5cb93b6487de12c4e847ad7521248190e302987ea830", func := "counterfoil/counterfoillaw16.OwnerLabels", spec := "ownerLabels", unfollowed := true, recurses := true, plainKeys := false, apart := false }
def OwnerLabelsSaid : Prop := ownerLabelsRow.holds Try.pinned (OpenSpec.ofChange ownerLabelsSpec)

/-- ITS FALSE NEIGHBOUR: 'it returns false'. Refute it at one input. -/
def ownerLabelsWrong : ChangeSpec := { name := "ownerLabels", fn := fun _ => fun
  | [d1, d2] => { results := [.lit (.bool false)], args := [d1, d2] }
  | _ => none }
def OwnerLabelsWrongFalsely : Prop := ownerLabelsRow.holds Try.pinned (OpenSpec.ofChange ownerLabelsWrong)

/-- 'counterfoillaw17.GroupKeeps': WHATEVER THE INPUT: true; the input reads as it did. -/
def groupKeepsSpec : ChangeSpec := { name := "groupKeeps", fn := fun _ => fun
  | [d1, d2, d3] => { results := [.lit (.bool true)], args := [d1, d2, d3] }
  | _ => none }
def groupKeepsRow : OpenClaim := { program := "ytenicjebccdekaa", sum := "6a621af62f781e39cf1e5cb93b6487de12c4e847ad7521248190e302987ea830", func := "counterfoil/counterfoillaw17.GroupKeeps", spec := "groupKeeps", unfollowed := true, recurses := true, plainKeys := false, apart := false }
def GroupKeepsSaid : Prop := groupKeepsRow.holds Try.pinned (OpenSpec.ofChange groupKeepsSpec)

/-- ITS FALSE NEIGHBOUR: 'it returns false'. Refute it at one input. -/
def groupKeepsWrong : ChangeSpec := { name := "groupKeeps", fn := fun _ => fun
  | [d1, d2, d3] => { results := [.lit (.bool false)], args := [d1, d2, d3] }
  | _ => none }
def GroupKeepsWrongFalsely : Prop := groupKeepsRow.holds Try.pinned (OpenSpec.ofChange groupKeepsWrong)

/-- 'counterfoillaw24.SubmitSettings': WHATEVER THE INPUT: true; the input reads as it did. -/
def submitSettingsSpec : ChangeSpec := { name := "submitSettings", fn := fun _ => fun
  | [d1, d2, d3] => { results := [.lit (.bool true)], args := [d1, d2, d3] }
  | _ => none }
def submitSettingsRow : OpenClaim := { program := "ytenicjebccdekaa", sum := "6a621af62f781e39cf1e5cb93b6487de12c4e847ad7521248190e302987ea830", func := "counterfoil/counterfoillaw24.SubmitSettings", spec := "submitSettings", inPlace := ["internal/bytealg.IndexByteString", "internal/bytealg.IndexString"], unfollowed := true, recurses := true, named := ["internal/bytealg.MaxLen"], plainKeys := false, apart := false }
def SubmitSettingsSaid : Prop := submitSettingsRow.holds Try.pinned (OpenSpec.ofChange submitSettingsSpec)

/-- ITS FALSE NEIGHBOUR: 'it returns false'. Refute it at one input. -/
def submitSettingsWrong : ChangeSpec := { name := "submitSettings", fn := fun _ => fun
  | [d1, d2, d3] => { results := [.lit (.bool false)], args := [d1, d2, d3] }
  | _ => none }
def SubmitSettingsWrongFalsely : Prop := submitSettingsRow.holds Try.pinned (OpenSpec.ofChange submitSettingsWrong)

/-- 'counterfoillaw17.GroupSettles': WHATEVER THE INPUT: true; the input reads as it did. -/
def groupSettlesSpec : ChangeSpec := { name := "groupSettles", fn := fun _ => fun
  | [d] => { results := [.lit (.bool true)], args := [d] }
  | _ => none }
def groupSettlesRow : OpenClaim := { program := "ytenicjebccdekaa", sum := "6a621af62f781e39cf1e5cb93b6487de12c4e847ad7521248190e302987ea830", func := "counterfoil/counterfoillaw17.GroupSettles", spec := "groupSettles", unfollowed := true, recurses := true, plainKeys := false, apart := false }
def GroupSettlesSaid : Prop := groupSettlesRow.holds Try.pinned (OpenSpec.ofChange groupSettlesSpec)

/-- ITS FALSE NEIGHBOUR: 'it returns false'. Refute it at one input. -/
def groupSettlesWrong : ChangeSpec := { name := "groupSettles", fn := fun _ => fun
  | [d] => { results := [.lit (.bool false)], args := [d] }
  | _ => none }
def GroupSettlesWrongFalsely : Prop := groupSettlesRow.holds Try.pinned (OpenSpec.ofChange groupSettlesWrong)

/-- 'counterfoillaw24.SubmitEnters': WHATEVER THE INPUT: true; the input reads as it did. -/
def submitEntersSpec : ChangeSpec := { name := "submitEnters", fn := fun _ => fun
  | [d1, d2] => { results := [.lit (.bool true)], args := [d1, d2] }
  | _ => none }
def submitEntersRow : OpenClaim := { program := "ytenicjebccdekaa", sum := "6a621af62f781e39cf1e5cb93b6487de12c4e847ad7521248190e302987ea830", func := "counterfoil/counterfoillaw24.SubmitEnters", spec := "submitEnters", inPlace := ["internal/bytealg.IndexByteString", "internal/bytealg.IndexString"], unfollowed := true, recurses := true, named := ["internal/bytealg.MaxLen"], plainKeys := false, apart := false }
def SubmitEntersSaid : Prop := submitEntersRow.holds Try.pinned (OpenSpec.ofChange submitEntersSpec)

/-- ITS FALSE NEIGHBOUR: 'it returns false'. Refute it at one input. -/
def submitEntersWrong : ChangeSpec := { name := "submitEnters", fn := fun _ => fun
  | [d1, d2] => { results := [.lit (.bool false)], args := [d1, d2] }
  | _ => none }
def SubmitEntersWrongFalsely : Prop := submitEntersRow.holds Try.pinned (OpenSpec.ofChange submitEntersWrong)

/- THE SECOND FORM. 'bulk': how many values and letters a reading holds, each counted each time it is reached (what is shared counts as often as it is met; a slice's spare places count too). A statement '..UptoSaid' is the law's where the arguments, and the package variables that the reading takes, are together of bulk at most 1048576: NARROWER than '..Said'. Prove '..Said' where nothing that the law and all that it calls make is longer than what came in: it says more and counts as full. Else prove '..UptoSaid'. A law counts once. -/
mutual
def uptoBulk {H : Type} : DataW H → Nat
  | .lit (.string bytes) => bytes.length + 1
  | .lit _ => 1
  | .nil => 1
  | .ptr d => uptoBulk d + 1
  | .slice elems spare => uptoBulkAll elems + uptoBulkAll spare + 1
  | .agg parts => uptoBulkAll parts + 1
  | .iface _ d => uptoBulk d + 1
  | .map entries => uptoBulkEntries entries + 1
  | .held _ => 1
def uptoBulkAll {H : Type} : List (DataW H) → Nat
  | [] => 0
  | d :: r => uptoBulk d + uptoBulkAll r
def uptoBulkEntries {H : Type} : List (Lit × DataW H) → Nat
  | [] => 0
  | x :: r => uptoBulkEntry x + uptoBulkEntries r
def uptoBulkEntry {H : Type} : Lit × DataW H → Nat
  | (.string bytes, d) => bytes.length + uptoBulk d + 1
  | (_, d) => uptoBulk d + 1
 end
def uptoSmall : (H : Type) → List (DataW H) → Bool := fun _ ds => decide (uptoBulkAll ds ≤ 1048576)
def OpenSpec.upto (s : _root_.Go.ChangeSpec) : _root_.Go.OpenSpec := { _root_.Go.OpenSpec.ofChange s with cond := some uptoSmall }

/-- 'counterfoillaw16.OwnerForm', WHERE WHAT IT READS IS OF BULK AT MOST 1048576: true; the input reads as it did. -/
def ownerFormUptoRow : OpenClaim := { program := "ytenicjebccdekaa", sum := "6a621af62f781e39cf1e5cb93b6487de12c4e847ad7521248190e302987ea830", func := "counterfoil/counterfoillaw16.OwnerForm", spec := "ownerForm", unfollowed := true, recurses := true, plainKeys := false, apart := false, narrowed := true }
def OwnerFormUptoSaid : Prop := ownerFormUptoRow.holds Try.pinned (OpenSpec.upto ownerFormSpec)

/-- 'counterfoillaw16.OwnerElements', WHERE WHAT IT READS IS OF BULK AT MOST 1048576: true; the input reads as it did. -/
def ownerElementsUptoRow : OpenClaim := { program := "ytenicjebccdekaa", sum := "6a621af62f781e39cf1e5cb93b6487de12c4e847ad7521248190e302987ea830", func := "counterfoil/counterfoillaw16.OwnerElements", spec := "ownerElements", unfollowed := true, recurses := true, plainKeys := false, apart := false, narrowed := true }
def OwnerElementsUptoSaid : Prop := ownerElementsUptoRow.holds Try.pinned (OpenSpec.upto ownerElementsSpec)

/-- 'counterfoillaw16.OwnerDisabled', WHERE WHAT IT READS IS OF BULK AT MOST 1048576: true; the input reads as it did. -/
def ownerDisabledUptoRow : OpenClaim := { program := "ytenicjebccdekaa", sum := "6a621af62f781e39cf1e5cb93b6487de12c4e847ad7521248190e302987ea830", func := "counterfoil/counterfoillaw16.OwnerDisabled", spec := "ownerDisabled", unfollowed := true, recurses := true, plainKeys := false, apart := false, narrowed := true }
def OwnerDisabledUptoSaid : Prop := ownerDisabledUptoRow.holds Try.pinned (OpenSpec.upto ownerDisabledSpec)

/-- 'counterfoillaw16.OwnerOnce', WHERE WHAT IT READS IS OF BULK AT MOST 1048576: true; the input reads as it did. -/
def ownerOnceUptoRow : OpenClaim := { program := "ytenicjebccdekaa", sum := "6a621af62f781e39cf1e5cb93b6487de12c4e847ad7521248190e302987ea830", func := "counterfoil/counterfoillaw16.OwnerOnce", spec := "ownerOnce", unfollowed := true, recurses := true, plainKeys := false, apart := false, narrowed := true }
def OwnerOnceUptoSaid : Prop := ownerOnceUptoRow.holds Try.pinned (OpenSpec.upto ownerOnceSpec)

/-- 'counterfoillaw17.GroupMembers', WHERE WHAT IT READS IS OF BULK AT MOST 1048576: true; the input reads as it did. -/
def groupMembersUptoRow : OpenClaim := { program := "ytenicjebccdekaa", sum := "6a621af62f781e39cf1e5cb93b6487de12c4e847ad7521248190e302987ea830", func := "counterfoil/counterfoillaw17.GroupMembers", spec := "groupMembers", unfollowed := true, recurses := true, plainKeys := false, apart := false, narrowed := true }
def GroupMembersUptoSaid : Prop := groupMembersUptoRow.holds Try.pinned (OpenSpec.upto groupMembersSpec)

/-- 'counterfoillaw17.GroupChecks', WHERE WHAT IT READS IS OF BULK AT MOST 1048576: true; the input reads as it did. -/
def groupChecksUptoRow : OpenClaim := { program := "ytenicjebccdekaa", sum := "6a621af62f781e39cf1e5cb93b6487de12c4e847ad7521248190e302987ea830", func := "counterfoil/counterfoillaw17.GroupChecks", spec := "groupChecks", unfollowed := true, recurses := true, plainKeys := false, apart := false, narrowed := true }
def GroupChecksUptoSaid : Prop := groupChecksUptoRow.holds Try.pinned (OpenSpec.upto groupChecksSpec)

/-- 'counterfoillaw16.OwnerLabels', WHERE WHAT IT READS IS OF BULK AT MOST 1048576: true; the input reads as it did. -/
def ownerLabelsUptoRow : OpenClaim := { program := "ytenicjebccdekaa", sum := "6a621af62f781e39cf1e5cb93b6487de12c4e847ad7521248190e302987ea830", func := "counterfoil/counterfoillaw16.OwnerLabels", spec := "ownerLabels", unfollowed := true, recurses := true, plainKeys := false, apart := false, narrowed := true }
def OwnerLabelsUptoSaid : Prop := ownerLabelsUptoRow.holds Try.pinned (OpenSpec.upto ownerLabelsSpec)

/-- 'counterfoillaw17.GroupKeeps', WHERE WHAT IT READS IS OF BULK AT MOST 1048576: true; the input reads as it did. -/
def groupKeepsUptoRow : OpenClaim := { program := "ytenicjebccdekaa", sum := "6a621af62f781e39cf1e5cb93b6487de12c4e847ad7521248190e302987ea830", func := "counterfoil/counterfoillaw17.GroupKeeps", spec := "groupKeeps", unfollowed := true, recurses := true, plainKeys := false, apart := false, narrowed := true }
def GroupKeepsUptoSaid : Prop := groupKeepsUptoRow.holds Try.pinned (OpenSpec.upto groupKeepsSpec)

/-- 'counterfoillaw24.SubmitSettings', WHERE WHAT IT READS IS OF BULK AT MOST 1048576: true; the input reads as it did. -/
def submitSettingsUptoRow : OpenClaim := { program := "ytenicjebccdekaa", sum := "6a621af62f781e39cf1e5cb93b6487de12c4e847ad7521248190e302987ea830", func := "counterfoil/counterfoillaw24.SubmitSettings", spec := "submitSettings", inPlace := ["internal/bytealg.IndexByteString", "internal/bytealg.IndexString"], unfollowed := true, recurses := true, named := ["internal/bytealg.MaxLen"], plainKeys := false, apart := false, narrowed := true }
def SubmitSettingsUptoSaid : Prop := submitSettingsUptoRow.holds Try.pinned (OpenSpec.upto submitSettingsSpec)

/-- 'counterfoillaw17.GroupSettles', WHERE WHAT IT READS IS OF BULK AT MOST 1048576: true; the input reads as it did. -/
def groupSettlesUptoRow : OpenClaim := { program := "ytenicjebccdekaa", sum := "6a621af62f781e39cf1e5cb93b6487de12c4e847ad7521248190e302987ea830", func := "counterfoil/counterfoillaw17.GroupSettles", spec := "groupSettles", unfollowed := true, recurses := true, plainKeys := false, apart := false, narrowed := true }
def GroupSettlesUptoSaid : Prop := groupSettlesUptoRow.holds Try.pinned (OpenSpec.upto groupSettlesSpec)

/-- 'counterfoillaw24.SubmitEnters', WHERE WHAT IT READS IS OF BULK AT MOST 1048576: true; the input reads as it did. -/
def submitEntersUptoRow : OpenClaim := { program := "ytenicjebccdekaa", sum := "6a621af62f781e39cf1e5cb93b6487de12c4e847ad7521248190e302987ea830", func := "counterfoil/counterfoillaw24.SubmitEnters", spec := "submitEnters", inPlace := ["internal/bytealg.IndexByteString", "internal/bytealg.IndexString"], unfollowed := true, recurses := true, named := ["internal/bytealg.MaxLen"], plainKeys := false, apart := false, narrowed := true }
def SubmitEntersUptoSaid : Prop := submitEntersUptoRow.holds Try.pinned (OpenSpec.upto submitEntersSpec)

end Rows
end Go.Proofs.Ytenicjebccdekaa
