/-
  DERIVED. GIVEN WITH THE SEED: THE CARDS: each row of YtepggnnikikijaaDoorRows.lean that lists a variable, with what it lists TIED to the program's text (the seventh form; the later family's looks); each row that meets fmt, with fmt's text TOLD by the authors' own Lean function (tested against real Go, not proved from fmt's source: count such statements apart). THE CARD IS WHAT COUNTS. Prove the row's statement (the work); the ties are given (YtepggnnikikijaaDoorTie.lean); close each card by the builder's one call (the guide's Derived/Test/ToyasCard.lean, 'card_holds'). Laid BY PROGRAM, IN A SANDBOX (cutbox-door.mjs). By AI agents, Wed Nov 11 2026. No macro, syntax, notation, axiom, sorry.
-/
import Derived.Test.YtepggnnikikijaaDoorRows
import GoSem.ClaimSeven
namespace Go.Proofs.YtepggnnikikijaaDoor
namespace Rows

/-- THE TIED CARD OF 'counterfoillaw21.PlainEncodes'. -/
def plainEncodesCard : Claim7 := { stood := { row := plainEncodesRow, standIns := [], harness := (true, "7a2688c2e2df335fffd2137c9fbfa06d309d29c6529e12f8b691b5a68ab62b3d"), looks := false }, kinds := [], alts := [], laidByText := true, laidKinds := [.data, .pinned], laidTests := true, laidLooks := .later }
def PlainEncodesCardSaid : Prop := Claim7.holds Tryd.pinned (.plain (OpenSpec.ofChange plainEncodesSpec)) plainEncodesCard

/-- THE TIED CARD OF 'counterfoillaw21.PlainSplits'. -/
def plainSplitsCard : Claim7 := { stood := { row := plainSplitsRow, standIns := [], harness := (true, "7a2688c2e2df335fffd2137c9fbfa06d309d29c6529e12f8b691b5a68ab62b3d"), looks := false }, kinds := [], alts := [], laidByText := true, laidKinds := [.data, .pinned], laidTests := true, laidLooks := .later }
def PlainSplitsCardSaid : Prop := Claim7.holds Tryd.pinned (.plain (OpenSpec.ofChange plainSplitsSpec)) plainSplitsCard

/-- THE TIED CARD OF 'counterfoillaw21.PlainBack'. -/
def plainBackCard : Claim7 := { stood := { row := plainBackRow, standIns := [], harness := (true, "7a2688c2e2df335fffd2137c9fbfa06d309d29c6529e12f8b691b5a68ab62b3d"), looks := false }, kinds := [], alts := [], laidByText := true, laidKinds := [.data, .pinned], laidTests := true, laidLooks := .later }
def PlainBackCardSaid : Prop := Claim7.holds Tryd.pinned (.plain (OpenSpec.ofChange plainBackSpec)) plainBackCard

/-- THE TIED CARD OF 'counterfoillaw19.UrlencJoins'. -/
def urlencJoinsCard : Claim7 := { stood := { row := urlencJoinsRow, standIns := [], harness := (true, "7a2688c2e2df335fffd2137c9fbfa06d309d29c6529e12f8b691b5a68ab62b3d"), looks := false }, kinds := [], alts := [], laidByText := true, laidKinds := [.data, .pinned], laidTests := true, laidLooks := .later }
def UrlencJoinsCardSaid : Prop := Claim7.holds Tryd.pinned (.plain (OpenSpec.ofChange urlencJoinsSpec)) urlencJoinsCard

/-- THE TIED CARD OF 'counterfoillaw19.UrlencSigns'. -/
def urlencSignsCard : Claim7 := { stood := { row := urlencSignsRow, standIns := [], harness := (true, "7a2688c2e2df335fffd2137c9fbfa06d309d29c6529e12f8b691b5a68ab62b3d"), looks := false }, kinds := [], alts := [], laidByText := true, laidKinds := [.data, .pinned], laidTests := true, laidLooks := .later }
def UrlencSignsCardSaid : Prop := Claim7.holds Tryd.pinned (.plain (OpenSpec.ofChange urlencSignsSpec)) urlencSignsCard

/-- THE TIED CARD OF 'counterfoillaw19.UrlencEncodes'. -/
def urlencEncodesCard : Claim7 := { stood := { row := urlencEncodesRow, standIns := [], harness := (true, "7a2688c2e2df335fffd2137c9fbfa06d309d29c6529e12f8b691b5a68ab62b3d"), looks := false }, kinds := [], alts := [], laidByText := true, laidKinds := [.data, .pinned], laidTests := true, laidLooks := .later }
def UrlencEncodesCardSaid : Prop := Claim7.holds Tryd.pinned (.plain (OpenSpec.ofChange urlencEncodesSpec)) urlencEncodesCard

/-- THE TIED CARD OF 'counterfoillaw19.UrlencDecodes'. -/
def urlencDecodesCard : Claim7 := { stood := { row := urlencDecodesRow, standIns := [], harness := (true, "7a2688c2e2df335fffd2137c9fbfa06d309d29c6529e12f8b691b5a68ab62b3d"), looks := false }, kinds := [], alts := [], laidByText := true, laidKinds := [.data, .pinned], laidTests := true, laidLooks := .later }
def UrlencDecodesCardSaid : Prop := Claim7.holds Tryd.pinned (.plain (OpenSpec.ofChange urlencDecodesSpec)) urlencDecodesCard

/-- THE TIED CARD OF 'counterfoillaw19.UrlencBack'. -/
def urlencBackCard : Claim7 := { stood := { row := urlencBackRow, standIns := [], harness := (true, "7a2688c2e2df335fffd2137c9fbfa06d309d29c6529e12f8b691b5a68ab62b3d"), looks := false }, kinds := [], alts := [], laidByText := true, laidKinds := [.data, .pinned], laidTests := true, laidLooks := .later }
def UrlencBackCardSaid : Prop := Claim7.holds Tryd.pinned (.plain (OpenSpec.ofChange urlencBackSpec)) urlencBackCard

/-- THE SECOND FORM's CARD OF 'counterfoillaw21.PlainEncodes'. -/
def plainEncodesUptoCard : Claim7 := { stood := { row := plainEncodesUptoRow, standIns := [], harness := (true, "7a2688c2e2df335fffd2137c9fbfa06d309d29c6529e12f8b691b5a68ab62b3d"), looks := false }, kinds := [], alts := [], laidByText := true, laidKinds := [.data, .pinned], laidTests := true, laidLooks := .later }
def PlainEncodesUptoCardSaid : Prop := Claim7.holds Tryd.pinned (.plain (OpenSpec.upto plainEncodesSpec)) plainEncodesUptoCard

/-- THE SECOND FORM's CARD OF 'counterfoillaw21.PlainSplits'. -/
def plainSplitsUptoCard : Claim7 := { stood := { row := plainSplitsUptoRow, standIns := [], harness := (true, "7a2688c2e2df335fffd2137c9fbfa06d309d29c6529e12f8b691b5a68ab62b3d"), looks := false }, kinds := [], alts := [], laidByText := true, laidKinds := [.data, .pinned], laidTests := true, laidLooks := .later }
def PlainSplitsUptoCardSaid : Prop := Claim7.holds Tryd.pinned (.plain (OpenSpec.upto plainSplitsSpec)) plainSplitsUptoCard

/-- THE SECOND FORM's CARD OF 'counterfoillaw21.PlainBack'. -/
def plainBackUptoCard : Claim7 := { stood := { row := plainBackUptoRow, standIns := [], harness := (true, "7a2688c2e2df335fffd2137c9fbfa06d309d29c6529e12f8b691b5a68ab62b3d"), looks := false }, kinds := [], alts := [], laidByText := true, laidKinds := [.data, .pinned], laidTests := true, laidLooks := .later }
def PlainBackUptoCardSaid : Prop := Claim7.holds Tryd.pinned (.plain (OpenSpec.upto plainBackSpec)) plainBackUptoCard

/-- THE SECOND FORM's CARD OF 'counterfoillaw19.UrlencJoins'. -/
def urlencJoinsUptoCard : Claim7 := { stood := { row := urlencJoinsUptoRow, standIns := [], harness := (true, "7a2688c2e2df335fffd2137c9fbfa06d309d29c6529e12f8b691b5a68ab62b3d"), looks := false }, kinds := [], alts := [], laidByText := true, laidKinds := [.data, .pinned], laidTests := true, laidLooks := .later }
def UrlencJoinsUptoCardSaid : Prop := Claim7.holds Tryd.pinned (.plain (OpenSpec.upto urlencJoinsSpec)) urlencJoinsUptoCard

/-- THE SECOND FORM's CARD OF 'counterfoillaw19.UrlencSigns'. -/
def urlencSignsUptoCard : Claim7 := { stood := { row := urlencSignsUptoRow, standIns := [], harness := (true, "7a2688c2e2df335fffd2137c9fbfa06d309d29c6529e12f8b691b5a68ab62b3d"), looks := false }, kinds := [], alts := [], laidByText := true, laidKinds := [.data, .pinned], laidTests := true, laidLooks := .later }
def UrlencSignsUptoCardSaid : Prop := Claim7.holds Tryd.pinned (.plain (OpenSpec.upto urlencSignsSpec)) urlencSignsUptoCard

/-- THE SECOND FORM's CARD OF 'counterfoillaw19.UrlencEncodes'. -/
def urlencEncodesUptoCard : Claim7 := { stood := { row := urlencEncodesUptoRow, standIns := [], harness := (true, "7a2688c2e2df335fffd2137c9fbfa06d309d29c6529e12f8b691b5a68ab62b3d"), looks := false }, kinds := [], alts := [], laidByText := true, laidKinds := [.data, .pinned], laidTests := true, laidLooks := .later }
def UrlencEncodesUptoCardSaid : Prop := Claim7.holds Tryd.pinned (.plain (OpenSpec.upto urlencEncodesSpec)) urlencEncodesUptoCard

/-- THE SECOND FORM's CARD OF 'counterfoillaw19.UrlencDecodes'. -/
def urlencDecodesUptoCard : Claim7 := { stood := { row := urlencDecodesUptoRow, standIns := [], harness := (true, "7a2688c2e2df335fffd2137c9fbfa06d309d29c6529e12f8b691b5a68ab62b3d"), looks := false }, kinds := [], alts := [], laidByText := true, laidKinds := [.data, .pinned], laidTests := true, laidLooks := .later }
def UrlencDecodesUptoCardSaid : Prop := Claim7.holds Tryd.pinned (.plain (OpenSpec.upto urlencDecodesSpec)) urlencDecodesUptoCard

/-- THE SECOND FORM's CARD OF 'counterfoillaw19.UrlencBack'. -/
def urlencBackUptoCard : Claim7 := { stood := { row := urlencBackUptoRow, standIns := [], harness := (true, "7a2688c2e2df335fffd2137c9fbfa06d309d29c6529e12f8b691b5a68ab62b3d"), looks := false }, kinds := [], alts := [], laidByText := true, laidKinds := [.data, .pinned], laidTests := true, laidLooks := .later }
def UrlencBackUptoCardSaid : Prop := Claim7.holds Tryd.pinned (.plain (OpenSpec.upto urlencBackSpec)) urlencBackUptoCard
end Rows
end Go.Proofs.YtepggnnikikijaaDoor
