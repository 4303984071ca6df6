/-
  DERIVED. GIVEN WITH THE SEED: THE CARDS: each row of YtiflaniobnjlpaaDoorRows.lean that lists a variable, with what it lists TIED to the program's text (the seventh form; the later family's looks); each row that meets fmt, with fmt's text TOLD by the authors' own Lean function (tested against real Go, not proved from fmt's source: count such statements apart). THE CARD IS WHAT COUNTS. Prove the row's statement (the work); the ties are given (YtiflaniobnjlpaaDoorTie.lean); close each card by the builder's one call (the guide's Derived/Test/ToyasCard.lean, 'card_holds'). Laid BY PROGRAM, IN A SANDBOX (cutbox-door.mjs). By AI agents, Wed Nov 11 2026. No macro, syntax, notation, axiom, sorry.
-/
import Derived.Test.YtiflaniobnjlpaaDoorRows
import GoSem.ClaimSeven
namespace Go.Proofs.YtiflaniobnjlpaaDoor
namespace Rows

/-- THE TIED CARD OF 'counterfoillaw07.MailAddress'. -/
def mailAddressCard : Claim7 := { stood := { row := mailAddressRow, standIns := [], harness := (true, "fec10f3b90bcd564fb0a6b77626da0389e004324ac0b1312c301238f3a3e4023"), looks := false }, kinds := [], alts := [], laidByText := true, laidKinds := [.data, .pinned], laidTests := true, laidLooks := .later }
def MailAddressCardSaid : Prop := Claim7.holds Tryd.pinned (.plain (OpenSpec.ofChange mailAddressSpec)) mailAddressCard

/-- THE TIED CARD OF 'counterfoillaw07.MailParts'. -/
def mailPartsCard : Claim7 := { stood := { row := mailPartsRow, standIns := [], harness := (true, "fec10f3b90bcd564fb0a6b77626da0389e004324ac0b1312c301238f3a3e4023"), looks := false }, kinds := [], alts := [], laidByText := true, laidKinds := [.data, .pinned], laidTests := true, laidLooks := .later }
def MailPartsCardSaid : Prop := Claim7.holds Tryd.pinned (.plain (OpenSpec.ofChange mailPartsSpec)) mailPartsCard

/-- THE TIED CARD OF 'counterfoillaw06.ColourCleans'. -/
def colourCleansCard : Claim7 := { stood := { row := colourCleansRow, standIns := [], harness := (true, "fec10f3b90bcd564fb0a6b77626da0389e004324ac0b1312c301238f3a3e4023"), looks := false }, kinds := [], alts := [], laidByText := true, laidKinds := [.data, .pinned], laidTests := true, laidLooks := .later }
def ColourCleansCardSaid : Prop := Claim7.holds Tryd.pinned (.plain (OpenSpec.ofChange colourCleansSpec)) colourCleansCard

/-- THE TIED CARD OF 'counterfoillaw06.ColourParts'. -/
def colourPartsCard : Claim7 := { stood := { row := colourPartsRow, standIns := [], harness := (true, "fec10f3b90bcd564fb0a6b77626da0389e004324ac0b1312c301238f3a3e4023"), looks := false }, kinds := [], alts := [], laidByText := true, laidKinds := [.data, .pinned], laidTests := true, laidLooks := .later }
def ColourPartsCardSaid : Prop := Claim7.holds Tryd.pinned (.plain (OpenSpec.ofChange colourPartsSpec)) colourPartsCard

/-- THE TIED CARD OF 'counterfoillaw06.ColourShows'. -/
def colourShowsCard : Claim7 := { stood := { row := colourShowsRow, standIns := [], harness := (true, "fec10f3b90bcd564fb0a6b77626da0389e004324ac0b1312c301238f3a3e4023"), looks := false }, kinds := [], alts := [], laidByText := true, laidKinds := [.data, .pinned], laidTests := true, laidLooks := .later }
def ColourShowsCardSaid : Prop := Claim7.holds Tryd.pinned (.plain (OpenSpec.ofChange colourShowsSpec)) colourShowsCard

/-- THE TIED CARD OF 'counterfoillaw07.MailLists'. -/
def mailListsCard : Claim7 := { stood := { row := mailListsRow, standIns := [], harness := (true, "fec10f3b90bcd564fb0a6b77626da0389e004324ac0b1312c301238f3a3e4023"), looks := false }, kinds := [], alts := [], laidByText := true, laidKinds := [.data, .pinned], laidTests := true, laidLooks := .later }
def MailListsCardSaid : Prop := Claim7.holds Tryd.pinned (.plain (OpenSpec.ofChange mailListsSpec)) mailListsCard

/-- THE TIED CARD OF 'counterfoillaw07.MailCleans'. -/
def mailCleansCard : Claim7 := { stood := { row := mailCleansRow, standIns := [], harness := (true, "fec10f3b90bcd564fb0a6b77626da0389e004324ac0b1312c301238f3a3e4023"), looks := false }, kinds := [], alts := [], laidByText := true, laidKinds := [.data, .pinned], laidTests := true, laidLooks := .later }
def MailCleansCardSaid : Prop := Claim7.holds Tryd.pinned (.plain (OpenSpec.ofChange mailCleansSpec)) mailCleansCard

/-- THE SECOND FORM's CARD OF 'counterfoillaw07.MailAddress'. -/
def mailAddressUptoCard : Claim7 := { stood := { row := mailAddressUptoRow, standIns := [], harness := (true, "fec10f3b90bcd564fb0a6b77626da0389e004324ac0b1312c301238f3a3e4023"), looks := false }, kinds := [], alts := [], laidByText := true, laidKinds := [.data, .pinned], laidTests := true, laidLooks := .later }
def MailAddressUptoCardSaid : Prop := Claim7.holds Tryd.pinned (.plain (OpenSpec.upto mailAddressSpec)) mailAddressUptoCard

/-- THE SECOND FORM's CARD OF 'counterfoillaw07.MailParts'. -/
def mailPartsUptoCard : Claim7 := { stood := { row := mailPartsUptoRow, standIns := [], harness := (true, "fec10f3b90bcd564fb0a6b77626da0389e004324ac0b1312c301238f3a3e4023"), looks := false }, kinds := [], alts := [], laidByText := true, laidKinds := [.data, .pinned], laidTests := true, laidLooks := .later }
def MailPartsUptoCardSaid : Prop := Claim7.holds Tryd.pinned (.plain (OpenSpec.upto mailPartsSpec)) mailPartsUptoCard

/-- THE SECOND FORM's CARD OF 'counterfoillaw06.ColourCleans'. -/
def colourCleansUptoCard : Claim7 := { stood := { row := colourCleansUptoRow, standIns := [], harness := (true, "fec10f3b90bcd564fb0a6b77626da0389e004324ac0b1312c301238f3a3e4023"), looks := false }, kinds := [], alts := [], laidByText := true, laidKinds := [.data, .pinned], laidTests := true, laidLooks := .later }
def ColourCleansUptoCardSaid : Prop := Claim7.holds Tryd.pinned (.plain (OpenSpec.upto colourCleansSpec)) colourCleansUptoCard

/-- THE SECOND FORM's CARD OF 'counterfoillaw06.ColourParts'. -/
def colourPartsUptoCard : Claim7 := { stood := { row := colourPartsUptoRow, standIns := [], harness := (true, "fec10f3b90bcd564fb0a6b77626da0389e004324ac0b1312c301238f3a3e4023"), looks := false }, kinds := [], alts := [], laidByText := true, laidKinds := [.data, .pinned], laidTests := true, laidLooks := .later }
def ColourPartsUptoCardSaid : Prop := Claim7.holds Tryd.pinned (.plain (OpenSpec.upto colourPartsSpec)) colourPartsUptoCard

/-- THE SECOND FORM's CARD OF 'counterfoillaw06.ColourShows'. -/
def colourShowsUptoCard : Claim7 := { stood := { row := colourShowsUptoRow, standIns := [], harness := (true, "fec10f3b90bcd564fb0a6b77626da0389e004324ac0b1312c301238f3a3e4023"), looks := false }, kinds := [], alts := [], laidByText := true, laidKinds := [.data, .pinned], laidTests := true, laidLooks := .later }
def ColourShowsUptoCardSaid : Prop := Claim7.holds Tryd.pinned (.plain (OpenSpec.upto colourShowsSpec)) colourShowsUptoCard

/-- THE SECOND FORM's CARD OF 'counterfoillaw07.MailLists'. -/
def mailListsUptoCard : Claim7 := { stood := { row := mailListsUptoRow, standIns := [], harness := (true, "fec10f3b90bcd564fb0a6b77626da0389e004324ac0b1312c301238f3a3e4023"), looks := false }, kinds := [], alts := [], laidByText := true, laidKinds := [.data, .pinned], laidTests := true, laidLooks := .later }
def MailListsUptoCardSaid : Prop := Claim7.holds Tryd.pinned (.plain (OpenSpec.upto mailListsSpec)) mailListsUptoCard

/-- THE SECOND FORM's CARD OF 'counterfoillaw07.MailCleans'. -/
def mailCleansUptoCard : Claim7 := { stood := { row := mailCleansUptoRow, standIns := [], harness := (true, "fec10f3b90bcd564fb0a6b77626da0389e004324ac0b1312c301238f3a3e4023"), looks := false }, kinds := [], alts := [], laidByText := true, laidKinds := [.data, .pinned], laidTests := true, laidLooks := .later }
def MailCleansUptoCardSaid : Prop := Claim7.holds Tryd.pinned (.plain (OpenSpec.upto mailCleansSpec)) mailCleansUptoCard
end Rows
end Go.Proofs.YtiflaniobnjlpaaDoor
