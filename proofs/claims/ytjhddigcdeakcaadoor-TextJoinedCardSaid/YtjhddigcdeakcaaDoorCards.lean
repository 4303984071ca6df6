/-
  DERIVED. GIVEN WITH THE SEED: THE CARDS: each row of YtjhddigcdeakcaaDoorRows.lean that lists a variable, with what it lists TIED to the program's text (the seventh form; the later family's looks); each row that meets fmt, with fmt's text TOLD by the authors' own Lean function (tested against real Go, not proved from fmt's source: count such statements apart). THE CARD IS WHAT COUNTS. Prove the row's statement (the work); the ties are given (YtjhddigcdeakcaaDoorTie.lean); close each card by the builder's one call (the guide's Derived/Test/ToyasCard.lean, 'card_holds'). Laid BY PROGRAM, IN A SANDBOX (cutbox-door.mjs). By AI agents, Wed Nov 11 2026. No macro, syntax, notation, axiom, sorry.
-/
import Derived.Test.YtjhddigcdeakcaaDoorRows
import GoSem.ClaimSeven
namespace Go.Proofs.YtjhddigcdeakcaaDoor
namespace Rows

/-- THE TIED CARD OF 'counterfoillaw01.TextValid'. -/
def textValidCard : Claim7 := { stood := { row := textValidRow, standIns := [], harness := (true, "34a5736da0c939803b17ee61820aa004b3264ed2d92dec6daba9119997286c37"), looks := false }, kinds := [], alts := [], laidByText := true, laidKinds := [.data, .pinned], laidTests := true, laidLooks := .later }
def TextValidCardSaid : Prop := Claim7.holds Tryd.pinned (.plain (OpenSpec.ofChange textValidSpec)) textValidCard

/-- THE TIED CARD OF 'counterfoillaw01.TextJoined'. -/
def textJoinedCard : Claim7 := { stood := { row := textJoinedRow, standIns := [], harness := (true, "34a5736da0c939803b17ee61820aa004b3264ed2d92dec6daba9119997286c37"), looks := false }, kinds := [], alts := [], laidByText := true, laidKinds := [.data, .pinned], laidTests := true, laidLooks := .later }
def TextJoinedCardSaid : Prop := Claim7.holds Tryd.pinned (.plain (OpenSpec.ofChange textJoinedSpec)) textJoinedCard

/-- THE TIED CARD OF 'counterfoillaw01.TextEnds'. -/
def textEndsCard : Claim7 := { stood := { row := textEndsRow, standIns := [], harness := (true, "34a5736da0c939803b17ee61820aa004b3264ed2d92dec6daba9119997286c37"), looks := false }, kinds := [], alts := [], laidByText := true, laidKinds := [.data, .pinned], laidTests := true, laidLooks := .later }
def TextEndsCardSaid : Prop := Claim7.holds Tryd.pinned (.plain (OpenSpec.ofChange textEndsSpec)) textEndsCard

/-- THE TIED CARD OF 'counterfoillaw01.TextAgain'. -/
def textAgainCard : Claim7 := { stood := { row := textAgainRow, standIns := [], harness := (true, "34a5736da0c939803b17ee61820aa004b3264ed2d92dec6daba9119997286c37"), looks := false }, kinds := [], alts := [], laidByText := true, laidKinds := [.data, .pinned], laidTests := true, laidLooks := .later }
def TextAgainCardSaid : Prop := Claim7.holds Tryd.pinned (.plain (OpenSpec.ofChange textAgainSpec)) textAgainCard

/-- THE TIED CARD OF 'counterfoillaw01.TextStrip'. -/
def textStripCard : Claim7 := { stood := { row := textStripRow, standIns := [], harness := (true, "34a5736da0c939803b17ee61820aa004b3264ed2d92dec6daba9119997286c37"), looks := false }, kinds := [], alts := [], laidByText := true, laidKinds := [.data, .pinned], laidTests := true, laidLooks := .later }
def TextStripCardSaid : Prop := Claim7.holds Tryd.pinned (.plain (OpenSpec.ofChange textStripSpec)) textStripCard

/-- THE TIED CARD OF 'counterfoillaw01.TextCollapse'. -/
def textCollapseCard : Claim7 := { stood := { row := textCollapseRow, standIns := [], harness := (true, "34a5736da0c939803b17ee61820aa004b3264ed2d92dec6daba9119997286c37"), looks := false }, kinds := [], alts := [], laidByText := true, laidKinds := [.data, .pinned], laidTests := true, laidLooks := .later }
def TextCollapseCardSaid : Prop := Claim7.holds Tryd.pinned (.plain (OpenSpec.ofChange textCollapseSpec)) textCollapseCard

/-- THE TIED CARD OF 'counterfoillaw02.EscapeJoins'. -/
def escapeJoinsCard : Claim7 := { stood := { row := escapeJoinsRow, standIns := [], harness := (true, "34a5736da0c939803b17ee61820aa004b3264ed2d92dec6daba9119997286c37"), looks := false }, kinds := [], alts := [], laidByText := true, laidKinds := [.data, .pinned], laidTests := true, laidLooks := .later }
def EscapeJoinsCardSaid : Prop := Claim7.holds Tryd.pinned (.plain (OpenSpec.ofChange escapeJoinsSpec)) escapeJoinsCard

/-- THE TIED CARD OF 'counterfoillaw02.EscapeForms'. -/
def escapeFormsCard : Claim7 := { stood := { row := escapeFormsRow, standIns := [], harness := (true, "34a5736da0c939803b17ee61820aa004b3264ed2d92dec6daba9119997286c37"), looks := false }, kinds := [], alts := [], laidByText := true, laidKinds := [.data, .pinned], laidTests := true, laidLooks := .later }
def EscapeFormsCardSaid : Prop := Claim7.holds Tryd.pinned (.plain (OpenSpec.ofChange escapeFormsSpec)) escapeFormsCard

/-- THE SECOND FORM's CARD OF 'counterfoillaw01.TextValid'. -/
def textValidUptoCard : Claim7 := { stood := { row := textValidUptoRow, standIns := [], harness := (true, "34a5736da0c939803b17ee61820aa004b3264ed2d92dec6daba9119997286c37"), looks := false }, kinds := [], alts := [], laidByText := true, laidKinds := [.data, .pinned], laidTests := true, laidLooks := .later }
def TextValidUptoCardSaid : Prop := Claim7.holds Tryd.pinned (.plain (OpenSpec.upto textValidSpec)) textValidUptoCard

/-- THE SECOND FORM's CARD OF 'counterfoillaw01.TextJoined'. -/
def textJoinedUptoCard : Claim7 := { stood := { row := textJoinedUptoRow, standIns := [], harness := (true, "34a5736da0c939803b17ee61820aa004b3264ed2d92dec6daba9119997286c37"), looks := false }, kinds := [], alts := [], laidByText := true, laidKinds := [.data, .pinned], laidTests := true, laidLooks := .later }
def TextJoinedUptoCardSaid : Prop := Claim7.holds Tryd.pinned (.plain (OpenSpec.upto textJoinedSpec)) textJoinedUptoCard

/-- THE SECOND FORM's CARD OF 'counterfoillaw01.TextEnds'. -/
def textEndsUptoCard : Claim7 := { stood := { row := textEndsUptoRow, standIns := [], harness := (true, "34a5736da0c939803b17ee61820aa004b3264ed2d92dec6daba9119997286c37"), looks := false }, kinds := [], alts := [], laidByText := true, laidKinds := [.data, .pinned], laidTests := true, laidLooks := .later }
def TextEndsUptoCardSaid : Prop := Claim7.holds Tryd.pinned (.plain (OpenSpec.upto textEndsSpec)) textEndsUptoCard

/-- THE SECOND FORM's CARD OF 'counterfoillaw01.TextAgain'. -/
def textAgainUptoCard : Claim7 := { stood := { row := textAgainUptoRow, standIns := [], harness := (true, "34a5736da0c939803b17ee61820aa004b3264ed2d92dec6daba9119997286c37"), looks := false }, kinds := [], alts := [], laidByText := true, laidKinds := [.data, .pinned], laidTests := true, laidLooks := .later }
def TextAgainUptoCardSaid : Prop := Claim7.holds Tryd.pinned (.plain (OpenSpec.upto textAgainSpec)) textAgainUptoCard

/-- THE SECOND FORM's CARD OF 'counterfoillaw01.TextStrip'. -/
def textStripUptoCard : Claim7 := { stood := { row := textStripUptoRow, standIns := [], harness := (true, "34a5736da0c939803b17ee61820aa004b3264ed2d92dec6daba9119997286c37"), looks := false }, kinds := [], alts := [], laidByText := true, laidKinds := [.data, .pinned], laidTests := true, laidLooks := .later }
def TextStripUptoCardSaid : Prop := Claim7.holds Tryd.pinned (.plain (OpenSpec.upto textStripSpec)) textStripUptoCard

/-- THE SECOND FORM's CARD OF 'counterfoillaw01.TextCollapse'. -/
def textCollapseUptoCard : Claim7 := { stood := { row := textCollapseUptoRow, standIns := [], harness := (true, "34a5736da0c939803b17ee61820aa004b3264ed2d92dec6daba9119997286c37"), looks := false }, kinds := [], alts := [], laidByText := true, laidKinds := [.data, .pinned], laidTests := true, laidLooks := .later }
def TextCollapseUptoCardSaid : Prop := Claim7.holds Tryd.pinned (.plain (OpenSpec.upto textCollapseSpec)) textCollapseUptoCard

/-- THE SECOND FORM's CARD OF 'counterfoillaw02.EscapeJoins'. -/
def escapeJoinsUptoCard : Claim7 := { stood := { row := escapeJoinsUptoRow, standIns := [], harness := (true, "34a5736da0c939803b17ee61820aa004b3264ed2d92dec6daba9119997286c37"), looks := false }, kinds := [], alts := [], laidByText := true, laidKinds := [.data, .pinned], laidTests := true, laidLooks := .later }
def EscapeJoinsUptoCardSaid : Prop := Claim7.holds Tryd.pinned (.plain (OpenSpec.upto escapeJoinsSpec)) escapeJoinsUptoCard

/-- THE SECOND FORM's CARD OF 'counterfoillaw02.EscapeForms'. -/
def escapeFormsUptoCard : Claim7 := { stood := { row := escapeFormsUptoRow, standIns := [], harness := (true, "34a5736da0c939803b17ee61820aa004b3264ed2d92dec6daba9119997286c37"), looks := false }, kinds := [], alts := [], laidByText := true, laidKinds := [.data, .pinned], laidTests := true, laidLooks := .later }
def EscapeFormsUptoCardSaid : Prop := Claim7.holds Tryd.pinned (.plain (OpenSpec.upto escapeFormsSpec)) escapeFormsUptoCard
end Rows
end Go.Proofs.YtjhddigcdeakcaaDoor
