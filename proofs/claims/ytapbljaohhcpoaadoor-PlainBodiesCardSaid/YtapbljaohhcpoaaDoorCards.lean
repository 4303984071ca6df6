/-
  DERIVED. GIVEN WITH THE SEED: THE CARDS: each row of YtapbljaohhcpoaaDoorRows.lean that lists a variable, with what it lists TIED to the program's text (the seventh form; the later family's looks); each row that meets fmt, with fmt's text TOLD by the authors' own Lean function (tested against real Go, not proved from fmt's source: count such statements apart). THE CARD IS WHAT COUNTS. Prove the row's statement (the work); the ties are given (YtapbljaohhcpoaaDoorTie.lean); close each card by the builder's one call (the guide's Derived/Test/ToyasCard.lean, 'card_holds'). Laid BY PROGRAM, IN A SANDBOX (cutbox-door.mjs). By AI agents, Wed Nov 11 2026. No macro, syntax, notation, axiom, sorry.
-/
import Derived.Test.YtapbljaohhcpoaaDoorRows
import GoSem.ClaimSeven
namespace Go.Proofs.YtapbljaohhcpoaaDoor
namespace Rows

/-- THE TIED CARD OF 'counterfoillaw20.PartsClear'. -/
def partsClearCard : Claim7 := { stood := { row := partsClearRow, standIns := [], harness := (true, "3bed60c08a3abde901860e07591ed850d1ffc4da598d0a8f933e83273d09be51"), looks := false }, kinds := [], alts := [], laidByText := true, laidKinds := [.data, .pinned], laidTests := true, laidLooks := .later }
def PartsClearCardSaid : Prop := Claim7.holds Tryd.pinned (.plain (OpenSpec.ofChange partsClearSpec)) partsClearCard

/-- THE TIED CARD OF 'counterfoillaw20.PartsEncodes'. -/
def partsEncodesCard : Claim7 := { stood := { row := partsEncodesRow, standIns := [], harness := (true, "3bed60c08a3abde901860e07591ed850d1ffc4da598d0a8f933e83273d09be51"), looks := false }, kinds := [], alts := [], laidByText := true, laidKinds := [.data, .pinned], laidTests := true, laidLooks := .later }
def PartsEncodesCardSaid : Prop := Claim7.holds Tryd.pinned (.plain (OpenSpec.ofChange partsEncodesSpec)) partsEncodesCard

/-- THE TIED CARD OF 'counterfoillaw21.PlainBodies'. -/
def plainBodiesCard : Claim7 := { stood := { row := plainBodiesRow, standIns := [], harness := (true, "3bed60c08a3abde901860e07591ed850d1ffc4da598d0a8f933e83273d09be51"), looks := false }, kinds := [], alts := [], laidByText := true, laidKinds := [.data, .pinned], laidTests := true, laidLooks := .later }
def PlainBodiesCardSaid : Prop := Claim7.holds Tryd.pinned (.plain (OpenSpec.ofChange plainBodiesSpec)) plainBodiesCard

/-- THE TIED CARD OF 'counterfoillaw20.PartsDecodes'. -/
def partsDecodesCard : Claim7 := { stood := { row := partsDecodesRow, standIns := [], harness := (true, "3bed60c08a3abde901860e07591ed850d1ffc4da598d0a8f933e83273d09be51"), looks := false }, kinds := [], alts := [], laidByText := true, laidKinds := [.data, .pinned], laidTests := true, laidLooks := .later }
def PartsDecodesCardSaid : Prop := Claim7.holds Tryd.pinned (.plain (OpenSpec.ofChange partsDecodesSpec)) partsDecodesCard

/-- THE TIED CARD OF 'counterfoillaw20.PartsBack'. -/
def partsBackCard : Claim7 := { stood := { row := partsBackRow, standIns := [], harness := (true, "3bed60c08a3abde901860e07591ed850d1ffc4da598d0a8f933e83273d09be51"), looks := false }, kinds := [], alts := [], laidByText := true, laidKinds := [.data, .pinned], laidTests := true, laidLooks := .later }
def PartsBackCardSaid : Prop := Claim7.holds Tryd.pinned (.plain (OpenSpec.ofChange partsBackSpec)) partsBackCard

/-- THE TIED CARD OF 'counterfoillaw20.PartsExact'. -/
def partsExactCard : Claim7 := { stood := { row := partsExactRow, standIns := [], harness := (true, "3bed60c08a3abde901860e07591ed850d1ffc4da598d0a8f933e83273d09be51"), looks := false }, kinds := [], alts := [], laidByText := true, laidKinds := [.data, .pinned], laidTests := true, laidLooks := .later }
def PartsExactCardSaid : Prop := Claim7.holds Tryd.pinned (.plain (OpenSpec.ofChange partsExactSpec)) partsExactCard

/-- THE SECOND FORM's CARD OF 'counterfoillaw20.PartsClear'. -/
def partsClearUptoCard : Claim7 := { stood := { row := partsClearUptoRow, standIns := [], harness := (true, "3bed60c08a3abde901860e07591ed850d1ffc4da598d0a8f933e83273d09be51"), looks := false }, kinds := [], alts := [], laidByText := true, laidKinds := [.data, .pinned], laidTests := true, laidLooks := .later }
def PartsClearUptoCardSaid : Prop := Claim7.holds Tryd.pinned (.plain (OpenSpec.upto partsClearSpec)) partsClearUptoCard

/-- THE SECOND FORM's CARD OF 'counterfoillaw20.PartsEncodes'. -/
def partsEncodesUptoCard : Claim7 := { stood := { row := partsEncodesUptoRow, standIns := [], harness := (true, "3bed60c08a3abde901860e07591ed850d1ffc4da598d0a8f933e83273d09be51"), looks := false }, kinds := [], alts := [], laidByText := true, laidKinds := [.data, .pinned], laidTests := true, laidLooks := .later }
def PartsEncodesUptoCardSaid : Prop := Claim7.holds Tryd.pinned (.plain (OpenSpec.upto partsEncodesSpec)) partsEncodesUptoCard

/-- THE SECOND FORM's CARD OF 'counterfoillaw21.PlainBodies'. -/
def plainBodiesUptoCard : Claim7 := { stood := { row := plainBodiesUptoRow, standIns := [], harness := (true, "3bed60c08a3abde901860e07591ed850d1ffc4da598d0a8f933e83273d09be51"), looks := false }, kinds := [], alts := [], laidByText := true, laidKinds := [.data, .pinned], laidTests := true, laidLooks := .later }
def PlainBodiesUptoCardSaid : Prop := Claim7.holds Tryd.pinned (.plain (OpenSpec.upto plainBodiesSpec)) plainBodiesUptoCard

/-- THE SECOND FORM's CARD OF 'counterfoillaw20.PartsDecodes'. -/
def partsDecodesUptoCard : Claim7 := { stood := { row := partsDecodesUptoRow, standIns := [], harness := (true, "3bed60c08a3abde901860e07591ed850d1ffc4da598d0a8f933e83273d09be51"), looks := false }, kinds := [], alts := [], laidByText := true, laidKinds := [.data, .pinned], laidTests := true, laidLooks := .later }
def PartsDecodesUptoCardSaid : Prop := Claim7.holds Tryd.pinned (.plain (OpenSpec.upto partsDecodesSpec)) partsDecodesUptoCard

/-- THE SECOND FORM's CARD OF 'counterfoillaw20.PartsBack'. -/
def partsBackUptoCard : Claim7 := { stood := { row := partsBackUptoRow, standIns := [], harness := (true, "3bed60c08a3abde901860e07591ed850d1ffc4da598d0a8f933e83273d09be51"), looks := false }, kinds := [], alts := [], laidByText := true, laidKinds := [.data, .pinned], laidTests := true, laidLooks := .later }
def PartsBackUptoCardSaid : Prop := Claim7.holds Tryd.pinned (.plain (OpenSpec.upto partsBackSpec)) partsBackUptoCard

/-- THE SECOND FORM's CARD OF 'counterfoillaw20.PartsExact'. -/
def partsExactUptoCard : Claim7 := { stood := { row := partsExactUptoRow, standIns := [], harness := (true, "3bed60c08a3abde901860e07591ed850d1ffc4da598d0a8f933e83273d09be51"), looks := false }, kinds := [], alts := [], laidByText := true, laidKinds := [.data, .pinned], laidTests := true, laidLooks := .later }
def PartsExactUptoCardSaid : Prop := Claim7.holds Tryd.pinned (.plain (OpenSpec.upto partsExactSpec)) partsExactUptoCard
end Rows
end Go.Proofs.YtapbljaohhcpoaaDoor
