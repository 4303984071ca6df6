/-
  DERIVED. GIVEN WITH THE SEED: THE CARDS: each row of YtafbghlldlconaaGreatDoorRows.lean that lists a variable, with what it lists TIED to the program's text (the seventh form; the later family's looks); each row that meets fmt, with fmt's text TOLD by the authors' own Lean function (tested against real Go, not proved from fmt's source: count such statements apart). THE CARD IS WHAT COUNTS. Prove the row's statement (the work); the ties are given (YtafbghlldlconaaGreatDoorTie.lean); close each card by the builder's one call (the guide's Derived/Test/ToyasCard.lean, 'card_holds'). Laid BY PROGRAM, IN A SANDBOX (cutbox-door.mjs). By AI agents, Wed Nov 11 2026. No macro, syntax, notation, axiom, sorry.
-/
import Derived.Test.YtafbghlldlconaaGreatDoorRows
import GoSem.ClaimSeven
namespace Go.Proofs.YtafbghlldlconaaGreatDoor
namespace Rows

/-- THE TIED CARD OF 'counterfoillaw24.SubmitMakes'. -/
def submitMakesCard : Claim7 := { stood := { row := submitMakesRow, standIns := [], harness := (true, "346cfdb30f48ca3cbf7d327bf7d8c6afeaff9fa598e8d0ab30c506ea8835bc04"), looks := false }, kinds := [], alts := [], laidByText := true, laidKinds := [.data, .pinned], laidTests := true, laidLooks := .later }
def SubmitMakesCardSaid : Prop := Claim7.holds Tryz.pinned (.plain (OpenSpec.ofChange submitMakesSpec)) submitMakesCard

/-- THE TIED CARD OF 'counterfoillaw24.SubmitBack'. -/
def submitBackCard : Claim7 := { stood := { row := submitBackRow, standIns := [], harness := (true, "346cfdb30f48ca3cbf7d327bf7d8c6afeaff9fa598e8d0ab30c506ea8835bc04"), looks := false }, kinds := [], alts := [], laidByText := true, laidKinds := [.data, .pinned], laidTests := true, laidLooks := .later }
def SubmitBackCardSaid : Prop := Claim7.holds Tryz.pinned (.plain (OpenSpec.ofChange submitBackSpec)) submitBackCard

/-- THE SECOND FORM's CARD OF 'counterfoillaw24.SubmitMakes'. -/
def submitMakesUptoCard : Claim7 := { stood := { row := submitMakesUptoRow, standIns := [], harness := (true, "346cfdb30f48ca3cbf7d327bf7d8c6afeaff9fa598e8d0ab30c506ea8835bc04"), looks := false }, kinds := [], alts := [], laidByText := true, laidKinds := [.data, .pinned], laidTests := true, laidLooks := .later }
def SubmitMakesUptoCardSaid : Prop := Claim7.holds Tryz.pinned (.plain (OpenSpec.upto submitMakesSpec)) submitMakesUptoCard

/-- THE SECOND FORM's CARD OF 'counterfoillaw24.SubmitBack'. -/
def submitBackUptoCard : Claim7 := { stood := { row := submitBackUptoRow, standIns := [], harness := (true, "346cfdb30f48ca3cbf7d327bf7d8c6afeaff9fa598e8d0ab30c506ea8835bc04"), looks := false }, kinds := [], alts := [], laidByText := true, laidKinds := [.data, .pinned], laidTests := true, laidLooks := .later }
def SubmitBackUptoCardSaid : Prop := Claim7.holds Tryz.pinned (.plain (OpenSpec.upto submitBackSpec)) submitBackUptoCard
end Rows
end Go.Proofs.YtafbghlldlconaaGreatDoor
