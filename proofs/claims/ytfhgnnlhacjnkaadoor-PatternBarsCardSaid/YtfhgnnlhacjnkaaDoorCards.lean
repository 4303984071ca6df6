/-
  DERIVED. GIVEN WITH THE SEED: THE CARDS: each row of YtfhgnnlhacjnkaaDoorRows.lean that lists a variable, with what it lists TIED to the program's text (the seventh form; the later family's looks); each row that meets fmt, with fmt's text TOLD by the authors' own Lean function (tested against real Go, not proved from fmt's source: count such statements apart). THE CARD IS WHAT COUNTS. Prove the row's statement (the work); the ties are given (YtfhgnnlhacjnkaaDoorTie.lean); close each card by the builder's one call (the guide's Derived/Test/ToyasCard.lean, 'card_holds'). Laid BY PROGRAM, IN A SANDBOX (cutbox-door.mjs). By AI agents, Wed Nov 11 2026. No macro, syntax, notation, axiom, sorry.
-/
import Derived.Test.YtfhgnnlhacjnkaaDoorRows
import GoSem.ClaimSeven
namespace Go.Proofs.YtfhgnnlhacjnkaaDoor
namespace Rows

/-- THE TIED CARD OF 'counterfoillaw09.PatternRight'. -/
def patternRightCard : Claim7 := { stood := { row := patternRightRow, standIns := [], harness := (true, "d2d8d045427569285131a4e503db69fb992fd9522910ec9d498cea6ad3541511"), looks := true }, kinds := [], alts := [], laidByText := true, laidKinds := [.data, .pinned], laidTests := true, laidLooks := .later }
def PatternRightCardSaid : Prop := Claim7.holds Tryd.pinned (.plain (OpenSpec.ofChange patternRightSpec)) patternRightCard

/-- THE TIED CARD OF 'counterfoillaw09.PatternFits'. -/
def patternFitsCard : Claim7 := { stood := { row := patternFitsRow, standIns := [], harness := (true, "d2d8d045427569285131a4e503db69fb992fd9522910ec9d498cea6ad3541511"), looks := true }, kinds := [], alts := [], laidByText := true, laidKinds := [.data, .pinned], laidTests := true, laidLooks := .later }
def PatternFitsCardSaid : Prop := Claim7.holds Tryd.pinned (.plain (OpenSpec.ofChange patternFitsSpec)) patternFitsCard

/-- THE TIED CARD OF 'counterfoillaw09.PatternBars'. -/
def patternBarsCard : Claim7 := { stood := { row := patternBarsRow, standIns := [], harness := (true, "d2d8d045427569285131a4e503db69fb992fd9522910ec9d498cea6ad3541511"), looks := true }, kinds := [], alts := [], laidByText := true, laidKinds := [.data, .pinned], laidTests := true, laidLooks := .later }
def PatternBarsCardSaid : Prop := Claim7.holds Tryd.pinned (.plain (OpenSpec.ofChange patternBarsSpec)) patternBarsCard

/-- THE TIED CARD OF 'counterfoillaw09.PatternGroups'. -/
def patternGroupsCard : Claim7 := { stood := { row := patternGroupsRow, standIns := [], harness := (true, "d2d8d045427569285131a4e503db69fb992fd9522910ec9d498cea6ad3541511"), looks := true }, kinds := [], alts := [], laidByText := true, laidKinds := [.data, .pinned], laidTests := true, laidLooks := .later }
def PatternGroupsCardSaid : Prop := Claim7.holds Tryd.pinned (.plain (OpenSpec.ofChange patternGroupsSpec)) patternGroupsCard

/-- THE TIED CARD OF 'counterfoillaw09.PatternPlain'. -/
def patternPlainCard : Claim7 := { stood := { row := patternPlainRow, standIns := [], harness := (true, "d2d8d045427569285131a4e503db69fb992fd9522910ec9d498cea6ad3541511"), looks := true }, kinds := [], alts := [], laidByText := true, laidKinds := [.data, .pinned], laidTests := true, laidLooks := .later }
def PatternPlainCardSaid : Prop := Claim7.holds Tryd.pinned (.plain (OpenSpec.ofChange patternPlainSpec)) patternPlainCard

/-- THE SECOND FORM's CARD OF 'counterfoillaw09.PatternRight'. -/
def patternRightUptoCard : Claim7 := { stood := { row := patternRightUptoRow, standIns := [], harness := (true, "d2d8d045427569285131a4e503db69fb992fd9522910ec9d498cea6ad3541511"), looks := true }, kinds := [], alts := [], laidByText := true, laidKinds := [.data, .pinned], laidTests := true, laidLooks := .later }
def PatternRightUptoCardSaid : Prop := Claim7.holds Tryd.pinned (.plain (OpenSpec.upto patternRightSpec)) patternRightUptoCard

/-- THE SECOND FORM's CARD OF 'counterfoillaw09.PatternFits'. -/
def patternFitsUptoCard : Claim7 := { stood := { row := patternFitsUptoRow, standIns := [], harness := (true, "d2d8d045427569285131a4e503db69fb992fd9522910ec9d498cea6ad3541511"), looks := true }, kinds := [], alts := [], laidByText := true, laidKinds := [.data, .pinned], laidTests := true, laidLooks := .later }
def PatternFitsUptoCardSaid : Prop := Claim7.holds Tryd.pinned (.plain (OpenSpec.upto patternFitsSpec)) patternFitsUptoCard

/-- THE SECOND FORM's CARD OF 'counterfoillaw09.PatternBars'. -/
def patternBarsUptoCard : Claim7 := { stood := { row := patternBarsUptoRow, standIns := [], harness := (true, "d2d8d045427569285131a4e503db69fb992fd9522910ec9d498cea6ad3541511"), looks := true }, kinds := [], alts := [], laidByText := true, laidKinds := [.data, .pinned], laidTests := true, laidLooks := .later }
def PatternBarsUptoCardSaid : Prop := Claim7.holds Tryd.pinned (.plain (OpenSpec.upto patternBarsSpec)) patternBarsUptoCard

/-- THE SECOND FORM's CARD OF 'counterfoillaw09.PatternGroups'. -/
def patternGroupsUptoCard : Claim7 := { stood := { row := patternGroupsUptoRow, standIns := [], harness := (true, "d2d8d045427569285131a4e503db69fb992fd9522910ec9d498cea6ad3541511"), looks := true }, kinds := [], alts := [], laidByText := true, laidKinds := [.data, .pinned], laidTests := true, laidLooks := .later }
def PatternGroupsUptoCardSaid : Prop := Claim7.holds Tryd.pinned (.plain (OpenSpec.upto patternGroupsSpec)) patternGroupsUptoCard

/-- THE SECOND FORM's CARD OF 'counterfoillaw09.PatternPlain'. -/
def patternPlainUptoCard : Claim7 := { stood := { row := patternPlainUptoRow, standIns := [], harness := (true, "d2d8d045427569285131a4e503db69fb992fd9522910ec9d498cea6ad3541511"), looks := true }, kinds := [], alts := [], laidByText := true, laidKinds := [.data, .pinned], laidTests := true, laidLooks := .later }
def PatternPlainUptoCardSaid : Prop := Claim7.holds Tryd.pinned (.plain (OpenSpec.upto patternPlainSpec)) patternPlainUptoCard
end Rows
end Go.Proofs.YtfhgnnlhacjnkaaDoor
