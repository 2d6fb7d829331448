/-
  DERIVED. GIVEN WITH THE SEED: THE CARDS: each row of YtmjnlbjnmmmlmaaDoorRows.lean that lists a variable, with what it lists TIED to the program's text (the seventh form; the later family's looks); each row that meets fmt, with fmt's text TOLD by the authors' own Lean function (tested against real Go, not proved from fmt's source: count such statements apart). THE CARD IS WHAT COUNTS. Prove the row's statement (the work); the ties are given (YtmjnlbjnmmmlmaaDoorTie.lean); close each card by the builder's one call (the guide's Derived/Test/ToyasCard.lean, 'card_holds'). Laid BY PROGRAM, IN A SANDBOX (cutbox-door.mjs). By AI agents, Wed Nov 11 2026. No macro, syntax, notation, axiom, sorry.
-/
import Derived.Test.YtmjnlbjnmmmlmaaDoorRows
import GoSem.ClaimSeven
namespace Go.Proofs.YtmjnlbjnmmmlmaaDoor
namespace Rows

/-- THE TIED CARD OF 'missivelaw06.RunesNames'. -/
def runesNamesCard : Claim7 := { stood := { row := runesNamesRow, standIns := [], harness := (true, "a572759c75c8ff0b2ba3f50acfa61b6493f9d42a256e151af885faa376ccef39"), looks := false }, kinds := [], alts := [], laidByText := true, laidKinds := [.data, .data, .pinned], laidTests := true, laidLooks := .later }
def RunesNamesCardSaid : Prop := Claim7.holds Tryd.pinned (.plain (OpenSpec.ofChange runesNamesSpec)) runesNamesCard

/-- THE TIED CARD OF 'missivelaw06.RunesDecodes'. -/
def runesDecodesCard : Claim7 := { stood := { row := runesDecodesRow, standIns := [], harness := (true, "a572759c75c8ff0b2ba3f50acfa61b6493f9d42a256e151af885faa376ccef39"), looks := false }, kinds := [], alts := [], laidByText := true, laidKinds := [.data, .data, .pinned], laidTests := true, laidLooks := .later }
def RunesDecodesCardSaid : Prop := Claim7.holds Tryd.pinned (.plain (OpenSpec.ofChange runesDecodesSpec)) runesDecodesCard

/-- THE TIED CARD OF 'missivelaw06.RunesEncodes'. -/
def runesEncodesCard : Claim7 := { stood := { row := runesEncodesRow, standIns := [], harness := (true, "a572759c75c8ff0b2ba3f50acfa61b6493f9d42a256e151af885faa376ccef39"), looks := false }, kinds := [], alts := [], laidByText := true, laidKinds := [.data, .data, .pinned], laidTests := true, laidLooks := .later }
def RunesEncodesCardSaid : Prop := Claim7.holds Tryd.pinned (.plain (OpenSpec.ofChange runesEncodesSpec)) runesEncodesCard

/-- THE TIED CARD OF 'missivelaw06.RunesBack'. -/
def runesBackCard : Claim7 := { stood := { row := runesBackRow, standIns := [], harness := (true, "a572759c75c8ff0b2ba3f50acfa61b6493f9d42a256e151af885faa376ccef39"), looks := false }, kinds := [], alts := [], laidByText := true, laidKinds := [.data, .data, .pinned], laidTests := true, laidLooks := .later }
def RunesBackCardSaid : Prop := Claim7.holds Tryd.pinned (.plain (OpenSpec.ofChange runesBackSpec)) runesBackCard

/-- THE TIED CARD OF 'missivelaw06.RunesAlways'. -/
def runesAlwaysCard : Claim7 := { stood := { row := runesAlwaysRow, standIns := [], harness := (true, "a572759c75c8ff0b2ba3f50acfa61b6493f9d42a256e151af885faa376ccef39"), looks := false }, kinds := [], alts := [], laidByText := true, laidKinds := [.data, .data, .pinned], laidTests := true, laidLooks := .later }
def RunesAlwaysCardSaid : Prop := Claim7.holds Tryd.pinned (.plain (OpenSpec.ofChange runesAlwaysSpec)) runesAlwaysCard

/-- THE TIED CARD OF 'missivelaw06.RunesParts'. -/
def runesPartsCard : Claim7 := { stood := { row := runesPartsRow, standIns := [], harness := (true, "a572759c75c8ff0b2ba3f50acfa61b6493f9d42a256e151af885faa376ccef39"), looks := false }, kinds := [], alts := [], laidByText := true, laidKinds := [.data, .data, .pinned], laidTests := true, laidLooks := .later }
def RunesPartsCardSaid : Prop := Claim7.holds Tryd.pinned (.plain (OpenSpec.ofChange runesPartsSpec)) runesPartsCard

/-- THE SECOND FORM's CARD OF 'missivelaw06.RunesNames'. -/
def runesNamesUptoCard : Claim7 := { stood := { row := runesNamesUptoRow, standIns := [], harness := (true, "a572759c75c8ff0b2ba3f50acfa61b6493f9d42a256e151af885faa376ccef39"), looks := false }, kinds := [], alts := [], laidByText := true, laidKinds := [.data, .data, .pinned], laidTests := true, laidLooks := .later }
def RunesNamesUptoCardSaid : Prop := Claim7.holds Tryd.pinned (.plain (OpenSpec.upto runesNamesSpec)) runesNamesUptoCard

/-- THE SECOND FORM's CARD OF 'missivelaw06.RunesDecodes'. -/
def runesDecodesUptoCard : Claim7 := { stood := { row := runesDecodesUptoRow, standIns := [], harness := (true, "a572759c75c8ff0b2ba3f50acfa61b6493f9d42a256e151af885faa376ccef39"), looks := false }, kinds := [], alts := [], laidByText := true, laidKinds := [.data, .data, .pinned], laidTests := true, laidLooks := .later }
def RunesDecodesUptoCardSaid : Prop := Claim7.holds Tryd.pinned (.plain (OpenSpec.upto runesDecodesSpec)) runesDecodesUptoCard

/-- THE SECOND FORM's CARD OF 'missivelaw06.RunesEncodes'. -/
def runesEncodesUptoCard : Claim7 := { stood := { row := runesEncodesUptoRow, standIns := [], harness := (true, "a572759c75c8ff0b2ba3f50acfa61b6493f9d42a256e151af885faa376ccef39"), looks := false }, kinds := [], alts := [], laidByText := true, laidKinds := [.data, .data, .pinned], laidTests := true, laidLooks := .later }
def RunesEncodesUptoCardSaid : Prop := Claim7.holds Tryd.pinned (.plain (OpenSpec.upto runesEncodesSpec)) runesEncodesUptoCard

/-- THE SECOND FORM's CARD OF 'missivelaw06.RunesBack'. -/
def runesBackUptoCard : Claim7 := { stood := { row := runesBackUptoRow, standIns := [], harness := (true, "a572759c75c8ff0b2ba3f50acfa61b6493f9d42a256e151af885faa376ccef39"), looks := false }, kinds := [], alts := [], laidByText := true, laidKinds := [.data, .data, .pinned], laidTests := true, laidLooks := .later }
def RunesBackUptoCardSaid : Prop := Claim7.holds Tryd.pinned (.plain (OpenSpec.upto runesBackSpec)) runesBackUptoCard

/-- THE SECOND FORM's CARD OF 'missivelaw06.RunesAlways'. -/
def runesAlwaysUptoCard : Claim7 := { stood := { row := runesAlwaysUptoRow, standIns := [], harness := (true, "a572759c75c8ff0b2ba3f50acfa61b6493f9d42a256e151af885faa376ccef39"), looks := false }, kinds := [], alts := [], laidByText := true, laidKinds := [.data, .data, .pinned], laidTests := true, laidLooks := .later }
def RunesAlwaysUptoCardSaid : Prop := Claim7.holds Tryd.pinned (.plain (OpenSpec.upto runesAlwaysSpec)) runesAlwaysUptoCard

/-- THE SECOND FORM's CARD OF 'missivelaw06.RunesParts'. -/
def runesPartsUptoCard : Claim7 := { stood := { row := runesPartsUptoRow, standIns := [], harness := (true, "a572759c75c8ff0b2ba3f50acfa61b6493f9d42a256e151af885faa376ccef39"), looks := false }, kinds := [], alts := [], laidByText := true, laidKinds := [.data, .data, .pinned], laidTests := true, laidLooks := .later }
def RunesPartsUptoCardSaid : Prop := Claim7.holds Tryd.pinned (.plain (OpenSpec.upto runesPartsSpec)) runesPartsUptoCard
end Rows
end Go.Proofs.YtmjnlbjnmmmlmaaDoor
