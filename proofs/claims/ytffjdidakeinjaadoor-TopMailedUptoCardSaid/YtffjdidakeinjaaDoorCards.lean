/-
  DERIVED. GIVEN WITH THE SEED: THE CARDS: each row of YtffjdidakeinjaaDoorRows.lean that lists a variable, with what it lists TIED to the program's text (the seventh form; the later family's looks); each row that meets fmt, with fmt's text TOLD by the authors' own Lean function (tested against real Go, not proved from fmt's source: count such statements apart). THE CARD IS WHAT COUNTS. Prove the row's statement (the work); the ties are given (YtffjdidakeinjaaDoorTie.lean); close each card by the builder's one call (the guide's Derived/Test/ToyasCard.lean, 'card_holds'). Laid BY PROGRAM, IN A SANDBOX (cutbox-door.mjs). By AI agents, Wed Nov 11 2026. No macro, syntax, notation, axiom, sorry.
-/
import Derived.Test.YtffjdidakeinjaaDoorRows
import GoSem.ClaimSeven
namespace Go.Proofs.YtffjdidakeinjaaDoor
namespace Rows

/-- THE TIED CARD OF 'missivelaw05.EncBase'. -/
def encBaseCard : Claim7 := { stood := { row := encBaseRow, standIns := [], harness := (true, "f4f7fbd2bb17bb50ab14990b9853c406a7d15442f2706f9ce3b13a6b925a4c03"), looks := false }, kinds := [], alts := [], laidByText := true, laidKinds := [.data, .pinned], laidTests := true, laidLooks := .later }
def EncBaseCardSaid : Prop := Claim7.holds Tryd.pinned (.plain (OpenSpec.ofChange encBaseSpec)) encBaseCard

/-- THE TIED CARD OF 'missivelaw05.EncQuoted'. -/
def encQuotedCard : Claim7 := { stood := { row := encQuotedRow, standIns := [], harness := (true, "f4f7fbd2bb17bb50ab14990b9853c406a7d15442f2706f9ce3b13a6b925a4c03"), looks := false }, kinds := [], alts := [], laidByText := true, laidKinds := [.data, .pinned], laidTests := true, laidLooks := .later }
def EncQuotedCardSaid : Prop := Claim7.holds Tryd.pinned (.plain (OpenSpec.ofChange encQuotedSpec)) encQuotedCard

/-- THE TIED CARD OF 'missivelaw05.EncBack'. -/
def encBackCard : Claim7 := { stood := { row := encBackRow, standIns := [], harness := (true, "f4f7fbd2bb17bb50ab14990b9853c406a7d15442f2706f9ce3b13a6b925a4c03"), looks := false }, kinds := [], alts := [], laidByText := true, laidKinds := [.data, .pinned], laidTests := true, laidLooks := .later }
def EncBackCardSaid : Prop := Claim7.holds Tryd.pinned (.plain (OpenSpec.ofChange encBackSpec)) encBackCard

/-- THE TIED CARD OF 'missivelaw05.EncFewer'. -/
def encFewerCard : Claim7 := { stood := { row := encFewerRow, standIns := [], harness := (true, "f4f7fbd2bb17bb50ab14990b9853c406a7d15442f2706f9ce3b13a6b925a4c03"), looks := false }, kinds := [], alts := [], laidByText := true, laidKinds := [.data, .pinned], laidTests := true, laidLooks := .later }
def EncFewerCardSaid : Prop := Claim7.holds Tryd.pinned (.plain (OpenSpec.ofChange encFewerSpec)) encFewerCard

/-- THE TIED CARD OF 'missivelaw05.EncParts'. -/
def encPartsCard : Claim7 := { stood := { row := encPartsRow, standIns := [], harness := (true, "f4f7fbd2bb17bb50ab14990b9853c406a7d15442f2706f9ce3b13a6b925a4c03"), looks := false }, kinds := [], alts := [], laidByText := true, laidKinds := [.data, .pinned], laidTests := true, laidLooks := .later }
def EncPartsCardSaid : Prop := Claim7.holds Tryd.pinned (.plain (OpenSpec.ofChange encPartsSpec)) encPartsCard

/-- THE TIED CARD OF 'missivetop.TopMailed'. -/
def topMailedCard : Claim7 := { stood := { row := topMailedRow, standIns := [], harness := (true, "f4f7fbd2bb17bb50ab14990b9853c406a7d15442f2706f9ce3b13a6b925a4c03"), looks := false }, kinds := [], alts := [], laidByText := true, laidKinds := [.data, .data, .pinned], laidTests := true, laidLooks := .later }
def TopMailedCardSaid : Prop := Claim7.holds Tryd.pinned (.plain (OpenSpec.ofChange topMailedSpec)) topMailedCard

/-- THE SECOND FORM's CARD OF 'missivelaw05.EncBase'. -/
def encBaseUptoCard : Claim7 := { stood := { row := encBaseUptoRow, standIns := [], harness := (true, "f4f7fbd2bb17bb50ab14990b9853c406a7d15442f2706f9ce3b13a6b925a4c03"), looks := false }, kinds := [], alts := [], laidByText := true, laidKinds := [.data, .pinned], laidTests := true, laidLooks := .later }
def EncBaseUptoCardSaid : Prop := Claim7.holds Tryd.pinned (.plain (OpenSpec.upto encBaseSpec)) encBaseUptoCard

/-- THE SECOND FORM's CARD OF 'missivelaw05.EncQuoted'. -/
def encQuotedUptoCard : Claim7 := { stood := { row := encQuotedUptoRow, standIns := [], harness := (true, "f4f7fbd2bb17bb50ab14990b9853c406a7d15442f2706f9ce3b13a6b925a4c03"), looks := false }, kinds := [], alts := [], laidByText := true, laidKinds := [.data, .pinned], laidTests := true, laidLooks := .later }
def EncQuotedUptoCardSaid : Prop := Claim7.holds Tryd.pinned (.plain (OpenSpec.upto encQuotedSpec)) encQuotedUptoCard

/-- THE SECOND FORM's CARD OF 'missivelaw05.EncBack'. -/
def encBackUptoCard : Claim7 := { stood := { row := encBackUptoRow, standIns := [], harness := (true, "f4f7fbd2bb17bb50ab14990b9853c406a7d15442f2706f9ce3b13a6b925a4c03"), looks := false }, kinds := [], alts := [], laidByText := true, laidKinds := [.data, .pinned], laidTests := true, laidLooks := .later }
def EncBackUptoCardSaid : Prop := Claim7.holds Tryd.pinned (.plain (OpenSpec.upto encBackSpec)) encBackUptoCard

/-- THE SECOND FORM's CARD OF 'missivelaw05.EncFewer'. -/
def encFewerUptoCard : Claim7 := { stood := { row := encFewerUptoRow, standIns := [], harness := (true, "f4f7fbd2bb17bb50ab14990b9853c406a7d15442f2706f9ce3b13a6b925a4c03"), looks := false }, kinds := [], alts := [], laidByText := true, laidKinds := [.data, .pinned], laidTests := true, laidLooks := .later }
def EncFewerUptoCardSaid : Prop := Claim7.holds Tryd.pinned (.plain (OpenSpec.upto encFewerSpec)) encFewerUptoCard

/-- THE SECOND FORM's CARD OF 'missivelaw05.EncParts'. -/
def encPartsUptoCard : Claim7 := { stood := { row := encPartsUptoRow, standIns := [], harness := (true, "f4f7fbd2bb17bb50ab14990b9853c406a7d15442f2706f9ce3b13a6b925a4c03"), looks := false }, kinds := [], alts := [], laidByText := true, laidKinds := [.data, .pinned], laidTests := true, laidLooks := .later }
def EncPartsUptoCardSaid : Prop := Claim7.holds Tryd.pinned (.plain (OpenSpec.upto encPartsSpec)) encPartsUptoCard

/-- THE SECOND FORM's CARD OF 'missivetop.TopMailed'. -/
def topMailedUptoCard : Claim7 := { stood := { row := topMailedUptoRow, standIns := [], harness := (true, "f4f7fbd2bb17bb50ab14990b9853c406a7d15442f2706f9ce3b13a6b925a4c03"), looks := false }, kinds := [], alts := [], laidByText := true, laidKinds := [.data, .data, .pinned], laidTests := true, laidLooks := .later }
def TopMailedUptoCardSaid : Prop := Claim7.holds Tryd.pinned (.plain (OpenSpec.upto topMailedSpec)) topMailedUptoCard
end Rows
end Go.Proofs.YtffjdidakeinjaaDoor
