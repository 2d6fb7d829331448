/-
  DERIVED. GIVEN WITH THE SEED: THE CARDS: each row of YtdgnddidibpilaaDoorRows.lean that lists a variable, with what it lists TIED to the program's text (the seventh form; the later family's looks); each row that meets fmt, with fmt's text TOLD by the authors' own Lean function (tested against real Go, not proved from fmt's source: count such statements apart). THE CARD IS WHAT COUNTS. Prove the row's statement (the work); the ties are given (YtdgnddidibpilaaDoorTie.lean); close each card by the builder's one call (the guide's Derived/Test/ToyasCard.lean, 'card_holds'). Laid BY PROGRAM, IN A SANDBOX (cutbox-door.mjs). By AI agents, Wed Nov 11 2026. No macro, syntax, notation, axiom, sorry.
-/
import Derived.Test.YtdgnddidibpilaaDoorRows
import GoSem.ClaimSeven
namespace Go.Proofs.YtdgnddidibpilaaDoor
namespace Rows

/-- THE TIED CARD OF 'missivelaw08.HeadParses'. -/
def headParsesCard : Claim7 := { stood := { row := headParsesRow, standIns := [], harness := (true, "dc36885cc19d79ee1d7cb5de9d1a28d0ad33301af6c26f7817e23347c698e71d"), looks := false }, kinds := [], alts := [], laidByText := true, laidKinds := [.data, .pinned], laidTests := true, laidLooks := .later }
def HeadParsesCardSaid : Prop := Claim7.holds Tryd.pinned (.plain (OpenSpec.ofChange headParsesSpec)) headParsesCard

/-- THE TIED CARD OF 'missivelaw08.HeadFinds'. -/
def headFindsCard : Claim7 := { stood := { row := headFindsRow, standIns := [], harness := (true, "dc36885cc19d79ee1d7cb5de9d1a28d0ad33301af6c26f7817e23347c698e71d"), looks := false }, kinds := [], alts := [], laidByText := true, laidKinds := [.data, .pinned], laidTests := true, laidLooks := .later }
def HeadFindsCardSaid : Prop := Claim7.holds Tryd.pinned (.plain (OpenSpec.ofChange headFindsSpec)) headFindsCard

/-- THE TIED CARD OF 'missivelaw08.HeadBack'. -/
def headBackCard : Claim7 := { stood := { row := headBackRow, standIns := [], harness := (true, "dc36885cc19d79ee1d7cb5de9d1a28d0ad33301af6c26f7817e23347c698e71d"), looks := false }, kinds := [], alts := [], laidByText := true, laidKinds := [.data, .pinned], laidTests := true, laidLooks := .later }
def HeadBackCardSaid : Prop := Claim7.holds Tryd.pinned (.plain (OpenSpec.ofChange headBackSpec)) headBackCard

/-- THE TIED CARD OF 'missivelaw08.HeadEnds'. -/
def headEndsCard : Claim7 := { stood := { row := headEndsRow, standIns := [], harness := (true, "dc36885cc19d79ee1d7cb5de9d1a28d0ad33301af6c26f7817e23347c698e71d"), looks := false }, kinds := [], alts := [], laidByText := true, laidKinds := [.data, .pinned], laidTests := true, laidLooks := .later }
def HeadEndsCardSaid : Prop := Claim7.holds Tryd.pinned (.plain (OpenSpec.ofChange headEndsSpec)) headEndsCard

/-- THE TIED CARD OF 'missivelaw08.HeadLike'. -/
def headLikeCard : Claim7 := { stood := { row := headLikeRow, standIns := [], harness := (true, "dc36885cc19d79ee1d7cb5de9d1a28d0ad33301af6c26f7817e23347c698e71d"), looks := false }, kinds := [], alts := [], laidByText := true, laidKinds := [.data, .pinned], laidTests := true, laidLooks := .later }
def HeadLikeCardSaid : Prop := Claim7.holds Tryd.pinned (.plain (OpenSpec.ofChange headLikeSpec)) headLikeCard

/-- THE TIED CARD OF 'missivetop.TopFolded'. -/
def topFoldedCard : Claim7 := { stood := { row := topFoldedRow, standIns := [], harness := (true, "dc36885cc19d79ee1d7cb5de9d1a28d0ad33301af6c26f7817e23347c698e71d"), looks := false }, kinds := [], alts := [], laidByText := true, laidKinds := [.data, .pinned], laidTests := true, laidLooks := .later }
def TopFoldedCardSaid : Prop := Claim7.holds Tryd.pinned (.plain (OpenSpec.ofChange topFoldedSpec)) topFoldedCard

/-- THE SECOND FORM's CARD OF 'missivelaw08.HeadParses'. -/
def headParsesUptoCard : Claim7 := { stood := { row := headParsesUptoRow, standIns := [], harness := (true, "dc36885cc19d79ee1d7cb5de9d1a28d0ad33301af6c26f7817e23347c698e71d"), looks := false }, kinds := [], alts := [], laidByText := true, laidKinds := [.data, .pinned], laidTests := true, laidLooks := .later }
def HeadParsesUptoCardSaid : Prop := Claim7.holds Tryd.pinned (.plain (OpenSpec.upto headParsesSpec)) headParsesUptoCard

/-- THE SECOND FORM's CARD OF 'missivelaw08.HeadFinds'. -/
def headFindsUptoCard : Claim7 := { stood := { row := headFindsUptoRow, standIns := [], harness := (true, "dc36885cc19d79ee1d7cb5de9d1a28d0ad33301af6c26f7817e23347c698e71d"), looks := false }, kinds := [], alts := [], laidByText := true, laidKinds := [.data, .pinned], laidTests := true, laidLooks := .later }
def HeadFindsUptoCardSaid : Prop := Claim7.holds Tryd.pinned (.plain (OpenSpec.upto headFindsSpec)) headFindsUptoCard

/-- THE SECOND FORM's CARD OF 'missivelaw08.HeadBack'. -/
def headBackUptoCard : Claim7 := { stood := { row := headBackUptoRow, standIns := [], harness := (true, "dc36885cc19d79ee1d7cb5de9d1a28d0ad33301af6c26f7817e23347c698e71d"), looks := false }, kinds := [], alts := [], laidByText := true, laidKinds := [.data, .pinned], laidTests := true, laidLooks := .later }
def HeadBackUptoCardSaid : Prop := Claim7.holds Tryd.pinned (.plain (OpenSpec.upto headBackSpec)) headBackUptoCard

/-- THE SECOND FORM's CARD OF 'missivelaw08.HeadEnds'. -/
def headEndsUptoCard : Claim7 := { stood := { row := headEndsUptoRow, standIns := [], harness := (true, "dc36885cc19d79ee1d7cb5de9d1a28d0ad33301af6c26f7817e23347c698e71d"), looks := false }, kinds := [], alts := [], laidByText := true, laidKinds := [.data, .pinned], laidTests := true, laidLooks := .later }
def HeadEndsUptoCardSaid : Prop := Claim7.holds Tryd.pinned (.plain (OpenSpec.upto headEndsSpec)) headEndsUptoCard

/-- THE SECOND FORM's CARD OF 'missivelaw08.HeadLike'. -/
def headLikeUptoCard : Claim7 := { stood := { row := headLikeUptoRow, standIns := [], harness := (true, "dc36885cc19d79ee1d7cb5de9d1a28d0ad33301af6c26f7817e23347c698e71d"), looks := false }, kinds := [], alts := [], laidByText := true, laidKinds := [.data, .pinned], laidTests := true, laidLooks := .later }
def HeadLikeUptoCardSaid : Prop := Claim7.holds Tryd.pinned (.plain (OpenSpec.upto headLikeSpec)) headLikeUptoCard

/-- THE SECOND FORM's CARD OF 'missivetop.TopFolded'. -/
def topFoldedUptoCard : Claim7 := { stood := { row := topFoldedUptoRow, standIns := [], harness := (true, "dc36885cc19d79ee1d7cb5de9d1a28d0ad33301af6c26f7817e23347c698e71d"), looks := false }, kinds := [], alts := [], laidByText := true, laidKinds := [.data, .pinned], laidTests := true, laidLooks := .later }
def TopFoldedUptoCardSaid : Prop := Claim7.holds Tryd.pinned (.plain (OpenSpec.upto topFoldedSpec)) topFoldedUptoCard
end Rows
end Go.Proofs.YtdgnddidibpilaaDoor
