/-
  DERIVED. GIVEN WITH THE SEED: THE CARDS: each row of YtpbbhjifgaeklaaGreatDoorRows.lean that lists a variable, with what it lists TIED to the program's text (the seventh form; the later family's looks); each row that meets fmt, with fmt's text TOLD by the authors' own Lean function (tested against real Go, not proved from fmt's source: count such statements apart). THE CARD IS WHAT COUNTS. Prove the row's statement (the work); the ties are given (YtpbbhjifgaeklaaGreatDoorTie.lean); close each card by the builder's one call (the guide's Derived/Test/ToyasCard.lean, 'card_holds'). Laid BY PROGRAM, IN A SANDBOX (cutbox-door.mjs). By AI agents, Wed Nov 11 2026. No macro, syntax, notation, axiom, sorry.
-/
import Derived.Test.YtpbbhjifgaeklaaGreatDoorRows
import GoSem.ClaimSeven
namespace Go.Proofs.YtpbbhjifgaeklaaGreatDoor
namespace Rows

/-- THE TIED CARD OF 'stevedorekeep.StatusBack'. -/
def statusBackCard : Claim7 := { stood := { row := statusBackRow, standIns := [], harness := (true, "b4ad896d1223fce97da8cfd269b1e2bcc435be6a8fedffd990eb1c8499a1f7f8"), looks := true }, kinds := [], alts := [], laidByText := true, laidKinds := [.data, .data, .data, .data, .sentinel, .sentinel, .data, .pinned], laidTests := true, laidLooks := .later }
def StatusBackCardSaid : Prop := Claim7.holds Tryz.pinned (.plain (OpenSpec.ofChange statusBackSpec)) statusBackCard

/-- THE TIED CARD OF 'stevedorelaw.StatusTells'. -/
def statusTellsCard : Claim7 := { stood := { row := statusTellsRow, standIns := [], harness := (true, "b4ad896d1223fce97da8cfd269b1e2bcc435be6a8fedffd990eb1c8499a1f7f8"), looks := true }, kinds := [], alts := [], laidByText := true, laidKinds := [.data, .data, .data, .data, .handle, .sentinel, .sentinel, .pinned], laidTests := true, laidLooks := .later }
def StatusTellsCardSaid : Prop := Claim7.holds Tryz.pinned (.plain (OpenSpec.ofChange statusTellsSpec)) statusTellsCard

/-- THE TIED CARD OF 'stevedorekeep.ShelfSettings'. -/
def shelfSettingsCard : Claim7 := { stood := { row := shelfSettingsRow, standIns := [], harness := (true, "b4ad896d1223fce97da8cfd269b1e2bcc435be6a8fedffd990eb1c8499a1f7f8"), looks := true }, kinds := [], alts := [], laidByText := true, laidKinds := [.data, .data, .data, .data, .pinned], laidTests := true, laidLooks := .later }
def ShelfSettingsCardSaid : Prop := Claim7.holds Tryz.pinned (.plain (OpenSpec.ofChange shelfSettingsSpec)) shelfSettingsCard

/-- THE TIED CARD OF 'stevedorekeep.CheckSpares'. -/
def checkSparesCard : Claim7 := { stood := { row := checkSparesRow, standIns := [], harness := (true, "b4ad896d1223fce97da8cfd269b1e2bcc435be6a8fedffd990eb1c8499a1f7f8"), looks := true }, kinds := [], alts := [], laidByText := true, laidKinds := [.data, .data, .data, .data, .handle, .data, .pinned], laidTests := true, laidLooks := .later }
def CheckSparesCardSaid : Prop := Claim7.holds Tryz.pinned (.plain (OpenSpec.ofChange checkSparesSpec)) checkSparesCard

/-- THE TIED CARD OF 'stevedorekeep.ShelfOwns'. -/
def shelfOwnsCard : Claim7 := { stood := { row := shelfOwnsRow, standIns := [], harness := (true, "b4ad896d1223fce97da8cfd269b1e2bcc435be6a8fedffd990eb1c8499a1f7f8"), looks := true }, kinds := [], alts := [], laidByText := true, laidKinds := [.data, .data, .data, .data, .pinned], laidTests := true, laidLooks := .later }
def ShelfOwnsCardSaid : Prop := Claim7.holds Tryz.pinned (.plain (OpenSpec.ofChange shelfOwnsSpec)) shelfOwnsCard

/-- THE TIED CARD OF 'stevedorelaw.ShelfPlays'. -/
def shelfPlaysCard : Claim7 := { stood := { row := shelfPlaysRow, standIns := [], harness := (true, "b4ad896d1223fce97da8cfd269b1e2bcc435be6a8fedffd990eb1c8499a1f7f8"), looks := true }, kinds := [], alts := [], laidByText := true, laidKinds := [.data, .data, .data, .data, .handle, .data, .pinned], laidTests := true, laidLooks := .later }
def ShelfPlaysCardSaid : Prop := Claim7.holds Tryz.pinned (.plain (OpenSpec.ofChange shelfPlaysSpec)) shelfPlaysCard

/-- THE SECOND FORM's CARD OF 'stevedorekeep.StatusBack'. -/
def statusBackUptoCard : Claim7 := { stood := { row := statusBackUptoRow, standIns := [], harness := (true, "b4ad896d1223fce97da8cfd269b1e2bcc435be6a8fedffd990eb1c8499a1f7f8"), looks := true }, kinds := [], alts := [], laidByText := true, laidKinds := [.data, .data, .data, .data, .sentinel, .sentinel, .data, .pinned], laidTests := true, laidLooks := .later }
def StatusBackUptoCardSaid : Prop := Claim7.holds Tryz.pinned (.plain (OpenSpec.upto statusBackSpec)) statusBackUptoCard

/-- THE SECOND FORM's CARD OF 'stevedorelaw.StatusTells'. -/
def statusTellsUptoCard : Claim7 := { stood := { row := statusTellsUptoRow, standIns := [], harness := (true, "b4ad896d1223fce97da8cfd269b1e2bcc435be6a8fedffd990eb1c8499a1f7f8"), looks := true }, kinds := [], alts := [], laidByText := true, laidKinds := [.data, .data, .data, .data, .handle, .sentinel, .sentinel, .pinned], laidTests := true, laidLooks := .later }
def StatusTellsUptoCardSaid : Prop := Claim7.holds Tryz.pinned (.plain (OpenSpec.upto statusTellsSpec)) statusTellsUptoCard

/-- THE SECOND FORM's CARD OF 'stevedorekeep.ShelfSettings'. -/
def shelfSettingsUptoCard : Claim7 := { stood := { row := shelfSettingsUptoRow, standIns := [], harness := (true, "b4ad896d1223fce97da8cfd269b1e2bcc435be6a8fedffd990eb1c8499a1f7f8"), looks := true }, kinds := [], alts := [], laidByText := true, laidKinds := [.data, .data, .data, .data, .pinned], laidTests := true, laidLooks := .later }
def ShelfSettingsUptoCardSaid : Prop := Claim7.holds Tryz.pinned (.plain (OpenSpec.upto shelfSettingsSpec)) shelfSettingsUptoCard

/-- THE SECOND FORM's CARD OF 'stevedorekeep.CheckSpares'. -/
def checkSparesUptoCard : Claim7 := { stood := { row := checkSparesUptoRow, standIns := [], harness := (true, "b4ad896d1223fce97da8cfd269b1e2bcc435be6a8fedffd990eb1c8499a1f7f8"), looks := true }, kinds := [], alts := [], laidByText := true, laidKinds := [.data, .data, .data, .data, .handle, .data, .pinned], laidTests := true, laidLooks := .later }
def CheckSparesUptoCardSaid : Prop := Claim7.holds Tryz.pinned (.plain (OpenSpec.upto checkSparesSpec)) checkSparesUptoCard

/-- THE SECOND FORM's CARD OF 'stevedorekeep.ShelfOwns'. -/
def shelfOwnsUptoCard : Claim7 := { stood := { row := shelfOwnsUptoRow, standIns := [], harness := (true, "b4ad896d1223fce97da8cfd269b1e2bcc435be6a8fedffd990eb1c8499a1f7f8"), looks := true }, kinds := [], alts := [], laidByText := true, laidKinds := [.data, .data, .data, .data, .pinned], laidTests := true, laidLooks := .later }
def ShelfOwnsUptoCardSaid : Prop := Claim7.holds Tryz.pinned (.plain (OpenSpec.upto shelfOwnsSpec)) shelfOwnsUptoCard

/-- THE SECOND FORM's CARD OF 'stevedorelaw.ShelfPlays'. -/
def shelfPlaysUptoCard : Claim7 := { stood := { row := shelfPlaysUptoRow, standIns := [], harness := (true, "b4ad896d1223fce97da8cfd269b1e2bcc435be6a8fedffd990eb1c8499a1f7f8"), looks := true }, kinds := [], alts := [], laidByText := true, laidKinds := [.data, .data, .data, .data, .handle, .data, .pinned], laidTests := true, laidLooks := .later }
def ShelfPlaysUptoCardSaid : Prop := Claim7.holds Tryz.pinned (.plain (OpenSpec.upto shelfPlaysSpec)) shelfPlaysUptoCard
end Rows
end Go.Proofs.YtpbbhjifgaeklaaGreatDoor
