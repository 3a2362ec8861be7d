/-
  DERIVED. GIVEN WITH THE SEED: THE CARDS: each row of YtodbbfgkclkpgaaGreatDoorRows.lean that lists a variable, with what it lists TIED to the program's text (the seventh form; the later family's looks); each row that meets fmt, with fmt's text TOLD by the authors' own Lean function (tested against real Go, not proved from fmt's source: count such statements apart). THE CARD IS WHAT COUNTS. Prove the row's statement (the work); the ties are given (YtodbbfgkclkpgaaGreatDoorTie.lean); close each card by the builder's one call (the guide's Derived/Test/ToyasCard.lean, 'card_holds'). Laid BY PROGRAM, IN A SANDBOX (cutbox-door.mjs). By AI agents, Wed Nov 11 2026. No macro, syntax, notation, axiom, sorry.
-/
import Derived.Test.YtodbbfgkclkpgaaGreatDoorRows
import GoSem.ClaimSeven
namespace Go.Proofs.YtodbbfgkclkpgaaGreatDoor
namespace Rows

/-- THE TIED CARD OF 'stevedorelaw.RecordTells'. -/
def recordTellsCard : Claim7 := { stood := { row := recordTellsRow, standIns := [], harness := (true, "81434447a69cfd97933cbdb87e495f01f19d067d7b91fcc47bb00e69acc0a8a5"), looks := true }, kinds := [], alts := [], laidByText := true, laidKinds := [.data, .data, .data, .data, .handle, .data, .pinned], laidTests := true, laidLooks := .later }
def RecordTellsCardSaid : Prop := Claim7.holds Tryz.pinned (.plain (OpenSpec.ofChange recordTellsSpec)) recordTellsCard

/-- THE TIED CARD OF 'stevedorelaw.ArchiveWrites'. -/
def archiveWritesCard : Claim7 := { stood := { row := archiveWritesRow, standIns := [], harness := (true, "81434447a69cfd97933cbdb87e495f01f19d067d7b91fcc47bb00e69acc0a8a5"), looks := true }, kinds := [], alts := [], laidByText := true, laidKinds := [.data, .data, .data, .data, .handle, .data, .pinned], laidTests := true, laidLooks := .later }
def ArchiveWritesCardSaid : Prop := Claim7.holds Tryz.pinned (.plain (OpenSpec.ofChange archiveWritesSpec)) archiveWritesCard

/-- THE TIED CARD OF 'stevedorelaw.RecordReads'. -/
def recordReadsCard : Claim7 := { stood := { row := recordReadsRow, standIns := [], harness := (true, "81434447a69cfd97933cbdb87e495f01f19d067d7b91fcc47bb00e69acc0a8a5"), looks := true }, kinds := [], alts := [], laidByText := true, laidKinds := [.data, .data, .data, .data, .handle, .data, .pinned], laidTests := true, laidLooks := .later }
def RecordReadsCardSaid : Prop := Claim7.holds Tryz.pinned (.plain (OpenSpec.ofChange recordReadsSpec)) recordReadsCard

/-- THE TIED CARD OF 'stevedorekeep.StatusBack'. -/
def statusBackCard : Claim7 := { stood := { row := statusBackRow, standIns := [], harness := (true, "81434447a69cfd97933cbdb87e495f01f19d067d7b91fcc47bb00e69acc0a8a5"), looks := true }, kinds := [], alts := [], laidByText := true, laidKinds := [.data, .data, .data, .data, .sentinel, .sentinel, .data, .pinned], laidTests := true, laidLooks := .later }
def StatusBackCardSaid : Prop := Claim7.holds Tryz.pinned (.plain (OpenSpec.ofChange statusBackSpec)) statusBackCard

/-- THE TIED CARD OF 'stevedorekeep.RecordBack'. -/
def recordBackCard : Claim7 := { stood := { row := recordBackRow, standIns := [], harness := (true, "81434447a69cfd97933cbdb87e495f01f19d067d7b91fcc47bb00e69acc0a8a5"), looks := true }, kinds := [], alts := [], laidByText := true, laidKinds := [.data, .data, .data, .data, .handle, .data, .pinned], laidTests := true, laidLooks := .later }
def RecordBackCardSaid : Prop := Claim7.holds Tryz.pinned (.plain (OpenSpec.ofChange recordBackSpec)) recordBackCard

/-- THE TIED CARD OF 'stevedorelaw.StatusTells'. -/
def statusTellsCard : Claim7 := { stood := { row := statusTellsRow, standIns := [], harness := (true, "81434447a69cfd97933cbdb87e495f01f19d067d7b91fcc47bb00e69acc0a8a5"), looks := true }, kinds := [], alts := [], laidByText := true, laidKinds := [.data, .data, .data, .data, .handle, .sentinel, .sentinel, .pinned], laidTests := true, laidLooks := .later }
def StatusTellsCardSaid : Prop := Claim7.holds Tryz.pinned (.plain (OpenSpec.ofChange statusTellsSpec)) statusTellsCard

/-- THE TIED CARD OF 'stevedorelaw.ArchiveReads'. -/
def archiveReadsCard : Claim7 := { stood := { row := archiveReadsRow, standIns := [], harness := (true, "81434447a69cfd97933cbdb87e495f01f19d067d7b91fcc47bb00e69acc0a8a5"), looks := true }, kinds := [], alts := [], laidByText := true, laidKinds := [.data, .data, .data, .data, .handle, .sentinel, .sentinel, .data, .data, .pinned], laidTests := true, laidLooks := .later }
def ArchiveReadsCardSaid : Prop := Claim7.holds Tryz.pinned (.plain (OpenSpec.ofChange archiveReadsSpec)) archiveReadsCard

/-- THE TIED CARD OF 'stevedorekeep.ArchiveBack'. -/
def archiveBackCard : Claim7 := { stood := { row := archiveBackRow, standIns := [], harness := (true, "81434447a69cfd97933cbdb87e495f01f19d067d7b91fcc47bb00e69acc0a8a5"), looks := true }, kinds := [], alts := [], laidByText := true, laidKinds := [.data, .data, .data, .data, .handle, .sentinel, .sentinel, .data, .pinned], laidTests := true, laidLooks := .later }
def ArchiveBackCardSaid : Prop := Claim7.holds Tryz.pinned (.plain (OpenSpec.ofChange archiveBackSpec)) archiveBackCard

/-- THE SECOND FORM's CARD OF 'stevedorelaw.RecordTells'. -/
def recordTellsUptoCard : Claim7 := { stood := { row := recordTellsUptoRow, standIns := [], harness := (true, "81434447a69cfd97933cbdb87e495f01f19d067d7b91fcc47bb00e69acc0a8a5"), looks := true }, kinds := [], alts := [], laidByText := true, laidKinds := [.data, .data, .data, .data, .handle, .data, .pinned], laidTests := true, laidLooks := .later }
def RecordTellsUptoCardSaid : Prop := Claim7.holds Tryz.pinned (.plain (OpenSpec.upto recordTellsSpec)) recordTellsUptoCard

/-- THE SECOND FORM's CARD OF 'stevedorelaw.ArchiveWrites'. -/
def archiveWritesUptoCard : Claim7 := { stood := { row := archiveWritesUptoRow, standIns := [], harness := (true, "81434447a69cfd97933cbdb87e495f01f19d067d7b91fcc47bb00e69acc0a8a5"), looks := true }, kinds := [], alts := [], laidByText := true, laidKinds := [.data, .data, .data, .data, .handle, .data, .pinned], laidTests := true, laidLooks := .later }
def ArchiveWritesUptoCardSaid : Prop := Claim7.holds Tryz.pinned (.plain (OpenSpec.upto archiveWritesSpec)) archiveWritesUptoCard

/-- THE SECOND FORM's CARD OF 'stevedorelaw.RecordReads'. -/
def recordReadsUptoCard : Claim7 := { stood := { row := recordReadsUptoRow, standIns := [], harness := (true, "81434447a69cfd97933cbdb87e495f01f19d067d7b91fcc47bb00e69acc0a8a5"), looks := true }, kinds := [], alts := [], laidByText := true, laidKinds := [.data, .data, .data, .data, .handle, .data, .pinned], laidTests := true, laidLooks := .later }
def RecordReadsUptoCardSaid : Prop := Claim7.holds Tryz.pinned (.plain (OpenSpec.upto recordReadsSpec)) recordReadsUptoCard

/-- THE SECOND FORM's CARD OF 'stevedorekeep.StatusBack'. -/
def statusBackUptoCard : Claim7 := { stood := { row := statusBackUptoRow, standIns := [], harness := (true, "81434447a69cfd97933cbdb87e495f01f19d067d7b91fcc47bb00e69acc0a8a5"), looks := true }, kinds := [], alts := [], laidByText := true, laidKinds := [.data, .data, .data, .data, .sentinel, .sentinel, .data, .pinned], laidTests := true, laidLooks := .later }
def StatusBackUptoCardSaid : Prop := Claim7.holds Tryz.pinned (.plain (OpenSpec.upto statusBackSpec)) statusBackUptoCard

/-- THE SECOND FORM's CARD OF 'stevedorekeep.RecordBack'. -/
def recordBackUptoCard : Claim7 := { stood := { row := recordBackUptoRow, standIns := [], harness := (true, "81434447a69cfd97933cbdb87e495f01f19d067d7b91fcc47bb00e69acc0a8a5"), looks := true }, kinds := [], alts := [], laidByText := true, laidKinds := [.data, .data, .data, .data, .handle, .data, .pinned], laidTests := true, laidLooks := .later }
def RecordBackUptoCardSaid : Prop := Claim7.holds Tryz.pinned (.plain (OpenSpec.upto recordBackSpec)) recordBackUptoCard

/-- THE SECOND FORM's CARD OF 'stevedorelaw.StatusTells'. -/
def statusTellsUptoCard : Claim7 := { stood := { row := statusTellsUptoRow, standIns := [], harness := (true, "81434447a69cfd97933cbdb87e495f01f19d067d7b91fcc47bb00e69acc0a8a5"), looks := true }, kinds := [], alts := [], laidByText := true, laidKinds := [.data, .data, .data, .data, .handle, .sentinel, .sentinel, .pinned], laidTests := true, laidLooks := .later }
def StatusTellsUptoCardSaid : Prop := Claim7.holds Tryz.pinned (.plain (OpenSpec.upto statusTellsSpec)) statusTellsUptoCard

/-- THE SECOND FORM's CARD OF 'stevedorelaw.ArchiveReads'. -/
def archiveReadsUptoCard : Claim7 := { stood := { row := archiveReadsUptoRow, standIns := [], harness := (true, "81434447a69cfd97933cbdb87e495f01f19d067d7b91fcc47bb00e69acc0a8a5"), looks := true }, kinds := [], alts := [], laidByText := true, laidKinds := [.data, .data, .data, .data, .handle, .sentinel, .sentinel, .data, .data, .pinned], laidTests := true, laidLooks := .later }
def ArchiveReadsUptoCardSaid : Prop := Claim7.holds Tryz.pinned (.plain (OpenSpec.upto archiveReadsSpec)) archiveReadsUptoCard

/-- THE SECOND FORM's CARD OF 'stevedorekeep.ArchiveBack'. -/
def archiveBackUptoCard : Claim7 := { stood := { row := archiveBackUptoRow, standIns := [], harness := (true, "81434447a69cfd97933cbdb87e495f01f19d067d7b91fcc47bb00e69acc0a8a5"), looks := true }, kinds := [], alts := [], laidByText := true, laidKinds := [.data, .data, .data, .data, .handle, .sentinel, .sentinel, .data, .pinned], laidTests := true, laidLooks := .later }
def ArchiveBackUptoCardSaid : Prop := Claim7.holds Tryz.pinned (.plain (OpenSpec.upto archiveBackSpec)) archiveBackUptoCard
end Rows
end Go.Proofs.YtodbbfgkclkpgaaGreatDoor
