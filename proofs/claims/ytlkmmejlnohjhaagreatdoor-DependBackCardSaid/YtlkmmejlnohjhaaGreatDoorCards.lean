/-
  DERIVED. GIVEN WITH THE SEED: THE CARDS: each row of YtlkmmejlnohjhaaGreatDoorRows.lean that lists a variable, with what it lists TIED to the program's text (the seventh form; the later family's looks); each row that meets fmt, with fmt's text TOLD by the authors' own Lean function (tested against real Go, not proved from fmt's source: count such statements apart). THE CARD IS WHAT COUNTS. Prove the row's statement (the work); the ties are given (YtlkmmejlnohjhaaGreatDoorTie.lean); close each card by the builder's one call (the guide's Derived/Test/ToyasCard.lean, 'card_holds'). Laid BY PROGRAM, IN A SANDBOX (cutbox-door.mjs). By AI agents, Wed Nov 11 2026. No macro, syntax, notation, axiom, sorry.
-/
import Derived.Test.YtlkmmejlnohjhaaGreatDoorRows
import GoSem.ClaimSeven
namespace Go.Proofs.YtlkmmejlnohjhaaGreatDoor
namespace Rows

/-- THE TIED CARD OF 'stevedorelaw.DependPrints'. -/
def dependPrintsCard : Claim7 := { stood := { row := dependPrintsRow, standIns := [], harness := (true, "44c0ed7e23c5c35ac9c7045c2eeb552e156c3fd1f1b3248f1cc26d75218d7ee7"), looks := true }, kinds := [], alts := [], laidByText := true, laidKinds := [.data, .data, .data, .data, .handle, .data, .pinned], laidTests := true, laidLooks := .later }
def DependPrintsCardSaid : Prop := Claim7.holds Tryz.pinned (.plain (OpenSpec.ofChange dependPrintsSpec)) dependPrintsCard

/-- THE TIED CARD OF 'stevedorekeep.DependBack'. -/
def dependBackCard : Claim7 := { stood := { row := dependBackRow, standIns := [], harness := (true, "44c0ed7e23c5c35ac9c7045c2eeb552e156c3fd1f1b3248f1cc26d75218d7ee7"), looks := true }, kinds := [], alts := [], laidByText := true, laidKinds := [.data, .data, .data, .data, .data, .pinned], laidTests := true, laidLooks := .later }
def DependBackCardSaid : Prop := Claim7.holds Tryz.pinned (.plain (OpenSpec.ofChange dependBackSpec)) dependBackCard

/-- THE TIED CARD OF 'stevedorelaw.DependReads'. -/
def dependReadsCard : Claim7 := { stood := { row := dependReadsRow, standIns := [], harness := (true, "44c0ed7e23c5c35ac9c7045c2eeb552e156c3fd1f1b3248f1cc26d75218d7ee7"), looks := true }, kinds := [], alts := [], laidByText := true, laidKinds := [.data, .data, .data, .data, .handle, .data, .pinned], laidTests := true, laidLooks := .later }
def DependReadsCardSaid : Prop := Claim7.holds Tryz.pinned (.plain (OpenSpec.ofChange dependReadsSpec)) dependReadsCard

/-- THE SECOND FORM's CARD OF 'stevedorelaw.DependPrints'. -/
def dependPrintsUptoCard : Claim7 := { stood := { row := dependPrintsUptoRow, standIns := [], harness := (true, "44c0ed7e23c5c35ac9c7045c2eeb552e156c3fd1f1b3248f1cc26d75218d7ee7"), looks := true }, kinds := [], alts := [], laidByText := true, laidKinds := [.data, .data, .data, .data, .handle, .data, .pinned], laidTests := true, laidLooks := .later }
def DependPrintsUptoCardSaid : Prop := Claim7.holds Tryz.pinned (.plain (OpenSpec.upto dependPrintsSpec)) dependPrintsUptoCard

/-- THE SECOND FORM's CARD OF 'stevedorekeep.DependBack'. -/
def dependBackUptoCard : Claim7 := { stood := { row := dependBackUptoRow, standIns := [], harness := (true, "44c0ed7e23c5c35ac9c7045c2eeb552e156c3fd1f1b3248f1cc26d75218d7ee7"), looks := true }, kinds := [], alts := [], laidByText := true, laidKinds := [.data, .data, .data, .data, .data, .pinned], laidTests := true, laidLooks := .later }
def DependBackUptoCardSaid : Prop := Claim7.holds Tryz.pinned (.plain (OpenSpec.upto dependBackSpec)) dependBackUptoCard

/-- THE SECOND FORM's CARD OF 'stevedorelaw.DependReads'. -/
def dependReadsUptoCard : Claim7 := { stood := { row := dependReadsUptoRow, standIns := [], harness := (true, "44c0ed7e23c5c35ac9c7045c2eeb552e156c3fd1f1b3248f1cc26d75218d7ee7"), looks := true }, kinds := [], alts := [], laidByText := true, laidKinds := [.data, .data, .data, .data, .handle, .data, .pinned], laidTests := true, laidLooks := .later }
def DependReadsUptoCardSaid : Prop := Claim7.holds Tryz.pinned (.plain (OpenSpec.upto dependReadsSpec)) dependReadsUptoCard
end Rows
end Go.Proofs.YtlkmmejlnohjhaaGreatDoor
