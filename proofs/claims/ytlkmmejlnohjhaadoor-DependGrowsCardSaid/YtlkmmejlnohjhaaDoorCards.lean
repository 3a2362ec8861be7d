/-
  DERIVED. GIVEN WITH THE SEED: THE CARDS: each row of YtlkmmejlnohjhaaDoorRows.lean that lists a variable, with what it lists TIED to the program's text (the seventh form; the later family's looks); each row that meets fmt, with fmt's text TOLD by the authors' own Lean function (tested against real Go, not proved from fmt's source: count such statements apart). THE CARD IS WHAT COUNTS. Prove the row's statement (the work); the ties are given (YtlkmmejlnohjhaaDoorTie.lean); close each card by the builder's one call (the guide's Derived/Test/ToyasCard.lean, 'card_holds'). Laid BY PROGRAM, IN A SANDBOX (cutbox-door.mjs). By AI agents, Wed Nov 11 2026. No macro, syntax, notation, axiom, sorry.
-/
import Derived.Test.YtlkmmejlnohjhaaDoorRows
import GoSem.ClaimSeven
namespace Go.Proofs.YtlkmmejlnohjhaaDoor
namespace Rows

/-- THE TIED CARD OF 'stevedorekeep.VersionOrder'. -/
def versionOrderCard : Claim7 := { stood := { row := versionOrderRow, standIns := [], harness := (true, "062a4db981a4c51dea12ed5261b80079b3c42a850becaf4370adc87264da951d"), looks := true }, kinds := [], alts := [], laidByText := true, laidKinds := [.data, .data, .data, .data, .pinned], laidTests := true, laidLooks := .later }
def VersionOrderCardSaid : Prop := Claim7.holds Tryd.pinned (.plain (OpenSpec.ofChange versionOrderSpec)) versionOrderCard

/-- THE TIED CARD OF 'stevedorelaw.VersionReads'. -/
def versionReadsCard : Claim7 := { stood := { row := versionReadsRow, standIns := [], harness := (true, "062a4db981a4c51dea12ed5261b80079b3c42a850becaf4370adc87264da951d"), looks := true }, kinds := [], alts := [], laidByText := true, laidKinds := [.data, .data, .data, .data, .handle, .pinned], laidTests := true, laidLooks := .later }
def VersionReadsCardSaid : Prop := Claim7.holds Tryd.pinned (.plain (OpenSpec.ofChange versionReadsSpec)) versionReadsCard

/-- THE TIED CARD OF 'stevedorekeep.VersionEnds'. -/
def versionEndsCard : Claim7 := { stood := { row := versionEndsRow, standIns := [], harness := (true, "062a4db981a4c51dea12ed5261b80079b3c42a850becaf4370adc87264da951d"), looks := true }, kinds := [], alts := [], laidByText := true, laidKinds := [.data, .data, .data, .data, .pinned], laidTests := true, laidLooks := .later }
def VersionEndsCardSaid : Prop := Claim7.holds Tryd.pinned (.plain (OpenSpec.ofChange versionEndsSpec)) versionEndsCard

/-- THE TIED CARD OF 'stevedorekeep.DependGrows'. -/
def dependGrowsCard : Claim7 := { stood := { row := dependGrowsRow, standIns := [], harness := (true, "062a4db981a4c51dea12ed5261b80079b3c42a850becaf4370adc87264da951d"), looks := true }, kinds := [], alts := [], laidByText := true, laidKinds := [.data, .data, .data, .data, .data, .pinned], laidTests := true, laidLooks := .later }
def DependGrowsCardSaid : Prop := Claim7.holds Tryd.pinned (.plain (OpenSpec.ofChange dependGrowsSpec)) dependGrowsCard

/-- THE SECOND FORM's CARD OF 'stevedorekeep.VersionOrder'. -/
def versionOrderUptoCard : Claim7 := { stood := { row := versionOrderUptoRow, standIns := [], harness := (true, "062a4db981a4c51dea12ed5261b80079b3c42a850becaf4370adc87264da951d"), looks := true }, kinds := [], alts := [], laidByText := true, laidKinds := [.data, .data, .data, .data, .pinned], laidTests := true, laidLooks := .later }
def VersionOrderUptoCardSaid : Prop := Claim7.holds Tryd.pinned (.plain (OpenSpec.upto versionOrderSpec)) versionOrderUptoCard

/-- THE SECOND FORM's CARD OF 'stevedorelaw.VersionReads'. -/
def versionReadsUptoCard : Claim7 := { stood := { row := versionReadsUptoRow, standIns := [], harness := (true, "062a4db981a4c51dea12ed5261b80079b3c42a850becaf4370adc87264da951d"), looks := true }, kinds := [], alts := [], laidByText := true, laidKinds := [.data, .data, .data, .data, .handle, .pinned], laidTests := true, laidLooks := .later }
def VersionReadsUptoCardSaid : Prop := Claim7.holds Tryd.pinned (.plain (OpenSpec.upto versionReadsSpec)) versionReadsUptoCard

/-- THE SECOND FORM's CARD OF 'stevedorekeep.VersionEnds'. -/
def versionEndsUptoCard : Claim7 := { stood := { row := versionEndsUptoRow, standIns := [], harness := (true, "062a4db981a4c51dea12ed5261b80079b3c42a850becaf4370adc87264da951d"), looks := true }, kinds := [], alts := [], laidByText := true, laidKinds := [.data, .data, .data, .data, .pinned], laidTests := true, laidLooks := .later }
def VersionEndsUptoCardSaid : Prop := Claim7.holds Tryd.pinned (.plain (OpenSpec.upto versionEndsSpec)) versionEndsUptoCard

/-- THE SECOND FORM's CARD OF 'stevedorekeep.DependGrows'. -/
def dependGrowsUptoCard : Claim7 := { stood := { row := dependGrowsUptoRow, standIns := [], harness := (true, "062a4db981a4c51dea12ed5261b80079b3c42a850becaf4370adc87264da951d"), looks := true }, kinds := [], alts := [], laidByText := true, laidKinds := [.data, .data, .data, .data, .data, .pinned], laidTests := true, laidLooks := .later }
def DependGrowsUptoCardSaid : Prop := Claim7.holds Tryd.pinned (.plain (OpenSpec.upto dependGrowsSpec)) dependGrowsUptoCard
end Rows
end Go.Proofs.YtlkmmejlnohjhaaDoor
