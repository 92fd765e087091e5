/-
  DERIVED. GIVEN WITH THE SEED: THE CARDS: each row of YtoafmlegamjlpaaGreatDoorRows.lean that lists a variable, with what it lists TIED to the program's text (the seventh form; the later family's looks); each row that meets fmt, with fmt's text TOLD by the authors' own Lean function (tested against real Go, not proved from fmt's source: count such statements apart). THE CARD IS WHAT COUNTS. Prove the row's statement (the work); the ties are given (YtoafmlegamjlpaaGreatDoorTie.lean); close each card by the builder's one call (the guide's Derived/Test/ToyasCard.lean, 'card_holds'). Laid BY PROGRAM, IN A SANDBOX (cutbox-door.mjs). By AI agents, Wed Nov 11 2026. No macro, syntax, notation, axiom, sorry.
-/
import Derived.Test.YtoafmlegamjlpaaGreatDoorRows
import GoSem.ClaimSeven
namespace Go.Proofs.YtoafmlegamjlpaaGreatDoor
namespace Rows

/-- THE TIED CARD OF 'columbariumlaw31.ImageSqueezes'. -/
def imageSqueezesCard : Claim7 := { stood := { row := imageSqueezesRow, standIns := [], harness := (true, "16dae331406e1657ca4c817fceb8907b93b99dfc83840d2c3f75b0b3c984965e"), looks := true }, kinds := [], alts := [], laidByText := true, laidKinds := [.data, .handle, .widerDeep, .data, .data, .data], laidTests := true, laidLooks := .later }
def ImageSqueezesCardSaid : Prop := Claim7.holds Tryz.pinned (.plain (OpenSpec.ofChange imageSqueezesSpec)) imageSqueezesCard

/-- THE TIED CARD OF 'columbariumlaw31.ImageSpreads'. -/
def imageSpreadsCard : Claim7 := { stood := { row := imageSpreadsRow, standIns := [], harness := (true, "16dae331406e1657ca4c817fceb8907b93b99dfc83840d2c3f75b0b3c984965e"), looks := true }, kinds := [], alts := [], laidByText := true, laidKinds := [.data, .handle, .widerDeep, .data, .data, .data], laidTests := true, laidLooks := .later }
def ImageSpreadsCardSaid : Prop := Claim7.holds Tryz.pinned (.plain (OpenSpec.ofChange imageSpreadsSpec)) imageSpreadsCard

/-- THE TIED CARD OF 'columbariumlaw31.ImageBack'. -/
def imageBackCard : Claim7 := { stood := { row := imageBackRow, standIns := [], harness := (true, "16dae331406e1657ca4c817fceb8907b93b99dfc83840d2c3f75b0b3c984965e"), looks := true }, kinds := [], alts := [], laidByText := true, laidKinds := [.data, .handle, .widerDeep, .data, .data, .data], laidTests := true, laidLooks := .later }
def ImageBackCardSaid : Prop := Claim7.holds Tryz.pinned (.plain (OpenSpec.ofChange imageBackSpec)) imageBackCard

/-- THE TIED CARD OF 'columbariumlaw31.ImageOpens'. -/
def imageOpensCard : Claim7 := { stood := { row := imageOpensRow, standIns := [], harness := (true, "16dae331406e1657ca4c817fceb8907b93b99dfc83840d2c3f75b0b3c984965e"), looks := true }, kinds := [], alts := [], laidByText := true, laidKinds := [.data, .handle, .widerDeep, .data, .data, .data], laidTests := true, laidLooks := .later }
def ImageOpensCardSaid : Prop := Claim7.holds Tryz.pinned (.plain (OpenSpec.ofChange imageOpensSpec)) imageOpensCard

/-- THE SECOND FORM's CARD OF 'columbariumlaw31.ImageSqueezes'. -/
def imageSqueezesUptoCard : Claim7 := { stood := { row := imageSqueezesUptoRow, standIns := [], harness := (true, "16dae331406e1657ca4c817fceb8907b93b99dfc83840d2c3f75b0b3c984965e"), looks := true }, kinds := [], alts := [], laidByText := true, laidKinds := [.data, .handle, .widerDeep, .data, .data, .data], laidTests := true, laidLooks := .later }
def ImageSqueezesUptoCardSaid : Prop := Claim7.holds Tryz.pinned (.plain (OpenSpec.upto imageSqueezesSpec)) imageSqueezesUptoCard

/-- THE SECOND FORM's CARD OF 'columbariumlaw31.ImageSpreads'. -/
def imageSpreadsUptoCard : Claim7 := { stood := { row := imageSpreadsUptoRow, standIns := [], harness := (true, "16dae331406e1657ca4c817fceb8907b93b99dfc83840d2c3f75b0b3c984965e"), looks := true }, kinds := [], alts := [], laidByText := true, laidKinds := [.data, .handle, .widerDeep, .data, .data, .data], laidTests := true, laidLooks := .later }
def ImageSpreadsUptoCardSaid : Prop := Claim7.holds Tryz.pinned (.plain (OpenSpec.upto imageSpreadsSpec)) imageSpreadsUptoCard

/-- THE SECOND FORM's CARD OF 'columbariumlaw31.ImageBack'. -/
def imageBackUptoCard : Claim7 := { stood := { row := imageBackUptoRow, standIns := [], harness := (true, "16dae331406e1657ca4c817fceb8907b93b99dfc83840d2c3f75b0b3c984965e"), looks := true }, kinds := [], alts := [], laidByText := true, laidKinds := [.data, .handle, .widerDeep, .data, .data, .data], laidTests := true, laidLooks := .later }
def ImageBackUptoCardSaid : Prop := Claim7.holds Tryz.pinned (.plain (OpenSpec.upto imageBackSpec)) imageBackUptoCard

/-- THE SECOND FORM's CARD OF 'columbariumlaw31.ImageOpens'. -/
def imageOpensUptoCard : Claim7 := { stood := { row := imageOpensUptoRow, standIns := [], harness := (true, "16dae331406e1657ca4c817fceb8907b93b99dfc83840d2c3f75b0b3c984965e"), looks := true }, kinds := [], alts := [], laidByText := true, laidKinds := [.data, .handle, .widerDeep, .data, .data, .data], laidTests := true, laidLooks := .later }
def ImageOpensUptoCardSaid : Prop := Claim7.holds Tryz.pinned (.plain (OpenSpec.upto imageOpensSpec)) imageOpensUptoCard
end Rows
end Go.Proofs.YtoafmlegamjlpaaGreatDoor
