/-
  DERIVED. GIVEN WITH THE SEED: THE CARDS: each row of YtfnpjcfaabbejaaDoorRows.lean that lists a variable, with what it lists TIED to the program's text (the seventh form; the later family's looks); each row that meets fmt, with fmt's text TOLD by the authors' own Lean function (tested against real Go, not proved from fmt's source: count such statements apart). THE CARD IS WHAT COUNTS. Prove the row's statement (the work); the ties are given (YtfnpjcfaabbejaaDoorTie.lean); close each card by the builder's one call (the guide's Derived/Test/ToyasCard.lean, 'card_holds'). Laid BY PROGRAM, IN A SANDBOX (cutbox-door.mjs). By AI agents, Wed Nov 11 2026. No macro, syntax, notation, axiom, sorry.
-/
import Derived.Test.YtfnpjcfaabbejaaDoorRows
import GoSem.ClaimSeven
namespace Go.Proofs.YtfnpjcfaabbejaaDoor
namespace Rows

/-- THE TIED CARD OF 'columbariumlaw04.NameParses'. -/
def nameParsesCard : Claim7 := { stood := { row := nameParsesRow, standIns := [], harness := (true, "19710c3c8407e6ef0c61be412dd42d08f667c498fed303c60a5b0c0592caca64"), looks := false }, kinds := [], alts := [], laidByText := true, laidKinds := [.data, .pinned], laidTests := true, laidLooks := .later }
def NameParsesCardSaid : Prop := Claim7.holds Tryd.pinned (.plain (OpenSpec.ofChange nameParsesSpec)) nameParsesCard

/-- THE TIED CARD OF 'columbariumlaw04.NameTexts'. -/
def nameTextsCard : Claim7 := { stood := { row := nameTextsRow, standIns := [], harness := (true, "19710c3c8407e6ef0c61be412dd42d08f667c498fed303c60a5b0c0592caca64"), looks := false }, kinds := [], alts := [], laidByText := true, laidKinds := [.data, .pinned], laidTests := true, laidLooks := .later }
def NameTextsCardSaid : Prop := Claim7.holds Tryd.pinned (.plain (OpenSpec.ofChange nameTextsSpec)) nameTextsCard

/-- THE TIED CARD OF 'columbariumlaw04.NameShares'. -/
def nameSharesCard : Claim7 := { stood := { row := nameSharesRow, standIns := [], harness := (true, "19710c3c8407e6ef0c61be412dd42d08f667c498fed303c60a5b0c0592caca64"), looks := false }, kinds := [], alts := [], laidByText := true, laidKinds := [.data, .pinned], laidTests := true, laidLooks := .later }
def NameSharesCardSaid : Prop := Claim7.holds Tryd.pinned (.plain (OpenSpec.ofChange nameSharesSpec)) nameSharesCard

/-- THE TIED CARD OF 'columbariumlaw04.NameBack'. -/
def nameBackCard : Claim7 := { stood := { row := nameBackRow, standIns := [], harness := (true, "19710c3c8407e6ef0c61be412dd42d08f667c498fed303c60a5b0c0592caca64"), looks := false }, kinds := [], alts := [], laidByText := true, laidKinds := [.data, .pinned], laidTests := true, laidLooks := .later }
def NameBackCardSaid : Prop := Claim7.holds Tryd.pinned (.plain (OpenSpec.ofChange nameBackSpec)) nameBackCard

/-- THE SECOND FORM's CARD OF 'columbariumlaw04.NameParses'. -/
def nameParsesUptoCard : Claim7 := { stood := { row := nameParsesUptoRow, standIns := [], harness := (true, "19710c3c8407e6ef0c61be412dd42d08f667c498fed303c60a5b0c0592caca64"), looks := false }, kinds := [], alts := [], laidByText := true, laidKinds := [.data, .pinned], laidTests := true, laidLooks := .later }
def NameParsesUptoCardSaid : Prop := Claim7.holds Tryd.pinned (.plain (OpenSpec.upto nameParsesSpec)) nameParsesUptoCard

/-- THE SECOND FORM's CARD OF 'columbariumlaw04.NameTexts'. -/
def nameTextsUptoCard : Claim7 := { stood := { row := nameTextsUptoRow, standIns := [], harness := (true, "19710c3c8407e6ef0c61be412dd42d08f667c498fed303c60a5b0c0592caca64"), looks := false }, kinds := [], alts := [], laidByText := true, laidKinds := [.data, .pinned], laidTests := true, laidLooks := .later }
def NameTextsUptoCardSaid : Prop := Claim7.holds Tryd.pinned (.plain (OpenSpec.upto nameTextsSpec)) nameTextsUptoCard

/-- THE SECOND FORM's CARD OF 'columbariumlaw04.NameShares'. -/
def nameSharesUptoCard : Claim7 := { stood := { row := nameSharesUptoRow, standIns := [], harness := (true, "19710c3c8407e6ef0c61be412dd42d08f667c498fed303c60a5b0c0592caca64"), looks := false }, kinds := [], alts := [], laidByText := true, laidKinds := [.data, .pinned], laidTests := true, laidLooks := .later }
def NameSharesUptoCardSaid : Prop := Claim7.holds Tryd.pinned (.plain (OpenSpec.upto nameSharesSpec)) nameSharesUptoCard

/-- THE SECOND FORM's CARD OF 'columbariumlaw04.NameBack'. -/
def nameBackUptoCard : Claim7 := { stood := { row := nameBackUptoRow, standIns := [], harness := (true, "19710c3c8407e6ef0c61be412dd42d08f667c498fed303c60a5b0c0592caca64"), looks := false }, kinds := [], alts := [], laidByText := true, laidKinds := [.data, .pinned], laidTests := true, laidLooks := .later }
def NameBackUptoCardSaid : Prop := Claim7.holds Tryd.pinned (.plain (OpenSpec.upto nameBackSpec)) nameBackUptoCard
end Rows
end Go.Proofs.YtfnpjcfaabbejaaDoor
