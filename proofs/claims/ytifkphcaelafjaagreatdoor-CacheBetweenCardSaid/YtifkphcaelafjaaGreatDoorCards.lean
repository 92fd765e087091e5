/-
  DERIVED. GIVEN WITH THE SEED: THE CARDS: each row of YtifkphcaelafjaaGreatDoorRows.lean that lists a variable, with what it lists TIED to the program's text (the seventh form; the later family's looks); each row that meets fmt, with fmt's text TOLD by the authors' own Lean function (tested against real Go, not proved from fmt's source: count such statements apart). THE CARD IS WHAT COUNTS. Prove the row's statement (the work); the ties are given (YtifkphcaelafjaaGreatDoorTie.lean); close each card by the builder's one call (the guide's Derived/Test/ToyasCard.lean, 'card_holds'). Laid BY PROGRAM, IN A SANDBOX (cutbox-door.mjs). By AI agents, Wed Nov 11 2026. No macro, syntax, notation, axiom, sorry.
-/
import Derived.Test.YtifkphcaelafjaaGreatDoorRows
import GoSem.ClaimSeven
namespace Go.Proofs.YtifkphcaelafjaaGreatDoor
namespace Rows

/-- THE TIED CARD OF 'columbariumlaw29.CacheMap'. -/
def cacheMapCard : Claim7 := { stood := { row := cacheMapRow, standIns := [], harness := (true, "ada331e3e8cb5c53fe5a6d234138431b93ebebd2bd05548b564e88687c09b044"), looks := true }, kinds := [], alts := [], laidByText := true, laidKinds := [.data, .data, .widerDeep, .data, .data, .data, .pinned], laidTests := true, laidLooks := .later }
def CacheMapCardSaid : Prop := Claim7.holds Tryz.pinned (.plain (OpenSpec.ofChange cacheMapSpec)) cacheMapCard

/-- THE TIED CARD OF 'columbariumlaw29.CacheBetween'. -/
def cacheBetweenCard : Claim7 := { stood := { row := cacheBetweenRow, standIns := [], harness := (true, "ada331e3e8cb5c53fe5a6d234138431b93ebebd2bd05548b564e88687c09b044"), looks := true }, kinds := [], alts := [], laidByText := true, laidKinds := [.data, .data, .widerDeep, .data, .data, .data, .pinned], laidTests := true, laidLooks := .later }
def CacheBetweenCardSaid : Prop := Claim7.holds Tryz.pinned (.plain (OpenSpec.ofChange cacheBetweenSpec)) cacheBetweenCard

/-- THE TIED CARD OF 'columbariumlaw29.CacheClean'. -/
def cacheCleanCard : Claim7 := { stood := { row := cacheCleanRow, standIns := [], harness := (true, "ada331e3e8cb5c53fe5a6d234138431b93ebebd2bd05548b564e88687c09b044"), looks := true }, kinds := [], alts := [], laidByText := true, laidKinds := [.data, .data, .widerDeep, .data, .data, .data, .pinned], laidTests := true, laidLooks := .later }
def CacheCleanCardSaid : Prop := Claim7.holds Tryz.pinned (.plain (OpenSpec.ofChange cacheCleanSpec)) cacheCleanCard

/-- THE SECOND FORM's CARD OF 'columbariumlaw29.CacheMap'. -/
def cacheMapUptoCard : Claim7 := { stood := { row := cacheMapUptoRow, standIns := [], harness := (true, "ada331e3e8cb5c53fe5a6d234138431b93ebebd2bd05548b564e88687c09b044"), looks := true }, kinds := [], alts := [], laidByText := true, laidKinds := [.data, .data, .widerDeep, .data, .data, .data, .pinned], laidTests := true, laidLooks := .later }
def CacheMapUptoCardSaid : Prop := Claim7.holds Tryz.pinned (.plain (OpenSpec.upto cacheMapSpec)) cacheMapUptoCard

/-- THE SECOND FORM's CARD OF 'columbariumlaw29.CacheBetween'. -/
def cacheBetweenUptoCard : Claim7 := { stood := { row := cacheBetweenUptoRow, standIns := [], harness := (true, "ada331e3e8cb5c53fe5a6d234138431b93ebebd2bd05548b564e88687c09b044"), looks := true }, kinds := [], alts := [], laidByText := true, laidKinds := [.data, .data, .widerDeep, .data, .data, .data, .pinned], laidTests := true, laidLooks := .later }
def CacheBetweenUptoCardSaid : Prop := Claim7.holds Tryz.pinned (.plain (OpenSpec.upto cacheBetweenSpec)) cacheBetweenUptoCard

/-- THE SECOND FORM's CARD OF 'columbariumlaw29.CacheClean'. -/
def cacheCleanUptoCard : Claim7 := { stood := { row := cacheCleanUptoRow, standIns := [], harness := (true, "ada331e3e8cb5c53fe5a6d234138431b93ebebd2bd05548b564e88687c09b044"), looks := true }, kinds := [], alts := [], laidByText := true, laidKinds := [.data, .data, .widerDeep, .data, .data, .data, .pinned], laidTests := true, laidLooks := .later }
def CacheCleanUptoCardSaid : Prop := Claim7.holds Tryz.pinned (.plain (OpenSpec.upto cacheCleanSpec)) cacheCleanUptoCard
end Rows
end Go.Proofs.YtifkphcaelafjaaGreatDoor
