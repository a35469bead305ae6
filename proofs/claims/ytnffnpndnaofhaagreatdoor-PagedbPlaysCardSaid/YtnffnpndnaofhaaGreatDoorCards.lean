/-
  DERIVED. GIVEN WITH THE SEED: THE CARDS: each row of YtnffnpndnaofhaaGreatDoorRows.lean that lists a variable, with what it lists TIED to the program's text (the seventh form; the later family's looks); each row that meets fmt, with fmt's text TOLD by the authors' own Lean function (tested against real Go, not proved from fmt's source: count such statements apart). THE CARD IS WHAT COUNTS. Prove the row's statement (the work); the ties are given (YtnffnpndnaofhaaGreatDoorTie.lean); close each card by the builder's one call (the guide's Derived/Test/ToyasCard.lean, 'card_holds'). Laid BY PROGRAM, IN A SANDBOX (cutbox-door.mjs). By AI agents, Wed Nov 11 2026. No macro, syntax, notation, axiom, sorry.
-/
import Derived.Test.YtnffnpndnaofhaaGreatDoorRows
import GoSem.ClaimSeven
namespace Go.Proofs.YtnffnpndnaofhaaGreatDoor
namespace Rows

/-- THE TIED CARD OF 'aquiferlaw10.PagedbOpens'. -/
def pagedbOpensCard : Claim7 := { stood := { row := pagedbOpensRow, standIns := [], harness := (true, "446536ca4065b53aa630365022ee100813a31bdc4cb2658f4fbb88517d75ef00"), looks := false }, kinds := [], alts := [], laidByText := true, laidKinds := [.data, .data, .pinned], laidTests := true, laidLooks := .later }
def PagedbOpensCardSaid : Prop := Claim7.holds Tryz.pinned (.plain (OpenSpec.ofChange pagedbOpensSpec)) pagedbOpensCard

/-- THE TIED CARD OF 'aquiferlaw10.PagedbAborts'. -/
def pagedbAbortsCard : Claim7 := { stood := { row := pagedbAbortsRow, standIns := [], harness := (true, "446536ca4065b53aa630365022ee100813a31bdc4cb2658f4fbb88517d75ef00"), looks := false }, kinds := [], alts := [], laidByText := true, laidKinds := [.data, .data, .pinned], laidTests := true, laidLooks := .later }
def PagedbAbortsCardSaid : Prop := Claim7.holds Tryz.pinned (.plain (OpenSpec.ofChange pagedbAbortsSpec)) pagedbAbortsCard

/-- THE TIED CARD OF 'aquiferlaw10.PagedbStays'. -/
def pagedbStaysCard : Claim7 := { stood := { row := pagedbStaysRow, standIns := [], harness := (true, "446536ca4065b53aa630365022ee100813a31bdc4cb2658f4fbb88517d75ef00"), looks := false }, kinds := [], alts := [], laidByText := true, laidKinds := [.data, .data, .pinned], laidTests := true, laidLooks := .later }
def PagedbStaysCardSaid : Prop := Claim7.holds Tryz.pinned (.plain (OpenSpec.ofChange pagedbStaysSpec)) pagedbStaysCard

/-- THE TIED CARD OF 'aquiferlaw10.PagedbNobody'. -/
def pagedbNobodyCard : Claim7 := { stood := { row := pagedbNobodyRow, standIns := [], harness := (true, "446536ca4065b53aa630365022ee100813a31bdc4cb2658f4fbb88517d75ef00"), looks := false }, kinds := [], alts := [], laidByText := true, laidKinds := [.data, .data, .pinned], laidTests := true, laidLooks := .later }
def PagedbNobodyCardSaid : Prop := Claim7.holds Tryz.pinned (.plain (OpenSpec.ofChange pagedbNobodySpec)) pagedbNobodyCard

/-- THE TIED CARD OF 'aquiferlaw10.PagedbLasts'. -/
def pagedbLastsCard : Claim7 := { stood := { row := pagedbLastsRow, standIns := [], harness := (true, "446536ca4065b53aa630365022ee100813a31bdc4cb2658f4fbb88517d75ef00"), looks := false }, kinds := [], alts := [], laidByText := true, laidKinds := [.data, .data, .pinned], laidTests := true, laidLooks := .later }
def PagedbLastsCardSaid : Prop := Claim7.holds Tryz.pinned (.plain (OpenSpec.ofChange pagedbLastsSpec)) pagedbLastsCard

/-- THE TIED CARD OF 'aquiferlaw10.PagedbPlays'. -/
def pagedbPlaysCard : Claim7 := { stood := { row := pagedbPlaysRow, standIns := [], harness := (true, "446536ca4065b53aa630365022ee100813a31bdc4cb2658f4fbb88517d75ef00"), looks := false }, kinds := [], alts := [], laidByText := true, laidKinds := [.data, .data, .pinned], laidTests := true, laidLooks := .later }
def PagedbPlaysCardSaid : Prop := Claim7.holds Tryz.pinned (.plain (OpenSpec.ofChange pagedbPlaysSpec)) pagedbPlaysCard

/-- THE SECOND FORM's CARD OF 'aquiferlaw10.PagedbOpens'. -/
def pagedbOpensUptoCard : Claim7 := { stood := { row := pagedbOpensUptoRow, standIns := [], harness := (true, "446536ca4065b53aa630365022ee100813a31bdc4cb2658f4fbb88517d75ef00"), looks := false }, kinds := [], alts := [], laidByText := true, laidKinds := [.data, .data, .pinned], laidTests := true, laidLooks := .later }
def PagedbOpensUptoCardSaid : Prop := Claim7.holds Tryz.pinned (.plain (OpenSpec.upto pagedbOpensSpec)) pagedbOpensUptoCard

/-- THE SECOND FORM's CARD OF 'aquiferlaw10.PagedbAborts'. -/
def pagedbAbortsUptoCard : Claim7 := { stood := { row := pagedbAbortsUptoRow, standIns := [], harness := (true, "446536ca4065b53aa630365022ee100813a31bdc4cb2658f4fbb88517d75ef00"), looks := false }, kinds := [], alts := [], laidByText := true, laidKinds := [.data, .data, .pinned], laidTests := true, laidLooks := .later }
def PagedbAbortsUptoCardSaid : Prop := Claim7.holds Tryz.pinned (.plain (OpenSpec.upto pagedbAbortsSpec)) pagedbAbortsUptoCard

/-- THE SECOND FORM's CARD OF 'aquiferlaw10.PagedbStays'. -/
def pagedbStaysUptoCard : Claim7 := { stood := { row := pagedbStaysUptoRow, standIns := [], harness := (true, "446536ca4065b53aa630365022ee100813a31bdc4cb2658f4fbb88517d75ef00"), looks := false }, kinds := [], alts := [], laidByText := true, laidKinds := [.data, .data, .pinned], laidTests := true, laidLooks := .later }
def PagedbStaysUptoCardSaid : Prop := Claim7.holds Tryz.pinned (.plain (OpenSpec.upto pagedbStaysSpec)) pagedbStaysUptoCard

/-- THE SECOND FORM's CARD OF 'aquiferlaw10.PagedbNobody'. -/
def pagedbNobodyUptoCard : Claim7 := { stood := { row := pagedbNobodyUptoRow, standIns := [], harness := (true, "446536ca4065b53aa630365022ee100813a31bdc4cb2658f4fbb88517d75ef00"), looks := false }, kinds := [], alts := [], laidByText := true, laidKinds := [.data, .data, .pinned], laidTests := true, laidLooks := .later }
def PagedbNobodyUptoCardSaid : Prop := Claim7.holds Tryz.pinned (.plain (OpenSpec.upto pagedbNobodySpec)) pagedbNobodyUptoCard

/-- THE SECOND FORM's CARD OF 'aquiferlaw10.PagedbLasts'. -/
def pagedbLastsUptoCard : Claim7 := { stood := { row := pagedbLastsUptoRow, standIns := [], harness := (true, "446536ca4065b53aa630365022ee100813a31bdc4cb2658f4fbb88517d75ef00"), looks := false }, kinds := [], alts := [], laidByText := true, laidKinds := [.data, .data, .pinned], laidTests := true, laidLooks := .later }
def PagedbLastsUptoCardSaid : Prop := Claim7.holds Tryz.pinned (.plain (OpenSpec.upto pagedbLastsSpec)) pagedbLastsUptoCard

/-- THE SECOND FORM's CARD OF 'aquiferlaw10.PagedbPlays'. -/
def pagedbPlaysUptoCard : Claim7 := { stood := { row := pagedbPlaysUptoRow, standIns := [], harness := (true, "446536ca4065b53aa630365022ee100813a31bdc4cb2658f4fbb88517d75ef00"), looks := false }, kinds := [], alts := [], laidByText := true, laidKinds := [.data, .data, .pinned], laidTests := true, laidLooks := .later }
def PagedbPlaysUptoCardSaid : Prop := Claim7.holds Tryz.pinned (.plain (OpenSpec.upto pagedbPlaysSpec)) pagedbPlaysUptoCard
end Rows
end Go.Proofs.YtnffnpndnaofhaaGreatDoor
