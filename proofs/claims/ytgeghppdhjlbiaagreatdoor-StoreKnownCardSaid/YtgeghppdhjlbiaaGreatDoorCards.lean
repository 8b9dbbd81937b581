/-
  DERIVED. GIVEN WITH THE SEED: THE CARDS: each row of YtgeghppdhjlbiaaGreatDoorRows.lean that lists a variable, with what it lists TIED to the program's text (the seventh form; the later family's looks); each row that meets fmt, with fmt's text TOLD by the authors' own Lean function (tested against real Go, not proved from fmt's source: count such statements apart). THE CARD IS WHAT COUNTS. Prove the row's statement (the work); the ties are given (YtgeghppdhjlbiaaGreatDoorTie.lean); close each card by the builder's one call (the guide's Derived/Test/ToyasCard.lean, 'card_holds'). Laid BY PROGRAM, IN A SANDBOX (cutbox-door.mjs). By AI agents, Wed Nov 11 2026. No macro, syntax, notation, axiom, sorry.
-/
import Derived.Test.YtgeghppdhjlbiaaGreatDoorRows
import GoSem.ClaimSeven
namespace Go.Proofs.YtgeghppdhjlbiaaGreatDoor
namespace Rows

/-- THE TIED CARD OF 'pneumaticlaw17.StoreKnown'. -/
def storeKnownCard : Claim7 := { stood := { row := storeKnownRow, standIns := [], harness := (true, "3497c2ecc44a21bd86336784b698a8d1a9ba96c083566aac2a47c879ff9535f0"), looks := true }, kinds := [], alts := [], laidByText := true, laidKinds := [.data, .pinned], laidTests := true, laidLooks := .later }
def StoreKnownCardSaid : Prop := Claim7.holds Tryz.pinned (.plain (OpenSpec.ofChange storeKnownSpec)) storeKnownCard

/-- THE SECOND FORM's CARD OF 'pneumaticlaw17.StoreKnown'. -/
def storeKnownUptoCard : Claim7 := { stood := { row := storeKnownUptoRow, standIns := [], harness := (true, "3497c2ecc44a21bd86336784b698a8d1a9ba96c083566aac2a47c879ff9535f0"), looks := true }, kinds := [], alts := [], laidByText := true, laidKinds := [.data, .pinned], laidTests := true, laidLooks := .later }
def StoreKnownUptoCardSaid : Prop := Claim7.holds Tryz.pinned (.plain (OpenSpec.upto storeKnownSpec)) storeKnownUptoCard
end Rows
end Go.Proofs.YtgeghppdhjlbiaaGreatDoor
