/-
  DERIVED. GIVEN WITH THE SEED: THE CARDS: each row of YthklfandhmkpiaaGreatDoorRows.lean that lists a variable, with what it lists TIED to the program's text (the seventh form; the later family's looks); each row that meets fmt, with fmt's text TOLD by the authors' own Lean function (tested against real Go, not proved from fmt's source: count such statements apart). THE CARD IS WHAT COUNTS. Prove the row's statement (the work); the ties are given (YthklfandhmkpiaaGreatDoorTie.lean); close each card by the builder's one call (the guide's Derived/Test/ToyasCard.lean, 'card_holds'). Laid BY PROGRAM, IN A SANDBOX (cutbox-door.mjs). By AI agents, Wed Nov 11 2026. No macro, syntax, notation, axiom, sorry.
-/
import Derived.Test.YthklfandhmkpiaaGreatDoorRows
import GoSem.ClaimSeven
namespace Go.Proofs.YthklfandhmkpiaaGreatDoor
namespace Rows

/-- THE TIED CARD OF 'pneumaticlaw31.ShellEvents'. -/
def shellEventsCard : Claim7 := { stood := { row := shellEventsRow, standIns := [], harness := (true, "6bd601bef74dc97b4c659701ac6c27a880c25158b8dd367a3ac2007b91cce68d"), looks := true }, kinds := [], alts := [], laidByText := true, laidKinds := [.data, .data, .data, .data, .sentinel, .sentinel, .pinned], laidTests := true, laidLooks := .later }
def ShellEventsCardSaid : Prop := Claim7.holds Tryz.pinned (.plain (OpenSpec.ofChange shellEventsSpec)) shellEventsCard

/-- THE TIED CARD OF 'pneumaticlaw31.ShellApart'. -/
def shellApartCard : Claim7 := { stood := { row := shellApartRow, standIns := [], harness := (true, "6bd601bef74dc97b4c659701ac6c27a880c25158b8dd367a3ac2007b91cce68d"), looks := true }, kinds := [], alts := [], laidByText := true, laidKinds := [.data, .data, .data, .data, .sentinel, .sentinel, .pinned], laidTests := true, laidLooks := .later }
def ShellApartCardSaid : Prop := Claim7.holds Tryz.pinned (.plain (OpenSpec.ofChange shellApartSpec)) shellApartCard

/-- THE TIED CARD OF 'pneumaticlaw31.ShellJoins'. -/
def shellJoinsCard : Claim7 := { stood := { row := shellJoinsRow, standIns := [], harness := (true, "6bd601bef74dc97b4c659701ac6c27a880c25158b8dd367a3ac2007b91cce68d"), looks := true }, kinds := [], alts := [], laidByText := true, laidKinds := [.data, .data, .data, .data, .sentinel, .sentinel, .pinned], laidTests := true, laidLooks := .later }
def ShellJoinsCardSaid : Prop := Claim7.holds Tryz.pinned (.plain (OpenSpec.ofChange shellJoinsSpec)) shellJoinsCard

/-- THE TIED CARD OF 'pneumaticlaw31.ShellRows'. -/
def shellRowsCard : Claim7 := { stood := { row := shellRowsRow, standIns := [], harness := (true, "6bd601bef74dc97b4c659701ac6c27a880c25158b8dd367a3ac2007b91cce68d"), looks := true }, kinds := [], alts := [], laidByText := true, laidKinds := [.data, .data, .data, .data, .sentinel, .sentinel, .pinned], laidTests := true, laidLooks := .later }
def ShellRowsCardSaid : Prop := Claim7.holds Tryz.pinned (.plain (OpenSpec.ofChange shellRowsSpec)) shellRowsCard

/-- THE TIED CARD OF 'pneumaticlaw31.ShellBack'. -/
def shellBackCard : Claim7 := { stood := { row := shellBackRow, standIns := [], harness := (true, "6bd601bef74dc97b4c659701ac6c27a880c25158b8dd367a3ac2007b91cce68d"), looks := true }, kinds := [], alts := [], laidByText := true, laidKinds := [.data, .data, .data, .data, .sentinel, .sentinel, .pinned], laidTests := true, laidLooks := .later }
def ShellBackCardSaid : Prop := Claim7.holds Tryz.pinned (.plain (OpenSpec.ofChange shellBackSpec)) shellBackCard

/-- THE SECOND FORM's CARD OF 'pneumaticlaw31.ShellEvents'. -/
def shellEventsUptoCard : Claim7 := { stood := { row := shellEventsUptoRow, standIns := [], harness := (true, "6bd601bef74dc97b4c659701ac6c27a880c25158b8dd367a3ac2007b91cce68d"), looks := true }, kinds := [], alts := [], laidByText := true, laidKinds := [.data, .data, .data, .data, .sentinel, .sentinel, .pinned], laidTests := true, laidLooks := .later }
def ShellEventsUptoCardSaid : Prop := Claim7.holds Tryz.pinned (.plain (OpenSpec.upto shellEventsSpec)) shellEventsUptoCard

/-- THE SECOND FORM's CARD OF 'pneumaticlaw31.ShellApart'. -/
def shellApartUptoCard : Claim7 := { stood := { row := shellApartUptoRow, standIns := [], harness := (true, "6bd601bef74dc97b4c659701ac6c27a880c25158b8dd367a3ac2007b91cce68d"), looks := true }, kinds := [], alts := [], laidByText := true, laidKinds := [.data, .data, .data, .data, .sentinel, .sentinel, .pinned], laidTests := true, laidLooks := .later }
def ShellApartUptoCardSaid : Prop := Claim7.holds Tryz.pinned (.plain (OpenSpec.upto shellApartSpec)) shellApartUptoCard

/-- THE SECOND FORM's CARD OF 'pneumaticlaw31.ShellJoins'. -/
def shellJoinsUptoCard : Claim7 := { stood := { row := shellJoinsUptoRow, standIns := [], harness := (true, "6bd601bef74dc97b4c659701ac6c27a880c25158b8dd367a3ac2007b91cce68d"), looks := true }, kinds := [], alts := [], laidByText := true, laidKinds := [.data, .data, .data, .data, .sentinel, .sentinel, .pinned], laidTests := true, laidLooks := .later }
def ShellJoinsUptoCardSaid : Prop := Claim7.holds Tryz.pinned (.plain (OpenSpec.upto shellJoinsSpec)) shellJoinsUptoCard

/-- THE SECOND FORM's CARD OF 'pneumaticlaw31.ShellRows'. -/
def shellRowsUptoCard : Claim7 := { stood := { row := shellRowsUptoRow, standIns := [], harness := (true, "6bd601bef74dc97b4c659701ac6c27a880c25158b8dd367a3ac2007b91cce68d"), looks := true }, kinds := [], alts := [], laidByText := true, laidKinds := [.data, .data, .data, .data, .sentinel, .sentinel, .pinned], laidTests := true, laidLooks := .later }
def ShellRowsUptoCardSaid : Prop := Claim7.holds Tryz.pinned (.plain (OpenSpec.upto shellRowsSpec)) shellRowsUptoCard

/-- THE SECOND FORM's CARD OF 'pneumaticlaw31.ShellBack'. -/
def shellBackUptoCard : Claim7 := { stood := { row := shellBackUptoRow, standIns := [], harness := (true, "6bd601bef74dc97b4c659701ac6c27a880c25158b8dd367a3ac2007b91cce68d"), looks := true }, kinds := [], alts := [], laidByText := true, laidKinds := [.data, .data, .data, .data, .sentinel, .sentinel, .pinned], laidTests := true, laidLooks := .later }
def ShellBackUptoCardSaid : Prop := Claim7.holds Tryz.pinned (.plain (OpenSpec.upto shellBackSpec)) shellBackUptoCard
end Rows
end Go.Proofs.YthklfandhmkpiaaGreatDoor
