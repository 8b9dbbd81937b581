/-
  DERIVED. GIVEN WITH THE SEED: THE CARDS: each row of YtpejppacnecbfaaDoorRows.lean that lists a variable, with what it lists TIED to the program's text (the seventh form; the later family's looks); each row that meets fmt, with fmt's text TOLD by the authors' own Lean function (tested against real Go, not proved from fmt's source: count such statements apart). THE CARD IS WHAT COUNTS. Prove the row's statement (the work); the ties are given (YtpejppacnecbfaaDoorTie.lean); close each card by the builder's one call (the guide's Derived/Test/ToyasCard.lean, 'card_holds'). Laid BY PROGRAM, IN A SANDBOX (cutbox-door.mjs). By AI agents, Wed Nov 11 2026. No macro, syntax, notation, axiom, sorry.
-/
import Derived.Test.YtpejppacnecbfaaDoorRows
import GoSem.ClaimSeven
namespace Go.Proofs.YtpejppacnecbfaaDoor
namespace Rows

/-- THE TIED CARD OF 'pneumaticlaw01.ValueMay'. -/
def valueMayCard : Claim7 := { stood := { row := valueMayRow, standIns := [], harness := (true, "74a8b0a54892559beb7c621d44d0fddb948fc6b9fb475da0623914cc326a4f15"), looks := true }, kinds := [], alts := [], laidByText := true, laidKinds := [.data, .data, .data, .sentinel, .sentinel], laidTests := true, laidLooks := .later }
def ValueMayCardSaid : Prop := Claim7.holds Tryd.pinned (.plain (OpenSpec.ofChange valueMaySpec)) valueMayCard

/-- THE TIED CARD OF 'pneumaticlaw01.ValueTexts'. -/
def valueTextsCard : Claim7 := { stood := { row := valueTextsRow, standIns := [], harness := (true, "74a8b0a54892559beb7c621d44d0fddb948fc6b9fb475da0623914cc326a4f15"), looks := true }, kinds := [], alts := [], laidByText := true, laidKinds := [.data, .data, .data, .sentinel, .sentinel], laidTests := true, laidLooks := .later }
def ValueTextsCardSaid : Prop := Claim7.holds Tryd.pinned (.plain (OpenSpec.ofChange valueTextsSpec)) valueTextsCard

/-- THE TIED CARD OF 'pneumaticlaw01.ValueBack'. -/
def valueBackCard : Claim7 := { stood := { row := valueBackRow, standIns := [], harness := (true, "74a8b0a54892559beb7c621d44d0fddb948fc6b9fb475da0623914cc326a4f15"), looks := true }, kinds := [], alts := [], laidByText := true, laidKinds := [.data, .data, .data, .sentinel, .sentinel], laidTests := true, laidLooks := .later }
def ValueBackCardSaid : Prop := Claim7.holds Tryd.pinned (.plain (OpenSpec.ofChange valueBackSpec)) valueBackCard

/-- THE TIED CARD OF 'pneumaticlaw01.ValueOrder'. -/
def valueOrderCard : Claim7 := { stood := { row := valueOrderRow, standIns := [], harness := (true, "74a8b0a54892559beb7c621d44d0fddb948fc6b9fb475da0623914cc326a4f15"), looks := true }, kinds := [], alts := [], laidByText := true, laidKinds := [.data, .data, .data, .sentinel, .sentinel], laidTests := true, laidLooks := .later }
def ValueOrderCardSaid : Prop := Claim7.holds Tryd.pinned (.plain (OpenSpec.ofChange valueOrderSpec)) valueOrderCard

/-- THE TIED CARD OF 'pneumaticlaw01.ValueMakes'. -/
def valueMakesCard : Claim7 := { stood := { row := valueMakesRow, standIns := [], harness := (true, "74a8b0a54892559beb7c621d44d0fddb948fc6b9fb475da0623914cc326a4f15"), looks := true }, kinds := [], alts := [], laidByText := true, laidKinds := [.data, .data, .data, .sentinel, .sentinel], laidTests := true, laidLooks := .later }
def ValueMakesCardSaid : Prop := Claim7.holds Tryd.pinned (.plain (OpenSpec.ofChange valueMakesSpec)) valueMakesCard

/-- THE TIED CARD OF 'pneumaticlaw01.ValueKnown'. -/
def valueKnownCard : Claim7 := { stood := { row := valueKnownRow, standIns := [], harness := (true, "74a8b0a54892559beb7c621d44d0fddb948fc6b9fb475da0623914cc326a4f15"), looks := true }, kinds := [], alts := [], laidByText := true, laidKinds := [.data, .data, .data, .sentinel, .sentinel], laidTests := true, laidLooks := .later }
def ValueKnownCardSaid : Prop := Claim7.holds Tryd.pinned (.plain (OpenSpec.ofChange valueKnownSpec)) valueKnownCard

/-- THE SECOND FORM's CARD OF 'pneumaticlaw01.ValueMay'. -/
def valueMayUptoCard : Claim7 := { stood := { row := valueMayUptoRow, standIns := [], harness := (true, "74a8b0a54892559beb7c621d44d0fddb948fc6b9fb475da0623914cc326a4f15"), looks := true }, kinds := [], alts := [], laidByText := true, laidKinds := [.data, .data, .data, .sentinel, .sentinel], laidTests := true, laidLooks := .later }
def ValueMayUptoCardSaid : Prop := Claim7.holds Tryd.pinned (.plain (OpenSpec.upto valueMaySpec)) valueMayUptoCard

/-- THE SECOND FORM's CARD OF 'pneumaticlaw01.ValueTexts'. -/
def valueTextsUptoCard : Claim7 := { stood := { row := valueTextsUptoRow, standIns := [], harness := (true, "74a8b0a54892559beb7c621d44d0fddb948fc6b9fb475da0623914cc326a4f15"), looks := true }, kinds := [], alts := [], laidByText := true, laidKinds := [.data, .data, .data, .sentinel, .sentinel], laidTests := true, laidLooks := .later }
def ValueTextsUptoCardSaid : Prop := Claim7.holds Tryd.pinned (.plain (OpenSpec.upto valueTextsSpec)) valueTextsUptoCard

/-- THE SECOND FORM's CARD OF 'pneumaticlaw01.ValueBack'. -/
def valueBackUptoCard : Claim7 := { stood := { row := valueBackUptoRow, standIns := [], harness := (true, "74a8b0a54892559beb7c621d44d0fddb948fc6b9fb475da0623914cc326a4f15"), looks := true }, kinds := [], alts := [], laidByText := true, laidKinds := [.data, .data, .data, .sentinel, .sentinel], laidTests := true, laidLooks := .later }
def ValueBackUptoCardSaid : Prop := Claim7.holds Tryd.pinned (.plain (OpenSpec.upto valueBackSpec)) valueBackUptoCard

/-- THE SECOND FORM's CARD OF 'pneumaticlaw01.ValueOrder'. -/
def valueOrderUptoCard : Claim7 := { stood := { row := valueOrderUptoRow, standIns := [], harness := (true, "74a8b0a54892559beb7c621d44d0fddb948fc6b9fb475da0623914cc326a4f15"), looks := true }, kinds := [], alts := [], laidByText := true, laidKinds := [.data, .data, .data, .sentinel, .sentinel], laidTests := true, laidLooks := .later }
def ValueOrderUptoCardSaid : Prop := Claim7.holds Tryd.pinned (.plain (OpenSpec.upto valueOrderSpec)) valueOrderUptoCard

/-- THE SECOND FORM's CARD OF 'pneumaticlaw01.ValueMakes'. -/
def valueMakesUptoCard : Claim7 := { stood := { row := valueMakesUptoRow, standIns := [], harness := (true, "74a8b0a54892559beb7c621d44d0fddb948fc6b9fb475da0623914cc326a4f15"), looks := true }, kinds := [], alts := [], laidByText := true, laidKinds := [.data, .data, .data, .sentinel, .sentinel], laidTests := true, laidLooks := .later }
def ValueMakesUptoCardSaid : Prop := Claim7.holds Tryd.pinned (.plain (OpenSpec.upto valueMakesSpec)) valueMakesUptoCard

/-- THE SECOND FORM's CARD OF 'pneumaticlaw01.ValueKnown'. -/
def valueKnownUptoCard : Claim7 := { stood := { row := valueKnownUptoRow, standIns := [], harness := (true, "74a8b0a54892559beb7c621d44d0fddb948fc6b9fb475da0623914cc326a4f15"), looks := true }, kinds := [], alts := [], laidByText := true, laidKinds := [.data, .data, .data, .sentinel, .sentinel], laidTests := true, laidLooks := .later }
def ValueKnownUptoCardSaid : Prop := Claim7.holds Tryd.pinned (.plain (OpenSpec.upto valueKnownSpec)) valueKnownUptoCard
end Rows
end Go.Proofs.YtpejppacnecbfaaDoor
