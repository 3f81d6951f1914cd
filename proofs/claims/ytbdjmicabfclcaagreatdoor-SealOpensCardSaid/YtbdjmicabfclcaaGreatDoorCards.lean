/-
  DERIVED. GIVEN WITH THE SEED: THE CARDS: each row of YtbdjmicabfclcaaGreatDoorRows.lean that lists a variable, with what it lists TIED to the program's text (the seventh form; the later family's looks); each row that meets fmt, with fmt's text TOLD by the authors' own Lean function (tested against real Go, not proved from fmt's source: count such statements apart). THE CARD IS WHAT COUNTS. Prove the row's statement (the work); the ties are given (YtbdjmicabfclcaaGreatDoorTie.lean); close each card by the builder's one call (the guide's Derived/Test/ToyasCard.lean, 'card_holds'). Laid BY PROGRAM, IN A SANDBOX (cutbox-door.mjs). By AI agents, Wed Nov 11 2026. No macro, syntax, notation, axiom, sorry.
-/
import Derived.Test.YtbdjmicabfclcaaGreatDoorRows
import GoSem.ClaimSeven
namespace Go.Proofs.YtbdjmicabfclcaaGreatDoor
namespace Rows

/-- THE TIED CARD OF 'casketlaw18.SealSeals'. -/
def sealSealsCard : Claim7 := { stood := { row := sealSealsRow, standIns := [], harness := (true, "65565e10780a5b5d70cae2a21f697d21bb39fcac8ecfec4975cf880d4b1f1988"), looks := false }, kinds := [], alts := [], laidByText := true, laidKinds := [.data], laidTests := true, laidLooks := .later }
def SealSealsCardSaid : Prop := Claim7.holds Tryz.pinned (.plain (OpenSpec.ofChange sealSealsSpec)) sealSealsCard

/-- THE TIED CARD OF 'casketlaw18.SealOpens'. -/
def sealOpensCard : Claim7 := { stood := { row := sealOpensRow, standIns := [], harness := (true, "65565e10780a5b5d70cae2a21f697d21bb39fcac8ecfec4975cf880d4b1f1988"), looks := false }, kinds := [], alts := [], laidByText := true, laidKinds := [.data], laidTests := true, laidLooks := .later }
def SealOpensCardSaid : Prop := Claim7.holds Tryz.pinned (.plain (OpenSpec.ofChange sealOpensSpec)) sealOpensCard

/-- THE TIED CARD OF 'casketlaw18.SealBinds'. -/
def sealBindsCard : Claim7 := { stood := { row := sealBindsRow, standIns := [], harness := (true, "65565e10780a5b5d70cae2a21f697d21bb39fcac8ecfec4975cf880d4b1f1988"), looks := false }, kinds := [], alts := [], laidByText := true, laidKinds := [.data], laidTests := true, laidLooks := .later }
def SealBindsCardSaid : Prop := Claim7.holds Tryz.pinned (.plain (OpenSpec.ofChange sealBindsSpec)) sealBindsCard

/-- THE SECOND FORM's CARD OF 'casketlaw18.SealSeals'. -/
def sealSealsUptoCard : Claim7 := { stood := { row := sealSealsUptoRow, standIns := [], harness := (true, "65565e10780a5b5d70cae2a21f697d21bb39fcac8ecfec4975cf880d4b1f1988"), looks := false }, kinds := [], alts := [], laidByText := true, laidKinds := [.data], laidTests := true, laidLooks := .later }
def SealSealsUptoCardSaid : Prop := Claim7.holds Tryz.pinned (.plain (OpenSpec.upto sealSealsSpec)) sealSealsUptoCard

/-- THE SECOND FORM's CARD OF 'casketlaw18.SealOpens'. -/
def sealOpensUptoCard : Claim7 := { stood := { row := sealOpensUptoRow, standIns := [], harness := (true, "65565e10780a5b5d70cae2a21f697d21bb39fcac8ecfec4975cf880d4b1f1988"), looks := false }, kinds := [], alts := [], laidByText := true, laidKinds := [.data], laidTests := true, laidLooks := .later }
def SealOpensUptoCardSaid : Prop := Claim7.holds Tryz.pinned (.plain (OpenSpec.upto sealOpensSpec)) sealOpensUptoCard

/-- THE SECOND FORM's CARD OF 'casketlaw18.SealBinds'. -/
def sealBindsUptoCard : Claim7 := { stood := { row := sealBindsUptoRow, standIns := [], harness := (true, "65565e10780a5b5d70cae2a21f697d21bb39fcac8ecfec4975cf880d4b1f1988"), looks := false }, kinds := [], alts := [], laidByText := true, laidKinds := [.data], laidTests := true, laidLooks := .later }
def SealBindsUptoCardSaid : Prop := Claim7.holds Tryz.pinned (.plain (OpenSpec.upto sealBindsSpec)) sealBindsUptoCard
end Rows
end Go.Proofs.YtbdjmicabfclcaaGreatDoor
