/-
  DERIVED. GIVEN WITH THE SEED: THE CARDS: each row of YtbdjmicabfclcaaDoorRows.lean that lists a variable, with what it lists TIED to the program's text (the seventh form; the later family's looks); each row that meets fmt, with fmt's text TOLD by the authors' own Lean function (tested against real Go, not proved from fmt's source: count such statements apart). THE CARD IS WHAT COUNTS. Prove the row's statement (the work); the ties are given (YtbdjmicabfclcaaDoorTie.lean); close each card by the builder's one call (the guide's Derived/Test/ToyasCard.lean, 'card_holds'). Laid BY PROGRAM, IN A SANDBOX (cutbox-door.mjs). By AI agents, Wed Nov 11 2026. No macro, syntax, notation, axiom, sorry.
-/
import Derived.Test.YtbdjmicabfclcaaDoorRows
import GoSem.ClaimSeven
namespace Go.Proofs.YtbdjmicabfclcaaDoor
namespace Rows

/-- THE TIED CARD OF 'casketlaw18.SealRoots'. -/
def sealRootsCard : Claim7 := { stood := { row := sealRootsRow, standIns := [], harness := (true, "6c167ddf05e588aa3eb2c518603b4370d44d21fc7d98b5b3a378cab6e13a4677"), looks := false }, kinds := [], alts := [], laidByText := true, laidKinds := [.data], laidTests := true, laidLooks := .later }
def SealRootsCardSaid : Prop := Claim7.holds Tryd.pinned (.plain (OpenSpec.ofChange sealRootsSpec)) sealRootsCard

/-- THE TIED CARD OF 'casketlaw18.SealReads'. -/
def sealReadsCard : Claim7 := { stood := { row := sealReadsRow, standIns := [], harness := (true, "6c167ddf05e588aa3eb2c518603b4370d44d21fc7d98b5b3a378cab6e13a4677"), looks := false }, kinds := [], alts := [], laidByText := true, laidKinds := [.data], laidTests := true, laidLooks := .later }
def SealReadsCardSaid : Prop := Claim7.holds Tryd.pinned (.plain (OpenSpec.ofChange sealReadsSpec)) sealReadsCard

/-- THE TIED CARD OF 'casketlaw18.SealRecords'. -/
def sealRecordsCard : Claim7 := { stood := { row := sealRecordsRow, standIns := [], harness := (true, "6c167ddf05e588aa3eb2c518603b4370d44d21fc7d98b5b3a378cab6e13a4677"), looks := false }, kinds := [], alts := [], laidByText := true, laidKinds := [.data], laidTests := true, laidLooks := .later }
def SealRecordsCardSaid : Prop := Claim7.holds Tryd.pinned (.plain (OpenSpec.ofChange sealRecordsSpec)) sealRecordsCard

/-- THE TIED CARD OF 'casketlaw18.SealOthers'. -/
def sealOthersCard : Claim7 := { stood := { row := sealOthersRow, standIns := [], harness := (true, "6c167ddf05e588aa3eb2c518603b4370d44d21fc7d98b5b3a378cab6e13a4677"), looks := false }, kinds := [], alts := [], laidByText := true, laidKinds := [.data], laidTests := true, laidLooks := .later }
def SealOthersCardSaid : Prop := Claim7.holds Tryd.pinned (.plain (OpenSpec.ofChange sealOthersSpec)) sealOthersCard

/-- THE SECOND FORM's CARD OF 'casketlaw18.SealRoots'. -/
def sealRootsUptoCard : Claim7 := { stood := { row := sealRootsUptoRow, standIns := [], harness := (true, "6c167ddf05e588aa3eb2c518603b4370d44d21fc7d98b5b3a378cab6e13a4677"), looks := false }, kinds := [], alts := [], laidByText := true, laidKinds := [.data], laidTests := true, laidLooks := .later }
def SealRootsUptoCardSaid : Prop := Claim7.holds Tryd.pinned (.plain (OpenSpec.upto sealRootsSpec)) sealRootsUptoCard

/-- THE SECOND FORM's CARD OF 'casketlaw18.SealReads'. -/
def sealReadsUptoCard : Claim7 := { stood := { row := sealReadsUptoRow, standIns := [], harness := (true, "6c167ddf05e588aa3eb2c518603b4370d44d21fc7d98b5b3a378cab6e13a4677"), looks := false }, kinds := [], alts := [], laidByText := true, laidKinds := [.data], laidTests := true, laidLooks := .later }
def SealReadsUptoCardSaid : Prop := Claim7.holds Tryd.pinned (.plain (OpenSpec.upto sealReadsSpec)) sealReadsUptoCard

/-- THE SECOND FORM's CARD OF 'casketlaw18.SealRecords'. -/
def sealRecordsUptoCard : Claim7 := { stood := { row := sealRecordsUptoRow, standIns := [], harness := (true, "6c167ddf05e588aa3eb2c518603b4370d44d21fc7d98b5b3a378cab6e13a4677"), looks := false }, kinds := [], alts := [], laidByText := true, laidKinds := [.data], laidTests := true, laidLooks := .later }
def SealRecordsUptoCardSaid : Prop := Claim7.holds Tryd.pinned (.plain (OpenSpec.upto sealRecordsSpec)) sealRecordsUptoCard

/-- THE SECOND FORM's CARD OF 'casketlaw18.SealOthers'. -/
def sealOthersUptoCard : Claim7 := { stood := { row := sealOthersUptoRow, standIns := [], harness := (true, "6c167ddf05e588aa3eb2c518603b4370d44d21fc7d98b5b3a378cab6e13a4677"), looks := false }, kinds := [], alts := [], laidByText := true, laidKinds := [.data], laidTests := true, laidLooks := .later }
def SealOthersUptoCardSaid : Prop := Claim7.holds Tryd.pinned (.plain (OpenSpec.upto sealOthersSpec)) sealOthersUptoCard
end Rows
end Go.Proofs.YtbdjmicabfclcaaDoor
