/-
  DERIVED. GIVEN WITH THE SEED: THE CARDS: each row of YtpkifhjlmkbdpaaDoorRows.lean that lists a variable, with what it lists TIED to the program's text (the seventh form; the later family's looks); each row that meets fmt, with fmt's text TOLD by the authors' own Lean function (tested against real Go, not proved from fmt's source: count such statements apart). THE CARD IS WHAT COUNTS. Prove the row's statement (the work); the ties are given (YtpkifhjlmkbdpaaDoorTie.lean); close each card by the builder's one call (the guide's Derived/Test/ToyasCard.lean, 'card_holds'). Laid BY PROGRAM, IN A SANDBOX (cutbox-door.mjs). By AI agents, Wed Nov 11 2026. No macro, syntax, notation, axiom, sorry.
-/
import Derived.Test.YtpkifhjlmkbdpaaDoorRows
import GoSem.ClaimSeven
namespace Go.Proofs.YtpkifhjlmkbdpaaDoor
namespace Rows

/-- THE TIED CARD OF 'casketlaw04.ShaSums'. -/
def shaSumsCard : Claim7 := { stood := { row := shaSumsRow, standIns := [], harness := (true, "3911d1c2b5f1117cc06ab2cb5b9d97e7724ae4ac4243201a3511f25a8f9dee54"), looks := false }, kinds := [], alts := [], laidByText := true, laidKinds := [.data], laidTests := true, laidLooks := .later }
def ShaSumsCardSaid : Prop := Claim7.holds Tryd.pinned (.plain (OpenSpec.ofChange shaSumsSpec)) shaSumsCard

/-- THE TIED CARD OF 'casketlaw04.ShaBlocks'. -/
def shaBlocksCard : Claim7 := { stood := { row := shaBlocksRow, standIns := [], harness := (true, "3911d1c2b5f1117cc06ab2cb5b9d97e7724ae4ac4243201a3511f25a8f9dee54"), looks := false }, kinds := [], alts := [], laidByText := true, laidKinds := [.data], laidTests := true, laidLooks := .later }
def ShaBlocksCardSaid : Prop := Claim7.holds Tryd.pinned (.plain (OpenSpec.ofChange shaBlocksSpec)) shaBlocksCard

/-- THE TIED CARD OF 'casketlaw04.ShaPieces'. -/
def shaPiecesCard : Claim7 := { stood := { row := shaPiecesRow, standIns := [], harness := (true, "3911d1c2b5f1117cc06ab2cb5b9d97e7724ae4ac4243201a3511f25a8f9dee54"), looks := false }, kinds := [], alts := [], laidByText := true, laidKinds := [.data], laidTests := true, laidLooks := .later }
def ShaPiecesCardSaid : Prop := Claim7.holds Tryd.pinned (.plain (OpenSpec.ofChange shaPiecesSpec)) shaPiecesCard

/-- THE TIED CARD OF 'casketlaw04.ShaLengths'. -/
def shaLengthsCard : Claim7 := { stood := { row := shaLengthsRow, standIns := [], harness := (true, "3911d1c2b5f1117cc06ab2cb5b9d97e7724ae4ac4243201a3511f25a8f9dee54"), looks := false }, kinds := [], alts := [], laidByText := true, laidKinds := [.data], laidTests := true, laidLooks := .later }
def ShaLengthsCardSaid : Prop := Claim7.holds Tryd.pinned (.plain (OpenSpec.ofChange shaLengthsSpec)) shaLengthsCard

/-- THE TIED CARD OF 'casketlaw04.ShaNobody'. -/
def shaNobodyCard : Claim7 := { stood := { row := shaNobodyRow, standIns := [], harness := (true, "3911d1c2b5f1117cc06ab2cb5b9d97e7724ae4ac4243201a3511f25a8f9dee54"), looks := false }, kinds := [], alts := [], laidByText := true, laidKinds := [.data], laidTests := true, laidLooks := .later }
def ShaNobodyCardSaid : Prop := Claim7.holds Tryd.pinned (.plain (OpenSpec.ofChange shaNobodySpec)) shaNobodyCard

/-- THE TIED CARD OF 'casketlaw04.ShaStates'. -/
def shaStatesCard : Claim7 := { stood := { row := shaStatesRow, standIns := [], harness := (true, "3911d1c2b5f1117cc06ab2cb5b9d97e7724ae4ac4243201a3511f25a8f9dee54"), looks := false }, kinds := [], alts := [], laidByText := true, laidKinds := [.data], laidTests := true, laidLooks := .later }
def ShaStatesCardSaid : Prop := Claim7.holds Tryd.pinned (.plain (OpenSpec.ofChange shaStatesSpec)) shaStatesCard

/-- THE TIED CARD OF 'casketlaw05.HmacTags'. -/
def hmacTagsCard : Claim7 := { stood := { row := hmacTagsRow, standIns := [], harness := (true, "3911d1c2b5f1117cc06ab2cb5b9d97e7724ae4ac4243201a3511f25a8f9dee54"), looks := false }, kinds := [], alts := [], laidByText := true, laidKinds := [.data], laidTests := true, laidLooks := .later }
def HmacTagsCardSaid : Prop := Claim7.holds Tryd.pinned (.plain (OpenSpec.ofChange hmacTagsSpec)) hmacTagsCard

/-- THE TIED CARD OF 'casketlaw05.HmacDerives'. -/
def hmacDerivesCard : Claim7 := { stood := { row := hmacDerivesRow, standIns := [], harness := (true, "3911d1c2b5f1117cc06ab2cb5b9d97e7724ae4ac4243201a3511f25a8f9dee54"), looks := false }, kinds := [], alts := [], laidByText := true, laidKinds := [.data], laidTests := true, laidLooks := .later }
def HmacDerivesCardSaid : Prop := Claim7.holds Tryd.pinned (.plain (OpenSpec.ofChange hmacDerivesSpec)) hmacDerivesCard

/-- THE TIED CARD OF 'casketlaw05.HmacEqual'. -/
def hmacEqualCard : Claim7 := { stood := { row := hmacEqualRow, standIns := [], harness := (true, "3911d1c2b5f1117cc06ab2cb5b9d97e7724ae4ac4243201a3511f25a8f9dee54"), looks := false }, kinds := [], alts := [], laidByText := true, laidKinds := [.data], laidTests := true, laidLooks := .later }
def HmacEqualCardSaid : Prop := Claim7.holds Tryd.pinned (.plain (OpenSpec.ofChange hmacEqualSpec)) hmacEqualCard

/-- THE TIED CARD OF 'casketlaw05.HmacReady'. -/
def hmacReadyCard : Claim7 := { stood := { row := hmacReadyRow, standIns := [], harness := (true, "3911d1c2b5f1117cc06ab2cb5b9d97e7724ae4ac4243201a3511f25a8f9dee54"), looks := false }, kinds := [], alts := [], laidByText := true, laidKinds := [.data], laidTests := true, laidLooks := .later }
def HmacReadyCardSaid : Prop := Claim7.holds Tryd.pinned (.plain (OpenSpec.ofChange hmacReadySpec)) hmacReadyCard

/-- THE TIED CARD OF 'casketlaw05.HmacPieces'. -/
def hmacPiecesCard : Claim7 := { stood := { row := hmacPiecesRow, standIns := [], harness := (true, "3911d1c2b5f1117cc06ab2cb5b9d97e7724ae4ac4243201a3511f25a8f9dee54"), looks := false }, kinds := [], alts := [], laidByText := true, laidKinds := [.data], laidTests := true, laidLooks := .later }
def HmacPiecesCardSaid : Prop := Claim7.holds Tryd.pinned (.plain (OpenSpec.ofChange hmacPiecesSpec)) hmacPiecesCard

/-- THE SECOND FORM's CARD OF 'casketlaw04.ShaSums'. -/
def shaSumsUptoCard : Claim7 := { stood := { row := shaSumsUptoRow, standIns := [], harness := (true, "3911d1c2b5f1117cc06ab2cb5b9d97e7724ae4ac4243201a3511f25a8f9dee54"), looks := false }, kinds := [], alts := [], laidByText := true, laidKinds := [.data], laidTests := true, laidLooks := .later }
def ShaSumsUptoCardSaid : Prop := Claim7.holds Tryd.pinned (.plain (OpenSpec.upto shaSumsSpec)) shaSumsUptoCard

/-- THE SECOND FORM's CARD OF 'casketlaw04.ShaBlocks'. -/
def shaBlocksUptoCard : Claim7 := { stood := { row := shaBlocksUptoRow, standIns := [], harness := (true, "3911d1c2b5f1117cc06ab2cb5b9d97e7724ae4ac4243201a3511f25a8f9dee54"), looks := false }, kinds := [], alts := [], laidByText := true, laidKinds := [.data], laidTests := true, laidLooks := .later }
def ShaBlocksUptoCardSaid : Prop := Claim7.holds Tryd.pinned (.plain (OpenSpec.upto shaBlocksSpec)) shaBlocksUptoCard

/-- THE SECOND FORM's CARD OF 'casketlaw04.ShaPieces'. -/
def shaPiecesUptoCard : Claim7 := { stood := { row := shaPiecesUptoRow, standIns := [], harness := (true, "3911d1c2b5f1117cc06ab2cb5b9d97e7724ae4ac4243201a3511f25a8f9dee54"), looks := false }, kinds := [], alts := [], laidByText := true, laidKinds := [.data], laidTests := true, laidLooks := .later }
def ShaPiecesUptoCardSaid : Prop := Claim7.holds Tryd.pinned (.plain (OpenSpec.upto shaPiecesSpec)) shaPiecesUptoCard

/-- THE SECOND FORM's CARD OF 'casketlaw04.ShaLengths'. -/
def shaLengthsUptoCard : Claim7 := { stood := { row := shaLengthsUptoRow, standIns := [], harness := (true, "3911d1c2b5f1117cc06ab2cb5b9d97e7724ae4ac4243201a3511f25a8f9dee54"), looks := false }, kinds := [], alts := [], laidByText := true, laidKinds := [.data], laidTests := true, laidLooks := .later }
def ShaLengthsUptoCardSaid : Prop := Claim7.holds Tryd.pinned (.plain (OpenSpec.upto shaLengthsSpec)) shaLengthsUptoCard

/-- THE SECOND FORM's CARD OF 'casketlaw04.ShaNobody'. -/
def shaNobodyUptoCard : Claim7 := { stood := { row := shaNobodyUptoRow, standIns := [], harness := (true, "3911d1c2b5f1117cc06ab2cb5b9d97e7724ae4ac4243201a3511f25a8f9dee54"), looks := false }, kinds := [], alts := [], laidByText := true, laidKinds := [.data], laidTests := true, laidLooks := .later }
def ShaNobodyUptoCardSaid : Prop := Claim7.holds Tryd.pinned (.plain (OpenSpec.upto shaNobodySpec)) shaNobodyUptoCard

/-- THE SECOND FORM's CARD OF 'casketlaw04.ShaStates'. -/
def shaStatesUptoCard : Claim7 := { stood := { row := shaStatesUptoRow, standIns := [], harness := (true, "3911d1c2b5f1117cc06ab2cb5b9d97e7724ae4ac4243201a3511f25a8f9dee54"), looks := false }, kinds := [], alts := [], laidByText := true, laidKinds := [.data], laidTests := true, laidLooks := .later }
def ShaStatesUptoCardSaid : Prop := Claim7.holds Tryd.pinned (.plain (OpenSpec.upto shaStatesSpec)) shaStatesUptoCard

/-- THE SECOND FORM's CARD OF 'casketlaw05.HmacTags'. -/
def hmacTagsUptoCard : Claim7 := { stood := { row := hmacTagsUptoRow, standIns := [], harness := (true, "3911d1c2b5f1117cc06ab2cb5b9d97e7724ae4ac4243201a3511f25a8f9dee54"), looks := false }, kinds := [], alts := [], laidByText := true, laidKinds := [.data], laidTests := true, laidLooks := .later }
def HmacTagsUptoCardSaid : Prop := Claim7.holds Tryd.pinned (.plain (OpenSpec.upto hmacTagsSpec)) hmacTagsUptoCard

/-- THE SECOND FORM's CARD OF 'casketlaw05.HmacDerives'. -/
def hmacDerivesUptoCard : Claim7 := { stood := { row := hmacDerivesUptoRow, standIns := [], harness := (true, "3911d1c2b5f1117cc06ab2cb5b9d97e7724ae4ac4243201a3511f25a8f9dee54"), looks := false }, kinds := [], alts := [], laidByText := true, laidKinds := [.data], laidTests := true, laidLooks := .later }
def HmacDerivesUptoCardSaid : Prop := Claim7.holds Tryd.pinned (.plain (OpenSpec.upto hmacDerivesSpec)) hmacDerivesUptoCard

/-- THE SECOND FORM's CARD OF 'casketlaw05.HmacEqual'. -/
def hmacEqualUptoCard : Claim7 := { stood := { row := hmacEqualUptoRow, standIns := [], harness := (true, "3911d1c2b5f1117cc06ab2cb5b9d97e7724ae4ac4243201a3511f25a8f9dee54"), looks := false }, kinds := [], alts := [], laidByText := true, laidKinds := [.data], laidTests := true, laidLooks := .later }
def HmacEqualUptoCardSaid : Prop := Claim7.holds Tryd.pinned (.plain (OpenSpec.upto hmacEqualSpec)) hmacEqualUptoCard

/-- THE SECOND FORM's CARD OF 'casketlaw05.HmacReady'. -/
def hmacReadyUptoCard : Claim7 := { stood := { row := hmacReadyUptoRow, standIns := [], harness := (true, "3911d1c2b5f1117cc06ab2cb5b9d97e7724ae4ac4243201a3511f25a8f9dee54"), looks := false }, kinds := [], alts := [], laidByText := true, laidKinds := [.data], laidTests := true, laidLooks := .later }
def HmacReadyUptoCardSaid : Prop := Claim7.holds Tryd.pinned (.plain (OpenSpec.upto hmacReadySpec)) hmacReadyUptoCard

/-- THE SECOND FORM's CARD OF 'casketlaw05.HmacPieces'. -/
def hmacPiecesUptoCard : Claim7 := { stood := { row := hmacPiecesUptoRow, standIns := [], harness := (true, "3911d1c2b5f1117cc06ab2cb5b9d97e7724ae4ac4243201a3511f25a8f9dee54"), looks := false }, kinds := [], alts := [], laidByText := true, laidKinds := [.data], laidTests := true, laidLooks := .later }
def HmacPiecesUptoCardSaid : Prop := Claim7.holds Tryd.pinned (.plain (OpenSpec.upto hmacPiecesSpec)) hmacPiecesUptoCard
end Rows
end Go.Proofs.YtpkifhjlmkbdpaaDoor
