/-
  NARROWER THAN 'FOR EVERY INPUT', by the rows' own cells (each row's printed sentence says how): ShaSums: laid · ShaBlocks: laid · ShaPieces: laid · ShaLengths: laid · ShaNobody: laid · ShaStates: laid · HmacTags: laid · HmacDerives: laid · HmacEqual: laid · HmacReady: laid · HmacPieces: laid.
  DERIVED. THE GIVEN ROWS OF THIS SEAT. 11 by the template 'for every input the law returns true; each argument reads behind the call as it read before'; 0 by the template 'total and deterministic' (their statements: YtpkifhjlmkbdpaaDoorTotals.lean).
  GIVEN WITH THE SEED: the statements are not yours to turn. If you find one false, say at which input.
  Laid BY PROGRAM, IN A SANDBOX (cutbox-rows.mjs): the forced cells as the released guide's own fill.sh prints them over the translation ad2ebad29bfec09c… (all of the seat's roots in one cut). By AI agents, Wed Nov 11 2026. No macro, syntax, notation, axiom, sorry.
-/
import Derived.Test.YtpkifhjlmkbdpaaDoorChecked
import GoSem.Claim
import GoSem.ClaimJoined
import GoSem.ClaimMapViews
import Derived.JoinedTies
import Derived.KernelRfl
namespace Go.Proofs.YtpkifhjlmkbdpaaDoor
/- THE CELL 'sum', in the pinned program and in every row, IS THE sha256 OF THE DUMP (.gsa) THAT YtpkifhjlmkbdpaaDoorProg.lean LOADS. Nothing in Lean hashes anything: it is a label: what it is worth is what the hold of that sum in a sandbox is worth. -/
noncomputable def Tryd.pinned : Pinned := { name := "ytpkifhjlmkbdpaadoor", sum := "ad2ebad29bfec09cb76c5fa8c76d6db04748e3464739dd0e93cc216ac6e2bdb8", checked := Tryd.checked }
namespace Rows
def none {H : Type} : Left H := { results := [], args := [] }

/- WHAT THE LISTED PACKAGE-LEVEL VARIABLES READ AS WHEN THE CALL BEGINS. Each datum BY PROGRAM (the guide's laid-datum.mjs) off the statement by which the dump's own 'gosem.cut.vars' lays the variable. In a bare row this is a premise. The card (YtpkifhjlmkbdpaaDoorCards.lean) ties it to the program's text. -/
def laid_casket_sha_constants {H : Type} : DataW H := .agg [.lit (.int .u32 1116352408), .lit (.int .u32 1899447441), .lit (.int .u32 3049323471), .lit (.int .u32 3921009573), .lit (.int .u32 961987163), .lit (.int .u32 1508970993), .lit (.int .u32 2453635748), .lit (.int .u32 2870763221), .lit (.int .u32 3624381080), .lit (.int .u32 310598401), .lit (.int .u32 607225278), .lit (.int .u32 1426881987), .lit (.int .u32 1925078388), .lit (.int .u32 2162078206), .lit (.int .u32 2614888103), .lit (.int .u32 3248222580), .lit (.int .u32 3835390401), .lit (.int .u32 4022224774), .lit (.int .u32 264347078), .lit (.int .u32 604807628), .lit (.int .u32 770255983), .lit (.int .u32 1249150122), .lit (.int .u32 1555081692), .lit (.int .u32 1996064986), .lit (.int .u32 2554220882), .lit (.int .u32 2821834349), .lit (.int .u32 2952996808), .lit (.int .u32 3210313671), .lit (.int .u32 3336571891), .lit (.int .u32 3584528711), .lit (.int .u32 113926993), .lit (.int .u32 338241895), .lit (.int .u32 666307205), .lit (.int .u32 773529912), .lit (.int .u32 1294757372), .lit (.int .u32 1396182291), .lit (.int .u32 1695183700), .lit (.int .u32 1986661051), .lit (.int .u32 2177026350), .lit (.int .u32 2456956037), .lit (.int .u32 2730485921), .lit (.int .u32 2820302411), .lit (.int .u32 3259730800), .lit (.int .u32 3345764771), .lit (.int .u32 3516065817), .lit (.int .u32 3600352804), .lit (.int .u32 4094571909), .lit (.int .u32 275423344), .lit (.int .u32 430227734), .lit (.int .u32 506948616), .lit (.int .u32 659060556), .lit (.int .u32 883997877), .lit (.int .u32 958139571), .lit (.int .u32 1322822218), .lit (.int .u32 1537002063), .lit (.int .u32 1747873779), .lit (.int .u32 1955562222), .lit (.int .u32 2024104815), .lit (.int .u32 2227730452), .lit (.int .u32 2361852424), .lit (.int .u32 2428436474), .lit (.int .u32 2756734187), .lit (.int .u32 3204031479), .lit (.int .u32 3329325298)]

/-- 'casketlaw04.ShaSums': WHATEVER THE INPUT: true; the input reads as it did. -/
def shaSumsSpec : ChangeSpec := { name := "shaSums", fn := fun _ => fun
  | [d] => { results := [.lit (.bool true)], args := [d] }
  | _ => none }
def shaSumsRow : OpenClaim := { program := "ytpkifhjlmkbdpaadoor", sum := "ad2ebad29bfec09cb76c5fa8c76d6db04748e3464739dd0e93cc216ac6e2bdb8", func := "casket/casketlaw04.ShaSums", spec := "shaSums", named := ["casket/sha.constants"], apart := false, laid := [("casket/sha.constants", laid_casket_sha_constants)] }
def ShaSumsSaid : Prop := shaSumsRow.holds Tryd.pinned (OpenSpec.ofChange shaSumsSpec)

/-- ITS FALSE NEIGHBOUR: 'it returns false'. Refute it at one input. -/
def shaSumsWrong : ChangeSpec := { name := "shaSums", fn := fun _ => fun
  | [d] => { results := [.lit (.bool false)], args := [d] }
  | _ => none }
def ShaSumsWrongFalsely : Prop := shaSumsRow.holds Tryd.pinned (OpenSpec.ofChange shaSumsWrong)

/-- 'casketlaw04.ShaBlocks': WHATEVER THE INPUT: true; the input reads as it did. -/
def shaBlocksSpec : ChangeSpec := { name := "shaBlocks", fn := fun _ => fun
  | [d1, d2] => { results := [.lit (.bool true)], args := [d1, d2] }
  | _ => none }
def shaBlocksRow : OpenClaim := { program := "ytpkifhjlmkbdpaadoor", sum := "ad2ebad29bfec09cb76c5fa8c76d6db04748e3464739dd0e93cc216ac6e2bdb8", func := "casket/casketlaw04.ShaBlocks", spec := "shaBlocks", named := ["casket/sha.constants"], apart := false, laid := [("casket/sha.constants", laid_casket_sha_constants)] }
def ShaBlocksSaid : Prop := shaBlocksRow.holds Tryd.pinned (OpenSpec.ofChange shaBlocksSpec)

/-- ITS FALSE NEIGHBOUR: 'it returns false'. Refute it at one input. -/
def shaBlocksWrong : ChangeSpec := { name := "shaBlocks", fn := fun _ => fun
  | [d1, d2] => { results := [.lit (.bool false)], args := [d1, d2] }
  | _ => none }
def ShaBlocksWrongFalsely : Prop := shaBlocksRow.holds Tryd.pinned (OpenSpec.ofChange shaBlocksWrong)

/-- 'casketlaw04.ShaPieces': WHATEVER THE INPUT: true; the input reads as it did. -/
def shaPiecesSpec : ChangeSpec := { name := "shaPieces", fn := fun _ => fun
  | [d] => { results := [.lit (.bool true)], args := [d] }
  | _ => none }
def shaPiecesRow : OpenClaim := { program := "ytpkifhjlmkbdpaadoor", sum := "ad2ebad29bfec09cb76c5fa8c76d6db04748e3464739dd0e93cc216ac6e2bdb8", func := "casket/casketlaw04.ShaPieces", spec := "shaPieces", named := ["casket/sha.constants"], apart := false, laid := [("casket/sha.constants", laid_casket_sha_constants)] }
def ShaPiecesSaid : Prop := shaPiecesRow.holds Tryd.pinned (OpenSpec.ofChange shaPiecesSpec)

/-- ITS FALSE NEIGHBOUR: 'it returns false'. Refute it at one input. -/
def shaPiecesWrong : ChangeSpec := { name := "shaPieces", fn := fun _ => fun
  | [d] => { results := [.lit (.bool false)], args := [d] }
  | _ => none }
def ShaPiecesWrongFalsely : Prop := shaPiecesRow.holds Tryd.pinned (OpenSpec.ofChange shaPiecesWrong)

/-- 'casketlaw04.ShaLengths': WHATEVER THE INPUT: true; the input reads as it did. -/
def shaLengthsSpec : ChangeSpec := { name := "shaLengths", fn := fun _ => fun
  | [d1, d2] => { results := [.lit (.bool true)], args := [d1, d2] }
  | _ => none }
def shaLengthsRow : OpenClaim := { program := "ytpkifhjlmkbdpaadoor", sum := "ad2ebad29bfec09cb76c5fa8c76d6db04748e3464739dd0e93cc216ac6e2bdb8", func := "casket/casketlaw04.ShaLengths", spec := "shaLengths", named := ["casket/sha.constants"], apart := false, laid := [("casket/sha.constants", laid_casket_sha_constants)] }
def ShaLengthsSaid : Prop := shaLengthsRow.holds Tryd.pinned (OpenSpec.ofChange shaLengthsSpec)

/-- ITS FALSE NEIGHBOUR: 'it returns false'. Refute it at one input. -/
def shaLengthsWrong : ChangeSpec := { name := "shaLengths", fn := fun _ => fun
  | [d1, d2] => { results := [.lit (.bool false)], args := [d1, d2] }
  | _ => none }
def ShaLengthsWrongFalsely : Prop := shaLengthsRow.holds Tryd.pinned (OpenSpec.ofChange shaLengthsWrong)

/-- 'casketlaw04.ShaNobody': WHATEVER THE INPUT: true; the input reads as it did. -/
def shaNobodySpec : ChangeSpec := { name := "shaNobody", fn := fun _ => fun
  | [d] => { results := [.lit (.bool true)], args := [d] }
  | _ => none }
def shaNobodyRow : OpenClaim := { program := "ytpkifhjlmkbdpaadoor", sum := "ad2ebad29bfec09cb76c5fa8c76d6db04748e3464739dd0e93cc216ac6e2bdb8", func := "casket/casketlaw04.ShaNobody", spec := "shaNobody", named := ["casket/sha.constants"], apart := false, laid := [("casket/sha.constants", laid_casket_sha_constants)] }
def ShaNobodySaid : Prop := shaNobodyRow.holds Tryd.pinned (OpenSpec.ofChange shaNobodySpec)

/-- ITS FALSE NEIGHBOUR: 'it returns false'. Refute it at one input. -/
def shaNobodyWrong : ChangeSpec := { name := "shaNobody", fn := fun _ => fun
  | [d] => { results := [.lit (.bool false)], args := [d] }
  | _ => none }
def ShaNobodyWrongFalsely : Prop := shaNobodyRow.holds Tryd.pinned (OpenSpec.ofChange shaNobodyWrong)

/-- 'casketlaw04.ShaStates': WHATEVER THE INPUT: true; the input reads as it did. -/
def shaStatesSpec : ChangeSpec := { name := "shaStates", fn := fun _ => fun
  | [d] => { results := [.lit (.bool true)], args := [d] }
  | _ => none }
def shaStatesRow : OpenClaim := { program := "ytpkifhjlmkbdpaadoor", sum := "ad2ebad29bfec09cb76c5fa8c76d6db04748e3464739dd0e93cc216ac6e2bdb8", func := "casket/casketlaw04.ShaStates", spec := "shaStates", named := ["casket/sha.constants"], apart := false, laid := [("casket/sha.constants", laid_casket_sha_constants)] }
def ShaStatesSaid : Prop := shaStatesRow.holds Tryd.pinned (OpenSpec.ofChange shaStatesSpec)

/-- ITS FALSE NEIGHBOUR: 'it returns false'. Refute it at one input. -/
def shaStatesWrong : ChangeSpec := { name := "shaStates", fn := fun _ => fun
  | [d] => { results := [.lit (.bool false)], args := [d] }
  | _ => none }
def ShaStatesWrongFalsely : Prop := shaStatesRow.holds Tryd.pinned (OpenSpec.ofChange shaStatesWrong)

/-- 'casketlaw05.HmacTags': WHATEVER THE INPUT: true; the input reads as it did. -/
def hmacTagsSpec : ChangeSpec := { name := "hmacTags", fn := fun _ => fun
  | [d1, d2, d3, d4] => { results := [.lit (.bool true)], args := [d1, d2, d3, d4] }
  | _ => none }
def hmacTagsRow : OpenClaim := { program := "ytpkifhjlmkbdpaadoor", sum := "ad2ebad29bfec09cb76c5fa8c76d6db04748e3464739dd0e93cc216ac6e2bdb8", func := "casket/casketlaw05.HmacTags", spec := "hmacTags", named := ["casket/sha.constants"], apart := false, laid := [("casket/sha.constants", laid_casket_sha_constants)] }
def HmacTagsSaid : Prop := hmacTagsRow.holds Tryd.pinned (OpenSpec.ofChange hmacTagsSpec)

/-- ITS FALSE NEIGHBOUR: 'it returns false'. Refute it at one input. -/
def hmacTagsWrong : ChangeSpec := { name := "hmacTags", fn := fun _ => fun
  | [d1, d2, d3, d4] => { results := [.lit (.bool false)], args := [d1, d2, d3, d4] }
  | _ => none }
def HmacTagsWrongFalsely : Prop := hmacTagsRow.holds Tryd.pinned (OpenSpec.ofChange hmacTagsWrong)

/-- 'casketlaw05.HmacDerives': WHATEVER THE INPUT: true; the input reads as it did. -/
def hmacDerivesSpec : ChangeSpec := { name := "hmacDerives", fn := fun _ => fun
  | [d1, d2, d3, d4] => { results := [.lit (.bool true)], args := [d1, d2, d3, d4] }
  | _ => none }
def hmacDerivesRow : OpenClaim := { program := "ytpkifhjlmkbdpaadoor", sum := "ad2ebad29bfec09cb76c5fa8c76d6db04748e3464739dd0e93cc216ac6e2bdb8", func := "casket/casketlaw05.HmacDerives", spec := "hmacDerives", named := ["casket/sha.constants"], apart := false, laid := [("casket/sha.constants", laid_casket_sha_constants)] }
def HmacDerivesSaid : Prop := hmacDerivesRow.holds Tryd.pinned (OpenSpec.ofChange hmacDerivesSpec)

/-- ITS FALSE NEIGHBOUR: 'it returns false'. Refute it at one input. -/
def hmacDerivesWrong : ChangeSpec := { name := "hmacDerives", fn := fun _ => fun
  | [d1, d2, d3, d4] => { results := [.lit (.bool false)], args := [d1, d2, d3, d4] }
  | _ => none }
def HmacDerivesWrongFalsely : Prop := hmacDerivesRow.holds Tryd.pinned (OpenSpec.ofChange hmacDerivesWrong)

/-- 'casketlaw05.HmacEqual': WHATEVER THE INPUT: true; the input reads as it did. -/
def hmacEqualSpec : ChangeSpec := { name := "hmacEqual", fn := fun _ => fun
  | [d1, d2] => { results := [.lit (.bool true)], args := [d1, d2] }
  | _ => none }
def hmacEqualRow : OpenClaim := { program := "ytpkifhjlmkbdpaadoor", sum := "ad2ebad29bfec09cb76c5fa8c76d6db04748e3464739dd0e93cc216ac6e2bdb8", func := "casket/casketlaw05.HmacEqual", spec := "hmacEqual", named := ["casket/sha.constants"], apart := false, laid := [("casket/sha.constants", laid_casket_sha_constants)] }
def HmacEqualSaid : Prop := hmacEqualRow.holds Tryd.pinned (OpenSpec.ofChange hmacEqualSpec)

/-- ITS FALSE NEIGHBOUR: 'it returns false'. Refute it at one input. -/
def hmacEqualWrong : ChangeSpec := { name := "hmacEqual", fn := fun _ => fun
  | [d1, d2] => { results := [.lit (.bool false)], args := [d1, d2] }
  | _ => none }
def HmacEqualWrongFalsely : Prop := hmacEqualRow.holds Tryd.pinned (OpenSpec.ofChange hmacEqualWrong)

/-- 'casketlaw05.HmacReady': WHATEVER THE INPUT: true; the input reads as it did. -/
def hmacReadySpec : ChangeSpec := { name := "hmacReady", fn := fun _ => fun
  | [d1, d2] => { results := [.lit (.bool true)], args := [d1, d2] }
  | _ => none }
def hmacReadyRow : OpenClaim := { program := "ytpkifhjlmkbdpaadoor", sum := "ad2ebad29bfec09cb76c5fa8c76d6db04748e3464739dd0e93cc216ac6e2bdb8", func := "casket/casketlaw05.HmacReady", spec := "hmacReady", named := ["casket/sha.constants"], apart := false, laid := [("casket/sha.constants", laid_casket_sha_constants)] }
def HmacReadySaid : Prop := hmacReadyRow.holds Tryd.pinned (OpenSpec.ofChange hmacReadySpec)

/-- ITS FALSE NEIGHBOUR: 'it returns false'. Refute it at one input. -/
def hmacReadyWrong : ChangeSpec := { name := "hmacReady", fn := fun _ => fun
  | [d1, d2] => { results := [.lit (.bool false)], args := [d1, d2] }
  | _ => none }
def HmacReadyWrongFalsely : Prop := hmacReadyRow.holds Tryd.pinned (OpenSpec.ofChange hmacReadyWrong)

/-- 'casketlaw05.HmacPieces': WHATEVER THE INPUT: true; the input reads as it did. -/
def hmacPiecesSpec : ChangeSpec := { name := "hmacPieces", fn := fun _ => fun
  | [d1, d2] => { results := [.lit (.bool true)], args := [d1, d2] }
  | _ => none }
def hmacPiecesRow : OpenClaim := { program := "ytpkifhjlmkbdpaadoor", sum := "ad2ebad29bfec09cb76c5fa8c76d6db04748e3464739dd0e93cc216ac6e2bdb8", func := "casket/casketlaw05.HmacPieces", spec := "hmacPieces", named := ["casket/sha.constants"], apart := false, laid := [("casket/sha.constants", laid_casket_sha_constants)] }
def HmacPiecesSaid : Prop := hmacPiecesRow.holds Tryd.pinned (OpenSpec.ofChange hmacPiecesSpec)

/-- ITS FALSE NEIGHBOUR: 'it returns false'. Refute it at one input. -/
def hmacPiecesWrong : ChangeSpec := { name := "hmacPieces", fn := fun _ => fun
  | [d1, d2] => { results := [.lit (.bool false)], args := [d1, d2] }
  | _ => none }
def HmacPiecesWrongFalsely : Prop := hmacPiecesRow.holds Tryd.pinned (OpenSpec.ofChange hmacPiecesWrong)

/- THE SECOND FORM. 'bulk': how many values and letters a reading holds, each counted each time it is reached (what is shared counts as often as it is met; a slice's spare places count too). A statement '..UptoSaid' is the law's where the arguments, and the package variables that the reading takes, are together of bulk at most 1048576: NARROWER than '..Said'. Prove '..Said' where nothing that the law and all that it calls make is longer than what came in: it says more and counts as full. Else prove '..UptoSaid'. A law counts once. -/
mutual
def uptoBulk {H : Type} : DataW H → Nat
  | .lit (.string bytes) => bytes.length + 1
  | .lit _ => 1
  | .nil => 1
  | .ptr d => uptoBulk d + 1
  | .slice elems spare => uptoBulkAll elems + uptoBulkAll spare + 1
  | .agg parts => uptoBulkAll parts + 1
  | .iface _ d => uptoBulk d + 1
  | .map entries => uptoBulkEntries entries + 1
  | .held _ => 1
def uptoBulkAll {H : Type} : List (DataW H) → Nat
  | [] => 0
  | d :: r => uptoBulk d + uptoBulkAll r
def uptoBulkEntries {H : Type} : List (Lit × DataW H) → Nat
  | [] => 0
  | x :: r => uptoBulkEntry x + uptoBulkEntries r
def uptoBulkEntry {H : Type} : Lit × DataW H → Nat
  | (.string bytes, d) => bytes.length + uptoBulk d + 1
  | (_, d) => uptoBulk d + 1
 end
def uptoSmall : (H : Type) → List (DataW H) → Bool := fun _ ds => decide (uptoBulkAll ds ≤ 1048576)
def OpenSpec.upto (s : _root_.Go.ChangeSpec) : _root_.Go.OpenSpec := { _root_.Go.OpenSpec.ofChange s with cond := some uptoSmall }

/-- 'casketlaw04.ShaSums', WHERE WHAT IT READS IS OF BULK AT MOST 1048576: true; the input reads as it did. -/
def shaSumsUptoRow : OpenClaim := { program := "ytpkifhjlmkbdpaadoor", sum := "ad2ebad29bfec09cb76c5fa8c76d6db04748e3464739dd0e93cc216ac6e2bdb8", func := "casket/casketlaw04.ShaSums", spec := "shaSums", named := ["casket/sha.constants"], apart := false, laid := [("casket/sha.constants", laid_casket_sha_constants)], narrowed := true }
def ShaSumsUptoSaid : Prop := shaSumsUptoRow.holds Tryd.pinned (OpenSpec.upto shaSumsSpec)

/-- 'casketlaw04.ShaBlocks', WHERE WHAT IT READS IS OF BULK AT MOST 1048576: true; the input reads as it did. -/
def shaBlocksUptoRow : OpenClaim := { program := "ytpkifhjlmkbdpaadoor", sum := "ad2ebad29bfec09cb76c5fa8c76d6db04748e3464739dd0e93cc216ac6e2bdb8", func := "casket/casketlaw04.ShaBlocks", spec := "shaBlocks", named := ["casket/sha.constants"], apart := false, laid := [("casket/sha.constants", laid_casket_sha_constants)], narrowed := true }
def ShaBlocksUptoSaid : Prop := shaBlocksUptoRow.holds Tryd.pinned (OpenSpec.upto shaBlocksSpec)

/-- 'casketlaw04.ShaPieces', WHERE WHAT IT READS IS OF BULK AT MOST 1048576: true; the input reads as it did. -/
def shaPiecesUptoRow : OpenClaim := { program := "ytpkifhjlmkbdpaadoor", sum := "ad2ebad29bfec09cb76c5fa8c76d6db04748e3464739dd0e93cc216ac6e2bdb8", func := "casket/casketlaw04.ShaPieces", spec := "shaPieces", named := ["casket/sha.constants"], apart := false, laid := [("casket/sha.constants", laid_casket_sha_constants)], narrowed := true }
def ShaPiecesUptoSaid : Prop := shaPiecesUptoRow.holds Tryd.pinned (OpenSpec.upto shaPiecesSpec)

/-- 'casketlaw04.ShaLengths', WHERE WHAT IT READS IS OF BULK AT MOST 1048576: true; the input reads as it did. -/
def shaLengthsUptoRow : OpenClaim := { program := "ytpkifhjlmkbdpaadoor", sum := "ad2ebad29bfec09cb76c5fa8c76d6db04748e3464739dd0e93cc216ac6e2bdb8", func := "casket/casketlaw04.ShaLengths", spec := "shaLengths", named := ["casket/sha.constants"], apart := false, laid := [("casket/sha.constants", laid_casket_sha_constants)], narrowed := true }
def ShaLengthsUptoSaid : Prop := shaLengthsUptoRow.holds Tryd.pinned (OpenSpec.upto shaLengthsSpec)

/-- 'casketlaw04.ShaNobody', WHERE WHAT IT READS IS OF BULK AT MOST 1048576: true; the input reads as it did. -/
def shaNobodyUptoRow : OpenClaim := { program := "ytpkifhjlmkbdpaadoor", sum := "ad2ebad29bfec09cb76c5fa8c76d6db04748e3464739dd0e93cc216ac6e2bdb8", func := "casket/casketlaw04.ShaNobody", spec := "shaNobody", named := ["casket/sha.constants"], apart := false, laid := [("casket/sha.constants", laid_casket_sha_constants)], narrowed := true }
def ShaNobodyUptoSaid : Prop := shaNobodyUptoRow.holds Tryd.pinned (OpenSpec.upto shaNobodySpec)

/-- 'casketlaw04.ShaStates', WHERE WHAT IT READS IS OF BULK AT MOST 1048576: true; the input reads as it did. -/
def shaStatesUptoRow : OpenClaim := { program := "ytpkifhjlmkbdpaadoor", sum := "ad2ebad29bfec09cb76c5fa8c76d6db04748e3464739dd0e93cc216ac6e2bdb8", func := "casket/casketlaw04.ShaStates", spec := "shaStates", named := ["casket/sha.constants"], apart := false, laid := [("casket/sha.constants", laid_casket_sha_constants)], narrowed := true }
def ShaStatesUptoSaid : Prop := shaStatesUptoRow.holds Tryd.pinned (OpenSpec.upto shaStatesSpec)

/-- 'casketlaw05.HmacTags', WHERE WHAT IT READS IS OF BULK AT MOST 1048576: true; the input reads as it did. -/
def hmacTagsUptoRow : OpenClaim := { program := "ytpkifhjlmkbdpaadoor", sum := "ad2ebad29bfec09cb76c5fa8c76d6db04748e3464739dd0e93cc216ac6e2bdb8", func := "casket/casketlaw05.HmacTags", spec := "hmacTags", named := ["casket/sha.constants"], apart := false, laid := [("casket/sha.constants", laid_casket_sha_constants)], narrowed := true }
def HmacTagsUptoSaid : Prop := hmacTagsUptoRow.holds Tryd.pinned (OpenSpec.upto hmacTagsSpec)

/-- 'casketlaw05.HmacDerives', WHERE WHAT IT READS IS OF BULK AT MOST 1048576: true; the input reads as it did. -/
def hmacDerivesUptoRow : OpenClaim := { program := "ytpkifhjlmkbdpaadoor", sum := "ad2ebad29bfec09cb76c5fa8c76d6db04748e3464739dd0e93cc216ac6e2bdb8", func := "casket/casketlaw05.HmacDerives", spec := "hmacDerives", named := ["casket/sha.constants"], apart := false, laid := [("casket/sha.constants", laid_casket_sha_constants)], narrowed := true }
def HmacDerivesUptoSaid : Prop := hmacDerivesUptoRow.holds Tryd.pinned (OpenSpec.upto hmacDerivesSpec)

/-- 'casketlaw05.HmacEqual', WHERE WHAT IT READS IS OF BULK AT MOST 1048576: true; the input reads as it did. -/
def hmacEqualUptoRow : OpenClaim := { program := "ytpkifhjlmkbdpaadoor", sum := "ad2ebad29bfec09cb76c5fa8c76d6db04748e3464739dd0e93cc216ac6e2bdb8", func := "casket/casketlaw05.HmacEqual", spec := "hmacEqual", named := ["casket/sha.constants"], apart := false, laid := [("casket/sha.constants", laid_casket_sha_constants)], narrowed := true }
def HmacEqualUptoSaid : Prop := hmacEqualUptoRow.holds Tryd.pinned (OpenSpec.upto hmacEqualSpec)

/-- 'casketlaw05.HmacReady', WHERE WHAT IT READS IS OF BULK AT MOST 1048576: true; the input reads as it did. -/
def hmacReadyUptoRow : OpenClaim := { program := "ytpkifhjlmkbdpaadoor", sum := "ad2ebad29bfec09cb76c5fa8c76d6db04748e3464739dd0e93cc216ac6e2bdb8", func := "casket/casketlaw05.HmacReady", spec := "hmacReady", named := ["casket/sha.constants"], apart := false, laid := [("casket/sha.constants", laid_casket_sha_constants)], narrowed := true }
def HmacReadyUptoSaid : Prop := hmacReadyUptoRow.holds Tryd.pinned (OpenSpec.upto hmacReadySpec)

/-- 'casketlaw05.HmacPieces', WHERE WHAT IT READS IS OF BULK AT MOST 1048576: true; the input reads as it did. -/
def hmacPiecesUptoRow : OpenClaim := { program := "ytpkifhjlmkbdpaadoor", sum := "ad2ebad29bfec09cb76c5fa8c76d6db04748e3464739dd0e93cc216ac6e2bdb8", func := "casket/casketlaw05.HmacPieces", spec := "hmacPieces", named := ["casket/sha.constants"], apart := false, laid := [("casket/sha.constants", laid_casket_sha_constants)], narrowed := true }
def HmacPiecesUptoSaid : Prop := hmacPiecesUptoRow.holds Tryd.pinned (OpenSpec.upto hmacPiecesSpec)

end Rows
end Go.Proofs.YtpkifhjlmkbdpaaDoor
