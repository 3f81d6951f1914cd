/-
  No cell of these rows narrows 'for every input' (looked for: loops, veiled, ifaces, maps, wideKeys, modest, calm, conditions, laid).
  DERIVED. THE GIVEN ROWS OF THIS SEAT. 9 by the template 'for every input the law returns true; each argument reads behind the call as it read before'; 0 by the template 'total and deterministic' (their statements: YtgabgpgcplkebaaTotals.lean).
  GIVEN WITH THE SEED: the statements are not yours to turn. If you find one false, say at which input.
  Laid BY PROGRAM, IN A SANDBOX (cutbox-rows.mjs): the forced cells as the released guide's own fill.sh prints them over the translation 4e2acea3ce5f6737… (all of the seat's roots in one cut). By AI agents, Wed Nov 11 2026. No macro, syntax, notation, axiom, sorry.
-/
import Derived.Test.YtgabgpgcplkebaaChecked
import GoSem.Claim
import GoSem.ClaimJoined
import GoSem.ClaimMapViews
import Derived.JoinedTies
import Derived.KernelRfl
namespace Go.Proofs.Ytgabgpgcplkebaa
/- THE CELL 'sum', in the pinned program and in every row, IS THE sha256 OF THE DUMP (.gsa) THAT YtgabgpgcplkebaaProg.lean LOADS. Nothing in Lean hashes anything: it is a label: what it is worth is what the hold of that sum in a sandbox is worth. -/
noncomputable def Try.pinned : Pinned := { name := "ytgabgpgcplkebaa", sum := "4e2acea3ce5f6737a5985a0bab932c6692b57f4e5375b8e491b5bfcafe07fc5f", checked := Try.checked }
namespace Rows
def none {H : Type} : Left H := { results := [], args := [] }

/-- 'casketlaw02.AesFirst': WHATEVER THE INPUT: true; the input reads as it did. -/
def aesFirstSpec : ChangeSpec := { name := "aesFirst", fn := fun _ => fun
  | [d1, d2] => { results := [.lit (.bool true)], args := [d1, d2] }
  | _ => none }
def aesFirstRow : OpenClaim := { program := "ytgabgpgcplkebaa", sum := "4e2acea3ce5f6737a5985a0bab932c6692b57f4e5375b8e491b5bfcafe07fc5f", func := "casket/casketlaw02.AesFirst", spec := "aesFirst", apart := false }
def AesFirstSaid : Prop := aesFirstRow.holds Try.pinned (OpenSpec.ofChange aesFirstSpec)

/-- ITS FALSE NEIGHBOUR: 'it returns false'. Refute it at one input. -/
def aesFirstWrong : ChangeSpec := { name := "aesFirst", fn := fun _ => fun
  | [d1, d2] => { results := [.lit (.bool false)], args := [d1, d2] }
  | _ => none }
def AesFirstWrongFalsely : Prop := aesFirstRow.holds Try.pinned (OpenSpec.ofChange aesFirstWrong)

/-- 'casketlaw02.AesBlocks': WHATEVER THE INPUT: true; the input reads as it did. -/
def aesBlocksSpec : ChangeSpec := { name := "aesBlocks", fn := fun _ => fun
  | [d1, d2] => { results := [.lit (.bool true)], args := [d1, d2] }
  | _ => none }
def aesBlocksRow : OpenClaim := { program := "ytgabgpgcplkebaa", sum := "4e2acea3ce5f6737a5985a0bab932c6692b57f4e5375b8e491b5bfcafe07fc5f", func := "casket/casketlaw02.AesBlocks", spec := "aesBlocks", apart := false }
def AesBlocksSaid : Prop := aesBlocksRow.holds Try.pinned (OpenSpec.ofChange aesBlocksSpec)

/-- ITS FALSE NEIGHBOUR: 'it returns false'. Refute it at one input. -/
def aesBlocksWrong : ChangeSpec := { name := "aesBlocks", fn := fun _ => fun
  | [d1, d2] => { results := [.lit (.bool false)], args := [d1, d2] }
  | _ => none }
def AesBlocksWrongFalsely : Prop := aesBlocksRow.holds Try.pinned (OpenSpec.ofChange aesBlocksWrong)

/-- 'casketlaw02.AesBack': WHATEVER THE INPUT: true; the input reads as it did. -/
def aesBackSpec : ChangeSpec := { name := "aesBack", fn := fun _ => fun
  | [d1, d2, d3] => { results := [.lit (.bool true)], args := [d1, d2, d3] }
  | _ => none }
def aesBackRow : OpenClaim := { program := "ytgabgpgcplkebaa", sum := "4e2acea3ce5f6737a5985a0bab932c6692b57f4e5375b8e491b5bfcafe07fc5f", func := "casket/casketlaw02.AesBack", spec := "aesBack", apart := false }
def AesBackSaid : Prop := aesBackRow.holds Try.pinned (OpenSpec.ofChange aesBackSpec)

/-- ITS FALSE NEIGHBOUR: 'it returns false'. Refute it at one input. -/
def aesBackWrong : ChangeSpec := { name := "aesBack", fn := fun _ => fun
  | [d1, d2, d3] => { results := [.lit (.bool false)], args := [d1, d2, d3] }
  | _ => none }
def AesBackWrongFalsely : Prop := aesBackRow.holds Try.pinned (OpenSpec.ofChange aesBackWrong)

/-- 'casketlaw02.AesApart': WHATEVER THE INPUT: true; the input reads as it did. -/
def aesApartSpec : ChangeSpec := { name := "aesApart", fn := fun _ => fun
  | [d1, d2, d3] => { results := [.lit (.bool true)], args := [d1, d2, d3] }
  | _ => none }
def aesApartRow : OpenClaim := { program := "ytgabgpgcplkebaa", sum := "4e2acea3ce5f6737a5985a0bab932c6692b57f4e5375b8e491b5bfcafe07fc5f", func := "casket/casketlaw02.AesApart", spec := "aesApart", apart := false }
def AesApartSaid : Prop := aesApartRow.holds Try.pinned (OpenSpec.ofChange aesApartSpec)

/-- ITS FALSE NEIGHBOUR: 'it returns false'. Refute it at one input. -/
def aesApartWrong : ChangeSpec := { name := "aesApart", fn := fun _ => fun
  | [d1, d2, d3] => { results := [.lit (.bool false)], args := [d1, d2, d3] }
  | _ => none }
def AesApartWrongFalsely : Prop := aesApartRow.holds Try.pinned (OpenSpec.ofChange aesApartWrong)

/-- 'casketlaw02.AesKeys': WHATEVER THE INPUT: true; the input reads as it did. -/
def aesKeysSpec : ChangeSpec := { name := "aesKeys", fn := fun _ => fun
  | [d1, d2] => { results := [.lit (.bool true)], args := [d1, d2] }
  | _ => none }
def aesKeysRow : OpenClaim := { program := "ytgabgpgcplkebaa", sum := "4e2acea3ce5f6737a5985a0bab932c6692b57f4e5375b8e491b5bfcafe07fc5f", func := "casket/casketlaw02.AesKeys", spec := "aesKeys", apart := false }
def AesKeysSaid : Prop := aesKeysRow.holds Try.pinned (OpenSpec.ofChange aesKeysSpec)

/-- ITS FALSE NEIGHBOUR: 'it returns false'. Refute it at one input. -/
def aesKeysWrong : ChangeSpec := { name := "aesKeys", fn := fun _ => fun
  | [d1, d2] => { results := [.lit (.bool false)], args := [d1, d2] }
  | _ => none }
def AesKeysWrongFalsely : Prop := aesKeysRow.holds Try.pinned (OpenSpec.ofChange aesKeysWrong)

/-- 'casketlaw03.XtsPlaces': WHATEVER THE INPUT: true; the input reads as it did. -/
def xtsPlacesSpec : ChangeSpec := { name := "xtsPlaces", fn := fun _ => fun
  | [d1, d2, d3, d4, d5] => { results := [.lit (.bool true)], args := [d1, d2, d3, d4, d5] }
  | _ => none }
def xtsPlacesRow : OpenClaim := { program := "ytgabgpgcplkebaa", sum := "4e2acea3ce5f6737a5985a0bab932c6692b57f4e5375b8e491b5bfcafe07fc5f", func := "casket/casketlaw03.XtsPlaces", spec := "xtsPlaces", unfollowed := true, recurses := true, apart := false }
def XtsPlacesSaid : Prop := xtsPlacesRow.holds Try.pinned (OpenSpec.ofChange xtsPlacesSpec)

/-- ITS FALSE NEIGHBOUR: 'it returns false'. Refute it at one input. -/
def xtsPlacesWrong : ChangeSpec := { name := "xtsPlaces", fn := fun _ => fun
  | [d1, d2, d3, d4, d5] => { results := [.lit (.bool false)], args := [d1, d2, d3, d4, d5] }
  | _ => none }
def XtsPlacesWrongFalsely : Prop := xtsPlacesRow.holds Try.pinned (OpenSpec.ofChange xtsPlacesWrong)

/-- 'casketlaw03.XtsUnits': WHATEVER THE INPUT: true; the input reads as it did. -/
def xtsUnitsSpec : ChangeSpec := { name := "xtsUnits", fn := fun _ => fun
  | [d1, d2, d3] => { results := [.lit (.bool true)], args := [d1, d2, d3] }
  | _ => none }
def xtsUnitsRow : OpenClaim := { program := "ytgabgpgcplkebaa", sum := "4e2acea3ce5f6737a5985a0bab932c6692b57f4e5375b8e491b5bfcafe07fc5f", func := "casket/casketlaw03.XtsUnits", spec := "xtsUnits", unfollowed := true, recurses := true, apart := false }
def XtsUnitsSaid : Prop := xtsUnitsRow.holds Try.pinned (OpenSpec.ofChange xtsUnitsSpec)

/-- ITS FALSE NEIGHBOUR: 'it returns false'. Refute it at one input. -/
def xtsUnitsWrong : ChangeSpec := { name := "xtsUnits", fn := fun _ => fun
  | [d1, d2, d3] => { results := [.lit (.bool false)], args := [d1, d2, d3] }
  | _ => none }
def XtsUnitsWrongFalsely : Prop := xtsUnitsRow.holds Try.pinned (OpenSpec.ofChange xtsUnitsWrong)

/-- 'casketlaw03.XtsBack': WHATEVER THE INPUT: true; the input reads as it did. -/
def xtsBackSpec : ChangeSpec := { name := "xtsBack", fn := fun _ => fun
  | [d1, d2, d3, d4] => { results := [.lit (.bool true)], args := [d1, d2, d3, d4] }
  | _ => none }
def xtsBackRow : OpenClaim := { program := "ytgabgpgcplkebaa", sum := "4e2acea3ce5f6737a5985a0bab932c6692b57f4e5375b8e491b5bfcafe07fc5f", func := "casket/casketlaw03.XtsBack", spec := "xtsBack", unfollowed := true, recurses := true, apart := false }
def XtsBackSaid : Prop := xtsBackRow.holds Try.pinned (OpenSpec.ofChange xtsBackSpec)

/-- ITS FALSE NEIGHBOUR: 'it returns false'. Refute it at one input. -/
def xtsBackWrong : ChangeSpec := { name := "xtsBack", fn := fun _ => fun
  | [d1, d2, d3, d4] => { results := [.lit (.bool false)], args := [d1, d2, d3, d4] }
  | _ => none }
def XtsBackWrongFalsely : Prop := xtsBackRow.holds Try.pinned (OpenSpec.ofChange xtsBackWrong)

/-- 'casketlaw03.XtsFronts': WHATEVER THE INPUT: true; the input reads as it did. -/
def xtsFrontsSpec : ChangeSpec := { name := "xtsFronts", fn := fun _ => fun
  | [d1, d2, d3] => { results := [.lit (.bool true)], args := [d1, d2, d3] }
  | _ => none }
def xtsFrontsRow : OpenClaim := { program := "ytgabgpgcplkebaa", sum := "4e2acea3ce5f6737a5985a0bab932c6692b57f4e5375b8e491b5bfcafe07fc5f", func := "casket/casketlaw03.XtsFronts", spec := "xtsFronts", unfollowed := true, recurses := true, apart := false }
def XtsFrontsSaid : Prop := xtsFrontsRow.holds Try.pinned (OpenSpec.ofChange xtsFrontsSpec)

/-- ITS FALSE NEIGHBOUR: 'it returns false'. Refute it at one input. -/
def xtsFrontsWrong : ChangeSpec := { name := "xtsFronts", fn := fun _ => fun
  | [d1, d2, d3] => { results := [.lit (.bool false)], args := [d1, d2, d3] }
  | _ => none }
def XtsFrontsWrongFalsely : Prop := xtsFrontsRow.holds Try.pinned (OpenSpec.ofChange xtsFrontsWrong)

/- THE SECOND FORM. 'bulk': how many values and letters a reading holds, each counted each time it is reached (what is shared counts as often as it is met; a slice's spare places count too). A statement '..UptoSaid' is the law's where the arguments, and the package variables that the reading takes, are together of bulk at most 1048576: NARROWER than '..Said'. Prove '..Said' where nothing that the law and all that it calls make is longer than what came in: it says more and counts as full. Else prove '..UptoSaid'. A law counts once. -/
mutual
def uptoBulk {H : Type} : DataW H → Nat
  | .lit (.string bytes) => bytes.length + 1
  | .lit _ => 1
  | .nil => 1
  | .ptr d => uptoBulk d + 1
  | .slice elems spare => uptoBulkAll elems + uptoBulkAll spare + 1
  | .agg parts => uptoBulkAll parts + 1
  | .iface _ d => uptoBulk d + 1
  | .map entries => uptoBulkEntries entries + 1
  | .held _ => 1
def uptoBulkAll {H : Type} : List (DataW H) → Nat
  | [] => 0
  | d :: r => uptoBulk d + uptoBulkAll r
def uptoBulkEntries {H : Type} : List (Lit × DataW H) → Nat
  | [] => 0
  | x :: r => uptoBulkEntry x + uptoBulkEntries r
def uptoBulkEntry {H : Type} : Lit × DataW H → Nat
  | (.string bytes, d) => bytes.length + uptoBulk d + 1
  | (_, d) => uptoBulk d + 1
 end
def uptoSmall : (H : Type) → List (DataW H) → Bool := fun _ ds => decide (uptoBulkAll ds ≤ 1048576)
def OpenSpec.upto (s : _root_.Go.ChangeSpec) : _root_.Go.OpenSpec := { _root_.Go.OpenSpec.ofChange s with cond := some uptoSmall }

/-- 'casketlaw02.AesFirst', WHERE WHAT IT READS IS OF BULK AT MOST 1048576: true; the input reads as it did. -/
def aesFirstUptoRow : OpenClaim := { program := "ytgabgpgcplkebaa", sum := "4e2acea3ce5f6737a5985a0bab932c6692b57f4e5375b8e491b5bfcafe07fc5f", func := "casket/casketlaw02.AesFirst", spec := "aesFirst", apart := false, narrowed := true }
def AesFirstUptoSaid : Prop := aesFirstUptoRow.holds Try.pinned (OpenSpec.upto aesFirstSpec)

/-- 'casketlaw02.AesBlocks', WHERE WHAT IT READS IS OF BULK AT MOST 1048576: true; the input reads as it did. -/
def aesBlocksUptoRow : OpenClaim := { program := "ytgabgpgcplkebaa", sum := "4e2acea3ce5f6737a5985a0bab932c6692b57f4e5375b8e491b5bfcafe07fc5f", func := "casket/casketlaw02.AesBlocks", spec := "aesBlocks", apart := false, narrowed := true }
def AesBlocksUptoSaid : Prop := aesBlocksUptoRow.holds Try.pinned (OpenSpec.upto aesBlocksSpec)

/-- 'casketlaw02.AesBack', WHERE WHAT IT READS IS OF BULK AT MOST 1048576: true; the input reads as it did. -/
def aesBackUptoRow : OpenClaim := { program := "ytgabgpgcplkebaa", sum := "4e2acea3ce5f6737a5985a0bab932c6692b57f4e5375b8e491b5bfcafe07fc5f", func := "casket/casketlaw02.AesBack", spec := "aesBack", apart := false, narrowed := true }
def AesBackUptoSaid : Prop := aesBackUptoRow.holds Try.pinned (OpenSpec.upto aesBackSpec)

/-- 'casketlaw02.AesApart', WHERE WHAT IT READS IS OF BULK AT MOST 1048576: true; the input reads as it did. -/
def aesApartUptoRow : OpenClaim := { program := "ytgabgpgcplkebaa", sum := "4e2acea3ce5f6737a5985a0bab932c6692b57f4e5375b8e491b5bfcafe07fc5f", func := "casket/casketlaw02.AesApart", spec := "aesApart", apart := false, narrowed := true }
def AesApartUptoSaid : Prop := aesApartUptoRow.holds Try.pinned (OpenSpec.upto aesApartSpec)

/-- 'casketlaw02.AesKeys', WHERE WHAT IT READS IS OF BULK AT MOST 1048576: true; the input reads as it did. -/
def aesKeysUptoRow : OpenClaim := { program := "ytgabgpgcplkebaa", sum := "4e2acea3ce5f6737a5985a0bab932c6692b57f4e5375b8e491b5bfcafe07fc5f", func := "casket/casketlaw02.AesKeys", spec := "aesKeys", apart := false, narrowed := true }
def AesKeysUptoSaid : Prop := aesKeysUptoRow.holds Try.pinned (OpenSpec.upto aesKeysSpec)

/-- 'casketlaw03.XtsPlaces', WHERE WHAT IT READS IS OF BULK AT MOST 1048576: true; the input reads as it did. -/
def xtsPlacesUptoRow : OpenClaim := { program := "ytgabgpgcplkebaa", sum := "4e2acea3ce5f6737a5985a0bab932c6692b57f4e5375b8e491b5bfcafe07fc5f", func := "casket/casketlaw03.XtsPlaces", spec := "xtsPlaces", unfollowed := true, recurses := true, apart := false, narrowed := true }
def XtsPlacesUptoSaid : Prop := xtsPlacesUptoRow.holds Try.pinned (OpenSpec.upto xtsPlacesSpec)

/-- 'casketlaw03.XtsUnits', WHERE WHAT IT READS IS OF BULK AT MOST 1048576: true; the input reads as it did. -/
def xtsUnitsUptoRow : OpenClaim := { program := "ytgabgpgcplkebaa", sum := "4e2acea3ce5f6737a5985a0bab932c6692b57f4e5375b8e491b5bfcafe07fc5f", func := "casket/casketlaw03.XtsUnits", spec := "xtsUnits", unfollowed := true, recurses := true, apart := false, narrowed := true }
def XtsUnitsUptoSaid : Prop := xtsUnitsUptoRow.holds Try.pinned (OpenSpec.upto xtsUnitsSpec)

/-- 'casketlaw03.XtsBack', WHERE WHAT IT READS IS OF BULK AT MOST 1048576: true; the input reads as it did. -/
def xtsBackUptoRow : OpenClaim := { program := "ytgabgpgcplkebaa", sum := "4e2acea3ce5f6737a5985a0bab932c6692b57f4e5375b8e491b5bfcafe07fc5f", func := "casket/casketlaw03.XtsBack", spec := "xtsBack", unfollowed := true, recurses := true, apart := false, narrowed := true }
def XtsBackUptoSaid : Prop := xtsBackUptoRow.holds Try.pinned (OpenSpec.upto xtsBackSpec)

/-- 'casketlaw03.XtsFronts', WHERE WHAT IT READS IS OF BULK AT MOST 1048576: true; the input reads as it did. -/
def xtsFrontsUptoRow : OpenClaim := { program := "ytgabgpgcplkebaa", sum := "4e2acea3ce5f6737a5985a0bab932c6692b57f4e5375b8e491b5bfcafe07fc5f", func := "casket/casketlaw03.XtsFronts", spec := "xtsFronts", unfollowed := true, recurses := true, apart := false, narrowed := true }
def XtsFrontsUptoSaid : Prop := xtsFrontsUptoRow.holds Try.pinned (OpenSpec.upto xtsFrontsSpec)

end Rows
end Go.Proofs.Ytgabgpgcplkebaa
