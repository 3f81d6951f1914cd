/-
  NARROWER THAN 'FOR EVERY INPUT', by the rows' own cells (each row's printed sentence says how): TreeBuilds: laid · TreePaths: laid · TreeBinds: laid · TreeCounts: laid · TreeOthers: laid · TreeAsks: laid · TreeChanges: laid.
  DERIVED. THE GIVEN ROWS OF THIS SEAT. 7 by the template 'for every input the law returns true; each argument reads behind the call as it read before'; 0 by the template 'total and deterministic' (their statements: YtolnbhddfnkjkaaDoorTotals.lean).
  GIVEN WITH THE SEED: the statements are not yours to turn. If you find one false, say at which input.
  Laid BY PROGRAM, IN A SANDBOX (cutbox-rows.mjs): the forced cells as the released guide's own fill.sh prints them over the translation 03555a0ee1737c64… (all of the seat's roots in one cut). By AI agents, Wed Nov 11 2026. No macro, syntax, notation, axiom, sorry.
-/
import Derived.Test.YtolnbhddfnkjkaaDoorChecked
import GoSem.Claim
import GoSem.ClaimJoined
import GoSem.ClaimMapViews
import Derived.JoinedTies
import Derived.KernelRfl
namespace Go.Proofs.YtolnbhddfnkjkaaDoor
/- THE CELL 'sum', in the pinned program and in every row, IS THE sha256 OF THE DUMP (.gsa) THAT YtolnbhddfnkjkaaDoorProg.lean LOADS. Nothing in Lean hashes anything: it is a label: what it is worth is what the hold of that sum in a sandbox is worth. -/
noncomputable def Tryd.pinned : Pinned := { name := "ytolnbhddfnkjkaadoor", sum := "03555a0ee1737c6455db6267f263282cdd5227e18cd6d1c844b092b0ceb0ba19", checked := Tryd.checked }
namespace Rows
def none {H : Type} : Left H := { results := [], args := [] }

/- WHAT THE LISTED PACKAGE-LEVEL VARIABLES READ AS WHEN THE CALL BEGINS. Each datum BY PROGRAM (the guide's laid-datum.mjs) off the statement by which the dump's own 'gosem.cut.vars' lays the variable. In a bare row this is a premise. The card (YtolnbhddfnkjkaaDoorCards.lean) ties it to the program's text. -/
def laid_casket_sha_constants {H : Type} : DataW H := .agg [.lit (.int .u32 1116352408), .lit (.int .u32 1899447441), .lit (.int .u32 3049323471), .lit (.int .u32 3921009573), .lit (.int .u32 961987163), .lit (.int .u32 1508970993), .lit (.int .u32 2453635748), .lit (.int .u32 2870763221), .lit (.int .u32 3624381080), .lit (.int .u32 310598401), .lit (.int .u32 607225278), .lit (.int .u32 1426881987), .lit (.int .u32 1925078388), .lit (.int .u32 2162078206), .lit (.int .u32 2614888103), .lit (.int .u32 3248222580), .lit (.int .u32 3835390401), .lit (.int .u32 4022224774), .lit (.int .u32 264347078), .lit (.int .u32 604807628), .lit (.int .u32 770255983), .lit (.int .u32 1249150122), .lit (.int .u32 1555081692), .lit (.int .u32 1996064986), .lit (.int .u32 2554220882), .lit (.int .u32 2821834349), .lit (.int .u32 2952996808), .lit (.int .u32 3210313671), .lit (.int .u32 3336571891), .lit (.int .u32 3584528711), .lit (.int .u32 113926993), .lit (.int .u32 338241895), .lit (.int .u32 666307205), .lit (.int .u32 773529912), .lit (.int .u32 1294757372), .lit (.int .u32 1396182291), .lit (.int .u32 1695183700), .lit (.int .u32 1986661051), .lit (.int .u32 2177026350), .lit (.int .u32 2456956037), .lit (.int .u32 2730485921), .lit (.int .u32 2820302411), .lit (.int .u32 3259730800), .lit (.int .u32 3345764771), .lit (.int .u32 3516065817), .lit (.int .u32 3600352804), .lit (.int .u32 4094571909), .lit (.int .u32 275423344), .lit (.int .u32 430227734), .lit (.int .u32 506948616), .lit (.int .u32 659060556), .lit (.int .u32 883997877), .lit (.int .u32 958139571), .lit (.int .u32 1322822218), .lit (.int .u32 1537002063), .lit (.int .u32 1747873779), .lit (.int .u32 1955562222), .lit (.int .u32 2024104815), .lit (.int .u32 2227730452), .lit (.int .u32 2361852424), .lit (.int .u32 2428436474), .lit (.int .u32 2756734187), .lit (.int .u32 3204031479), .lit (.int .u32 3329325298)]

/-- 'casketlaw16.TreeBuilds': WHATEVER THE INPUT: true; the input reads as it did. -/
def treeBuildsSpec : ChangeSpec := { name := "treeBuilds", fn := fun _ => fun
  | [d1, d2, d3, d4] => { results := [.lit (.bool true)], args := [d1, d2, d3, d4] }
  | _ => none }
def treeBuildsRow : OpenClaim := { program := "ytolnbhddfnkjkaadoor", sum := "03555a0ee1737c6455db6267f263282cdd5227e18cd6d1c844b092b0ceb0ba19", func := "casket/casketlaw16.TreeBuilds", spec := "treeBuilds", unfollowed := true, recurses := true, named := ["casket/sha.constants"], apart := false, laid := [("casket/sha.constants", laid_casket_sha_constants)] }
def TreeBuildsSaid : Prop := treeBuildsRow.holds Tryd.pinned (OpenSpec.ofChange treeBuildsSpec)

/-- ITS FALSE NEIGHBOUR: 'it returns false'. Refute it at one input. -/
def treeBuildsWrong : ChangeSpec := { name := "treeBuilds", fn := fun _ => fun
  | [d1, d2, d3, d4] => { results := [.lit (.bool false)], args := [d1, d2, d3, d4] }
  | _ => none }
def TreeBuildsWrongFalsely : Prop := treeBuildsRow.holds Tryd.pinned (OpenSpec.ofChange treeBuildsWrong)

/-- 'casketlaw16.TreePaths': WHATEVER THE INPUT: true; the input reads as it did. -/
def treePathsSpec : ChangeSpec := { name := "treePaths", fn := fun _ => fun
  | [d1, d2] => { results := [.lit (.bool true)], args := [d1, d2] }
  | _ => none }
def treePathsRow : OpenClaim := { program := "ytolnbhddfnkjkaadoor", sum := "03555a0ee1737c6455db6267f263282cdd5227e18cd6d1c844b092b0ceb0ba19", func := "casket/casketlaw16.TreePaths", spec := "treePaths", unfollowed := true, recurses := true, named := ["casket/sha.constants"], apart := false, laid := [("casket/sha.constants", laid_casket_sha_constants)] }
def TreePathsSaid : Prop := treePathsRow.holds Tryd.pinned (OpenSpec.ofChange treePathsSpec)

/-- ITS FALSE NEIGHBOUR: 'it returns false'. Refute it at one input. -/
def treePathsWrong : ChangeSpec := { name := "treePaths", fn := fun _ => fun
  | [d1, d2] => { results := [.lit (.bool false)], args := [d1, d2] }
  | _ => none }
def TreePathsWrongFalsely : Prop := treePathsRow.holds Tryd.pinned (OpenSpec.ofChange treePathsWrong)

/-- 'casketlaw16.TreeBinds': WHATEVER THE INPUT: true; the input reads as it did. -/
def treeBindsSpec : ChangeSpec := { name := "treeBinds", fn := fun _ => fun
  | [d1, d2, d3, d4, d5, d6, d7] => { results := [.lit (.bool true)], args := [d1, d2, d3, d4, d5, d6, d7] }
  | _ => none }
def treeBindsRow : OpenClaim := { program := "ytolnbhddfnkjkaadoor", sum := "03555a0ee1737c6455db6267f263282cdd5227e18cd6d1c844b092b0ceb0ba19", func := "casket/casketlaw16.TreeBinds", spec := "treeBinds", unfollowed := true, recurses := true, named := ["casket/sha.constants"], apart := false, laid := [("casket/sha.constants", laid_casket_sha_constants)] }
def TreeBindsSaid : Prop := treeBindsRow.holds Tryd.pinned (OpenSpec.ofChange treeBindsSpec)

/-- ITS FALSE NEIGHBOUR: 'it returns false'. Refute it at one input. -/
def treeBindsWrong : ChangeSpec := { name := "treeBinds", fn := fun _ => fun
  | [d1, d2, d3, d4, d5, d6, d7] => { results := [.lit (.bool false)], args := [d1, d2, d3, d4, d5, d6, d7] }
  | _ => none }
def TreeBindsWrongFalsely : Prop := treeBindsRow.holds Tryd.pinned (OpenSpec.ofChange treeBindsWrong)

/-- 'casketlaw16.TreeCounts': WHATEVER THE INPUT: true; the input reads as it did. -/
def treeCountsSpec : ChangeSpec := { name := "treeCounts", fn := fun _ => fun
  | [d] => { results := [.lit (.bool true)], args := [d] }
  | _ => none }
def treeCountsRow : OpenClaim := { program := "ytolnbhddfnkjkaadoor", sum := "03555a0ee1737c6455db6267f263282cdd5227e18cd6d1c844b092b0ceb0ba19", func := "casket/casketlaw16.TreeCounts", spec := "treeCounts", unfollowed := true, recurses := true, named := ["casket/sha.constants"], apart := false, laid := [("casket/sha.constants", laid_casket_sha_constants)] }
def TreeCountsSaid : Prop := treeCountsRow.holds Tryd.pinned (OpenSpec.ofChange treeCountsSpec)

/-- ITS FALSE NEIGHBOUR: 'it returns false'. Refute it at one input. -/
def treeCountsWrong : ChangeSpec := { name := "treeCounts", fn := fun _ => fun
  | [d] => { results := [.lit (.bool false)], args := [d] }
  | _ => none }
def TreeCountsWrongFalsely : Prop := treeCountsRow.holds Tryd.pinned (OpenSpec.ofChange treeCountsWrong)

/-- 'casketlaw16.TreeOthers': WHATEVER THE INPUT: true; the input reads as it did. -/
def treeOthersSpec : ChangeSpec := { name := "treeOthers", fn := fun _ => fun
  | [d1, d2, d3] => { results := [.lit (.bool true)], args := [d1, d2, d3] }
  | _ => none }
def treeOthersRow : OpenClaim := { program := "ytolnbhddfnkjkaadoor", sum := "03555a0ee1737c6455db6267f263282cdd5227e18cd6d1c844b092b0ceb0ba19", func := "casket/casketlaw16.TreeOthers", spec := "treeOthers", unfollowed := true, recurses := true, named := ["casket/sha.constants"], apart := false, laid := [("casket/sha.constants", laid_casket_sha_constants)] }
def TreeOthersSaid : Prop := treeOthersRow.holds Tryd.pinned (OpenSpec.ofChange treeOthersSpec)

/-- ITS FALSE NEIGHBOUR: 'it returns false'. Refute it at one input. -/
def treeOthersWrong : ChangeSpec := { name := "treeOthers", fn := fun _ => fun
  | [d1, d2, d3] => { results := [.lit (.bool false)], args := [d1, d2, d3] }
  | _ => none }
def TreeOthersWrongFalsely : Prop := treeOthersRow.holds Tryd.pinned (OpenSpec.ofChange treeOthersWrong)

/-- 'casketlaw16.TreeAsks': WHATEVER THE INPUT: true; the input reads as it did. -/
def treeAsksSpec : ChangeSpec := { name := "treeAsks", fn := fun _ => fun
  | [d1, d2, d3, d4, d5] => { results := [.lit (.bool true)], args := [d1, d2, d3, d4, d5] }
  | _ => none }
def treeAsksRow : OpenClaim := { program := "ytolnbhddfnkjkaadoor", sum := "03555a0ee1737c6455db6267f263282cdd5227e18cd6d1c844b092b0ceb0ba19", func := "casket/casketlaw16.TreeAsks", spec := "treeAsks", unfollowed := true, recurses := true, named := ["casket/sha.constants"], apart := false, laid := [("casket/sha.constants", laid_casket_sha_constants)] }
def TreeAsksSaid : Prop := treeAsksRow.holds Tryd.pinned (OpenSpec.ofChange treeAsksSpec)

/-- ITS FALSE NEIGHBOUR: 'it returns false'. Refute it at one input. -/
def treeAsksWrong : ChangeSpec := { name := "treeAsks", fn := fun _ => fun
  | [d1, d2, d3, d4, d5] => { results := [.lit (.bool false)], args := [d1, d2, d3, d4, d5] }
  | _ => none }
def TreeAsksWrongFalsely : Prop := treeAsksRow.holds Tryd.pinned (OpenSpec.ofChange treeAsksWrong)

/-- 'casketlaw16.TreeChanges': WHATEVER THE INPUT: true; the input reads as it did. -/
def treeChangesSpec : ChangeSpec := { name := "treeChanges", fn := fun _ => fun
  | [d1, d2, d3] => { results := [.lit (.bool true)], args := [d1, d2, d3] }
  | _ => none }
def treeChangesRow : OpenClaim := { program := "ytolnbhddfnkjkaadoor", sum := "03555a0ee1737c6455db6267f263282cdd5227e18cd6d1c844b092b0ceb0ba19", func := "casket/casketlaw16.TreeChanges", spec := "treeChanges", unfollowed := true, recurses := true, named := ["casket/sha.constants"], apart := false, laid := [("casket/sha.constants", laid_casket_sha_constants)] }
def TreeChangesSaid : Prop := treeChangesRow.holds Tryd.pinned (OpenSpec.ofChange treeChangesSpec)

/-- ITS FALSE NEIGHBOUR: 'it returns false'. Refute it at one input. -/
def treeChangesWrong : ChangeSpec := { name := "treeChanges", fn := fun _ => fun
  | [d1, d2, d3] => { results := [.lit (.bool false)], args := [d1, d2, d3] }
  | _ => none }
def TreeChangesWrongFalsely : Prop := treeChangesRow.holds Tryd.pinned (OpenSpec.ofChange treeChangesWrong)

/- THE SECOND FORM. 'bulk': how many values and letters a reading holds, each counted each time it is reached (what is shared counts as often as it is met; a slice's spare places count too). A statement '..UptoSaid' is the law's where the arguments, and the package variables that the reading takes, are together of bulk at most 1048576: NARROWER than '..Said'. Prove '..Said' where nothing that the law and all that it calls make is longer than what came in: it says more and counts as full. Else prove '..UptoSaid'. A law counts once. -/
mutual
def uptoBulk {H : Type} : DataW H → Nat
  | .lit (.string bytes) => bytes.length + 1
  | .lit _ => 1
  | .nil => 1
  | .ptr d => uptoBulk d + 1
  | .slice elems spare => uptoBulkAll elems + uptoBulkAll spare + 1
  | .agg parts => uptoBulkAll parts + 1
  | .iface _ d => uptoBulk d + 1
  | .map entries => uptoBulkEntries entries + 1
  | .held _ => 1
def uptoBulkAll {H : Type} : List (DataW H) → Nat
  | [] => 0
  | d :: r => uptoBulk d + uptoBulkAll r
def uptoBulkEntries {H : Type} : List (Lit × DataW H) → Nat
  | [] => 0
  | x :: r => uptoBulkEntry x + uptoBulkEntries r
def uptoBulkEntry {H : Type} : Lit × DataW H → Nat
  | (.string bytes, d) => bytes.length + uptoBulk d + 1
  | (_, d) => uptoBulk d + 1
 end
def uptoSmall : (H : Type) → List (DataW H) → Bool := fun _ ds => decide (uptoBulkAll ds ≤ 1048576)
def OpenSpec.upto (s : _root_.Go.ChangeSpec) : _root_.Go.OpenSpec := { _root_.Go.OpenSpec.ofChange s with cond := some uptoSmall }

/-- 'casketlaw16.TreeBuilds', WHERE WHAT IT READS IS OF BULK AT MOST 1048576: true; the input reads as it did. -/
def treeBuildsUptoRow : OpenClaim := { program := "ytolnbhddfnkjkaadoor", sum := "03555a0ee1737c6455db6267f263282cdd5227e18cd6d1c844b092b0ceb0ba19", func := "casket/casketlaw16.TreeBuilds", spec := "treeBuilds", unfollowed := true, recurses := true, named := ["casket/sha.constants"], apart := false, laid := [("casket/sha.constants", laid_casket_sha_constants)], narrowed := true }
def TreeBuildsUptoSaid : Prop := treeBuildsUptoRow.holds Tryd.pinned (OpenSpec.upto treeBuildsSpec)

/-- 'casketlaw16.TreePaths', WHERE WHAT IT READS IS OF BULK AT MOST 1048576: true; the input reads as it did. -/
def treePathsUptoRow : OpenClaim := { program := "ytolnbhddfnkjkaadoor", sum := "03555a0ee1737c6455db6267f263282cdd5227e18cd6d1c844b092b0ceb0ba19", func := "casket/casketlaw16.TreePaths", spec := "treePaths", unfollowed := true, recurses := true, named := ["casket/sha.constants"], apart := false, laid := [("casket/sha.constants", laid_casket_sha_constants)], narrowed := true }
def TreePathsUptoSaid : Prop := treePathsUptoRow.holds Tryd.pinned (OpenSpec.upto treePathsSpec)

/-- 'casketlaw16.TreeBinds', WHERE WHAT IT READS IS OF BULK AT MOST 1048576: true; the input reads as it did. -/
def treeBindsUptoRow : OpenClaim := { program := "ytolnbhddfnkjkaadoor", sum := "03555a0ee1737c6455db6267f263282cdd5227e18cd6d1c844b092b0ceb0ba19", func := "casket/casketlaw16.TreeBinds", spec := "treeBinds", unfollowed := true, recurses := true, named := ["casket/sha.constants"], apart := false, laid := [("casket/sha.constants", laid_casket_sha_constants)], narrowed := true }
def TreeBindsUptoSaid : Prop := treeBindsUptoRow.holds Tryd.pinned (OpenSpec.upto treeBindsSpec)

/-- 'casketlaw16.TreeCounts', WHERE WHAT IT READS IS OF BULK AT MOST 1048576: true; the input reads as it did. -/
def treeCountsUptoRow : OpenClaim := { program := "ytolnbhddfnkjkaadoor", sum := "03555a0ee1737c6455db6267f263282cdd5227e18cd6d1c844b092b0ceb0ba19", func := "casket/casketlaw16.TreeCounts", spec := "treeCounts", unfollowed := true, recurses := true, named := ["casket/sha.constants"], apart := false, laid := [("casket/sha.constants", laid_casket_sha_constants)], narrowed := true }
def TreeCountsUptoSaid : Prop := treeCountsUptoRow.holds Tryd.pinned (OpenSpec.upto treeCountsSpec)

/-- 'casketlaw16.TreeOthers', WHERE WHAT IT READS IS OF BULK AT MOST 1048576: true; the input reads as it did. -/
def treeOthersUptoRow : OpenClaim := { program := "ytolnbhddfnkjkaadoor", sum := "03555a0ee1737c6455db6267f263282cdd5227e18cd6d1c844b092b0ceb0ba19", func := "casket/casketlaw16.TreeOthers", spec := "treeOthers", unfollowed := true, recurses := true, named := ["casket/sha.constants"], apart := false, laid := [("casket/sha.constants", laid_casket_sha_constants)], narrowed := true }
def TreeOthersUptoSaid : Prop := treeOthersUptoRow.holds Tryd.pinned (OpenSpec.upto treeOthersSpec)

/-- 'casketlaw16.TreeAsks', WHERE WHAT IT READS IS OF BULK AT MOST 1048576: true; the input reads as it did. -/
def treeAsksUptoRow : OpenClaim := { program := "ytolnbhddfnkjkaadoor", sum := "03555a0ee1737c6455db6267f263282cdd5227e18cd6d1c844b092b0ceb0ba19", func := "casket/casketlaw16.TreeAsks", spec := "treeAsks", unfollowed := true, recurses := true, named := ["casket/sha.constants"], apart := false, laid := [("casket/sha.constants", laid_casket_sha_constants)], narrowed := true }
def TreeAsksUptoSaid : Prop := treeAsksUptoRow.holds Tryd.pinned (OpenSpec.upto treeAsksSpec)

/-- 'casketlaw16.TreeChanges', WHERE WHAT IT READS IS OF BULK AT MOST 1048576: true; the input reads as it did. -/
def treeChangesUptoRow : OpenClaim := { program := "ytolnbhddfnkjkaadoor", sum := "03555a0ee1737c6455db6267f263282cdd5227e18cd6d1c844b092b0ceb0ba19", func := "casket/casketlaw16.TreeChanges", spec := "treeChanges", unfollowed := true, recurses := true, named := ["casket/sha.constants"], apart := false, laid := [("casket/sha.constants", laid_casket_sha_constants)], narrowed := true }
def TreeChangesUptoSaid : Prop := treeChangesUptoRow.holds Tryd.pinned (OpenSpec.upto treeChangesSpec)

end Rows
end Go.Proofs.YtolnbhddfnkjkaaDoor
