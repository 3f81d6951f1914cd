/- The listed constants are what the reckoner takes them for. -/
import Derived.Test.YtbdjmicabfclcaaDoorRows
import Derived.Lib.LaidTab
import Derived.Stop.Joined
import Derived.ProofKit
import Derived.LaidMore
import Derived.Test.YtbdjmicabfclcaaDoorLeG
set_option linter.unusedVariables false
set_option linter.unusedSimpArgs false
namespace Go.Proofs.YtbdjmicabfclcaaDoor
open Go Go.LE
def zsK:List Int:=(List.range 64).map fun i=>((Sha.kc i).toNat:Int)
theorem datum_eq:(Rows.laid_casket_sha_constants:DataW Unit)=Lib.tabData .u32 zsK:=by kernel_rfl
theorem gK:Tryd.prog.globalNamed "casket/sha.constants" = some 0:=by kernel_rfl
theorem tK:(Tryd.prog.globals[0]?).map (·.type)=some 111:=by kernel_rfl
theorem cells52:Tryd.prog.cellsOf 111=64:=by kernel_rfl
theorem cells27:Tryd.prog.cellsOf 96=1:=by kernel_rfl
theorem globs {W:World} (h:laidMetH Tryd.prog [("casket/sha.constants",Rows.laid_casket_sha_constants)] W):qc3 Sha.glf (allImm W):=by
  rw[MakeChecks.laidMetH_plain _ _ _ (by kernel_rfl),datum_eq] at h
  have hT:=Lib.tabIs_of_head gK tK Tryd.underlying111 Tryd.underlying96 cells27 cells52 h
  intro g xs hg
  simp only[Sha.glf] at hg
  split at hg
  · rename_i h0
    subst h0
    obtain rfl:=Option.some.inj hg
    simp only[Lib.TabIs,World.var?,gK,Option.bind_some] at hT
    unfold allImm
    split at hT
    · rename_i cs T fz hb
      obtain rfl:=Option.some.inj hT
      refine ⟨zsK.map (Value.int .u32),by rw[hb],?_⟩
      simp only[zsK,aW,arr,List.map_map]
      rfl
    · cases hT
  · cases hg
end Go.Proofs.YtbdjmicabfclcaaDoor
