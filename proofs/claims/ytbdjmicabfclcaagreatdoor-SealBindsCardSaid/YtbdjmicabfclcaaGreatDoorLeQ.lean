/- The listed constants are what the reckoner takes them for. -/
import Derived.Test.YtbdjmicabfclcaaGreatDoorRows
import Derived.Lib.LaidTab
import Derived.Stop.Joined
import Derived.ProofKit
import Derived.LaidMore
import Derived.Test.YtbdjmicabfclcaaGreatDoorLeG
import Derived.WalkKit
import Derived.Test.YtbdjmicabfclcaaGreatDoorLeE
import Derived.Test.YtbdjmicabfclcaaGreatDoorLeJ
set_option linter.unusedVariables false
set_option linter.unusedSimpArgs false
namespace Go.Proofs.YtbdjmicabfclcaaGreatDoor
open Go Go.LE
def zsK:List Int:=(List.range 64).map fun i=>((Sha.kc i).toNat:Int)
theorem datum_eq:(Rows.laid_casket_sha_constants:DataW Unit)=Lib.tabData .u32 zsK:=by kernel_rfl
theorem gK:Tryz.prog.globalNamed "casket/sha.constants" = some 0:=by kernel_rfl
theorem tK:(Tryz.prog.globals[0]?).map (·.type)=some 139:=by kernel_rfl
theorem cells52:Tryz.prog.cellsOf 139=64:=by kernel_rfl
theorem cells27:Tryz.prog.cellsOf 125=1:=by kernel_rfl
theorem globs {W:World} (h:laidMetH Tryz.prog [("casket/sha.constants",Rows.laid_casket_sha_constants)] W):qdq Sha.glf (allImm W):=by
  rw[MakeChecks.laidMetH_plain _ _ _ (by kernel_rfl),datum_eq] at h
  have hT:=Lib.tabIs_of_head gK tK Tryz.underlying139 Tryz.underlying125 cells27 cells52 h
  intro g xs hg
  simp only[Sha.glf] at hg
  split at hg
  · rename_i h0
    subst h0
    obtain rfl:=Option.some.inj hg
    simp only[Lib.TabIs,World.var?,gK,Option.bind_some] at hT
    unfold allImm
    split at hT
    · rename_i cs T fz hb
      obtain rfl:=Option.some.inj hT
      refine ⟨zsK.map (Value.int .u32),by rw[hb],?_⟩
      simp only[zsK,aW,arr,List.map_map]
      rfl
    · cases hT
  · cases hg
end Go.Proofs.YtbdjmicabfclcaaGreatDoor
namespace Go.Proofs.YtbdjmicabfclcaaGreatDoor
open Go.ChangeShapes Go.WideShapes Go.ChangeAt Go.RowKit Go.LE
abbrev KA:=Int × (Nat→BitVec 8)
def KA.d (a:KA):List (BitVec 8):=(List.range 32).map a.2
def KA.t (a:KA):List (BitVec 8):=(List.range 32).map fun i=>a.2 (32+i)
theorem KA.dl (a:KA):a.d.length=32:=by simp[KA.d]
theorem KA.tl (a:KA):a.t.length=32:=by simp[KA.t]
def vK (a:KA):List Value := .int .i64 a.1::vB 64 a.2
def keys0:Array Value:=(.int .i64 0::List.replicate 64 (Value.int .u8 0)).toArray
def keysL:List (Nat × LK):=(0,.int .i64)::(List.range 64).map fun i=>(1+i,LK.int .u8)
theorem leavesK:qdL Tryz.prog 4 24=some keysL:=by kernel_rfl
theorem cellsK:Tryz.prog.cellsOf 24=65:=by kernel_rfl
theorem EK_a (a:KA):Sl.EK a.1 a.d a.t=I a.1::aB 64 a.2:=by
  rw[Sl.EK,qcK,show (64:Nat)=32+32 from rfl,List.range_add,List.map_append,qcY,List.map_map]
  rfl
theorem rep_vK (R:Imm) (p:qbb) (a:KA):Rep R p (Sl.EK a.1 a.d a.t) (vK a):=by
  rw[EK_a]; exact .v (rep_vB R p 64 a.2)
set_option maxRecDepth 100000 in
theorem qhW {H:Type} {enc:TypeId × Value→H} {W:World} {base b:Nat} {sp:Nat→Bool} {held:Bool} {v:Value} {d:DataW H} {p:List MemPlace}
    (hv:Value.okWide Tryz.prog W .any base 24 v) (h:DataW.Trod enc Tryz.prog W b sp held 24 v d p):∃ a:KA,v = .agg (vK a).toArray∧p=[]:=by
  obtain ⟨cs,rfl,hlen,hq,hp⟩:=open_leaves 4 Tryz.underlying24 leavesK hv h
  rw[cellsK] at hlen
  obtain ⟨s,h0,w0⟩:=leaf_int (hq (0,.int .i64) List.mem_cons_self)
  obtain ⟨nm,hn⟩:=leaf_bytes 1 64 hlen fun i hi=>hq (1+i,.int .u8) (List.mem_cons_of_mem _ (List.mem_map.2 ⟨i,List.mem_range.2 hi,rfl⟩))
  refine ⟨(s,nm),?_,hp⟩
  match cs,h0,hn with
  | _::rest,h0,hn=>simp at h0 hn; simp[vK,h0,hn]
end Go.Proofs.YtbdjmicabfclcaaGreatDoor
