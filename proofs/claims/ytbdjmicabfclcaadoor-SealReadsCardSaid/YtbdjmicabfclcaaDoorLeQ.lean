/- The listed constants are what the reckoner takes them for. -/
import Derived.Test.YtbdjmicabfclcaaDoorRows
import Derived.Lib.LaidTab
import Derived.Stop.Joined
import Derived.ProofKit
import Derived.LaidMore
import Derived.Test.YtbdjmicabfclcaaDoorLeG
import Derived.WalkKit
import Derived.Test.YtbdjmicabfclcaaDoorLeE
import Derived.Test.YtbdjmicabfclcaaDoorLeK
set_option linter.unusedVariables false
set_option linter.unusedSimpArgs false
namespace Go.Proofs.YtbdjmicabfclcaaDoor
open Go Go.LE
def zsK:List Int:=(List.range 64).map fun i=>((Sha.kc i).toNat:Int)
theorem datum_eq:(Rows.laid_casket_sha_constants:DataW Unit)=Lib.tabData .u32 zsK:=by kernel_rfl
theorem gK:Tryd.prog.globalNamed "casket/sha.constants" = some 0:=by kernel_rfl
theorem tK:(Tryd.prog.globals[0]?).map (·.type)=some 111:=by kernel_rfl
theorem cells52:Tryd.prog.cellsOf 111=64:=by kernel_rfl
theorem cells27:Tryd.prog.cellsOf 96=1:=by kernel_rfl
theorem globs {W:World} (h:laidMetH Tryd.prog [("casket/sha.constants",Rows.laid_casket_sha_constants)] W):qdr Sha.glf (allImm W):=by
  rw[MakeChecks.laidMetH_plain _ _ _ (by kernel_rfl),datum_eq] at h
  have hT:=Lib.tabIs_of_head gK tK Tryd.underlying111 Tryd.underlying96 cells27 cells52 h
  intro g xs hg
  simp only[Sha.glf] at hg
  split at hg
  · rename_i h0
    subst h0
    obtain rfl:=Option.some.inj hg
    simp only[Lib.TabIs,World.var?,gK,Option.bind_some] at hT
    unfold allImm
    split at hT
    · rename_i cs T fz hb
      obtain rfl:=Option.some.inj hT
      refine ⟨zsK.map (Value.int .u32),by rw[hb],?_⟩
      simp only[zsK,aW,arr,List.map_map]
      rfl
    · cases hT
  · cases hg
end Go.Proofs.YtbdjmicabfclcaaDoor
namespace Go.Proofs.YtbdjmicabfclcaaDoor
open Go.ChangeShapes Go.WideShapes Go.ChangeAt Go.RowKit Go.LE
structure HA where
  g:BitVec 64
  s:Int
  sl:Int
  j:Int
  sg:Int
  t:Int
  m:Int
  l:Int
  nm:Nat→BitVec 8
structure RA where
  c:BitVec 64
  k:Bool
  f:Int
  tr:Nat→BitVec 8
def HA.nl (x:HA):List (BitVec 8):=(List.range 16).map x.nm
def RA.tl (x:RA):List (BitVec 8):=(List.range 32).map x.tr
theorem HA.len (x:HA):x.nl.length=16:=by simp[HA.nl]
theorem RA.len (x:RA):x.tl.length=32:=by simp[RA.tl]
def vH (x:HA):List Value := .int .u64 (x.g.toNat:Int) :: .int .i64 x.s :: .int .i64 x.sl :: .int .i64 x.j :: .int .i64 x.sg :: .int .i64 x.t :: .int .i64 x.m :: .int .i64 x.l::vB 16 x.nm
def head0:Array Value:=(.int .u64 0 :: .int .i64 0 :: .int .i64 0 :: .int .i64 0 :: .int .i64 0 :: .int .i64 0 :: .int .i64 0 :: .int .i64 0::List.replicate 16 (Value.int .u8 0)).toArray
def headL:List (Nat × LK):=[(0,.int .u64),(1,.int .i64),(2,.int .i64),(3,.int .i64),(4,.int .i64),(5,.int .i64),(6,.int .i64),(7,.int .i64)]++(List.range 16).map fun i=>(8+i,LK.int .u8)
theorem leavesH:qdQ Tryd.prog 4 28=some headL:=by kernel_rfl
theorem cellsH:Tryd.prog.cellsOf 28=24:=by kernel_rfl
theorem rep_vH (R:Imm) (p:qa0) (x:HA):Rep R p (Sl.HC x.g x.s x.sl x.j x.sg x.t x.m x.l x.nl) (vH x):=by
  rw[Sl.HC,HA.nl,←qdt]; exact .v (.v (.v (.v (.v (.v (.v (.v (rep_vB R p 16 x.nm))))))))
theorem rep_key (R:Imm) (p:qa0) (a:Nat→BitVec 8):Rep R p (bs ((List.range 32).map a)) (vB 32 a):=by rw[←qdt]; exact rep_vB R p 32 a
section
variable {H:Type} {enc:TypeId × Value→H} {W:World} {base b:Nat} {sp:Nat→Bool} {held:Bool} {v:Value} {d:DataW H} {p:List MemPlace}
theorem split8 {A:Type}:∀ (cs:List A) (c0 c1 c2 c3 c4 c5 c6 c7:A),cs[0]? = some c0→cs[1]? = some c1→cs[2]? = some c2→cs[3]? = some c3→cs[4]? = some c4→cs[5]? = some c5→cs[6]? = some c6→cs[7]? = some c7 →
    cs=c0::c1::c2::c3::c4::c5::c6::c7::cs.drop 8:=by
  intro cs c0 c1 c2 c3 c4 c5 c6 c7 h0 h1 h2 h3 h4 h5 h6 h7
  match cs with
  | []=>simp at h0
  | [_]=>simp at h1
  | [_,_]=>simp at h2
  | [_,_,_]=>simp at h3
  | [_,_,_,_]=>simp at h4
  | [_,_,_,_,_]=>simp at h5
  | [_,_,_,_,_,_]=>simp at h6
  | [_,_,_,_,_,_,_]=>simp at h7
  | _::_::_::_::_::_::_::_::rest=>simp at h0 h1 h2 h3 h4 h5 h6 h7; simp[*]
set_option maxRecDepth 100000 in
theorem open_head (hv:Value.okWide Tryd.prog W .any base 28 v) (h:DataW.Trod enc Tryd.prog W b sp held 28 v d p):∃ x:HA,v = .agg (vH x).toArray∧p=[]:=by
  obtain ⟨cs,rfl,hlen,hq,hp⟩:=open_leaves 4 Tryd.underlying28 leavesH hv h
  rw[cellsH] at hlen
  have hm:∀ q ∈ ([(0,.int .u64),(1,.int .i64),(2,.int .i64),(3,.int .i64),(4,.int .i64),(5,.int .i64),(6,.int .i64),(7,.int .i64)]:List (Nat × LK)),q ∈ headL:=fun q h=>List.mem_append_left _ h
  obtain ⟨g,h0,w0⟩:=qdV (hq _ (hm (0,.int .u64) (by simp)))
  obtain ⟨s,h1,w1⟩:=qdV (hq _ (hm (1,.int .i64) (by simp)))
  obtain ⟨sl,h2,w2⟩:=qdV (hq _ (hm (2,.int .i64) (by simp)))
  obtain ⟨j,h3,w3⟩:=qdV (hq _ (hm (3,.int .i64) (by simp)))
  obtain ⟨sg,h4,w4⟩:=qdV (hq _ (hm (4,.int .i64) (by simp)))
  obtain ⟨t,h5,w5⟩:=qdV (hq _ (hm (5,.int .i64) (by simp)))
  obtain ⟨m,h6,w6⟩:=qdV (hq _ (hm (6,.int .i64) (by simp)))
  obtain ⟨l,h7,w7⟩:=qdV (hq _ (hm (7,.int .i64) (by simp)))
  obtain ⟨nm,hn⟩:=leaf_bytes 8 16 hlen fun i hi=>hq (8+i,.int .u8) (List.mem_append_right _ (List.mem_map.2 ⟨i,List.mem_range.2 hi,rfl⟩))
  obtain ⟨x,hx⟩:=wf_u64 w0
  refine ⟨⟨x,s,sl,j,sg,t,m,l,nm⟩,?_,hp⟩
  rw[split8 cs _ _ _ _ _ _ _ _ h0 h1 h2 h3 h4 h5 h6 h7,hn,hx]
  rfl
end
end Go.Proofs.YtbdjmicabfclcaaDoor
