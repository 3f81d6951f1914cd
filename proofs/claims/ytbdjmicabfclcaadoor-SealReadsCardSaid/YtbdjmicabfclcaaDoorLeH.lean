/- Macs on their way, as they lie in memory: Write, Sum, Fork. -/
import Derived.Test.YtbdjmicabfclcaaDoorLeS
import Derived.Test.YtbdjmicabfclcaaDoorLeE
set_option linter.unusedVariables false
set_option linter.unusedSimpArgs false
open List renaming reduceReplicate → rR
open Nat renaming reduceSubDiff → rS
namespace Sha
open Go Go.LE Tb
theorem idx_get:∀ {l:List Nm} (k:Nat),l.Nodup→∀ {i:Nat} {n:Nm},l[i]? = some n→idx n l k=some (k+i):=by
  intro l
  induction l with
  | nil=>intro k _ i n h; simp at h
  | cons x l ih =>
    intro k hnd i n h
    rw[List.nodup_cons] at hnd
    cases i with
    | zero=>simp at h; subst h; simp[idx]
    | succ i =>
      rw[List.getElem?_cons_succ] at h
      have hne:x≠n:=by intro e; subst e; exact hnd.1 (List.mem_of_getElem? h)
      rw[idx,if_neg hne,ih (k+1) hnd.2 h]
      congr 1; omega
abbrev mC:qal:=[.ptr (0,1) 0,.ptr (0,3) 0]
abbrev hC (a:List (BitVec 8)) (r:Nm) (c:Option Nat):qal:=HsC (stN a) (.sl r 0 (rsN a).length c 1) a.length
def mO (a:List (BitVec 8)) (c:Option Nat) (l o:List (BitVec 8)) (c2:Option Nat) (l2:List (BitVec 8)):List qal :=
  [mC,hC a (0,2) c,bs l,hC o (0,4) c2,bs l2]
abbrev RFN (a:List (BitVec 8)) (c:Option Nat) (l:List (BitVec 8)):Prop:=RF (rsN a).length c l (rsN a)
theorem HG_h {a:List (BitVec 8)} {c:Option Nat} {l o:List (BitVec 8)} {c2:Option Nat} {l2:List (BitVec 8)} (h:RFN a c l):HG (qaY (mO a c l o c2 l2)) (0,1) (0,2) a :=
  ⟨by decide,c,l,h,rfl,rfl⟩
theorem HG_o {a:List (BitVec 8)} {c:Option Nat} {l o:List (BitVec 8)} {c2:Option Nat} {l2:List (BitVec 8)} (h:RFN o c2 l2):HG (qaY (mO a c l o c2 l2)) (0,3) (0,4) o :=
  ⟨by decide,c2,l2,h,rfl,rfl⟩
set_option maxRecDepth 10000 in
theorem mwrite_F (K:Nat) (a:List (BitVec 8)) (c:Option Nat) (l o:List (BitVec 8)) (c2:Option Nat) (l2:List (BitVec 8)) (h:RFN a c l) (h2:RFN o c2 l2) (bb:List (BitVec 8))
    (hlen:a.length+bb.length≤211106232000000) (hK:(a.length+bb.length) / 64+200≤K) :
    ∃ (x : Nm) (cx : Option Nat) (z : Option (List (BitVec 8))) (news : List qal), F C (K + 1) 43 [.ptr (0, 0) 0, .isl (bs bb) bb.length] (mO a c l o c2 l2) =
      some (.tup [],[some mC,some (hC (a++bb) x cx),z.map bs,some (hC o (0,4) c2),some (bs l2)],news) ∧
      ((x=(1,0)∧∃ l',news=[bs l']∧RFN (a++bb) cx l')∨(x=(0,2)∧news=[]∧∃ l',z=some l'∧RFN (a++bb) cx l')):=by
  obtain ⟨O,hO⟩:∃ O,O=mO a c l o c2 l2:=⟨_,rfl⟩
  have hg:=HG_h (o:=o) (c2:=c2) (l2:=l2) h
  rw[←hO] at hg ⊢
  have g0:qaY O (0,0)=some mC:=by rw[hO]; rfl
  have g3:qaY O (0,3)=some (hC o (0,4) c2):=by rw[hO]; rfl
  have g4:qaY O (0,4)=some (bs l2):=by rw[hO]; rfl
  have hOl:O.length=5:=by rw[hO]; rfl
  rw[qaH f43]
  simp (disch:=first|omega|decide|simp only[nmsB,lB]) only[simprocAttr,-rR,-rS,leB,memB,arrB,numB,qaf,L43,g0,hOl,qae,qab,qad]
  generalize hc:qar _ _ _ _ _=r
  obtain ⟨rN,news,ms,H2,rfl,hH2,hg2,hr,⟨z,hz⟩,hfr⟩:=write_Z hc hg (qbq _ bb _) hlen hK (by decide) (by decide)
  have k0:H2 (0,0)=some mC:=by rw[hfr _ (by decide) (by decide) (by decide),g0]
  have k3:H2 (0,3)=some (hC o (0,4) c2):=by rw[hfr _ (by decide) (by decide) (by decide),g3]
  have k4:H2 (0,4)=some (bs l2):=by rw[hfr _ (by decide) (by decide) (by decide),g4]
  obtain ⟨hne,cx,l',hrf,e1,e2⟩:=hg2
  simp (disch:=first|omega|decide|simp only[nmsB,lB]) only[simprocAttr,-rR,-rS,leB,memB,arrB,numB,qaf,qai,hH2,qae,qab,qad,qac,qaa]
  rcases hr with rfl | ⟨rfl,hb0⟩
  · refine ⟨(1, 0), cx, z, [bs l'], ?_, .inl ⟨rfl, l', rfl, hrf⟩⟩
    cases z with
    | none =>
      rw[qaX 5 _ _ [(9,0)] (by simp only[simprocAttr,-rR,-rS,qak,qa6,qam,qcr,qaL,k0,e1,hz,e2,k3,k4,Option.map_none,show List.range 5=[0,1,2,3,4] from rfl,qah,qac,qaa])]
      simp (disch:=first|omega|decide|simp only[nmsB,lB]) only[simprocAttr,-rR,-rS,leB,memB,qaf,qaP,k0,e1,hz,e2,k3,k4,show List.range 5=[0,1,2,3,4] from rfl,qae,qab,qad,qac,qaa]
    | some z =>
      rw[qaX 5 _ _ [(9,0)] (by simp only[simprocAttr,-rR,-rS,qak,qa6,qam,qcr,qaL,k0,e1,hz,e2,k3,k4,zC,show List.range 5=[0,1,2,3,4] from rfl,qah,qac,qaa])]
      simp (disch:=first|omega|decide|simp only[nmsB,lB]) only[simprocAttr,-rR,-rS,leB,memB,qaf,qaP,k0,e1,hz,e2,k3,k4,show List.range 5=[0,1,2,3,4] from rfl,qae,qab,qad,qac,qaa]
  · refine ⟨(0, 2), cx, some l', [], ?_, .inr ⟨rfl, rfl, l', rfl, hrf⟩⟩
    rw[qaX 5 _ _ [] (by simp only[simprocAttr,-rR,-rS,qak,qa6,qam,qcr,qaL,k0,e1,e2,k3,k4,show List.range 5=[0,1,2,3,4] from rfl,qah,qac,qaa])]
    simp (disch:=first|omega|decide|simp only[nmsB,lB]) only[simprocAttr,-rR,-rS,leB,memB,qaf,qaP,k0,e1,e2,k3,k4,show List.range 5=[0,1,2,3,4] from rfl,qae,qab,qad,qac,qaa]
def dl (b:List (BitVec 8)):List (BitVec 8):=(List.range 32).map (dig b)
theorem qfe (b:List (BitVec 8)):(dl b).length=32:=by simp[dl]
theorem aB_dl (b:List (BitVec 8)):aB 32 (dig b)=bs (dl b):=qdt 32 _
def mOs (a:List (BitVec 8)) (c:Option Nat) (l o:List (BitVec 8)) (c2:Option Nat) (l2:List (BitVec 8)):List (Option qal) :=
  [some mC,some (hC a (0,2) c),some (bs l),some (hC o (0,4) c2),some (bs l2)]
theorem upd_self2 {H H3:Heap} {n:Nm} {x:Option qal} (h:LE.upd H n x=H3):H3 n=x:=by rw[←h,qby,if_pos rfl]
set_option maxRecDepth 10000 in
theorem msum_F (K:Nat) (a:List (BitVec 8)) (c:Option Nat) (l o:List (BitVec 8)) (c2:Option Nat) (l2:List (BitVec 8)) (h:RFN a c l) (h2:RFN o c2 l2)
    (hlen:a.length≤211106232000000) (hlen2:o.length≤1000) (hK:1000≤K) :
    F C (K+1) 44 [.ptr (0,0) 0] (mO a c l o c2 l2)=some (.agg (aB 32 (dig (o++dl a))),mOs a c l o c2 l2,[]):=by
  obtain ⟨O,hO⟩:∃ O,O=mO a c l o c2 l2:=⟨_,rfl⟩
  have hg:=HG_h (o:=o) (c2:=c2) (l2:=l2) h
  have hgo:=HG_o (a:=a) (c:=c) (l:=l) h2
  rw[←hO] at hg hgo ⊢
  have g0:qaY O (0,0)=some mC:=by rw[hO]; rfl
  have g1:qaY O (0,1)=some (hC a (0,2) c):=by rw[hO]; rfl
  have g2:qaY O (0,2)=some (bs l):=by rw[hO]; rfl
  have g3:qaY O (0,3)=some (hC o (0,4) c2):=by rw[hO]; rfl
  have g4:qaY O (0,4)=some (bs l2):=by rw[hO]; rfl
  have hOl:O.length=5:=by rw[hO]; rfl
  have hdl:=qfe a
  rw[qaH f44]
  simp (disch:=first|omega|decide|simp only[nmsB,lB]) only[simprocAttr,-rR,-rS,leB,memB,arrB,numB,qaf,L44,g0,hOl,qae,qab,qad]
  generalize hc:qar _ _ _ _ _=r
  obtain ⟨x,y,rfl,hx,hy⟩:=sum_G hc (hg.upd (by decide) (by decide)) hlen (by omega)
  simp (disch:=first|omega|decide|simp only[nmsB,lB]) only[simprocAttr,-rR,-rS,leB,memB,arrB,numB,qaf,qai,qdo hx,qdo hy,g0,qae,qab,qad]
  generalize hc3:qar _ _ _ _ _=r3
  generalize hH3:upd _ _ (some (aB 32 (dig a)))=H3 at hc3 ⊢
  have hgo3:HG H3 (0,3) (0,4) o:=by rw[←hH3]; exact ((hgo.upd (by decide) (by decide)).upd (by decide) (by decide)).upd (by decide) (by decide)
  have hx3:=upd_self2 hH3
  have k0:H3 (0,0)=some mC:=by rw[←hH3]; simp only[simprocAttr,-rR,-rS,memB,g0,qab]
  have k1:H3 (0,1)=some (hC a (0,2) c):=by rw[←hH3]; simp only[simprocAttr,-rR,-rS,memB,g1,qab]
  have k2:H3 (0,2)=some (bs l):=by rw[←hH3]; simp only[simprocAttr,-rR,-rS,memB,g2,qab]
  have k3:H3 (0,3)=some (hC o (0,4) c2):=by rw[←hH3]; simp only[simprocAttr,-rR,-rS,memB,g3,qab]
  have k4:H3 (0,4)=some (bs l2):=by rw[←hH3]; simp only[simprocAttr,-rR,-rS,memB,g4,qab]
  have hz2:H3 (2,0)=some (aB 32 fun _=>0#8):=by rw[←hH3]; simp only[simprocAttr,-rR,-rS,memB,qab]
  obtain ⟨c1,c2',x4,y4,H4,rfl,hx4,hy4,hH4,hgf,_,hfr4⟩:=fork_G hc3 hgo3 (by omega) (by omega) (by decide) (by decide)
  simp (disch:=first|omega|decide|simp only[nmsB,lB]) only[simprocAttr,-rR,-rS,leB,memB,arrB,numB,qaf,qai,qdo hx4,qdo hy4,hH4,qae,qab,qad,qac,qaa]
  generalize hc5:qar _ _ _ _ _=r5
  rw[aB_dl] at hx3
  have hx4':=hx3
  rw[←hfr4 _ (by decide)] at hx4'
  have hB:=qem H4 _ 0 32 (some 32) _ [(23,0),(23,1)] hx4' (by omega) (by decide)
  rw[zF,List.take_of_length_le (by omega)] at hB
  obtain ⟨rN,news,ms,H5,rfl,hH5,hg5,hr,hfr5⟩:=write_G (bb:=dl a) hc5 hgf hB (by omega) (by omega) (by decide) (by decide)
  simp (disch:=first|omega|decide|simp only[nmsB,lB]) only[simprocAttr,-rR,-rS,leB,memB,arrB,numB,qaf,qai,hH5,qae,qab,qad,qac,qaa]
  generalize hc6:qar _ _ _ _ _=r6
  obtain ⟨x6,y6,rfl,hx6,hy6⟩:=sum_G hc6 hg5 (by rw[zH]; omega) (by omega)
  have f5:∀ m:Nm,m.1≠23→m.1≠27→H5 m=H3 m:=fun m h1 h2=>by
    rw[hfr5 m (fun e=>h1 (by rw[e])) (fun e=>h1 (by rw[e])) h2,hfr4 m h1]
  have m20:=(f5 (2,0) (by decide) (by decide)).trans hz2
  have m0:=(f5 (0,0) (by decide) (by decide)).trans k0
  have m1:=(f5 (0,1) (by decide) (by decide)).trans k1
  have m2:=(f5 (0,2) (by decide) (by decide)).trans k2
  have m3:=(f5 (0,3) (by decide) (by decide)).trans k3
  have m4:=(f5 (0,4) (by decide) (by decide)).trans k4
  simp (disch:=first|omega|decide|simp only[nmsB,lB]) only[simprocAttr,-rR,-rS,leB,memB,arrB,numB,qaf,qai,qdo hx6,qdo hy6,m20,qae,qab,qad,qac,qaa]
  rw[qaX 5 _ _ [] (by simp only[simprocAttr,-rR,-rS,qak,qa6,qam,qbt,qaL,m0,m1,m2,m3,m4,show List.range 5=[0,1,2,3,4] from rfl,qah,qac,qaa])]
  simp (disch:=first|omega|decide|simp only[nmsB,lB]) only[simprocAttr,-rR,-rS,leB,memB,arrB,qaf,qaP,m0,m1,m2,m3,m4,mOs,show List.range 5=[0,1,2,3,4] from rfl,qae,qab,qad,qac,qaa]
def mN (a:List (BitVec 8)) (c:Option Nat) (l o:List (BitVec 8)) (c2:Option Nat) (l2:List (BitVec 8)):List qal :=
  [[.ptr (1,1) 0,.ptr (1,3) 0],hC a (1,2) c,bs l,hC o (1,4) c2,bs l2]
end Sha
namespace Sha
open Go Go.LE Tb
structure MG (H:Heap) (mN hN rN oN qN:Nm) (a o:List (BitVec 8)):Prop where
  nd:[mN,hN,rN,oN,qN].Nodup
  m:H mN=some [.ptr hN 0,.ptr oN 0]
  h:∃ c l,RFN a c l∧H hN=some (hC a rN c)∧H rN=some (bs l)
  o:∃ c l,RFN o c l∧H oN=some (hC o qN c)∧H qN=some (bs l)
theorem MG.congr {H H':Heap} {mN hN rN oN qN:Nm} {a o:List (BitVec 8)} (M:MG H mN hN rN oN qN a o) (e:∀ n ∈ [mN,hN,rN,oN,qN],H' n=H n):MG H' mN hN rN oN qN a o:=by
  obtain ⟨nd,m,⟨c,l,h1,h2,h3⟩,⟨c2,l2,o1,o2,o3⟩⟩:=M
  exact ⟨nd,(e _ (by simp)).trans m,⟨c,l,h1,(e _ (by simp)).trans h2,(e _ (by simp)).trans h3⟩,⟨c2,l2,o1,(e _ (by simp)).trans o2,(e _ (by simp)).trans o3⟩⟩
theorem toC (names:List Nm) (hnd:names.Nodup) (i:Nat) (n:Nm) (h:names[i]? = some n):qaK names n=some (0,i):=by
  rw[qaK,idx_get 0 hnd h]; simp
theorem mac_pre {H:Heap} {mN hN rN oN qN:Nm} {a o:List (BitVec 8)} (M:MG H mN hN rN oN qN a o) :
    ∃ c l c2 l2, RFN a c l ∧ RFN o c2 l2 ∧ qa7 H FUEL [] [mN] = [mN, hN, rN, oN, qN] ∧ ([mN, hN, rN, oN, qN].filterMap H).map (fun cs => cs.map (ren D (qaK [mN, hN, rN, oN, qN]))) = mO a c l o c2 l2 ∧
      H mN=some [.ptr hN 0,.ptr oN 0]∧H hN=some (hC a rN c)∧H rN=some (bs l)∧H oN=some (hC o qN c2)∧H qN=some (bs l2):=by
  obtain ⟨nd,m,⟨c,l,h1,h2,h3⟩,⟨c2,l2,o1,o2,o3⟩⟩:=M
  have hnd:=nd
  simp only[List.nodup_cons,List.mem_cons,List.not_mem_nil,or_false,not_or,List.nodup_nil,and_true,not_false_eq_true] at nd
  obtain ⟨⟨a1,a2,a3,a4⟩,⟨b1,b2,b3⟩,⟨d1,d2⟩,e1⟩:=nd
  refine ⟨c,l,c2,l2,h1,o1,?_,?_,m,h2,h3,o2,o3⟩
  · have q1 : (mN == hN) = false := by simpa using a1
    have q2:∀ {x y:Nm},¬ x=y→(y == x)=false:=fun h=>by simpa using fun e=>h e.symm
    simp only[FUEL,qah,ze,zP,zM,m,qcc,zK,zN,qcp,zI,zS,zD,List.contains_cons,q2 a1,q2 a2,q2 a3,q2 a4,q2 b1,q2 b2,q2 b3,q2 d1,q2 d2,q2 e1,Bool.or_false,h2,h3,o2,o3,qa6,qa3,qam,qba]
  · have t0 := toC _ hnd 0 mN rfl
    have t1:=toC _ hnd 1 hN rfl
    have t2:=toC _ hnd 2 rN rfl
    have t3:=toC _ hnd 3 oN rfl
    have t4:=toC _ hnd 4 qN rfl
    simp only[List.filterMap_cons,m,h2,h3,o2,o3,zQ,zB,zA,qbk,qbs,qaP,qaZ,qa9,qaq,t1,t2,t3,t4,mO]
theorem mac_write {K b:Nat} {H:Heap} {mN hN rN oN qN:Nm} {a o bb:List (BitVec 8)} {B:LV} {r:Option Out} (hc:qar (envC C (K+1)) H b 43 [.ptr mN 0,B]=r) (M:MG H mN hN rN oN qN a o)
    (hB:Lent H B bb [mN,hN,rN,oN,qN]) (hlen:a.length+bb.length≤211106232000000) (hK:(a.length+bb.length) / 64+200≤K) (hb:∀ n ∈ [mN,hN,rN,oN,qN],n.1≠b) :
    ∃ rN' news ms H2,r=some ⟨.tup [],news,ms⟩∧updN b 0 news (modN ms H)=H2∧MG H2 mN hN rN' oN qN (a++bb) o∧(rN'=(b,0)∨rN'=rN)∧(∃ z:Option (List (BitVec 8)),H2 rN=z.map bs)∧∀ m,m ∉ [mN,hN,rN,oN,qN]→m.1≠b→H2 m=H m:=by
  subst hc
  obtain ⟨c,l,c2,l2,h1,o1,hre,hob,g0,g1,g2,g3,g4⟩:=mac_pre M
  obtain ⟨x,cx,z,news,hF,hcase⟩:=mwrite_F K a c l o c2 l2 h1 o1 bb hlen hK
  obtain ⟨lent,hs,hl⟩:=hB.snap
  have hnd:=M.nd
  have t0:=toC _ hnd 0 mN rfl
  have hlend:lend H ((envC C (K+1)).borrow 43) 0 [.ptr mN 0,B]=some ([.ptr mN 0,.isl (bs bb) bb.length],lent):=by
    rw[qbo,qbo,qcC,qbF,qc3]
    rw[if_neg (show ¬ qaJ 43 0=true by decide),if_pos (show qaJ 43 (0+1)=true by decide),hs,qbc,qbc]
    simp
  have hn:([.ptr mN 0,.isl (bs bb) bb.length]:List LV).flatMap (nms D)=[mN]:=by
    simp only[zK,zN,qcp,qbg,zD]
  have ha:([.ptr mN 0,.isl (bs bb) bb.length]:List LV).map (ren D (qaK [mN,hN,rN,oN,qN]))=[.ptr (0,0) 0,.isl (bs bb) bb.length]:=by
    simp only[zB,zA,qbk,t0,qbs,qbj]
  have hz:∀ π,(z.map bs).map (fun cs=>List.map (ren D π) cs)=z.map bs:=by intro π; cases z <;> simp[qaq]
  have hp:qa5 (.tup [],[some mC,some (hC (a++bb) x cx),z.map bs,some (hC o (0,4) c2),some (bs l2)],news)=true:=by
    rcases hcase with ⟨_,l',rfl,_⟩ | ⟨_,rfl,_⟩ <;> cases z <;> simp[qa5,qfd,qcD] <;> exact ⟨rfl,rfl,rfl⟩
  have hcall:qar (envC C (K+1)) H b 43 [.ptr mN 0,B]=some (qcG [mN,hN,rN,oN,qN] b (.tup [],[some mC,some (hC (a++bb) x cx),z.map bs,some (hC o (0,4) c2),some (bs l2)],news)):=by
    rw[qbU,hlend,qbA,hn,hre,qbV _ _ _ _ _ hl,ha,hob,qbT,hF,qcs _ _ _ _ hp]
  simp only[List.nodup_cons,List.mem_cons,List.not_mem_nil,or_false,not_or,List.nodup_nil,and_true,not_false_eq_true] at hnd
  obtain ⟨⟨a1,a2,a3,a4⟩,⟨b1,b2,b3⟩,⟨d1,d2⟩,e1⟩:=hnd
  rw[qaT,qeV] at hcall
  have hb0:∀ n ∈ [mN,hN,rN,oN,qN],n≠(b,0):=fun n hn e=>hb n hn (by rw[e])
  have f0:=hb0 mN (by simp)
  have f1:=hb0 hN (by simp)
  have f2:=hb0 rN (by simp)
  have f3:=hb0 oN (by simp)
  have f4:=hb0 qN (by simp)
  rcases hcase with ⟨rfl,l',rfl,hrf⟩ | ⟨rfl,rfl,l',rfl,hrf⟩
  · refine ⟨(b, 0), _, _, _, hcall, rfl, ⟨?_, ?_, ⟨cx, l', hrf, ?_, ?_⟩, ⟨c2, l2, o1, ?_, ?_⟩⟩, .inl rfl, ⟨z, ?_⟩, ?_⟩
    · simp only [List.nodup_cons, List.mem_cons, List.not_mem_nil, or_false, not_or, List.nodup_nil, and_true, not_false_eq_true]
      exact ⟨⟨a1,f0,a3,a4⟩,⟨f1,b2,b3⟩,⟨fun e=>f3 e.symm,fun e=>f4 e.symm⟩,e1⟩
    all_goals simp only[List.zipWith_cons_cons,List.zipWith_nil_left,zC,zB,zA,qbk,qaP,qaZ,qaq,hz,qcI,qbd,zE,zL,zO,Nat.lt_one_iff,List.getElem?_cons_succ,List.getElem?_cons_zero,qa9,qbs,qce,qch,qcW,qcS,qby]
    · rw[if_neg f0,if_pos trivial]
    · rw[if_neg f1,if_neg (fun e=>a1 e.symm),if_pos trivial]
    · rw[if_pos trivial]
    · rw[if_neg f3,if_neg (fun e=>a3 e.symm),if_neg (fun e=>b2 e.symm),if_neg (fun e=>d1 e.symm),if_pos trivial]
    · rw[if_neg f4,if_neg (fun e=>a4 e.symm),if_neg (fun e=>b3 e.symm),if_neg (fun e=>d2 e.symm),if_neg (fun e=>e1 e.symm),if_pos trivial]
    · rw[if_neg f2,if_neg (fun e=>a2 e.symm),if_neg (fun e=>b1 e.symm),if_pos trivial]
    · intro m hm hmb
      simp only[List.mem_cons,List.not_mem_nil,or_false,not_or] at hm
      rw[if_neg (fun e=>hmb (by rw[e])),if_neg hm.1,if_neg hm.2.1,if_neg hm.2.2.1,if_neg hm.2.2.2.1,if_neg hm.2.2.2.2]
  · refine ⟨rN, _, _, _, hcall, rfl, ⟨?_, ?_, ⟨cx, l', hrf, ?_, ?_⟩, ⟨c2, l2, o1, ?_, ?_⟩⟩, .inr rfl, ⟨some l', ?_⟩, ?_⟩
    · exact M.nd
    all_goals simp only[List.zipWith_cons_cons,List.zipWith_nil_left,zC,zB,zA,qbk,qaP,qaZ,qaq,hz,qcI,qbd,zE,zL,zO,Nat.lt_one_iff,List.getElem?_cons_succ,List.getElem?_cons_zero,qa9,qbs,qce,qch,qcW,qcS,qby]
    · rw[if_pos trivial]
    · rw[if_neg (fun e=>a1 e.symm),if_pos trivial]
    · rw[if_neg (fun e=>a2 e.symm),if_neg (fun e=>b1 e.symm),if_pos trivial]
    · rw[if_neg (fun e=>a3 e.symm),if_neg (fun e=>b2 e.symm),if_neg (fun e=>d1 e.symm),if_pos trivial]
    · rw[if_neg (fun e=>a4 e.symm),if_neg (fun e=>b3 e.symm),if_neg (fun e=>d2 e.symm),if_neg (fun e=>e1 e.symm),if_pos trivial]
    · rw[if_neg (fun e=>a2 e.symm),if_neg (fun e=>b1 e.symm),if_pos trivial]
    · intro m hm hmb
      simp only[List.mem_cons,List.not_mem_nil,or_false,not_or] at hm
      rw[if_neg hm.1,if_neg hm.2.1,if_neg hm.2.2.1,if_neg hm.2.2.2.1,if_neg hm.2.2.2.2]
theorem lend_m (K:Nat) (g:Nat) (hg:qaJ g=fun _=>false) (H:Heap) (mN:Nm):lend H ((envC C K).borrow g) 0 [.ptr mN 0]=some ([.ptr mN 0],[]):=by
  rw[qbF,qc3,hg,qdC]
theorem mod5 {H:Heap} {mN hN rN oN qN:Nm} {x0 x1 x2 x3 x4:Option qal} (g0:H mN=x0) (g1:H hN=x1) (g2:H rN=x2) (g3:H oN=x3) (g4:H qN=x4) :
    modN [(mN,x0),(hN,x1),(rN,x2),(oN,x3),(qN,x4)] H=H:=by
  simp only[qce,qch]
  rw[qdo g4,qdo g3,qdo g2,qdo g1,qdo g0]
theorem mac_sum {K b:Nat} {H:Heap} {mN hN rN oN qN:Nm} {a o:List (BitVec 8)} {r:Option Out} (hc:qar (envC C (K+1)) H b 44 [.ptr mN 0]=r) (M:MG H mN hN rN oN qN a o)
    (hlen:a.length≤211106232000000) (hlen2:o.length≤1000) (hK:1000≤K) :
    ∃ ms,r=some ⟨.agg (aB 32 (dig (o++dl a))),[],ms⟩∧modN ms H=H:=by
  subst hc
  obtain ⟨c,l,c2,l2,h1,o1,hre,hob,g0,g1,g2,g3,g4⟩:=mac_pre M
  have hF:=msum_F K a c l o c2 l2 h1 o1 hlen hlen2 hK
  have t0:=toC _ M.nd 0 mN rfl
  have hn:([.ptr mN 0]:List LV).flatMap (nms D)=[mN]:=rfl
  have ha:([.ptr mN 0]:List LV).map (ren D (qaK [mN,hN,rN,oN,qN]))=[.ptr (0,0) 0]:=by
    simp only[zB,zA,qbk,t0,qbs]
  refine ⟨_,?_,mod5 g0 g1 g2 g3 g4⟩
  rw[qbU,lend_m (K+1) 44 rfl,qbA,hn,hre,qbV _ _ _ _ _ rfl,ha,hob,qbT,hF,show ([]:List Nm).isEmpty=true from rfl,qeB,qaT,mOs]
  simp only[List.zipWith_cons_cons,List.zipWith_nil_left,zC,zB,zA,qbk,qaP,qaZ,qaq,qcI,List.getElem?_cons_succ,List.getElem?_cons_zero,qa9,qbs,qbx]
end Sha
namespace Sha
open Go Go.LE Tb
def al (L:List (List (BitVec 8))) (i:Nat):List (BitVec 8):=(L.take i).flatten
theorem al_succ (L:List (List (BitVec 8))) (i:Nat) (h:i < L.length):al L (i+1)=al L i++L.getD i []:=by
  rw[al,al,List.take_succ_eq_append_getElem h,List.flatten_append]
  simp[h]
theorem al_le (L:List (List (BitVec 8))) (i:Nat):(al L i).length≤L.flatten.length:=by
  have:L.flatten=al L i++(L.drop i).flatten:=by rw[al,←List.flatten_append,List.take_append_drop]
  rw[this,zH]; omega
theorem al_full (L:List (List (BitVec 8))):al L L.length=L.flatten:=by rw[al,List.take_length]
end Sha
namespace Sha
open Go Go.LE Tb
def xr (g:Nat→BitVec 8) (x:BitVec 8) (i j:Nat):BitVec 8:=if j < i then g j ^^^ x else g j
theorem xr_succ (g:Nat→BitVec 8) (x:BitVec 8) (i:Nat):set1 (xr g x i) i (g i ^^^ x)=xr g x (i+1):=by
  funext j
  simp only[set1,xr]
  by_cases h:j=i
  · subst h; simp
  · rw [if_neg h]
    have:(j < i+1)↔(j < i):=by omega
    simp only[this]
theorem xr_at (g:Nat→BitVec 8) (x:BitVec 8) (i:Nat):xr g x i i=g i:=by simp[xr]
def xl (g:Nat→BitVec 8) (x:BitVec 8):List (BitVec 8):=(List.range 64).map fun j=>g j ^^^ x
theorem qg5 (g:Nat→BitVec 8) (x:BitVec 8):(xl g x).length=64:=by simp[xl]
theorem aB_xr (g:Nat→BitVec 8) (x:BitVec 8):aB 64 (xr g x 64)=bs (xl g x):=by
  rw[xl,←qdt]; exact qcn 64 fun i h=>by simp[xr,h]
def begJ (g:Nat→BitVec 8) (x:BitVec 8) (i:Nat) (st:St):Prop := ∃ (H:Heap),st=⟨[.undef,B8 x,.ptr (1,0) 0,.undef,.undef,.undef,.undef,N i,.undef,.undef,.undef,.undef,.undef,.undef,.undef,.undef,.undef,.undef,.undef,.undef,.undef,.undef],H,2,0⟩∧H (1,0)=some (aB 64 (xr g x i))
set_option maxRecDepth 10000 in
theorem beg_round (K k0:Nat) (g:Nat→BitVec 8) (x:BitVec 8) (i:Nat) (hi:i < 64) (st:St) (hI:begJ g x i st) :
    ∃ st1,ev (envC C k0) K L56b0 st=some (.normal,st1)∧begJ g x (i+1) (qa8 L56k0 st1):=by
  obtain ⟨H,rfl,h1⟩:=hI
  apply Exists.intro
  apply And.intro
  · simp (disch := first | omega | decide | simp only [nmsB, lB]) only [simprocAttr, -rR, -rS, leB, memB, arrB, numB, qaf, L56b0, hi, h1, xr_at, qae, qab, qad, qac, qaa]
    rfl
  · refine qao [(1, 0)] rfl (by simp only [simprocAttr, -rR, -rS, qak, L56k0, h1, qaN, qah, qac, qaa]) rfl ⟨_, rfl, ?_⟩
    rw[←xr_succ]
    exact qaj (1,0) rfl (by simp only[simprocAttr,-rR,-rS,memB,qab]) (qaE _ _ _)
set_option maxRecDepth 10000 in
theorem begin_F (K:Nat) (hK:1000≤K) (g:Nat→BitVec 8) (x:BitVec 8):∃ c l',RFN (xl g x) c l'∧F C (K+1) 56 [.agg (aB 64 g),B8 x] []=some (.ptr (1,0) 0,[],[hC (xl g x) (1,1) c,bs l']):=by
  have hnew:=fun b H=>new_call (K - 2) b H
  rw[show K - 2+2=K by omega] at hnew
  have hxl:=qg5 g x
  rw[qaH f56]
  simp (disch:=first|omega|decide|simp only[nmsB,lB]) only[simprocAttr,-rR,-rS,leB,memB,arrB,numB,qaf,L56,qae,qab,qad,qac,qaa]
  generalize hL:qa1 L56k0 _ _ _=r
  refine qaR hL (begJ g x) 64 (by omega) (fun i st hi hI=>beg_round _ _ g x i hi st hI) ?_ ?_ ?_
  · refine qao [(2, 0)] rfl (by simp only [simprocAttr, -rR, -rS, qak, L56k0, qaN, qah, qac, qaa]) rfl ⟨_, rfl, ?_⟩
    rw[show xr g x 0=g by funext j; simp[xr]]
    exact qaj (2,0) rfl (by simp only[simprocAttr,-rR,-rS,memB,qab]) (qaE _ _ _)
  · rintro st ⟨H, rfl, h1⟩
    apply qaO
    simp (disch:=first|omega|decide|simp only[nmsB,lB]) only[simprocAttr,-rR,-rS,leB,memB,numB,qaf,L56b0,qae,qab,qad,qac,qaa]
    rfl
  · clear hL
    rintro st ⟨H,rfl,h1⟩ rfl
    rw[aB_xr] at h1
    simp (disch:=first|omega|decide|simp only[nmsB,lB]) only[simprocAttr,-rR,-rS,leB,memB,arrB,numB,qaf,L56b0,hnew,qae,qab,qad,qac,qaa]
    generalize hc:qar _ _ _ _ _=r
    generalize hH2:upd _ _ _=H2 at hc ⊢
    have h12:H2 (1,0)=some (bs (xl g x)):=by rw[←hH2]; simp only[simprocAttr,-rR,-rS,memB,h1,qab]
    have hB:=qem H2 (1,0) 0 64 (some 64) _ [(3,0)] h12 (by omega) (by decide)
    rw[zF,List.take_of_length_le (by omega)] at hB
    have h0:H0 H2 (3,0):=by rw[H0,←hH2]; simp only[simprocAttr,-rR,-rS,memB,qab]
    obtain ⟨news,ms,H3,rfl,hH3,⟨hne,c,l',hrf,e1,e2⟩,hfr⟩:=write_1 (bb:=xl g x) hc h0 hB (by intro e; rw[e] at hxl; simp at hxl) (by omega) (by omega) (by decide)
    refine ⟨c,l',hrf,?_⟩
    simp (disch:=first|omega|decide|simp only[nmsB,lB]) only[simprocAttr,-rR,-rS,leB,memB,arrB,numB,qaf,qai,hH3,qae,qab,qad,qac,qaa]
    rw[qaX 0 _ _ [_,_] (by simp only[simprocAttr,-rR,-rS,qak,qa6,qam,e1,e2,qah,qac,qaa] <;> rfl)]
    simp (disch:=first|omega|decide|simp only[nmsB,lB]) only[simprocAttr,-rR,-rS,leB,memB,qaf,qaP,e1,e2,qae,qab,qad,qac,qaa]
theorem qhM (K:Nat) (hK:1000≤K) (g:Nat→BitVec 8) (x:BitVec 8):∃ c l',RFN (xl g x) c l'∧∀ (b:Nat) (H:Heap),qar (envC C (K+1)) H b 56 [.agg (aB 64 g),B8 x]=some ⟨.ptr (b,0) 0,[hC (xl g x) (b,1) c,bs l'],[]⟩:=by
  obtain ⟨c,l',h,hF⟩:=begin_F K hK g x
  refine ⟨c,l',h,fun b H => ?_⟩
  rw[qae l56 (by simp only[zK,zN,qbt,nms_B8,zD]) (by simp only[zB,zA,qbx,ren_B8]),hF]
  simp only[calK,qaT,zE,zL,zB,zA,List.zipWith_nil_left,zO,Nat.reduceAdd,qbk,qbd,Nat.reduceLT,qbs,qaP,qaZ,qa9,qaq]
def rk (key:List (BitVec 8)):List (BitVec 8):=if 64 < key.length then dl key else key
def rdy (key:List (BitVec 8)):Nat→BitVec 8:=fun i=>(rk key).getD i 0#8
theorem rk_length (key:List (BitVec 8)):(rk key).length≤64:=by
  unfold rk; split
  · rw[qfe]; omega
  · omega
def ik (key:List (BitVec 8)):List (BitVec 8):=xl (rdy key) 54#8
def ok (key:List (BitVec 8)):List (BitVec 8):=xl (rdy key) 92#8
theorem qg6 (key:List (BitVec 8)):(ik key).length=64:=qg5 _ _
theorem ok_length (key:List (BitVec 8)):(ok key).length=64:=qg5 _ _
def tagv (key msg:List (BitVec 8)):Nat→BitVec 8:=dig (ok key++dl (ik key++msg))
theorem rdy_row (k:List (BitVec 8)) (h:k.length≤64):bs (k++List.replicate (64 - k.length) 0#8)=aB 64 fun i=>k.getD i 0#8:=by
  rw[qe0 _ 64 (by simp; omega)]
  apply qcn
  intro i hi
  rw[List.getD_eq_getElem?_getD,List.getD_eq_getElem?_getD]
  by_cases h1:i < k.length
  · rw[List.getElem?_append_left h1]
  · rw [List.getElem?_append_right (by omega), List.getElem?_eq_none (by omega : k.length ≤ i)]
    rw[List.getElem?_replicate]; split <;> rfl
theorem cp_key (H:Heap) (m:Nm) (y:LV) (k:List (BitVec 8)) (hk:k.length≤64) (hm:H m=some (aB 64 fun _=>0#8)) (hf:qbp H 1 k.length y=some (bs k)) :
    ∃ ms,cpK 1 H (.sl m 0 64 (some 64) 1) y (some k.length)=some ⟨N k.length,[],ms⟩∧modN ms H=upd H m (some (aB 64 fun i=>k.getD i 0#8)):=by
  by_cases h0:k.length=0
  · refine ⟨[], ?_, ?_⟩
    · rw[cp_zero _ _ _ _ _ _ _ _ (by omega),h0]
    · have : k = [] := List.length_eq_zero_iff.1 h0
      subst this
      rw[qch]
      exact (qdo hm).symm
  · have hm' : H m = some (bs (List.replicate 64 0#8)) := by rw [hm, ← qfG, ← qeM]
    have hmin:min k.length 64=k.length:=by omega
    refine ⟨_,qeT k.length m 0 64 (some 64) y (List.replicate 64 0#8) k (by omega) (by rw[hmin]; exact hf) hm' (by simp; omega) |>.trans (by rw[hmin]),?_⟩
    rw[qce,qch]
    congr 1
    rw[zW,zI,zO,List.drop_replicate,rdy_row k hk]
def mNew (b:Nat) (a:List (BitVec 8)) (c:Option Nat) (l o:List (BitVec 8)) (c2:Option Nat) (l2:List (BitVec 8)):List qal :=
  [[.ptr (b,1) 0,.ptr (b,3) 0],hC a (b,2) c,bs l,hC o (b,4) c2,bs l2]
set_option maxRecDepth 10000 in
theorem mnew_F (K:Nat) (key:List (BitVec 8)) (hb:key.length≤211106232000000) (hK:key.length / 64+1100≤K) :
    ∃ c l c2 l2,RFN (ik key) c l∧RFN (ok key) c2 l2∧F C (K+1) 42 [.isl (bs key) key.length] []=some (.ptr (1,0) 0,[],mNew 1 (ik key) c l (ok key) c2 l2):=by
  obtain ⟨c,l,hrf,hb1⟩:=qhM (K - 1) (by omega) (rdy key) 54#8
  obtain ⟨c2,l2,hrf2,hb2⟩:=qhM (K - 1) (by omega) (rdy key) 92#8
  rw[show K - 1+1=K by omega] at hb1 hb2
  refine ⟨c,l,c2,l2,hrf,hrf2,?_⟩
  rw[qaH f42]
  have hrl:=rk_length key
  have hs:=fun bn (H:Heap)=>sum_call K bn H (.isl (bs key) key.length) key (by omega) (qbq H key []) (by omega)
  by_cases h64:64 < key.length
  · have hrk : rk key = dl key := by rw [rk, if_pos h64]
    have hdl:=qfe key
    simp (disch:=first|omega|decide|simp only[nmsB,lB]) only[simprocAttr,-rR,-rS,leB,memB,arrB,numB,qaf,L42,h64,hs,qae,qab,qad,qac,qaa]
    generalize hH3:upd _ _ (some (aB 32 (dig key)))=H3
    have h3:H3 (3,0)=some (aB 64 fun _=>0#8):=by rw[←hH3]; simp only[simprocAttr,-rR,-rS,memB,qab]
    have h9:H3 (9,0)=some (bs (dl key)):=by rw[←hH3,←aB_dl]; simp only[simprocAttr,-rR,-rS,memB,qab]
    have hf:=qbQ (9,0) 0 32 (some 32) _ h9 (by omega)
    rw[zF,List.take_of_length_le (by omega)] at hf
    obtain ⟨ms,hcp,hms⟩:=cp_key H3 (3,0) (.sl (9,0) 0 32 (some 32) 1) (dl key) (by omega) h3 (by rw[hdl]; exact hf)
    rw[hdl] at hcp
    rw[show (fun i=>(dl key).getD i 0#8)=rdy key by funext i; rw[rdy,hrk]] at hms
    simp (disch:=first|omega|decide|simp only[nmsB,lB]) only[simprocAttr,-rR,-rS,leB,memB,arrB,numB,qaf,ordB,qak,qai,hcp,hms,hb1,hb2,qaI,qae,qab,qad,qac,qaa,qas,qah]
    rw[qaX 0 _ _ [(21,0),(17,0),(17,1),(19,0),(19,1)] (by simp only[simprocAttr,-rR,-rS,qak,qa6,qam,qah,qac,qaa])]
    simp (disch:=first|omega|decide|simp only[nmsB,lB]) only[simprocAttr,-rR,-rS,leB,memB,qaf,qaP,mNew,ik,ok,qae,qab,qad,qac,qaa]
  · have hrk : rk key = key := by rw [rk, if_neg h64]
    simp (disch:=first|omega|decide|simp only[nmsB,lB]) only[simprocAttr,-rR,-rS,leB,memB,arrB,numB,qaf,L42,h64,hs,qae,qab,qad,qac,qaa]
    generalize hH3:upd _ _ (some (aB 64 fun _=>0#8))=H3
    have h3:H3 (3,0)=some (aB 64 fun _=>0#8):=by rw[←hH3]; simp only[simprocAttr,-rR,-rS,memB,qab]
    obtain ⟨ms,hcp,hms⟩:=cp_key H3 (3,0) (.isl (bs key) key.length) key (by omega) h3 (qb9 key key.length rfl)
    rw[show (fun i=>key.getD i 0#8)=rdy key by funext i; rw[rdy,hrk]] at hms
    simp (disch:=first|omega|decide|simp only[nmsB,lB]) only[simprocAttr,-rR,-rS,leB,memB,arrB,numB,qaf,ordB,qak,qai,hcp,hms,hb1,hb2,qaI,qae,qab,qad,qac,qaa,qas,qah]
    rw[qaX 0 _ _ [(15,0),(11,0),(11,1),(13,0),(13,1)] (by simp only[simprocAttr,-rR,-rS,qak,qa6,qam,qah,qac,qaa])]
    simp (disch:=first|omega|decide|simp only[nmsB,lB]) only[simprocAttr,-rR,-rS,leB,memB,qaf,qaP,mNew,ik,ok,qae,qab,qad,qac,qaa]
theorem ren_mNew (b:Nat) (a:List (BitVec 8)) (c:Option Nat) (l o:List (BitVec 8)) (c2:Option Nat) (l2:List (BitVec 8)) :
    (mNew 1 a c l o c2 l2).map (fun cs=>cs.map (ren D (qbf [] b 5)))=mNew b a c l o c2 l2:=by
  simp only[mNew,zB,zA,qbk,qaP,qaZ,qaq,qbd,Nat.reduceLT,qbs,qa9]
theorem mnew_call {K b:Nat} {H:Heap} {B:LV} {key:List (BitVec 8)} {r:Option Out} (hc:qar (envC C (K+1)) H b 42 [B]=r) (hB:Lent H B key []) (hb:key.length≤211106232000000) (hK:key.length / 64+1100≤K) :
    ∃ news H2,r=some ⟨.ptr (b,0) 0,news,[]⟩∧updN b 0 news H=H2∧MG H2 (b,0) (b,1) (b,2) (b,3) (b,4) (ik key) (ok key)∧∀ m,m.1≠b→H2 m=H m:=by
  subst hc
  obtain ⟨c,l,c2,l2,h1,h2,hF⟩:=mnew_F K key hb hK
  obtain ⟨lent,hs,hl⟩:=hB.snap
  have hlend:lend H ((envC C (K+1)).borrow 42) 0 [B]=some ([.isl (bs key) key.length],lent):=by
    rw[qbo,qcC,qbF,qc3,if_pos (show qaJ 42 0=true by decide),hs,qbc,zD]
  have hn:([.isl (bs key) key.length]:List LV).flatMap (nms D)=[]:=by
    simp only[zK,zN,qbg,zD]
  have ha:([.isl (bs key) key.length]:List LV).map (ren D (qaK []))=[.isl (bs key) key.length]:=by
    simp only[zB,zA,qbj]
  have hp:qa5 (.ptr (1,0) 0,[],mNew 1 (ik key) c l (ok key) c2 l2)=true:=by
    simp[qa5,mNew,qfd,qcD]; exact ⟨rfl,rfl,rfl⟩
  have hcall:qar (envC C (K+1)) H b 42 [B]=some ⟨.ptr (b,0) 0,mNew b (ik key) c l (ok key) c2 l2,[]⟩:=by
    rw[qbU,hlend,qbA,hn,show qa7 H FUEL [] []=[] from rfl,qbV _ _ _ _ _ hl,ha,zQ,zA,qbT,hF,qcs _ _ _ _ hp,qaT]
    rw[show (mNew 1 (ik key) c l (ok key) c2 l2).length=5 from rfl,ren_mNew]
    simp only[qbk,qbd,Nat.reduceLT,qbs,List.zipWith_nil_left,Nat.zero_lt_succ]
  refine ⟨_,_,hcall,rfl,⟨by simp,?_,⟨c,l,h1,?_,?_⟩,⟨c2,l2,h2,?_,?_⟩⟩,?_⟩
  all_goals try (rw [updN_at]; simp[mNew]; done)
  intro m hm
  rw[updN_at,if_neg (fun h=>hm h.1)]
def tJ (key:List (BitVec 8)) (L:List (List (BitVec 8))) (i:Nat) (st:St):Prop := ∃ (H:Heap),st=⟨[.undef,.undef,.undef,.undef,.ptr (1,0) 0,.ptr (1,1) 0,.undef,.undef,.undef,.undef,.isl (sls L) L.length,N L.length,N i,.undef,.undef,.undef,.undef,.undef,.undef,.undef,.undef,.undef],H,2,0⟩ ∧
  H (1,0)=some (aB 32 fun _=>0#8)∧MG H (1,1) (1,2) (1,3) (1,4) (1,5) (ik key++al L i) (ok key)
set_option maxRecDepth 10000 in
theorem t_round (K k0:Nat) (key:List (BitVec 8)) (L:List (List (BitVec 8))) (hL:L.flatten.length≤211106231000000) (hLl:L.length≤211106232000000) (hK:L.flatten.length / 64+300≤k0) (i:Nat) (hi:i < L.length) (st:St) (hI:tJ key L i st) :
    ∃ st1,ev (envC C (k0+1)) K L22b0 st=some (.normal,st1)∧tJ key L (i+1) (qa8 L22k0 st1):=by
  obtain ⟨H,rfl,h1,M⟩:=hI
  have ha:=al_succ L i hi
  have hal:=al_le L i
  have hal1:=al_le L (i+1)
  have hik:=qg6 key
  obtain ⟨b,hb⟩:∃ b,b=L.getD i []:=⟨_,rfl⟩
  have hcell:=fun H=>sls_cell (H:=H) L i hi
  rw[←hb] at ha hcell
  rw[ha,zH] at hal1
  simp (disch:=first|omega|decide|simp only[nmsB,lB]) only[simprocAttr,-rR,-rS,leB,memB,arrB,numB,qaf,L22b0,hi,hcell,qae,qab,qad,qac,qaa]
  generalize hc:qar _ _ _ _ _=r
  obtain ⟨rN,news,ms,H2,rfl,hH2,M2,hr,_,hfr⟩:=mac_write hc M (qbq H b _) (by rw[zH]; omega) (by rw[zH]; omega) (by decide)
  have h12:H2 (1,0)=some (aB 32 fun _=>0#8):=by rw[hfr _ (by decide) (by decide),h1]
  obtain ⟨nd,m,⟨c,l,q1,q2,q3⟩,⟨c2,l2,o1,o2,o3⟩⟩:=M2
  rw[List.append_assoc,←ha] at q1 q2
  apply Exists.intro
  apply And.intro
  · simp (disch := first | omega | decide | simp only [nmsB, lB]) only [simprocAttr, -rR, -rS, leB, memB, arrB, numB, qaf, qai, hH2, qae, qab, qad, qac, qaa]
    rfl
  · rcases hr with rfl | rfl
    all_goals
      refine qao [(1,0),(1,1),(1,2),_,(1,4),(1,5)] rfl (by simp only[simprocAttr,-rR,-rS,qak,L22k0,h12,m,q2,q3,o2,o3,qa6,qam,qaN,sls_nms,qah,qac,qaa] <;> rfl) ?_ ⟨_,rfl,?_,⟨by decide,?_,⟨c,l,q1,?_,?_⟩,⟨c2,l2,o1,?_,?_⟩⟩⟩
      · simp only [simprocAttr, -rR, -rS, L22k0, leB, memB, qaf, qc7, qcP, qdn, qdj, sls_ren, qew, qae, qab, qad, qac, qaa]
        rfl
      · exact qaj _ rfl h12 (qaE _ _ _)
      · rw[qcQ _ _ 1 _ _ rfl m]; rfl
      · rw[qcQ _ _ 2 _ _ rfl q2,qaP]; rfl
      · exact qaj _ rfl q3 (qaq _ _)
      · rw[qcQ _ _ 4 _ _ rfl o2,qaP]; rfl
      · exact qaj _ rfl o3 (qaq _ _)
set_option maxRecDepth 10000 in
theorem tag_F (K:Nat) (key:List (BitVec 8)) (L:List (List (BitVec 8))) (hk:key.length≤211106232000000) (hL:L.flatten.length≤211106231000000) (hLl:L.length≤211106232000000)
    (hK:key.length / 64+L.flatten.length / 64+L.length+1200≤K):F C (K+2) 22 [.isl (bs key) key.length,.isl (sls L) L.length] []=some (.agg (aB 32 (tagv key L.flatten)),[],[]):=by
  rw[qaH f22]
  have hik:=qg6 key
  have hok:=ok_length key
  simp (disch:=first|omega|decide|simp only[nmsB,lB]) only[simprocAttr,-rR,-rS,leB,memB,arrB,numB,qaf,L22,qae,qab,qad,qac,qaa]
  generalize hc:qar _ _ _ _ _=r
  obtain ⟨news,H2,rfl,hH2,M,hfr⟩:=mnew_call hc (qbq _ key []) hk (by omega)
  have h22:H2 (2,0)=some (aB 32 fun _=>0#8):=by rw[hfr _ (by decide)]; simp only[simprocAttr,-rR,-rS,memB,qab]
  simp (disch:=first|omega|decide|simp only[nmsB,lB]) only[simprocAttr,-rR,-rS,leB,memB,arrB,numB,qaf,qai,hH2,qae,qab,qad,qac,qaa]
  generalize hLp:qa1 L22k0 _ _ _=r
  refine qaR hLp (tJ key L) L.length (by omega) (fun i st hi hI=>t_round _ _ key L hL hLl (by omega) i hi st hI) ?_ ?_ ?_
  · obtain ⟨nd, m, ⟨c, l, q1, q2, q3⟩, ⟨c2, l2, o1, o2, o3⟩⟩ := M
    refine qao [(2,0),_,_,_,_,_] rfl (by simp only[simprocAttr,-rR,-rS,qak,L22k0,h22,m,q2,q3,o2,o3,qa6,qam,qaN,sls_nms,qah,qac,qaa] <;> rfl) ?_ ⟨_,rfl,?_,⟨by decide,?_,⟨c,l,?_,?_,?_⟩,⟨c2,l2,o1,?_,?_⟩⟩⟩
    · simp only [simprocAttr, -rR, -rS, L22k0, leB, memB, qaf, qc7, qcP, qdn, qdj, sls_ren, qew, qae, qab, qad, qac, qaa]
      rfl
    · exact qaj _ rfl h22 (qaE _ _ _)
    · rw[qcQ _ _ 1 _ _ rfl m]; rfl
    · rw[show al L 0=[] from rfl,zD]; exact q1
    · rw[show al L 0=[] from rfl,zD,qcQ _ _ 2 _ _ rfl q2,qaP]; rfl
    · exact qaj _ rfl q3 (qaq _ _)
    · rw[qcQ _ _ 4 _ _ rfl o2,qaP]; rfl
    · exact qaj _ rfl o3 (qaq _ _)
  · rintro st ⟨H, rfl, h1, M⟩
    apply qaO
    simp (disch:=first|omega|decide|simp only[nmsB,lB]) only[simprocAttr,-rR,-rS,leB,memB,numB,qaf,L22b0,qae,qab,qad,qac,qaa]
    rfl
  · clear hLp
    rintro st ⟨H,rfl,h1,M⟩ rfl
    rw[al_full] at M
    simp (disch:=first|omega|decide|simp only[nmsB,lB]) only[simprocAttr,-rR,-rS,leB,memB,arrB,numB,qaf,L22b0,qae,qab,qad,qac,qaa]
    generalize hc:qar _ _ _ _ _=r
    obtain ⟨ms,rfl,hms⟩:=mac_sum hc M (by rw[zH]; omega) (by omega) (by omega)
    simp (disch:=first|omega|decide|simp only[nmsB,lB]) only[simprocAttr,-rR,-rS,leB,memB,arrB,numB,qaf,qai,hms,h1,qae,qab,qad,qac,qaa]
    rfl
end Sha
namespace Sha
open Go Go.LE Tb
def pr (k:List (BitVec 8)) (x:BitVec 8) (i j:Nat):BitVec 8:=if j < i then k.getD j 0#8 ^^^ x else 0#8
theorem pr_at (k:List (BitVec 8)) (x:BitVec 8) (i:Nat):pr k x i i=0#8:=by simp[pr]
theorem pr_succ (k:List (BitVec 8)) (x:BitVec 8) (i:Nat):set1 (set1 (pr k x i) i (k.getD i 0#8)) i (k.getD i 0#8 ^^^ x)=pr k x (i+1):=by
  funext j
  simp only[set1,pr]
  by_cases h:j=i
  · subst h; simp
  · rw [if_neg h, if_neg h]
    have:(j < i+1)↔(j < i):=by omega
    simp only[this]
theorem pr_succ0 (k:List (BitVec 8)) (x:BitVec 8) (i:Nat) (h:k.length≤i):set1 (pr k x i) i (0#8 ^^^ x)=pr k x (i+1):=by
  have e:k.getD i 0#8=0#8:=by rw[List.getD_eq_getElem?_getD,List.getElem?_eq_none h]; rfl
  rw[←pr_succ,e]
  congr 1
  funext j
  simp only[set1,pr]
  by_cases h2:j=i
  · subst h2; simp
  · rw[if_neg h2]
def dA (k:List (BitVec 8)) (x:BitVec 8) (i:Nat) (st:St):Prop := ∃ (H:Heap),st=⟨[.isl (bs k) k.length,B8 x,.undef,.undef,.undef,.undef,.sl (1,0) 0 64 (some 64) 1,N i,.undef,.undef,.undef,.undef,.undef,.undef,.undef,.undef,.undef,.undef,.undef,.undef,.undef,.undef,.undef,.undef,.undef,.undef,.undef,.undef,.undef,.undef,.undef,.undef,.undef,.undef,.undef,.undef,.undef,.undef,.undef,.undef],H,2,0⟩∧H (1,0)=some (aB 64 (pr k x i))
def dB (k:List (BitVec 8)) (x:BitVec 8) (i:Nat) (st:St):Prop := ∃ (H:Heap),st=⟨[.sl (1,0) 0 32 (some 32) 1,B8 x,.undef,.undef,.undef,.undef,.sl (1,1) 0 64 (some 64) 1,N i,.undef,.undef,.undef,.undef,.undef,.undef,.undef,.undef,.undef,.undef,.undef,.undef,.undef,.undef,.undef,.undef,.undef,.undef,.undef,.undef,.undef,.undef,.undef,.undef,.undef,.undef,.undef,.undef,.undef,.undef,.undef,.undef],H,2,0⟩∧H (1,0)=some (bs k)∧H (1,1)=some (aB 64 (pr k x i))
set_option maxRecDepth 10000 in
theorem dA_round (K k0:Nat) (k:List (BitVec 8)) (hk:k.length≤64) (x:BitVec 8) (i:Nat) (hi:i < 64) (st:St) (hI:dA k x i st) :
    ∃ st1,ev (envC C k0) K L47b0 st=some (.normal,st1)∧dA k x (i+1) (qa8 L47k0 st1):=by
  obtain ⟨H,rfl,h1⟩:=hI
  have e0:∀ H:Heap,i < k.length→qb6 H 1 (.ipt ((bs k).drop i))=some [B8 (k.getD i 0#8)]:=fun H h=>qdP k i h
  by_cases h:i < k.length
  · have e0' := fun H => e0 H h
    apply Exists.intro
    apply And.intro
    · simp (disch := first | omega | decide | simp only [nmsB, lB]) only [simprocAttr, -rR, -rS, leB, memB, arrB, numB, qaf, L47b0, hi, h, h1, e0', set1_same, pr_succ, qae, qab, qad, qac, qaa]
      rfl
    · refine qao [(1, 0)] rfl (by simp only [simprocAttr, -rR, -rS, qak, L47k0, qaN, qbg, qah, qac, qaa]) ?_ ⟨_, rfl, ?_⟩
      · simp only [simprocAttr, -rR, -rS, L47k0, leB, memB, qaf, qc7, qcP, qdn, qdj, qae, qab, qad, qac, qaa]
        rfl
      · exact qaj (1,0) rfl (by simp only[simprocAttr,-rR,-rS,memB,qab]) (qaE _ _ _)
  · apply Exists.intro
    apply And.intro
    · simp (disch := first | omega | decide | simp only [nmsB, lB]) only [simprocAttr, -rR, -rS, leB, memB, arrB, numB, qaf, L47b0, hi, h, h1, pr_at, pr_succ0, qae, qab, qad, qac, qaa]
      rfl
    · refine qao [(1, 0)] rfl (by simp only [simprocAttr, -rR, -rS, qak, L47k0, qaN, qbg, qah, qac, qaa]) ?_ ⟨_, rfl, ?_⟩
      · simp only [simprocAttr, -rR, -rS, L47k0, leB, memB, qaf, qc7, qcP, qdn, qdj, qae, qab, qad, qac, qaa]
        rfl
      · exact qaj (1,0) rfl (by simp only[simprocAttr,-rR,-rS,memB,qab]) (qaE _ _ _)
set_option maxRecDepth 10000 in
theorem dB_round (K k0:Nat) (k:List (BitVec 8)) (hk:k.length=32) (x:BitVec 8) (i:Nat) (hi:i < 64) (st:St) (hI:dB k x i st) :
    ∃ st1,ev (envC C k0) K L47b0 st=some (.normal,st1)∧dB k x (i+1) (qa8 L47k0 st1):=by
  obtain ⟨H,rfl,h0,h1⟩:=hI
  by_cases h:i < 32
  · have hc : qaS i 1 (some (bs k)) = some [B8 (k.getD i 0#8)] := bs_cell k i (by omega)
    apply Exists.intro
    apply And.intro
    · simp (disch := first | omega | decide | simp only [nmsB, lB]) only [simprocAttr, -rR, -rS, leB, memB, arrB, numB, qaf, L47b0, hi, h, h0, h1, hc, set1_same, pr_succ, qae, qab, qad, qac, qaa]
      rfl
    · refine qao [(1, 0), (1, 1)] rfl (by simp only [simprocAttr, -rR, -rS, qak, L47k0, h0, qaN, qam, qah, qac, qaa]) rfl ⟨_, rfl, ?_, ?_⟩
      · exact qaj (1,0) rfl (by simp only[simprocAttr,-rR,-rS,memB,h0,qab]) (qaq _ _)
      · exact qaj (1,1) rfl (by simp only[simprocAttr,-rR,-rS,memB,qab]) (qaE _ _ _)
  · have hle : k.length ≤ i := by omega
    apply Exists.intro
    apply And.intro
    · simp (disch := first | omega | decide | simp only [nmsB, lB]) only [simprocAttr, -rR, -rS, leB, memB, arrB, numB, qaf, L47b0, hi, h, h0, h1, pr_at, pr_succ0, qae, qab, qad, qac, qaa]
      rfl
    · refine qao [(1, 0), (1, 1)] rfl (by simp only [simprocAttr, -rR, -rS, qak, L47k0, h0, qaN, qam, qah, qac, qaa]) rfl ⟨_, rfl, ?_, ?_⟩
      · exact qaj (1,0) rfl (by simp only[simprocAttr,-rR,-rS,memB,h0,qab]) (qaq _ _)
      · exact qaj (1,1) rfl (by simp only[simprocAttr,-rR,-rS,memB,qab]) (qaE _ _ _)
theorem pr_xl (key:List (BitVec 8)) (x:BitVec 8):aB 64 (pr (rk key) x 64)=bs (xl (rdy key) x):=by
  rw[xl,←qdt]; exact qcn 64 fun i h=>by simp only[pr,if_pos h,rdy]
theorem pr_zero (k:List (BitVec 8)) (x:BitVec 8):pr k x 0=fun _=>0#8:=by funext j; simp[pr]
theorem pr_e64 (k:List (BitVec 8)) (x:BitVec 8):bs (List.replicate 64 0#8)=aB 64 (pr k x 0):=by rw[pr_zero,←qfG,qeM]
set_option maxRecDepth 10000 in
theorem pad_F (K:Nat) (key:List (BitVec 8)) (x:BitVec 8) (hb:key.length≤211106232000000) (hK:key.length / 64+400≤K) :
    F C (K+1) 47 [.isl (bs key) key.length,B8 x] []=some (.sl (1,0) 0 64 (some 64) 1,[],[bs (xl (rdy key) x)]):=by
  rw[qaH f47]
  have hs:=fun bn (H:Heap)=>qg4 K bn H (.isl (bs key) key.length) key (by omega) (qbq H key []) (by omega)
  have hx:=pr_xl key x
  by_cases h64:64 < key.length
  · have hrk : rk key = dl key := by rw [rk, if_pos h64]
    rw[hrk] at hx
    simp (disch:=first|omega|decide|simp only[nmsB,lB]) only[simprocAttr,-rR,-rS,leB,memB,arrB,numB,qaf,L47,h64,hs,qeU,qae,qab,qad,qac,qaa]
    generalize hL:qa1 L47k0 _ _ _=r
    refine qaR hL (dB (dl key) x) 64 (by omega) (fun i st hi hI=>dB_round _ _ _ (qfe key) x i hi st hI) ?_ ?_ ?_
    · refine qao [_, _] rfl (by simp only [simprocAttr, -rR, -rS, qak, L47k0, qaN, qam, qah, qac, qaa] <;> rfl) rfl ⟨_, rfl, ?_, ?_⟩
      · exact qaj _ rfl (by simp only[simprocAttr,-rR,-rS,memB,aB_dl,qab]) (qaq _ _)
      · exact qaj _ rfl (by simp only[simprocAttr,-rR,-rS,memB,pr_e64 (dl key) x,qab]) (qaE _ _ _)
    · rintro st ⟨H, rfl, h0, h1⟩
      apply qaO
      simp (disch:=first|omega|decide|simp only[nmsB,lB]) only[simprocAttr,-rR,-rS,leB,memB,numB,qaf,L47b0,qae,qab,qad,qac,qaa]
      rfl
    · rintro st ⟨H, rfl, h0, h1⟩ rfl
      simp (disch:=first|omega|decide|simp only[nmsB,lB]) only[simprocAttr,-rR,-rS,leB,memB,arrB,numB,qaf,L47b0,qae,qab,qad,qac,qaa]
      rw[hx] at h1
      rw[qaX 0 _ _ [(1,1)] (by simp only[simprocAttr,-rR,-rS,qak,h1,qam,qah,qac,qaa])]
      simp (disch:=first|omega|decide|simp only[nmsB,lB]) only[simprocAttr,-rR,-rS,leB,memB,qaf,h1,qae,qab,qad,qac,qaa]
  · have hrk : rk key = key := by rw [rk, if_neg h64]
    rw[hrk] at hx
    simp (disch:=first|omega|decide|simp only[nmsB,lB]) only[simprocAttr,-rR,-rS,leB,memB,arrB,numB,qaf,L47,h64,hs,qeU,qae,qab,qad,qac,qaa]
    generalize hL:qa1 L47k0 _ _ _=r
    refine qaR hL (dA key x) 64 (by omega) (fun i st hi hI=>dA_round _ _ _ (by omega) x i hi st hI) ?_ ?_ ?_
    · refine qao [_] rfl (by simp only [simprocAttr, -rR, -rS, qak, L47k0, qaN, qam, qbg, qah, qac, qaa] <;> rfl) ?_ ⟨_, rfl, ?_⟩
      · simp only [simprocAttr, -rR, -rS, L47k0, leB, memB, qaf, qc7, qcP, qdn, qdj, qae, qab, qad, qac, qaa]
        rfl
      · exact qaj _ rfl (by simp only[simprocAttr,-rR,-rS,memB,pr_e64 key x,qab]) (qaE _ _ _)
    · rintro st ⟨H, rfl, h1⟩
      apply qaO
      simp (disch:=first|omega|decide|simp only[nmsB,lB]) only[simprocAttr,-rR,-rS,leB,memB,numB,qaf,L47b0,qae,qab,qad,qac,qaa]
      rfl
    · rintro st ⟨H, rfl, h1⟩ rfl
      simp (disch:=first|omega|decide|simp only[nmsB,lB]) only[simprocAttr,-rR,-rS,leB,memB,arrB,numB,qaf,L47b0,qae,qab,qad,qac,qaa]
      rw[hx] at h1
      rw[qaX 0 _ _ [(1,0)] (by simp only[simprocAttr,-rR,-rS,qak,h1,qam,qah,qac,qaa])]
      simp (disch:=first|omega|decide|simp only[nmsB,lB]) only[simprocAttr,-rR,-rS,leB,memB,qaf,h1,qae,qab,qad,qac,qaa]
theorem pad_call (K b:Nat) (H:Heap) (B:LV) (key:List (BitVec 8)) (x:BitVec 8) (hB:Lent H B key []) (hb:key.length≤211106232000000) (hK:key.length / 64+400≤K) :
    qar (envC C (K+1)) H b 47 [B,B8 x]=some ⟨.sl (b,0) 0 64 (some 64) 1,[bs (xl (rdy key) x)],[]⟩:=by
  obtain ⟨lent,hs,hl⟩:=hB.snap
  have hlend:lend H ((envC C (K+1)).borrow 47) 0 [B,B8 x]=some ([.isl (bs key) key.length,B8 x],lent):=by
    rw[qbo,qbo,qcC,qbF,qc3,if_pos (show qaJ 47 0=true by decide),if_neg (show ¬ qaJ 47 (0+1)=true by decide),hs,qbc,qbc]
    simp
  have hn:([.isl (bs key) key.length,B8 x]:List LV).flatMap (nms D)=[]:=by
    simp only[zK,zN,qbg,nms_B8,zD]
  have ha:([.isl (bs key) key.length,B8 x]:List LV).map (ren D (qaK []))=[.isl (bs key) key.length,B8 x]:=by
    simp only[zB,zA,qbj,ren_B8]
  have hp:qa5 (.sl (1,0) 0 64 (some 64) 1,[],[bs (xl (rdy key) x)])=true:=by
    simp[qa5,qcD]; rfl
  rw[qbU,hlend,qbA,hn,show qa7 H FUEL [] []=[] from rfl,qbV _ _ _ _ _ hl,ha,zQ,zA,qbT,pad_F K key x hb hK,qcs _ _ _ _ hp,qaT]
  simp only[qaZ,qbd,zE,zL,zO,Nat.lt_one_iff,qa9,zB,zA,qaq,List.zipWith_nil_left]
theorem app_ex {b:Nat} {H:Heap} {m:Nm} {l0 l:List (BitVec 8)} {n k:Nat} {r:Option Out} (hc:appX b 1 1 k H [] (bs l) (.sl m 0 n (some n) 1)=r) (hm:H m=some (bs l0)) (hn:l0.length=n) (hk:l.length=k) (hlen:n+k≤211106232532992) :
    ∃ m' c news ms H2,r=some ⟨.sl m' 0 (n+k) c 1,news,ms⟩∧updN b 0 news (modN ms H)=H2∧H2 m'=some (bs (l0++l))∧(m'=m∨m'=(b,0))∧∀ q,q≠(b,0)→H2 q=H q:=by
  subst hc hn hk
  by_cases h0:l=[]
  · subst h0
    refine ⟨m,some l0.length,_,_,H,appX_room (b:=b) 0 m 0 l0.length l0.length l0 [] hm (by simp) (by simpa using hlen) (by simp),?_,by rw[zD]; exact hm,.inl rfl,fun _ _=>rfl⟩
    rw[qcS,qce,qch]
    simp only[zO,List.take_length,zD,zL,zZ,List.drop_length]
    exact qdo hm
  · have hp : 0 < l.length := List.length_pos_iff.2 h0
    refine ⟨(b,0),none,_,_,_,qc9 (b:=b) l.length m 0 l0.length l0.length l0 l hm (by simp) (by omega) (by omega),rfl,?_,.inr rfl,?_⟩
    · rw[qcW,qcS,qby,if_pos rfl,zF,List.take_length]
    · intro q hq
      rw[qcW,qcS,qch,qby,if_neg hq]
theorem rsum_use {k b:Nat} {H:Heap} {B:LV} {bb:List (BitVec 8)} {r:Option Out} (hc:qar (envC C k) H b 46 [B]=r) (hb:bb.length≤211106232000000) (hB:Lent H B bb []) (hk:bb.length / 64+301≤k) :
    r=some ⟨.agg (aB 32 (dig bb)),[],[]⟩:=by
  rw[←hc]; exact qg4 k b H B bb hb hB hk
set_option maxRecDepth 10000 in
theorem rtag_F (K:Nat) (key msg:List (BitVec 8)) (hb:key.length≤211106232000000) (hm:msg.length≤211106231000000) (hK:key.length / 64+msg.length / 64+500≤K) :
    F C (K+2) 26 [.isl (bs key) key.length,.isl (bs msg) msg.length] []=some (.agg (aB 32 (tagv key msg)),[],[]):=by
  rw[qaH f26]
  have hik:=qg6 key
  have hok:=ok_length key
  have hp1:=fun b H=>pad_call K b H (.isl (bs key) key.length) key 54#8 (qbq H key []) hb (by omega)
  have hp2:=fun b H=>pad_call K b H (.isl (bs key) key.length) key 92#8 (qbq H key []) hb (by omega)
  rw[show xl (rdy key) 54#8=ik key from rfl] at hp1
  rw[show xl (rdy key) 92#8=ok key from rfl] at hp2
  have hfr:∀ H:Heap,qbp H 1 msg.length (.isl (bs msg) msg.length)=some (bs msg):=fun H=>qb9 msg msg.length rfl
  simp (disch:=first|omega|decide|simp only[nmsB,lB]) only[simprocAttr,-rR,-rS,leB,memB,arrB,numB,qaf,ordB,L26,hp1,hp2,hfr,qae,qab,qad,qac,qaa,qas]
  generalize hc:appX _ _ _ _ _ _ _ _=r
  obtain ⟨m',c,news,ms,H2,rfl,hH2,h2,hm',hfr2⟩:=app_ex hc (l0:=ik key) (by simp only[simprocAttr,-rR,-rS,memB,qab]) hik rfl (by omega)
  have h22:H2 (2,0)=some (aB 32 fun _=>0#8):=by rw[hfr2 _ (by decide)]; simp only[simprocAttr,-rR,-rS,memB,qab]
  have hB:=qem H2 m' 0 (64+msg.length) c _ [] h2 (by rw[zH]; omega) rfl
  rw[zF,List.take_of_length_le (by rw[zH]; omega)] at hB
  have hs1:=fun bn=>qg4 (K+1) bn H2 _ (ik key++msg) (by rw[zH]; omega) hB (by rw[zH]; omega)
  simp (disch:=first|omega|decide|simp only[nmsB,lB]) only[simprocAttr,-rR,-rS,leB,memB,arrB,numB,qaf,ordB,qai,hH2,hp2,hs1,h22,qae,qab,qad,qac,qaa,qas]
  generalize hH3:upd _ _ (some (aB 32 (dig (ik key++msg))))=H3
  have h38:H3 (8,0)=some (bs (dl (ik key++msg))):=by rw[←hH3,←aB_dl]; simp only[simprocAttr,-rR,-rS,memB,qab]
  have h32:H3 (2,0)=some (aB 32 fun _=>0#8):=by rw[←hH3]; simp only[simprocAttr,-rR,-rS,memB,h22,qab]
  have hdl:=qfe (ik key++msg)
  simp (disch:=first|omega|decide|simp only[nmsB,lB]) only[simprocAttr,-rR,-rS,leB,memB,arrB,numB,qaf,ordB,qak,qan,h38,h32,qae,qab,qad,qac,qaa,qas,qah,qag]
  generalize hc:qar _ _ _ _ _=r
  have e := rsum_use hc (bb := ok key ++ dl (ik key ++ msg)) (by rw [zH]; omega) (by
    have:=qem (only [(13,0)] (upd (upd H3 (11,0) (some (bs (ok key)))) (13,0) (some (bs (ok key++dl (ik key++msg)))))) (13,0) 0 96 none _ [] (by simp only[simprocAttr,-rR,-rS,ordB,memB,qas,qab] <;> rfl) (by rw[zH]; omega) rfl
    rw[zF,List.take_of_length_le (by rw[zH]; omega)] at this
    exact this) (by rw[zH]; omega)
  subst e
  simp (disch:=first|omega|decide|simp only[nmsB,lB]) only[simprocAttr,-rR,-rS,leB,memB,arrB,numB,qaf,ordB,qak,qan,h38,h32,qae,qab,qad,qac,qaa,qas,qah,qag]
  rfl
theorem bytes_call2 (k b g n:Nat) (hg:qaJ g 0=true) (hg1:qaJ g 1=true) (r:Nat→BitVec 8) (H:Heap) (B1 B2:LV) (b1 b2:List (BitVec 8)) (hB1:Lent H B1 b1 []) (hB2:Lent H B2 b2 [])
    (hw:F C k g [.isl (bs b1) b1.length,.isl (bs b2) b2.length] []=some (.agg (aB n r),[],[])):qar (envC C k) H b g [B1,B2]=some ⟨.agg (aB n r),[],[]⟩:=by
  obtain ⟨l1,hs1,hl1⟩:=hB1.snap
  obtain ⟨l2,hs2,hl2⟩:=hB2.snap
  have hlend:lend H ((envC C k).borrow g) 0 [B1,B2]=some ([.isl (bs b1) b1.length,.isl (bs b2) b2.length],l1++l2):=by
    rw[qbo,qbo,qcC,qbF,qc3,if_pos hg,if_pos hg1,hs1,hs2,qbc,qbc,zD]
  rw[qbU,hlend,qbA]
  have hn:([.isl (bs b1) b1.length,.isl (bs b2) b2.length]:List LV).flatMap (nms D)=[]:=by
    simp only[zK,zN,qbg,zD]
  rw[hn,show qa7 H FUEL [] []=[] from rfl,qbV _ _ _ _ _ (by rw[List.any_append,hl1,hl2] <;> rfl)]
  have ha:([.isl (bs b1) b1.length,.isl (bs b2) b2.length]:List LV).map (ren D (qaK []))=[.isl (bs b1) b1.length,.isl (bs b2) b2.length]:=by
    simp only[zB,zA,qbj]
  rw[ha,zQ,zA,qbT,hw,qcs _ _ _ _ (by simp[qa5,noImm_aB]),qaT]
  simp only[qbx,zA,List.zipWith_nil_left]
theorem rtag_call (k b:Nat) (H:Heap) (B1 B2:LV) (key msg:List (BitVec 8)) (hB1:Lent H B1 key []) (hB2:Lent H B2 msg []) (hb:key.length≤211106232000000) (hm:msg.length≤211106231000000)
    (hk:key.length / 64+msg.length / 64+502≤k):qar (envC C k) H b 26 [B1,B2]=some ⟨.agg (aB 32 (tagv key msg)),[],[]⟩:=by
  have:=rtag_F (k - 2) key msg hb hm (by omega)
  rw[show k - 2+2=k by omega] at this
  exact bytes_call2 k b 26 32 rfl rfl _ H B1 B2 key msg hB1 hB2 this
end Sha
namespace Sha
open Go Go.LE Tb
def qJ (a b:List (BitVec 8)) (i:Nat) (st:St):Prop := ∃ (H:Heap) (d:Nat),st=⟨[.isl (bs a) a.length,.isl (bs b) b.length,.undef,.undef,.undef,N d,.undef,.undef,.undef,.undef,.undef,.undef,.undef,.undef,.undef,.undef,N (min a.length b.length),N i,.undef,.undef,.undef,.undef,.undef,.undef,.undef,.undef,.undef,.undef,.undef,.undef,.undef,.undef,.undef,.undef,.undef],H,2,0⟩ ∧
  d < 9223372036854775808∧(d=0↔a.length=b.length∧∀ j,j < i→a.getD j 0#8=b.getD j 0#8)
theorem or_zero (x y:Nat):x ||| y=0↔x=0∧y=0:=by
  constructor
  · intro h
    have h1:x≤x ||| y:=Nat.left_le_or
    have h2:y≤x ||| y:=Nat.right_le_or
    omega
  · rintro ⟨rfl,rfl⟩; rfl
theorem qcx (x y:Nat):x ^^^ y=0↔x=y:=by
  constructor
  · intro h
    have h2:x ^^^ y ^^^ y=0 ^^^ y:=by rw[h]
    rw[Nat.xor_assoc,Nat.xor_self,Nat.xor_zero,Nat.zero_xor] at h2
    exact h2
  · rintro rfl; exact Nat.xor_self x
set_option maxRecDepth 10000 in
theorem q_round (K k0:Nat) (a b:List (BitVec 8)) (i:Nat) (hi:i < min a.length b.length) (hm:min a.length b.length < 9223372036854775807) (st:St) (hI:qJ a b i st) :
    ∃ st1,ev (envC C k0) K L35b0 st=some (.normal,st1)∧qJ a b (i+1) (qa8 L35k0 st1):=by
  obtain ⟨H,d,rfl,hd,hiff⟩:=hI
  have ha:=fun H:Heap=>qdP (H:=H) a i (by omega)
  have hb:=fun H:Heap=>qdP (H:=H) b i (by omega)
  obtain ⟨x,hx⟩:∃ x,x=a.getD i 0#8:=⟨_,rfl⟩
  obtain ⟨y,hy⟩:∃ y,y=b.getD i 0#8:=⟨_,rfl⟩
  rw[←hx] at ha
  rw[←hy] at hb
  have hxy:(x ^^^ y).toNat < 9223372036854775808:=by have:=(x ^^^ y).isLt; omega
  have hor:binV .or .none (N d) (I ((x ^^^ y).toNat:Int))=some (N (d ||| (x ^^^ y).toNat)):=N_or .none d (x ^^^ y).toNat hd hxy
  apply Exists.intro
  apply And.intro
  · simp (disch := first | omega | decide | simp only [nmsB, lB]) only [simprocAttr, -rR, -rS, leB, memB, arrB, numB, qaf, ordB, L35b0, hi, ha, hb, ibp_nms, hor, qae, qab, qad, qac, qaa, qas]
    rfl
  · refine qao [] rfl (by simp only [simprocAttr, -rR, -rS, qak, L35k0, qbg, qah, qac, qaa]) ?_ ⟨_, d ||| (x ^^^ y).toNat, rfl, ?_, ?_⟩
    · simp only[simprocAttr,-rR,-rS,L35k0,leB,memB,qaf,qc7,qcP,qdn,qdj,qew,qae,qab,qad,qac,qaa]
    · exact Nat.or_lt_two_pow (n:=63) hd hxy
    · rw [or_zero, hiff]
      have e1:(x ^^^ y).toNat=0↔x=y:=by
        rw[BitVec.toNat_xor,qcx]
        exact ⟨fun h=>BitVec.eq_of_toNat_eq h,fun h=>by rw[h]⟩
      rw[e1]
      constructor
      · rintro ⟨⟨h1, h2⟩, h3⟩
        refine ⟨h1,fun j hj => ?_⟩
        by_cases hji:j=i
        · subst hji; rw[←hx,←hy]; exact h3
        · exact h2 j (by omega)
      · rintro ⟨h1, h2⟩
        exact ⟨⟨h1,fun j hj=>h2 j (by omega)⟩,by rw[hx,hy]; exact h2 i (by omega)⟩
theorem eq_iff (a b:List (BitVec 8)):(a.length=b.length∧∀ j,j < min a.length b.length→a.getD j 0#8=b.getD j 0#8)↔a=b:=by
  constructor
  · rintro ⟨h1, h2⟩
    apply List.ext_getElem h1
    intro i h3 h4
    have:=h2 i (by omega)
    rw[List.getD_eq_getElem?_getD,List.getD_eq_getElem?_getD,List.getElem?_eq_getElem h3,List.getElem?_eq_getElem h4] at this
    exact this
  · rintro rfl; exact ⟨rfl,fun _ _=>rfl⟩
set_option maxRecDepth 10000 in
theorem equal_F (K:Nat) (a b:List (BitVec 8)) (ha:a.length < 4611686018427387904) (hb:b.length < 4611686018427387904) (hK:min a.length b.length < K) :
    F C (K+1) 35 [.isl (bs a) a.length,.isl (bs b) b.length] []=some (Bo (decide (a=b)),[],[]):=by
  rw[qaH f35]
  have hx:=N_xor .none a.length b.length (by omega) (by omega)
  simp (disch:=first|omega|decide|simp only[nmsB,lB]) only[simprocAttr,-rR,-rS,leB,memB,arrB,numB,qaf,opsB,L35,hx,mnmx_min,qae,qab,qad,qac,qaa]
  generalize hL:qa1 L35k0 _ _ _=r
  refine qaR hL (qJ a b) (min a.length b.length) (by omega) (fun i st hi hI=>q_round _ _ a b i hi (by omega) st hI) ?_ ?_ ?_
  · refine qao [] rfl (by simp only [simprocAttr, -rR, -rS, qak, L35k0, qbg, qah, qac, qaa]) ?_ ⟨_, a.length ^^^ b.length, rfl, ?_, ?_⟩
    · simp only[simprocAttr,-rR,-rS,L35k0,leB,memB,qaf,qc7,qcP,qdn,qdj,qew,qae,qab,qad,qac,qaa]
    · exact Nat.xor_lt_two_pow (n:=63) (by omega) (by omega)
    · rw[qcx]; simp
  · rintro st ⟨H, d, rfl, h1, h2⟩
    apply qaO
    simp (disch:=first|omega|decide|simp only[nmsB,lB]) only[simprocAttr,-rR,-rS,leB,memB,numB,qaf,L35b0,qae,qab,qad,qac,qaa]
    rfl
  · rintro st ⟨H, d, rfl, h1, h2⟩ rfl
    simp (disch:=first|omega|decide|simp only[nmsB,lB]) only[simprocAttr,-rR,-rS,leB,memB,arrB,numB,qaf,L35b0,qae,qab,qad,qac,qaa]
    rw[eq_iff] at h2
    simp only[h2]
theorem qeO (k b:Nat) (H:Heap) (B1 B2:LV) (b1 b2:List (BitVec 8)) (hB1:Lent H B1 b1 []) (hB2:Lent H B2 b2 []) (h1:b1.length < 4611686018427387904) (h2:b2.length < 4611686018427387904) (hk:min b1.length b2.length+1 < k) :
    qar (envC C k) H b 35 [B1,B2]=some ⟨Bo (decide (b1=b2)),[],[]⟩:=by
  have hw:=equal_F (k - 1) b1 b2 h1 h2 (by omega)
  rw[show k - 1+1=k by omega] at hw
  obtain ⟨l1,hs1,hl1⟩:=hB1.snap
  obtain ⟨l2,hs2,hl2⟩:=hB2.snap
  have hlend:lend H ((envC C k).borrow 35) 0 [B1,B2]=some ([.isl (bs b1) b1.length,.isl (bs b2) b2.length],l1++l2):=by
    rw[qbo,qbo,qcC,qbF,qc3,if_pos (show qaJ 35 0=true by decide),if_pos (show qaJ 35 (0+1)=true by decide),hs1,hs2,qbc,qbc,zD]
  rw[qbU,hlend,qbA]
  have hn:([.isl (bs b1) b1.length,.isl (bs b2) b2.length]:List LV).flatMap (nms D)=[]:=by
    simp only[zK,zN,qbg,zD]
  rw[hn,show qa7 H FUEL [] []=[] from rfl,qbV _ _ _ _ _ (by rw[List.any_append,hl1,hl2] <;> rfl)]
  have ha:([.isl (bs b1) b1.length,.isl (bs b2) b2.length]:List LV).map (ren D (qaK []))=[.isl (bs b1) b1.length,.isl (bs b2) b2.length]:=by
    simp only[zB,zA,qbj]
  rw[ha,zQ,zA,qbT,hw,qcs _ _ _ _ rfl,qaT]
  simp only[qeK,zA,List.zipWith_nil_left]
end Sha
namespace Sha
open Go Go.LE Tb
theorem qdY {k b:Nat} {H:Heap} {B M:LV} {key:List (BitVec 8)} {L:List (List (BitVec 8))} {lent:List Nm} {r:Option Out} (hc:qar (envC C k) H b 22 [B,M]=r) (hB:Lent H B key []) (hM:snap H D M=some (.isl (sls L) L.length,lent))
    (hk:key.length≤211106232000000) (hL:L.flatten.length≤211106231000000) (hLl:L.length≤211106232000000) (hK:key.length / 64+L.flatten.length / 64+L.length+1202≤k) :
    r=some ⟨.agg (aB 32 (tagv key L.flatten)),[],[]⟩:=by
  have hw:=tag_F (k - 2) key L hk hL hLl (by omega)
  rw[show k - 2+2=k by omega] at hw
  obtain ⟨l1,hs1,hl1⟩:=hB.snap
  have hlend:lend H ((envC C k).borrow 22) 0 [B,M]=some ([.isl (bs key) key.length,.isl (sls L) L.length],l1++lent):=by
    rw[qbo,qbo,qcC,qbF,qc3,if_pos (show qaJ 22 0=true by decide),if_pos (show qaJ 22 (0+1)=true by decide),hs1,hM,qbc,qbc,zD]
  rw[←hc,qbU,hlend,qbA]
  have hn:([.isl (bs key) key.length,.isl (sls L) L.length]:List LV).flatMap (nms D)=[]:=by
    simp only[zK,zN,qbg,sls_nms,zD]
  rw[hn,show qa7 H FUEL [] []=[] from rfl,qbV _ _ _ _ _ (by simp)]
  have ha:([.isl (bs key) key.length,.isl (sls L) L.length]:List LV).map (ren D (qaK []))=[.isl (bs key) key.length,.isl (sls L) L.length]:=by
    simp only[zB,zA,qbj,sls_ren]
  rw[ha,zQ,zA,qbT,hw,qcs _ _ _ _ (by simp[qa5,noImm_aB]),qaT]
  simp only[qbx,zA,List.zipWith_nil_left]
end Sha
