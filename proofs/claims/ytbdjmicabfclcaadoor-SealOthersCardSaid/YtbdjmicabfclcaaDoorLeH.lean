/- Macs on their way, as they lie in memory: Write, Sum, Fork. -/
import Derived.Test.YtbdjmicabfclcaaDoorLeS
import Derived.Test.YtbdjmicabfclcaaDoorLeE
set_option linter.unusedVariables false
set_option linter.unusedSimpArgs false
open List renaming reduceReplicate → rR
open Nat renaming reduceSubDiff → rS
namespace Sha
open Go Go.LE Tb
theorem idx_get:∀ {l:List Nm} (k:Nat),l.Nodup→∀ {i:Nat} {n:Nm},l[i]? = some n→idx n l k=some (k+i):=by
  intro l
  induction l with
  | nil=>intro k _ i n h; simp at h
  | cons x l ih =>
    intro k hnd i n h
    rw[List.nodup_cons] at hnd
    cases i with
    | zero=>simp at h; subst h; simp[idx]
    | succ i =>
      rw[List.getElem?_cons_succ] at h
      have hne:x≠n:=by intro e; subst e; exact hnd.1 (List.mem_of_getElem? h)
      rw[idx,if_neg hne,ih (k+1) hnd.2 h]
      congr 1; omega
abbrev mC:qaj:=[.ptr (0,1) 0,.ptr (0,3) 0]
abbrev hC (a:List (BitVec 8)) (r:Nm) (c:Option Nat):qaj:=HsC (stN a) (.sl r 0 (rsN a).length c 1) a.length
def mO (a:List (BitVec 8)) (c:Option Nat) (l o:List (BitVec 8)) (c2:Option Nat) (l2:List (BitVec 8)):List qaj :=
  [mC,hC a (0,2) c,bs l,hC o (0,4) c2,bs l2]
abbrev RFN (a:List (BitVec 8)) (c:Option Nat) (l:List (BitVec 8)):Prop:=RF (rsN a).length c l (rsN a)
theorem HG_h {a:List (BitVec 8)} {c:Option Nat} {l o:List (BitVec 8)} {c2:Option Nat} {l2:List (BitVec 8)} (h:RFN a c l):HG (qaZ (mO a c l o c2 l2)) (0,1) (0,2) a :=
  ⟨by decide,c,l,h,rfl,rfl⟩
theorem HG_o {a:List (BitVec 8)} {c:Option Nat} {l o:List (BitVec 8)} {c2:Option Nat} {l2:List (BitVec 8)} (h:RFN o c2 l2):HG (qaZ (mO a c l o c2 l2)) (0,3) (0,4) o :=
  ⟨by decide,c2,l2,h,rfl,rfl⟩
set_option maxRecDepth 10000 in
theorem mwrite_F (K:Nat) (a:List (BitVec 8)) (c:Option Nat) (l o:List (BitVec 8)) (c2:Option Nat) (l2:List (BitVec 8)) (h:RFN a c l) (h2:RFN o c2 l2) (bb:List (BitVec 8))
    (hlen:a.length+bb.length≤211106232000000) (hK:(a.length+bb.length) / 64+200≤K) :
    ∃ (x : Nm) (cx : Option Nat) (z : Option (List (BitVec 8))) (news : List qaj), F C (K + 1) 43 [.ptr (0, 0) 0, .isl (bs bb) bb.length] (mO a c l o c2 l2) =
      some (.tup [],[some mC,some (hC (a++bb) x cx),z.map bs,some (hC o (0,4) c2),some (bs l2)],news) ∧
      ((x=(1,0)∧∃ l',news=[bs l']∧RFN (a++bb) cx l')∨(x=(0,2)∧news=[]∧∃ l',z=some l'∧RFN (a++bb) cx l')):=by
  obtain ⟨O,hO⟩:∃ O,O=mO a c l o c2 l2:=⟨_,rfl⟩
  have hg:=HG_h (o:=o) (c2:=c2) (l2:=l2) h
  rw[←hO] at hg ⊢
  have g0:qaZ O (0,0)=some mC:=by rw[hO]; rfl
  have g3:qaZ O (0,3)=some (hC o (0,4) c2):=by rw[hO]; rfl
  have g4:qaZ O (0,4)=some (bs l2):=by rw[hO]; rfl
  have hOl:O.length=5:=by rw[hO]; rfl
  rw[qaI f43]
  simp (disch:=first|omega|decide|simp only[nmsB,lB]) only[simprocAttr,-rR,-rS,leB,memB,arrB,numB,qaf,L43,g0,hOl,qae,qac,qad]
  generalize hc:qav _ _ _ _ _=r
  obtain ⟨rN,news,ms,H2,rfl,hH2,hg2,hr,⟨z,hz⟩,hfr⟩:=write_Z hc hg (qbn _ bb _) hlen hK (by decide) (by decide)
  have k0:H2 (0,0)=some mC:=by rw[hfr _ (by decide) (by decide) (by decide),g0]
  have k3:H2 (0,3)=some (hC o (0,4) c2):=by rw[hfr _ (by decide) (by decide) (by decide),g3]
  have k4:H2 (0,4)=some (bs l2):=by rw[hfr _ (by decide) (by decide) (by decide),g4]
  obtain ⟨hne,cx,l',hrf,e1,e2⟩:=hg2
  simp (disch:=first|omega|decide|simp only[nmsB,lB]) only[simprocAttr,-rR,-rS,leB,memB,arrB,numB,qaf,qai,hH2,qae,qac,qad,qab,qaa]
  rcases hr with rfl | ⟨rfl,hb0⟩
  · refine ⟨(1, 0), cx, z, [bs l'], ?_, .inl ⟨rfl, l', rfl, hrf⟩⟩
    cases z with
    | none =>
      rw[qaW 5 _ _ [(9,0)] (by simp only[simprocAttr,-rR,-rS,qal,qa2,qan,qb5,qaM,k0,e1,hz,e2,k3,k4,Option.map_none,show List.range 5=[0,1,2,3,4] from rfl,qag,qab,qaa])]
      simp (disch:=first|omega|decide|simp only[nmsB,lB]) only[simprocAttr,-rR,-rS,leB,memB,qaf,qaK,k0,e1,hz,e2,k3,k4,show List.range 5=[0,1,2,3,4] from rfl,qae,qac,qad,qab,qaa]
    | some z =>
      rw[qaW 5 _ _ [(9,0)] (by simp only[simprocAttr,-rR,-rS,qal,qa2,qan,qb5,qaM,k0,e1,hz,e2,k3,k4,zC,show List.range 5=[0,1,2,3,4] from rfl,qag,qab,qaa])]
      simp (disch:=first|omega|decide|simp only[nmsB,lB]) only[simprocAttr,-rR,-rS,leB,memB,qaf,qaK,k0,e1,hz,e2,k3,k4,show List.range 5=[0,1,2,3,4] from rfl,qae,qac,qad,qab,qaa]
  · refine ⟨(0, 2), cx, some l', [], ?_, .inr ⟨rfl, rfl, l', rfl, hrf⟩⟩
    rw[qaW 5 _ _ [] (by simp only[simprocAttr,-rR,-rS,qal,qa2,qan,qb5,qaM,k0,e1,e2,k3,k4,show List.range 5=[0,1,2,3,4] from rfl,qag,qab,qaa])]
    simp (disch:=first|omega|decide|simp only[nmsB,lB]) only[simprocAttr,-rR,-rS,leB,memB,qaf,qaK,k0,e1,e2,k3,k4,show List.range 5=[0,1,2,3,4] from rfl,qae,qac,qad,qab,qaa]
def dl (b:List (BitVec 8)):List (BitVec 8):=(List.range 32).map (dig b)
theorem qg0 (b:List (BitVec 8)):(dl b).length=32:=by simp[dl]
theorem aB_dl (b:List (BitVec 8)):aB 32 (dig b)=bs (dl b):=qdy 32 _
def mOs (a:List (BitVec 8)) (c:Option Nat) (l o:List (BitVec 8)) (c2:Option Nat) (l2:List (BitVec 8)):List (Option qaj) :=
  [some mC,some (hC a (0,2) c),some (bs l),some (hC o (0,4) c2),some (bs l2)]
theorem upd_self2 {H H3:Heap} {n:Nm} {x:Option qaj} (h:LE.upd H n x=H3):H3 n=x:=by rw[←h,qbz,if_pos rfl]
set_option maxRecDepth 10000 in
theorem msum_F (K:Nat) (a:List (BitVec 8)) (c:Option Nat) (l o:List (BitVec 8)) (c2:Option Nat) (l2:List (BitVec 8)) (h:RFN a c l) (h2:RFN o c2 l2)
    (hlen:a.length≤211106232000000) (hlen2:o.length≤1000) (hK:1000≤K) :
    F C (K+1) 44 [.ptr (0,0) 0] (mO a c l o c2 l2)=some (.agg (aB 32 (dig (o++dl a))),mOs a c l o c2 l2,[]):=by
  obtain ⟨O,hO⟩:∃ O,O=mO a c l o c2 l2:=⟨_,rfl⟩
  have hg:=HG_h (o:=o) (c2:=c2) (l2:=l2) h
  have hgo:=HG_o (a:=a) (c:=c) (l:=l) h2
  rw[←hO] at hg hgo ⊢
  have g0:qaZ O (0,0)=some mC:=by rw[hO]; rfl
  have g1:qaZ O (0,1)=some (hC a (0,2) c):=by rw[hO]; rfl
  have g2:qaZ O (0,2)=some (bs l):=by rw[hO]; rfl
  have g3:qaZ O (0,3)=some (hC o (0,4) c2):=by rw[hO]; rfl
  have g4:qaZ O (0,4)=some (bs l2):=by rw[hO]; rfl
  have hOl:O.length=5:=by rw[hO]; rfl
  have hdl:=qg0 a
  rw[qaI f44]
  simp (disch:=first|omega|decide|simp only[nmsB,lB]) only[simprocAttr,-rR,-rS,leB,memB,arrB,numB,qaf,L44,g0,hOl,qae,qac,qad]
  generalize hc:qav _ _ _ _ _=r
  obtain ⟨x,y,rfl,hx,hy⟩:=sum_G hc (hg.upd (by decide) (by decide)) hlen (by omega)
  simp (disch:=first|omega|decide|simp only[nmsB,lB]) only[simprocAttr,-rR,-rS,leB,memB,arrB,numB,qaf,qai,qdt hx,qdt hy,g0,qae,qac,qad]
  generalize hc3:qav _ _ _ _ _=r3
  generalize hH3:upd _ _ (some (aB 32 (dig a)))=H3 at hc3 ⊢
  have hgo3:HG H3 (0,3) (0,4) o:=by rw[←hH3]; exact ((hgo.upd (by decide) (by decide)).upd (by decide) (by decide)).upd (by decide) (by decide)
  have hx3:=upd_self2 hH3
  have k0:H3 (0,0)=some mC:=by rw[←hH3]; simp only[simprocAttr,-rR,-rS,memB,g0,qac]
  have k1:H3 (0,1)=some (hC a (0,2) c):=by rw[←hH3]; simp only[simprocAttr,-rR,-rS,memB,g1,qac]
  have k2:H3 (0,2)=some (bs l):=by rw[←hH3]; simp only[simprocAttr,-rR,-rS,memB,g2,qac]
  have k3:H3 (0,3)=some (hC o (0,4) c2):=by rw[←hH3]; simp only[simprocAttr,-rR,-rS,memB,g3,qac]
  have k4:H3 (0,4)=some (bs l2):=by rw[←hH3]; simp only[simprocAttr,-rR,-rS,memB,g4,qac]
  have hz2:H3 (2,0)=some (aB 32 fun _=>0#8):=by rw[←hH3]; simp only[simprocAttr,-rR,-rS,memB,qac]
  obtain ⟨c1,c2',x4,y4,H4,rfl,hx4,hy4,hH4,hgf,_,hfr4⟩:=fork_G hc3 hgo3 (by omega) (by omega) (by decide) (by decide)
  simp (disch:=first|omega|decide|simp only[nmsB,lB]) only[simprocAttr,-rR,-rS,leB,memB,arrB,numB,qaf,qai,qdt hx4,qdt hy4,hH4,qae,qac,qad,qab,qaa]
  generalize hc5:qav _ _ _ _ _=r5
  rw[aB_dl] at hx3
  have hx4':=hx3
  rw[←hfr4 _ (by decide)] at hx4'
  have hB:=qeR H4 _ 0 32 (some 32) _ [(23,0),(23,1)] hx4' (by omega) (by decide)
  rw[zH,List.take_of_length_le (by omega)] at hB
  obtain ⟨rN,news,ms,H5,rfl,hH5,hg5,hr,hfr5⟩:=write_G (bb:=dl a) hc5 hgf hB (by omega) (by omega) (by decide) (by decide)
  simp (disch:=first|omega|decide|simp only[nmsB,lB]) only[simprocAttr,-rR,-rS,leB,memB,arrB,numB,qaf,qai,hH5,qae,qac,qad,qab,qaa]
  generalize hc6:qav _ _ _ _ _=r6
  obtain ⟨x6,y6,rfl,hx6,hy6⟩:=sum_G hc6 hg5 (by rw[zK]; omega) (by omega)
  have f5:∀ m:Nm,m.1≠23→m.1≠27→H5 m=H3 m:=fun m h1 h2=>by
    rw[hfr5 m (fun e=>h1 (by rw[e])) (fun e=>h1 (by rw[e])) h2,hfr4 m h1]
  have m20:=(f5 (2,0) (by decide) (by decide)).trans hz2
  have m0:=(f5 (0,0) (by decide) (by decide)).trans k0
  have m1:=(f5 (0,1) (by decide) (by decide)).trans k1
  have m2:=(f5 (0,2) (by decide) (by decide)).trans k2
  have m3:=(f5 (0,3) (by decide) (by decide)).trans k3
  have m4:=(f5 (0,4) (by decide) (by decide)).trans k4
  simp (disch:=first|omega|decide|simp only[nmsB,lB]) only[simprocAttr,-rR,-rS,leB,memB,arrB,numB,qaf,qai,qdt hx6,qdt hy6,m20,qae,qac,qad,qab,qaa]
  rw[qaW 5 _ _ [] (by simp only[simprocAttr,-rR,-rS,qal,qa2,qan,qbq,qaM,m0,m1,m2,m3,m4,show List.range 5=[0,1,2,3,4] from rfl,qag,qab,qaa])]
  simp (disch:=first|omega|decide|simp only[nmsB,lB]) only[simprocAttr,-rR,-rS,leB,memB,arrB,qaf,qaK,m0,m1,m2,m3,m4,mOs,show List.range 5=[0,1,2,3,4] from rfl,qae,qac,qad,qab,qaa]
def mN (a:List (BitVec 8)) (c:Option Nat) (l o:List (BitVec 8)) (c2:Option Nat) (l2:List (BitVec 8)):List qaj :=
  [[.ptr (1,1) 0,.ptr (1,3) 0],hC a (1,2) c,bs l,hC o (1,4) c2,bs l2]
end Sha
namespace Sha
open Go Go.LE Tb
structure MG (H:Heap) (mN hN rN oN qN:Nm) (a o:List (BitVec 8)):Prop where
  nd:[mN,hN,rN,oN,qN].Nodup
  m:H mN=some [.ptr hN 0,.ptr oN 0]
  h:∃ c l,RFN a c l∧H hN=some (hC a rN c)∧H rN=some (bs l)
  o:∃ c l,RFN o c l∧H oN=some (hC o qN c)∧H qN=some (bs l)
theorem MG.congr {H H':Heap} {mN hN rN oN qN:Nm} {a o:List (BitVec 8)} (M:MG H mN hN rN oN qN a o) (e:∀ n ∈ [mN,hN,rN,oN,qN],H' n=H n):MG H' mN hN rN oN qN a o:=by
  obtain ⟨nd,m,⟨c,l,h1,h2,h3⟩,⟨c2,l2,o1,o2,o3⟩⟩:=M
  exact ⟨nd,(e _ (by simp)).trans m,⟨c,l,h1,(e _ (by simp)).trans h2,(e _ (by simp)).trans h3⟩,⟨c2,l2,o1,(e _ (by simp)).trans o2,(e _ (by simp)).trans o3⟩⟩
theorem toC (names:List Nm) (hnd:names.Nodup) (i:Nat) (n:Nm) (h:names[i]? = some n):qaH names n=some (0,i):=by
  rw[qaH,idx_get 0 hnd h]; simp
theorem mac_pre {H:Heap} {mN hN rN oN qN:Nm} {a o:List (BitVec 8)} (M:MG H mN hN rN oN qN a o) :
    ∃ c l c2 l2, RFN a c l ∧ RFN o c2 l2 ∧ qa4 H FUEL [] [mN] = [mN, hN, rN, oN, qN] ∧ ([mN, hN, rN, oN, qN].filterMap H).map (fun cs => cs.map (ren D (qaH [mN, hN, rN, oN, qN]))) = mO a c l o c2 l2 ∧
      H mN=some [.ptr hN 0,.ptr oN 0]∧H hN=some (hC a rN c)∧H rN=some (bs l)∧H oN=some (hC o qN c2)∧H qN=some (bs l2):=by
  obtain ⟨nd,m,⟨c,l,h1,h2,h3⟩,⟨c2,l2,o1,o2,o3⟩⟩:=M
  have hnd:=nd
  simp only[List.nodup_cons,List.mem_cons,List.not_mem_nil,or_false,not_or,List.nodup_nil,and_true,not_false_eq_true] at nd
  obtain ⟨⟨a1,a2,a3,a4⟩,⟨b1,b2,b3⟩,⟨d1,d2⟩,e1⟩:=nd
  refine ⟨c,l,c2,l2,h1,o1,?_,?_,m,h2,h3,o2,o3⟩
  · have q1 : (mN == hN) = false := by simpa using a1
    have q2:∀ {x y:Nm},¬ x=y→(y == x)=false:=fun h=>by simpa using fun e=>h e.symm
    simp only[FUEL,qag,za,zP,zL,m,qbZ,zI,zN,qcd,zF,zR,zD,List.contains_cons,q2 a1,q2 a2,q2 a3,q2 a4,q2 b1,q2 b2,q2 b3,q2 d1,q2 d2,q2 e1,Bool.or_false,h2,h3,o2,o3,qa2,qa3,qan,qba]
  · have t0 := toC _ hnd 0 mN rfl
    have t1:=toC _ hnd 1 hN rfl
    have t2:=toC _ hnd 2 rN rfl
    have t3:=toC _ hnd 3 oN rfl
    have t4:=toC _ hnd 4 qN rfl
    simp only[List.filterMap_cons,m,h2,h3,o2,o3,zS,zB,zA,qbj,qbt,qaK,qa5,qbh,qax,t1,t2,t3,t4,mO]
theorem mac_write {K b:Nat} {H:Heap} {mN hN rN oN qN:Nm} {a o bb:List (BitVec 8)} {B:LV} {r:Option Out} (hc:qav (envC C (K+1)) H b 43 [.ptr mN 0,B]=r) (M:MG H mN hN rN oN qN a o)
    (hB:Lent H B bb [mN,hN,rN,oN,qN]) (hlen:a.length+bb.length≤211106232000000) (hK:(a.length+bb.length) / 64+200≤K) (hb:∀ n ∈ [mN,hN,rN,oN,qN],n.1≠b) :
    ∃ rN' news ms H2,r=some ⟨.tup [],news,ms⟩∧updN b 0 news (modN ms H)=H2∧MG H2 mN hN rN' oN qN (a++bb) o∧(rN'=(b,0)∨rN'=rN)∧(∃ z:Option (List (BitVec 8)),H2 rN=z.map bs)∧∀ m,m ∉ [mN,hN,rN,oN,qN]→m.1≠b→H2 m=H m:=by
  subst hc
  obtain ⟨c,l,c2,l2,h1,o1,hre,hob,g0,g1,g2,g3,g4⟩:=mac_pre M
  obtain ⟨x,cx,z,news,hF,hcase⟩:=mwrite_F K a c l o c2 l2 h1 o1 bb hlen hK
  obtain ⟨lent,hs,hl⟩:=hB.snap
  have hnd:=M.nd
  have t0:=toC _ hnd 0 mN rfl
  have hlend:lend H ((envC C (K+1)).borrow 43) 0 [.ptr mN 0,B]=some ([.ptr mN 0,.isl (bs bb) bb.length],lent):=by
    rw[qbe,qbe,qcu,qbB,qcQ]
    rw[if_neg (show ¬ qaF 43 0=true by decide),if_pos (show qaF 43 (0+1)=true by decide),hs,qa6,qa6]
    simp
  have hn:([.ptr mN 0,.isl (bs bb) bb.length]:List LV).flatMap (nms D)=[mN]:=by
    simp only[zI,zN,qcd,qbl,zD]
  have ha:([.ptr mN 0,.isl (bs bb) bb.length]:List LV).map (ren D (qaH [mN,hN,rN,oN,qN]))=[.ptr (0,0) 0,.isl (bs bb) bb.length]:=by
    simp only[zB,zA,qbj,t0,qbt,qa8]
  have hz:∀ π,(z.map bs).map (fun cs=>List.map (ren D π) cs)=z.map bs:=by intro π; cases z <;> simp[qax]
  have hp:qa1 (.tup [],[some mC,some (hC (a++bb) x cx),z.map bs,some (hC o (0,4) c2),some (bs l2)],news)=true:=by
    rcases hcase with ⟨_,l',rfl,_⟩ | ⟨_,rfl,_⟩ <;> cases z <;> simp[qa1,qfd,qcy] <;> exact ⟨rfl,rfl,rfl⟩
  have hcall:qav (envC C (K+1)) H b 43 [.ptr mN 0,B]=some (qcl [mN,hN,rN,oN,qN] b (.tup [],[some mC,some (hC (a++bb) x cx),z.map bs,some (hC o (0,4) c2),some (bs l2)],news)):=by
    rw[qbM,hlend,qbx,hn,hre,qbN _ _ _ _ _ hl,ha,hob,qbL,hF,qcg _ _ _ _ hp]
  simp only[List.nodup_cons,List.mem_cons,List.not_mem_nil,or_false,not_or,List.nodup_nil,and_true,not_false_eq_true] at hnd
  obtain ⟨⟨a1,a2,a3,a4⟩,⟨b1,b2,b3⟩,⟨d1,d2⟩,e1⟩:=hnd
  rw[qaP,qeP] at hcall
  have hb0:∀ n ∈ [mN,hN,rN,oN,qN],n≠(b,0):=fun n hn e=>hb n hn (by rw[e])
  have f0:=hb0 mN (by simp)
  have f1:=hb0 hN (by simp)
  have f2:=hb0 rN (by simp)
  have f3:=hb0 oN (by simp)
  have f4:=hb0 qN (by simp)
  rcases hcase with ⟨rfl,l',rfl,hrf⟩ | ⟨rfl,rfl,l',rfl,hrf⟩
  · refine ⟨(b, 0), _, _, _, hcall, rfl, ⟨?_, ?_, ⟨cx, l', hrf, ?_, ?_⟩, ⟨c2, l2, o1, ?_, ?_⟩⟩, .inl rfl, ⟨z, ?_⟩, ?_⟩
    · simp only [List.nodup_cons, List.mem_cons, List.not_mem_nil, or_false, not_or, List.nodup_nil, and_true, not_false_eq_true]
      exact ⟨⟨a1,f0,a3,a4⟩,⟨f1,b2,b3⟩,⟨fun e=>f3 e.symm,fun e=>f4 e.symm⟩,e1⟩
    all_goals simp only[List.zipWith_cons_cons,List.zipWith_nil_left,zC,zB,zA,qbj,qaK,qa5,qax,hz,qcH,qbo,zG,zM,zO,Nat.lt_one_iff,List.getElem?_cons_succ,List.getElem?_cons_zero,qbh,qbt,qca,qcf,qc7,qdb,qbz]
    · rw[if_neg f0,if_pos trivial]
    · rw[if_neg f1,if_neg (fun e=>a1 e.symm),if_pos trivial]
    · rw[if_pos trivial]
    · rw[if_neg f3,if_neg (fun e=>a3 e.symm),if_neg (fun e=>b2 e.symm),if_neg (fun e=>d1 e.symm),if_pos trivial]
    · rw[if_neg f4,if_neg (fun e=>a4 e.symm),if_neg (fun e=>b3 e.symm),if_neg (fun e=>d2 e.symm),if_neg (fun e=>e1 e.symm),if_pos trivial]
    · rw[if_neg f2,if_neg (fun e=>a2 e.symm),if_neg (fun e=>b1 e.symm),if_pos trivial]
    · intro m hm hmb
      simp only[List.mem_cons,List.not_mem_nil,or_false,not_or] at hm
      rw[if_neg (fun e=>hmb (by rw[e])),if_neg hm.1,if_neg hm.2.1,if_neg hm.2.2.1,if_neg hm.2.2.2.1,if_neg hm.2.2.2.2]
  · refine ⟨rN, _, _, _, hcall, rfl, ⟨?_, ?_, ⟨cx, l', hrf, ?_, ?_⟩, ⟨c2, l2, o1, ?_, ?_⟩⟩, .inr rfl, ⟨some l', ?_⟩, ?_⟩
    · exact M.nd
    all_goals simp only[List.zipWith_cons_cons,List.zipWith_nil_left,zC,zB,zA,qbj,qaK,qa5,qax,hz,qcH,qbo,zG,zM,zO,Nat.lt_one_iff,List.getElem?_cons_succ,List.getElem?_cons_zero,qbh,qbt,qca,qcf,qc7,qdb,qbz]
    · rw[if_pos trivial]
    · rw[if_neg (fun e=>a1 e.symm),if_pos trivial]
    · rw[if_neg (fun e=>a2 e.symm),if_neg (fun e=>b1 e.symm),if_pos trivial]
    · rw[if_neg (fun e=>a3 e.symm),if_neg (fun e=>b2 e.symm),if_neg (fun e=>d1 e.symm),if_pos trivial]
    · rw[if_neg (fun e=>a4 e.symm),if_neg (fun e=>b3 e.symm),if_neg (fun e=>d2 e.symm),if_neg (fun e=>e1 e.symm),if_pos trivial]
    · rw[if_neg (fun e=>a2 e.symm),if_neg (fun e=>b1 e.symm),if_pos trivial]
    · intro m hm hmb
      simp only[List.mem_cons,List.not_mem_nil,or_false,not_or] at hm
      rw[if_neg hm.1,if_neg hm.2.1,if_neg hm.2.2.1,if_neg hm.2.2.2.1,if_neg hm.2.2.2.2]
theorem lend_m (K:Nat) (g:Nat) (hg:qaF g=fun _=>false) (H:Heap) (mN:Nm):lend H ((envC C K).borrow g) 0 [.ptr mN 0]=some ([.ptr mN 0],[]):=by
  rw[qbB,qcQ,hg,qdn]
theorem mod5 {H:Heap} {mN hN rN oN qN:Nm} {x0 x1 x2 x3 x4:Option qaj} (g0:H mN=x0) (g1:H hN=x1) (g2:H rN=x2) (g3:H oN=x3) (g4:H qN=x4) :
    modN [(mN,x0),(hN,x1),(rN,x2),(oN,x3),(qN,x4)] H=H:=by
  simp only[qca,qcf]
  rw[qdt g4,qdt g3,qdt g2,qdt g1,qdt g0]
theorem mac_sum {K b:Nat} {H:Heap} {mN hN rN oN qN:Nm} {a o:List (BitVec 8)} {r:Option Out} (hc:qav (envC C (K+1)) H b 44 [.ptr mN 0]=r) (M:MG H mN hN rN oN qN a o)
    (hlen:a.length≤211106232000000) (hlen2:o.length≤1000) (hK:1000≤K) :
    ∃ ms,r=some ⟨.agg (aB 32 (dig (o++dl a))),[],ms⟩∧modN ms H=H:=by
  subst hc
  obtain ⟨c,l,c2,l2,h1,o1,hre,hob,g0,g1,g2,g3,g4⟩:=mac_pre M
  have hF:=msum_F K a c l o c2 l2 h1 o1 hlen hlen2 hK
  have t0:=toC _ M.nd 0 mN rfl
  have hn:([.ptr mN 0]:List LV).flatMap (nms D)=[mN]:=rfl
  have ha:([.ptr mN 0]:List LV).map (ren D (qaH [mN,hN,rN,oN,qN]))=[.ptr (0,0) 0]:=by
    simp only[zB,zA,qbj,t0,qbt]
  refine ⟨_,?_,mod5 g0 g1 g2 g3 g4⟩
  rw[qbM,lend_m (K+1) 44 rfl,qbx,hn,hre,qbN _ _ _ _ _ rfl,ha,hob,qbL,hF,show ([]:List Nm).isEmpty=true from rfl,qeu,qaP,mOs]
  simp only[List.zipWith_cons_cons,List.zipWith_nil_left,zC,zB,zA,qbj,qaK,qa5,qax,qcH,List.getElem?_cons_succ,List.getElem?_cons_zero,qbh,qbt,qbv]
end Sha
namespace Sha
open Go Go.LE Tb
def al (L:List (List (BitVec 8))) (i:Nat):List (BitVec 8):=(L.take i).flatten
theorem al_succ (L:List (List (BitVec 8))) (i:Nat) (h:i < L.length):al L (i+1)=al L i++L.getD i []:=by
  rw[al,al,List.take_succ_eq_append_getElem h,List.flatten_append]
  simp[h]
theorem al_le (L:List (List (BitVec 8))) (i:Nat):(al L i).length≤L.flatten.length:=by
  have:L.flatten=al L i++(L.drop i).flatten:=by rw[al,←List.flatten_append,List.take_append_drop]
  rw[this,zK]; omega
theorem al_full (L:List (List (BitVec 8))):al L L.length=L.flatten:=by rw[al,List.take_length]
end Sha
namespace Sha
open Go Go.LE Tb
def xr (g:Nat→BitVec 8) (x:BitVec 8) (i j:Nat):BitVec 8:=if j < i then g j ^^^ x else g j
theorem xr_succ (g:Nat→BitVec 8) (x:BitVec 8) (i:Nat):set1 (xr g x i) i (g i ^^^ x)=xr g x (i+1):=by
  funext j
  simp only[set1,xr]
  by_cases h:j=i
  · subst h; simp
  · rw [if_neg h]
    have:(j < i+1)↔(j < i):=by omega
    simp only[this]
theorem xr_at (g:Nat→BitVec 8) (x:BitVec 8) (i:Nat):xr g x i i=g i:=by simp[xr]
def xl (g:Nat→BitVec 8) (x:BitVec 8):List (BitVec 8):=(List.range 64).map fun j=>g j ^^^ x
theorem qg1 (g:Nat→BitVec 8) (x:BitVec 8):(xl g x).length=64:=by simp[xl]
theorem aB_xr (g:Nat→BitVec 8) (x:BitVec 8):aB 64 (xr g x 64)=bs (xl g x):=by
  rw[xl,←qdy]; exact qct 64 fun i h=>by simp[xr,h]
def begJ (g:Nat→BitVec 8) (x:BitVec 8) (i:Nat) (st:St):Prop := ∃ (H:Heap),st=⟨[.undef,B8 x,.ptr (1,0) 0,.undef,.undef,.undef,.undef,N i,.undef,.undef,.undef,.undef,.undef,.undef,.undef,.undef,.undef,.undef,.undef,.undef,.undef,.undef],H,2,0⟩∧H (1,0)=some (aB 64 (xr g x i))
set_option maxRecDepth 10000 in
theorem beg_round (K k0:Nat) (g:Nat→BitVec 8) (x:BitVec 8) (i:Nat) (hi:i < 64) (st:St) (hI:begJ g x i st) :
    ∃ st1,ev (envC C k0) K L56b0 st=some (.normal,st1)∧begJ g x (i+1) (qbg L56k0 st1):=by
  obtain ⟨H,rfl,h1⟩:=hI
  apply Exists.intro
  apply And.intro
  · simp (disch := first | omega | decide | simp only [nmsB, lB]) only [simprocAttr, -rR, -rS, leB, memB, arrB, numB, qaf, L56b0, hi, h1, xr_at, qae, qac, qad, qab, qaa]
    rfl
  · refine qaz [(1, 0)] rfl (by simp only [simprocAttr, -rR, -rS, qal, L56k0, h1, qaO, qag, qab, qaa]) rfl ⟨_, rfl, ?_⟩
    rw[←xr_succ]
    exact qak (1,0) rfl (by simp only[simprocAttr,-rR,-rS,memB,qac]) (qaG _ _ _)
set_option maxRecDepth 10000 in
theorem begin_F (K:Nat) (hK:1000≤K) (g:Nat→BitVec 8) (x:BitVec 8):∃ c l',RFN (xl g x) c l'∧F C (K+1) 56 [.agg (aB 64 g),B8 x] []=some (.ptr (1,0) 0,[],[hC (xl g x) (1,1) c,bs l']):=by
  have hnew:=fun b H=>new_call (K - 2) b H
  rw[show K - 2+2=K by omega] at hnew
  have hxl:=qg1 g x
  rw[qaI f56]
  simp (disch:=first|omega|decide|simp only[nmsB,lB]) only[simprocAttr,-rR,-rS,leB,memB,arrB,numB,qaf,L56,qae,qac,qad,qab,qaa]
  generalize hL:qbd L56k0 _ _ _=r
  refine qaY hL (begJ g x) 64 (by omega) (fun i st hi hI=>beg_round _ _ g x i hi st hI) ?_ ?_ ?_
  · refine qaz [(2, 0)] rfl (by simp only [simprocAttr, -rR, -rS, qal, L56k0, qaO, qag, qab, qaa]) rfl ⟨_, rfl, ?_⟩
    rw[show xr g x 0=g by funext j; simp[xr]]
    exact qak (2,0) rfl (by simp only[simprocAttr,-rR,-rS,memB,qac]) (qaG _ _ _)
  · rintro st ⟨H, rfl, h1⟩
    apply qaR
    simp (disch:=first|omega|decide|simp only[nmsB,lB]) only[simprocAttr,-rR,-rS,leB,memB,numB,qaf,L56b0,qae,qac,qad,qab,qaa]
    rfl
  · clear hL
    rintro st ⟨H,rfl,h1⟩ rfl
    rw[aB_xr] at h1
    simp (disch:=first|omega|decide|simp only[nmsB,lB]) only[simprocAttr,-rR,-rS,leB,memB,arrB,numB,qaf,L56b0,hnew,qae,qac,qad,qab,qaa]
    generalize hc:qav _ _ _ _ _=r
    generalize hH2:upd _ _ _=H2 at hc ⊢
    have h12:H2 (1,0)=some (bs (xl g x)):=by rw[←hH2]; simp only[simprocAttr,-rR,-rS,memB,h1,qac]
    have hB:=qeR H2 (1,0) 0 64 (some 64) _ [(3,0)] h12 (by omega) (by decide)
    rw[zH,List.take_of_length_le (by omega)] at hB
    have h0:H0 H2 (3,0):=by rw[H0,←hH2]; simp only[simprocAttr,-rR,-rS,memB,qac]
    obtain ⟨news,ms,H3,rfl,hH3,⟨hne,c,l',hrf,e1,e2⟩,hfr⟩:=write_1 (bb:=xl g x) hc h0 hB (by intro e; rw[e] at hxl; simp at hxl) (by omega) (by omega) (by decide)
    refine ⟨c,l',hrf,?_⟩
    simp (disch:=first|omega|decide|simp only[nmsB,lB]) only[simprocAttr,-rR,-rS,leB,memB,arrB,numB,qaf,qai,hH3,qae,qac,qad,qab,qaa]
    rw[qaW 0 _ _ [_,_] (by simp only[simprocAttr,-rR,-rS,qal,qa2,qan,e1,e2,qag,qab,qaa] <;> rfl)]
    simp (disch:=first|omega|decide|simp only[nmsB,lB]) only[simprocAttr,-rR,-rS,leB,memB,qaf,qaK,e1,e2,qae,qac,qad,qab,qaa]
theorem qhI (K:Nat) (hK:1000≤K) (g:Nat→BitVec 8) (x:BitVec 8):∃ c l',RFN (xl g x) c l'∧∀ (b:Nat) (H:Heap),qav (envC C (K+1)) H b 56 [.agg (aB 64 g),B8 x]=some ⟨.ptr (b,0) 0,[hC (xl g x) (b,1) c,bs l'],[]⟩:=by
  obtain ⟨c,l',h,hF⟩:=begin_F K hK g x
  refine ⟨c,l',h,fun b H => ?_⟩
  rw[qae l56 (by simp only[zI,zN,qbq,nms_B8,zD]) (by simp only[zB,zA,qbv,ren_B8]),hF]
  simp only[calK,qaP,zG,zM,zB,zA,List.zipWith_nil_left,zO,Nat.reduceAdd,qbj,qbo,Nat.reduceLT,qbt,qaK,qa5,qbh,qax]
def rk (key:List (BitVec 8)):List (BitVec 8):=if 64 < key.length then dl key else key
def rdy (key:List (BitVec 8)):Nat→BitVec 8:=fun i=>(rk key).getD i 0#8
theorem rk_length (key:List (BitVec 8)):(rk key).length≤64:=by
  unfold rk; split
  · rw[qg0]; omega
  · omega
def ik (key:List (BitVec 8)):List (BitVec 8):=xl (rdy key) 54#8
def ok (key:List (BitVec 8)):List (BitVec 8):=xl (rdy key) 92#8
theorem ik_length (key:List (BitVec 8)):(ik key).length=64:=qg1 _ _
theorem ok_length (key:List (BitVec 8)):(ok key).length=64:=qg1 _ _
def tagv (key msg:List (BitVec 8)):Nat→BitVec 8:=dig (ok key++dl (ik key++msg))
theorem rdy_row (k:List (BitVec 8)) (h:k.length≤64):bs (k++List.replicate (64 - k.length) 0#8)=aB 64 fun i=>k.getD i 0#8:=by
  rw[qen _ 64 (by simp; omega)]
  apply qct
  intro i hi
  rw[List.getD_eq_getElem?_getD,List.getD_eq_getElem?_getD]
  by_cases h1:i < k.length
  · rw[List.getElem?_append_left h1]
  · rw [List.getElem?_append_right (by omega), List.getElem?_eq_none (by omega : k.length ≤ i)]
    rw[List.getElem?_replicate]; split <;> rfl
theorem cp_key (H:Heap) (m:Nm) (y:LV) (k:List (BitVec 8)) (hk:k.length≤64) (hm:H m=some (aB 64 fun _=>0#8)) (hf:qbp H 1 k.length y=some (bs k)) :
    ∃ ms,cpK 1 H (.sl m 0 64 (some 64) 1) y (some k.length)=some ⟨N k.length,[],ms⟩∧modN ms H=upd H m (some (aB 64 fun i=>k.getD i 0#8)):=by
  by_cases h0:k.length=0
  · refine ⟨[], ?_, ?_⟩
    · rw[cp_zero _ _ _ _ _ _ _ _ (by omega),h0]
    · have : k = [] := List.length_eq_zero_iff.1 h0
      subst this
      rw[qcf]
      exact (qdt hm).symm
  · have hm' : H m = some (bs (List.replicate 64 0#8)) := by rw [hm, ← qgb, ← qe6]
    have hmin:min k.length 64=k.length:=by omega
    refine ⟨_,qer k.length m 0 64 (some 64) y (List.replicate 64 0#8) k (by omega) (by rw[hmin]; exact hf) hm' (by simp; omega) |>.trans (by rw[hmin]),?_⟩
    rw[qca,qcf]
    congr 1
    rw[zY,zF,zO,List.drop_replicate,rdy_row k hk]
def mNew (b:Nat) (a:List (BitVec 8)) (c:Option Nat) (l o:List (BitVec 8)) (c2:Option Nat) (l2:List (BitVec 8)):List qaj :=
  [[.ptr (b,1) 0,.ptr (b,3) 0],hC a (b,2) c,bs l,hC o (b,4) c2,bs l2]
set_option maxRecDepth 10000 in
theorem mnew_F (K:Nat) (key:List (BitVec 8)) (hb:key.length≤211106232000000) (hK:key.length / 64+1100≤K) :
    ∃ c l c2 l2,RFN (ik key) c l∧RFN (ok key) c2 l2∧F C (K+1) 42 [.isl (bs key) key.length] []=some (.ptr (1,0) 0,[],mNew 1 (ik key) c l (ok key) c2 l2):=by
  obtain ⟨c,l,hrf,hb1⟩:=qhI (K - 1) (by omega) (rdy key) 54#8
  obtain ⟨c2,l2,hrf2,hb2⟩:=qhI (K - 1) (by omega) (rdy key) 92#8
  rw[show K - 1+1=K by omega] at hb1 hb2
  refine ⟨c,l,c2,l2,hrf,hrf2,?_⟩
  rw[qaI f42]
  have hrl:=rk_length key
  have hs:=fun bn (H:Heap)=>sum_call K bn H (.isl (bs key) key.length) key (by omega) (qbn H key []) (by omega)
  by_cases h64:64 < key.length
  · have hrk : rk key = dl key := by rw [rk, if_pos h64]
    have hdl:=qg0 key
    simp (disch:=first|omega|decide|simp only[nmsB,lB]) only[simprocAttr,-rR,-rS,leB,memB,arrB,numB,qaf,L42,h64,hs,qae,qac,qad,qab,qaa]
    generalize hH3:upd _ _ (some (aB 32 (dig key)))=H3
    have h3:H3 (3,0)=some (aB 64 fun _=>0#8):=by rw[←hH3]; simp only[simprocAttr,-rR,-rS,memB,qac]
    have h9:H3 (9,0)=some (bs (dl key)):=by rw[←hH3,←aB_dl]; simp only[simprocAttr,-rR,-rS,memB,qac]
    have hf:=qbU (9,0) 0 32 (some 32) _ h9 (by omega)
    rw[zH,List.take_of_length_le (by omega)] at hf
    obtain ⟨ms,hcp,hms⟩:=cp_key H3 (3,0) (.sl (9,0) 0 32 (some 32) 1) (dl key) (by omega) h3 (by rw[hdl]; exact hf)
    rw[hdl] at hcp
    rw[show (fun i=>(dl key).getD i 0#8)=rdy key by funext i; rw[rdy,hrk]] at hms
    simp (disch:=first|omega|decide|simp only[nmsB,lB]) only[simprocAttr,-rR,-rS,leB,memB,arrB,numB,qaf,ordB,qal,qai,hcp,hms,hb1,hb2,qaJ,qae,qac,qad,qab,qaa,qay,qag]
    rw[qaW 0 _ _ [(21,0),(17,0),(17,1),(19,0),(19,1)] (by simp only[simprocAttr,-rR,-rS,qal,qa2,qan,qag,qab,qaa])]
    simp (disch:=first|omega|decide|simp only[nmsB,lB]) only[simprocAttr,-rR,-rS,leB,memB,qaf,qaK,mNew,ik,ok,qae,qac,qad,qab,qaa]
  · have hrk : rk key = key := by rw [rk, if_neg h64]
    simp (disch:=first|omega|decide|simp only[nmsB,lB]) only[simprocAttr,-rR,-rS,leB,memB,arrB,numB,qaf,L42,h64,hs,qae,qac,qad,qab,qaa]
    generalize hH3:upd _ _ (some (aB 64 fun _=>0#8))=H3
    have h3:H3 (3,0)=some (aB 64 fun _=>0#8):=by rw[←hH3]; simp only[simprocAttr,-rR,-rS,memB,qac]
    obtain ⟨ms,hcp,hms⟩:=cp_key H3 (3,0) (.isl (bs key) key.length) key (by omega) h3 (qcn key key.length rfl)
    rw[show (fun i=>key.getD i 0#8)=rdy key by funext i; rw[rdy,hrk]] at hms
    simp (disch:=first|omega|decide|simp only[nmsB,lB]) only[simprocAttr,-rR,-rS,leB,memB,arrB,numB,qaf,ordB,qal,qai,hcp,hms,hb1,hb2,qaJ,qae,qac,qad,qab,qaa,qay,qag]
    rw[qaW 0 _ _ [(15,0),(11,0),(11,1),(13,0),(13,1)] (by simp only[simprocAttr,-rR,-rS,qal,qa2,qan,qag,qab,qaa])]
    simp (disch:=first|omega|decide|simp only[nmsB,lB]) only[simprocAttr,-rR,-rS,leB,memB,qaf,qaK,mNew,ik,ok,qae,qac,qad,qab,qaa]
theorem ren_mNew (b:Nat) (a:List (BitVec 8)) (c:Option Nat) (l o:List (BitVec 8)) (c2:Option Nat) (l2:List (BitVec 8)) :
    (mNew 1 a c l o c2 l2).map (fun cs=>cs.map (ren D (qbc [] b 5)))=mNew b a c l o c2 l2:=by
  simp only[mNew,zB,zA,qbj,qaK,qa5,qax,qbo,Nat.reduceLT,qbt,qbh]
theorem mnew_call {K b:Nat} {H:Heap} {B:LV} {key:List (BitVec 8)} {r:Option Out} (hc:qav (envC C (K+1)) H b 42 [B]=r) (hB:Lent H B key []) (hb:key.length≤211106232000000) (hK:key.length / 64+1100≤K) :
    ∃ news H2,r=some ⟨.ptr (b,0) 0,news,[]⟩∧updN b 0 news H=H2∧MG H2 (b,0) (b,1) (b,2) (b,3) (b,4) (ik key) (ok key)∧∀ m,m.1≠b→H2 m=H m:=by
  subst hc
  obtain ⟨c,l,c2,l2,h1,h2,hF⟩:=mnew_F K key hb hK
  obtain ⟨lent,hs,hl⟩:=hB.snap
  have hlend:lend H ((envC C (K+1)).borrow 42) 0 [B]=some ([.isl (bs key) key.length],lent):=by
    rw[qbe,qcu,qbB,qcQ,if_pos (show qaF 42 0=true by decide),hs,qa6,zD]
  have hn:([.isl (bs key) key.length]:List LV).flatMap (nms D)=[]:=by
    simp only[zI,zN,qbl,zD]
  have ha:([.isl (bs key) key.length]:List LV).map (ren D (qaH []))=[.isl (bs key) key.length]:=by
    simp only[zB,zA,qa8]
  have hp:qa1 (.ptr (1,0) 0,[],mNew 1 (ik key) c l (ok key) c2 l2)=true:=by
    simp[qa1,mNew,qfd,qcy]; exact ⟨rfl,rfl,rfl⟩
  have hcall:qav (envC C (K+1)) H b 42 [B]=some ⟨.ptr (b,0) 0,mNew b (ik key) c l (ok key) c2 l2,[]⟩:=by
    rw[qbM,hlend,qbx,hn,show qa4 H FUEL [] []=[] from rfl,qbN _ _ _ _ _ hl,ha,zS,zA,qbL,hF,qcg _ _ _ _ hp,qaP]
    rw[show (mNew 1 (ik key) c l (ok key) c2 l2).length=5 from rfl,ren_mNew]
    simp only[qbj,qbo,Nat.reduceLT,qbt,List.zipWith_nil_left,Nat.zero_lt_succ]
  refine ⟨_,_,hcall,rfl,⟨by simp,?_,⟨c,l,h1,?_,?_⟩,⟨c2,l2,h2,?_,?_⟩⟩,?_⟩
  all_goals try (rw [updN_at]; simp[mNew]; done)
  intro m hm
  rw[updN_at,if_neg (fun h=>hm h.1)]
def tJ (key:List (BitVec 8)) (L:List (List (BitVec 8))) (i:Nat) (st:St):Prop := ∃ (H:Heap),st=⟨[.undef,.undef,.undef,.undef,.ptr (1,0) 0,.ptr (1,1) 0,.undef,.undef,.undef,.undef,.isl (sls L) L.length,N L.length,N i,.undef,.undef,.undef,.undef,.undef,.undef,.undef,.undef,.undef],H,2,0⟩ ∧
  H (1,0)=some (aB 32 fun _=>0#8)∧MG H (1,1) (1,2) (1,3) (1,4) (1,5) (ik key++al L i) (ok key)
set_option maxRecDepth 10000 in
theorem t_round (K k0:Nat) (key:List (BitVec 8)) (L:List (List (BitVec 8))) (hL:L.flatten.length≤211106231000000) (hLl:L.length≤211106232000000) (hK:L.flatten.length / 64+300≤k0) (i:Nat) (hi:i < L.length) (st:St) (hI:tJ key L i st) :
    ∃ st1,ev (envC C (k0+1)) K L22b0 st=some (.normal,st1)∧tJ key L (i+1) (qbg L22k0 st1):=by
  obtain ⟨H,rfl,h1,M⟩:=hI
  have ha:=al_succ L i hi
  have hal:=al_le L i
  have hal1:=al_le L (i+1)
  have hik:=ik_length key
  obtain ⟨b,hb⟩:∃ b,b=L.getD i []:=⟨_,rfl⟩
  have hcell:=fun H=>sls_cell (H:=H) L i hi
  rw[←hb] at ha hcell
  rw[ha,zK] at hal1
  simp (disch:=first|omega|decide|simp only[nmsB,lB]) only[simprocAttr,-rR,-rS,leB,memB,arrB,numB,qaf,L22b0,hi,hcell,qae,qac,qad,qab,qaa]
  generalize hc:qav _ _ _ _ _=r
  obtain ⟨rN,news,ms,H2,rfl,hH2,M2,hr,_,hfr⟩:=mac_write hc M (qbn H b _) (by rw[zK]; omega) (by rw[zK]; omega) (by decide)
  have h12:H2 (1,0)=some (aB 32 fun _=>0#8):=by rw[hfr _ (by decide) (by decide),h1]
  obtain ⟨nd,m,⟨c,l,q1,q2,q3⟩,⟨c2,l2,o1,o2,o3⟩⟩:=M2
  rw[List.append_assoc,←ha] at q1 q2
  apply Exists.intro
  apply And.intro
  · simp (disch := first | omega | decide | simp only [nmsB, lB]) only [simprocAttr, -rR, -rS, leB, memB, arrB, numB, qaf, qai, hH2, qae, qac, qad, qab, qaa]
    rfl
  · rcases hr with rfl | rfl
    all_goals
      refine qaz [(1,0),(1,1),(1,2),_,(1,4),(1,5)] rfl (by simp only[simprocAttr,-rR,-rS,qal,L22k0,h12,m,q2,q3,o2,o3,qa2,qan,qaO,sls_nms,qag,qab,qaa] <;> rfl) ?_ ⟨_,rfl,?_,⟨by decide,?_,⟨c,l,q1,?_,?_⟩,⟨c2,l2,o1,?_,?_⟩⟩⟩
      · simp only [simprocAttr, -rR, -rS, L22k0, leB, memB, qaf, qe3, qeG, qfE, qfP, sls_ren, qeI, qae, qac, qad, qab, qaa]
        rfl
      · exact qak _ rfl h12 (qaG _ _ _)
      · rw[qcG _ _ 1 _ _ rfl m]; rfl
      · rw[qcG _ _ 2 _ _ rfl q2,qaK]; rfl
      · exact qak _ rfl q3 (qax _ _)
      · rw[qcG _ _ 4 _ _ rfl o2,qaK]; rfl
      · exact qak _ rfl o3 (qax _ _)
set_option maxRecDepth 10000 in
theorem tag_F (K:Nat) (key:List (BitVec 8)) (L:List (List (BitVec 8))) (hk:key.length≤211106232000000) (hL:L.flatten.length≤211106231000000) (hLl:L.length≤211106232000000)
    (hK:key.length / 64+L.flatten.length / 64+L.length+1200≤K):F C (K+2) 22 [.isl (bs key) key.length,.isl (sls L) L.length] []=some (.agg (aB 32 (tagv key L.flatten)),[],[]):=by
  rw[qaI f22]
  have hik:=ik_length key
  have hok:=ok_length key
  simp (disch:=first|omega|decide|simp only[nmsB,lB]) only[simprocAttr,-rR,-rS,leB,memB,arrB,numB,qaf,L22,qae,qac,qad,qab,qaa]
  generalize hc:qav _ _ _ _ _=r
  obtain ⟨news,H2,rfl,hH2,M,hfr⟩:=mnew_call hc (qbn _ key []) hk (by omega)
  have h22:H2 (2,0)=some (aB 32 fun _=>0#8):=by rw[hfr _ (by decide)]; simp only[simprocAttr,-rR,-rS,memB,qac]
  simp (disch:=first|omega|decide|simp only[nmsB,lB]) only[simprocAttr,-rR,-rS,leB,memB,arrB,numB,qaf,qai,hH2,qae,qac,qad,qab,qaa]
  generalize hLp:qbd L22k0 _ _ _=r
  refine qaY hLp (tJ key L) L.length (by omega) (fun i st hi hI=>t_round _ _ key L hL hLl (by omega) i hi st hI) ?_ ?_ ?_
  · obtain ⟨nd, m, ⟨c, l, q1, q2, q3⟩, ⟨c2, l2, o1, o2, o3⟩⟩ := M
    refine qaz [(2,0),_,_,_,_,_] rfl (by simp only[simprocAttr,-rR,-rS,qal,L22k0,h22,m,q2,q3,o2,o3,qa2,qan,qaO,sls_nms,qag,qab,qaa] <;> rfl) ?_ ⟨_,rfl,?_,⟨by decide,?_,⟨c,l,?_,?_,?_⟩,⟨c2,l2,o1,?_,?_⟩⟩⟩
    · simp only [simprocAttr, -rR, -rS, L22k0, leB, memB, qaf, qe3, qeG, qfE, qfP, sls_ren, qeI, qae, qac, qad, qab, qaa]
      rfl
    · exact qak _ rfl h22 (qaG _ _ _)
    · rw[qcG _ _ 1 _ _ rfl m]; rfl
    · rw[show al L 0=[] from rfl,zD]; exact q1
    · rw[show al L 0=[] from rfl,zD,qcG _ _ 2 _ _ rfl q2,qaK]; rfl
    · exact qak _ rfl q3 (qax _ _)
    · rw[qcG _ _ 4 _ _ rfl o2,qaK]; rfl
    · exact qak _ rfl o3 (qax _ _)
  · rintro st ⟨H, rfl, h1, M⟩
    apply qaR
    simp (disch:=first|omega|decide|simp only[nmsB,lB]) only[simprocAttr,-rR,-rS,leB,memB,numB,qaf,L22b0,qae,qac,qad,qab,qaa]
    rfl
  · clear hLp
    rintro st ⟨H,rfl,h1,M⟩ rfl
    rw[al_full] at M
    simp (disch:=first|omega|decide|simp only[nmsB,lB]) only[simprocAttr,-rR,-rS,leB,memB,arrB,numB,qaf,L22b0,qae,qac,qad,qab,qaa]
    generalize hc:qav _ _ _ _ _=r
    obtain ⟨ms,rfl,hms⟩:=mac_sum hc M (by rw[zK]; omega) (by omega) (by omega)
    simp (disch:=first|omega|decide|simp only[nmsB,lB]) only[simprocAttr,-rR,-rS,leB,memB,arrB,numB,qaf,qai,hms,h1,qae,qac,qad,qab,qaa]
    rfl
end Sha
namespace Sha
open Go Go.LE Tb
end Sha
namespace Sha
open Go Go.LE Tb
def qJ (a b:List (BitVec 8)) (i:Nat) (st:St):Prop := ∃ (H:Heap) (d:Nat),st=⟨[.isl (bs a) a.length,.isl (bs b) b.length,.undef,.undef,.undef,N d,.undef,.undef,.undef,.undef,.undef,.undef,.undef,.undef,.undef,.undef,N (min a.length b.length),N i,.undef,.undef,.undef,.undef,.undef,.undef,.undef,.undef,.undef,.undef,.undef,.undef,.undef,.undef,.undef,.undef,.undef],H,2,0⟩ ∧
  d < 9223372036854775808∧(d=0↔a.length=b.length∧∀ j,j < i→a.getD j 0#8=b.getD j 0#8)
theorem or_zero (x y:Nat):x ||| y=0↔x=0∧y=0:=by
  constructor
  · intro h
    have h1:x≤x ||| y:=Nat.left_le_or
    have h2:y≤x ||| y:=Nat.right_le_or
    omega
  · rintro ⟨rfl,rfl⟩; rfl
theorem qcp (x y:Nat):x ^^^ y=0↔x=y:=by
  constructor
  · intro h
    have h2:x ^^^ y ^^^ y=0 ^^^ y:=by rw[h]
    rw[Nat.xor_assoc,Nat.xor_self,Nat.xor_zero,Nat.zero_xor] at h2
    exact h2
  · rintro rfl; exact Nat.xor_self x
set_option maxRecDepth 10000 in
theorem q_round (K k0:Nat) (a b:List (BitVec 8)) (i:Nat) (hi:i < min a.length b.length) (hm:min a.length b.length < 9223372036854775807) (st:St) (hI:qJ a b i st) :
    ∃ st1,ev (envC C k0) K L35b0 st=some (.normal,st1)∧qJ a b (i+1) (qbg L35k0 st1):=by
  obtain ⟨H,d,rfl,hd,hiff⟩:=hI
  have ha:=fun H:Heap=>qfH (H:=H) a i (by omega)
  have hb:=fun H:Heap=>qfH (H:=H) b i (by omega)
  obtain ⟨x,hx⟩:∃ x,x=a.getD i 0#8:=⟨_,rfl⟩
  obtain ⟨y,hy⟩:∃ y,y=b.getD i 0#8:=⟨_,rfl⟩
  rw[←hx] at ha
  rw[←hy] at hb
  have hxy:(x ^^^ y).toNat < 9223372036854775808:=by have:=(x ^^^ y).isLt; omega
  have hor:binV .or .none (N d) (I ((x ^^^ y).toNat:Int))=some (N (d ||| (x ^^^ y).toNat)):=N_or .none d (x ^^^ y).toNat hd hxy
  apply Exists.intro
  apply And.intro
  · simp (disch := first | omega | decide | simp only [nmsB, lB]) only [simprocAttr, -rR, -rS, leB, memB, arrB, numB, qaf, ordB, L35b0, hi, ha, hb, ibp_nms, hor, qae, qac, qad, qab, qaa, qay]
    rfl
  · refine qaz [] rfl (by simp only [simprocAttr, -rR, -rS, qal, L35k0, qbl, qag, qab, qaa]) ?_ ⟨_, d ||| (x ^^^ y).toNat, rfl, ?_, ?_⟩
    · simp only[simprocAttr,-rR,-rS,L35k0,leB,memB,qaf,qe3,qeG,qfE,qfP,qeI,qae,qac,qad,qab,qaa]
    · exact Nat.or_lt_two_pow (n:=63) hd hxy
    · rw [or_zero, hiff]
      have e1:(x ^^^ y).toNat=0↔x=y:=by
        rw[BitVec.toNat_xor,qcp]
        exact ⟨fun h=>BitVec.eq_of_toNat_eq h,fun h=>by rw[h]⟩
      rw[e1]
      constructor
      · rintro ⟨⟨h1, h2⟩, h3⟩
        refine ⟨h1,fun j hj => ?_⟩
        by_cases hji:j=i
        · subst hji; rw[←hx,←hy]; exact h3
        · exact h2 j (by omega)
      · rintro ⟨h1, h2⟩
        exact ⟨⟨h1,fun j hj=>h2 j (by omega)⟩,by rw[hx,hy]; exact h2 i (by omega)⟩
theorem eq_iff (a b:List (BitVec 8)):(a.length=b.length∧∀ j,j < min a.length b.length→a.getD j 0#8=b.getD j 0#8)↔a=b:=by
  constructor
  · rintro ⟨h1, h2⟩
    apply List.ext_getElem h1
    intro i h3 h4
    have:=h2 i (by omega)
    rw[List.getD_eq_getElem?_getD,List.getD_eq_getElem?_getD,List.getElem?_eq_getElem h3,List.getElem?_eq_getElem h4] at this
    exact this
  · rintro rfl; exact ⟨rfl,fun _ _=>rfl⟩
set_option maxRecDepth 10000 in
theorem equal_F (K:Nat) (a b:List (BitVec 8)) (ha:a.length < 4611686018427387904) (hb:b.length < 4611686018427387904) (hK:min a.length b.length < K) :
    F C (K+1) 35 [.isl (bs a) a.length,.isl (bs b) b.length] []=some (Bo (decide (a=b)),[],[]):=by
  rw[qaI f35]
  have hx:=N_xor .none a.length b.length (by omega) (by omega)
  simp (disch:=first|omega|decide|simp only[nmsB,lB]) only[simprocAttr,-rR,-rS,leB,memB,arrB,numB,qaf,opsB,L35,hx,mnmx_min,qae,qac,qad,qab,qaa]
  generalize hL:qbd L35k0 _ _ _=r
  refine qaY hL (qJ a b) (min a.length b.length) (by omega) (fun i st hi hI=>q_round _ _ a b i hi (by omega) st hI) ?_ ?_ ?_
  · refine qaz [] rfl (by simp only [simprocAttr, -rR, -rS, qal, L35k0, qbl, qag, qab, qaa]) ?_ ⟨_, a.length ^^^ b.length, rfl, ?_, ?_⟩
    · simp only[simprocAttr,-rR,-rS,L35k0,leB,memB,qaf,qe3,qeG,qfE,qfP,qeI,qae,qac,qad,qab,qaa]
    · exact Nat.xor_lt_two_pow (n:=63) (by omega) (by omega)
    · rw[qcp]; simp
  · rintro st ⟨H, d, rfl, h1, h2⟩
    apply qaR
    simp (disch:=first|omega|decide|simp only[nmsB,lB]) only[simprocAttr,-rR,-rS,leB,memB,numB,qaf,L35b0,qae,qac,qad,qab,qaa]
    rfl
  · rintro st ⟨H, d, rfl, h1, h2⟩ rfl
    simp (disch:=first|omega|decide|simp only[nmsB,lB]) only[simprocAttr,-rR,-rS,leB,memB,arrB,numB,qaf,L35b0,qae,qac,qad,qab,qaa]
    rw[eq_iff] at h2
    simp only[h2]
theorem qhJ (k b:Nat) (H:Heap) (B1 B2:LV) (b1 b2:List (BitVec 8)) (hB1:Lent H B1 b1 []) (hB2:Lent H B2 b2 []) (h1:b1.length < 4611686018427387904) (h2:b2.length < 4611686018427387904) (hk:min b1.length b2.length+1 < k) :
    qav (envC C k) H b 35 [B1,B2]=some ⟨Bo (decide (b1=b2)),[],[]⟩:=by
  have hw:=equal_F (k - 1) b1 b2 h1 h2 (by omega)
  rw[show k - 1+1=k by omega] at hw
  obtain ⟨l1,hs1,hl1⟩:=hB1.snap
  obtain ⟨l2,hs2,hl2⟩:=hB2.snap
  have hlend:lend H ((envC C k).borrow 35) 0 [B1,B2]=some ([.isl (bs b1) b1.length,.isl (bs b2) b2.length],l1++l2):=by
    rw[qbe,qbe,qcu,qbB,qcQ,if_pos (show qaF 35 0=true by decide),if_pos (show qaF 35 (0+1)=true by decide),hs1,hs2,qa6,qa6,zD]
  rw[qbM,hlend,qbx]
  have hn:([.isl (bs b1) b1.length,.isl (bs b2) b2.length]:List LV).flatMap (nms D)=[]:=by
    simp only[zI,zN,qbl,zD]
  rw[hn,show qa4 H FUEL [] []=[] from rfl,qbN _ _ _ _ _ (by rw[List.any_append,hl1,hl2] <;> rfl)]
  have ha:([.isl (bs b1) b1.length,.isl (bs b2) b2.length]:List LV).map (ren D (qaH []))=[.isl (bs b1) b1.length,.isl (bs b2) b2.length]:=by
    simp only[zB,zA,qa8]
  rw[ha,zS,zA,qbL,hw,qcg _ _ _ _ rfl,qaP]
  simp only[qe2,zA,List.zipWith_nil_left]
end Sha
namespace Sha
open Go Go.LE Tb
theorem qdR {k b:Nat} {H:Heap} {B M:LV} {key:List (BitVec 8)} {L:List (List (BitVec 8))} {lent:List Nm} {r:Option Out} (hc:qav (envC C k) H b 22 [B,M]=r) (hB:Lent H B key []) (hM:snap H D M=some (.isl (sls L) L.length,lent))
    (hk:key.length≤211106232000000) (hL:L.flatten.length≤211106231000000) (hLl:L.length≤211106232000000) (hK:key.length / 64+L.flatten.length / 64+L.length+1202≤k) :
    r=some ⟨.agg (aB 32 (tagv key L.flatten)),[],[]⟩:=by
  have hw:=tag_F (k - 2) key L hk hL hLl (by omega)
  rw[show k - 2+2=k by omega] at hw
  obtain ⟨l1,hs1,hl1⟩:=hB.snap
  have hlend:lend H ((envC C k).borrow 22) 0 [B,M]=some ([.isl (bs key) key.length,.isl (sls L) L.length],l1++lent):=by
    rw[qbe,qbe,qcu,qbB,qcQ,if_pos (show qaF 22 0=true by decide),if_pos (show qaF 22 (0+1)=true by decide),hs1,hM,qa6,qa6,zD]
  rw[←hc,qbM,hlend,qbx]
  have hn:([.isl (bs key) key.length,.isl (sls L) L.length]:List LV).flatMap (nms D)=[]:=by
    simp only[zI,zN,qbl,sls_nms,zD]
  rw[hn,show qa4 H FUEL [] []=[] from rfl,qbN _ _ _ _ _ (by simp)]
  have ha:([.isl (bs key) key.length,.isl (sls L) L.length]:List LV).map (ren D (qaH []))=[.isl (bs key) key.length,.isl (sls L) L.length]:=by
    simp only[zB,zA,qa8,sls_ren]
  rw[ha,zS,zA,qbL,hw,qcg _ _ _ _ (by simp[qa1,noImm_aB]),qaP]
  simp only[qbv,zA,List.zipWith_nil_left]
end Sha
