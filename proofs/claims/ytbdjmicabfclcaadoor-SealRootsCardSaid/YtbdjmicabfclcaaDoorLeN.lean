/- seal: the document's root block, evaluated. -/
import Derived.Test.YtbdjmicabfclcaaDoorLeM
set_option linter.unusedVariables false
set_option linter.unusedSimpArgs false
open List renaming reduceReplicate → rR
open Nat renaming reduceSubDiff → rS
namespace Sl
open Go Go.LE Tb
open Sha (Lent qbz)
set_option maxRecDepth 20000
def rtOk (g:BitVec 64) (s sl j sg ti me la:Int) (rk:Bool) (f:Int):Prop:=hcOk g s sl j sg ti me la∧0≤f∧f≤s∧(rk=false→f=0)
theorem RootBlock_bad (k:Nat) (key:List (BitVec 8)) (hkey:key.length=32) (g:BitVec 64) (s sl j sg ti me la:Int) (nm:List (BitVec 8)) (hnm:nm.length=16) (c:BitVec 64) (rk:Bool) (f:Int) (tr:List (BitVec 8)) (ht:tr.length=32) (hno:¬ rtOk g s sl j sg ti me la rk f) :
    F C (k+20) 7 [.agg (bs key),.agg (HC g s sl j sg ti me la nm),.agg (RC c rk f tr)] []=some (.tup [Nil,N 1],[],[]):=by
  rw[qaK Tb.f7]
  have hpH:=qcX g s sl j sg ti me la nm
  have hpR:=qdH c rk f tr
  obtain ⟨k0,k1,k2⟩:=RC_k c rk f tr
  have hk1:=HC_k1 g s sl j sg ti me la nm
  have hc:=fun b H=>qfU (k+9) b H g s sl j sg ti me la nm hnm
  by_cases h0:hcOk g s sl j sg ti me la
  · rw [if_pos h0] at hc
    by_cases h1:f < 0
    · have d1 : decide (f < 0) = true := decide_eq_true h1
      simp (disch:=first|omega|decide|simp only[nmsB,lB]) only[simprocAttr,-rR,-rS,leB,memB,arrB,numB,qaf,opsB,qay,qaj,L7,hpH.isCell,hpR.isCell,qbB,qdl g s sl j sg ti me la nm hnm,hc,k1,hk1,k2,qbY,d1,qab,qad,qac,qaa,qah]
      rw[qbI rfl (fun _=>rfl)]
    have d1:decide (f < 0)=false:=decide_eq_false h1
    by_cases h2:s < f
    · have d2 : decide (s < f) = true := decide_eq_true h2
      simp (disch:=first|omega|decide|simp only[nmsB,lB]) only[simprocAttr,-rR,-rS,leB,memB,arrB,numB,qaf,opsB,qay,qaj,L7,hpH.isCell,hpR.isCell,qbB,qdl g s sl j sg ti me la nm hnm,hc,k1,hk1,k2,qbY,I_gtr,d1,d2,qab,qad,qac,qaa,qah]
      rw[qbI rfl (fun _=>rfl)]
    have d2:decide (s < f)=false:=decide_eq_false h2
    cases rk with
    | true=>exact absurd ⟨h0,by omega,by omega,fun h=>by cases h⟩ hno
    | false =>
      have h3:f≠0:=fun h3=>hno ⟨h0,by omega,by omega,fun _=>h3⟩
      have hb:(f != ((0:Nat):Int))=true:=bne_iff_ne.2 h3
      have e3:binV .neq .none (I f) (N 0)=some (Bo true):=by rw[N,I_neq,hb]
      simp (disch:=first|omega|decide|simp only[nmsB,lB]) only[simprocAttr,-rR,-rS,leB,memB,arrB,numB,qaf,opsB,qay,qaj,L7,hpH.isCell,hpR.isCell,qbB,qdl g s sl j sg ti me la nm hnm,hc,k1,hk1,k2,qbY,I_gtr,d1,d2,e3,qab,qad,qac,qaa,qah]
      rw[qbI rfl (fun _=>rfl)]
  · rw [if_neg h0] at hc
    simp (disch:=first|omega|decide|simp only[nmsB,lB]) only[simprocAttr,-rR,-rS,leB,memB,arrB,numB,qaf,opsB,qay,qaj,L7,hpH.isCell,hpR.isCell,qbB,qdl g s sl j sg ti me la nm hnm,hc,k1,hk1,k2,qab,qad,qac,qaa,qah]
    rw[qbI rfl (fun _=>rfl)]
theorem qhK (k:Nat) (key:List (BitVec 8)) (hkey:key.length=32) (g:BitVec 64) (s sl j sg ti me la:Int) (nm:List (BitVec 8)) (hnm:nm.length=16) (c:BitVec 64) (rk:Bool) (f:Int) (tr:List (BitVec 8)) (ht:tr.length=32) (hno:¬ rtOk g s sl j sg ti me la rk f) :
    F C (k+20) 8 [.agg (bs key),.agg (HC g s sl j sg ti me la nm),.agg (RC c rk f tr)] []=some (.tup [Nil,N 1],[],[]):=by
  rw[qaK Tb.f8]
  have hpH:=qcX g s sl j sg ti me la nm
  have hpR:=qdH c rk f tr
  obtain ⟨k0,k1,k2⟩:=RC_k c rk f tr
  have hk1:=HC_k1 g s sl j sg ti me la nm
  have hc:=fun b H=>qgU (k+9) b H g s sl j sg ti me la nm hnm
  by_cases h0:hcOk g s sl j sg ti me la
  · rw [if_pos h0] at hc
    by_cases h1:f < 0
    · have d1 : decide (f < 0) = true := decide_eq_true h1
      simp (disch:=first|omega|decide|simp only[nmsB,lB]) only[simprocAttr,-rR,-rS,leB,memB,arrB,numB,qaf,opsB,qay,qaj,L8,hpH.isCell,hpR.isCell,qbB,qdl g s sl j sg ti me la nm hnm,hc,k1,hk1,k2,qbY,d1,qab,qad,qac,qaa,qah]
      rw[qbI rfl (fun _=>rfl)]
    have d1:decide (f < 0)=false:=decide_eq_false h1
    by_cases h2:s < f
    · have d2 : decide (s < f) = true := decide_eq_true h2
      simp (disch:=first|omega|decide|simp only[nmsB,lB]) only[simprocAttr,-rR,-rS,leB,memB,arrB,numB,qaf,opsB,qay,qaj,L8,hpH.isCell,hpR.isCell,qbB,qdl g s sl j sg ti me la nm hnm,hc,k1,hk1,k2,qbY,I_gtr,d1,d2,qab,qad,qac,qaa,qah]
      rw[qbI rfl (fun _=>rfl)]
    have d2:decide (s < f)=false:=decide_eq_false h2
    cases rk with
    | true=>exact absurd ⟨h0,by omega,by omega,fun h=>by cases h⟩ hno
    | false =>
      have h3:f≠0:=fun h3=>hno ⟨h0,by omega,by omega,fun _=>h3⟩
      have hb:(f != ((0:Nat):Int))=true:=bne_iff_ne.2 h3
      have e3:binV .neq .none (I f) (N 0)=some (Bo true):=by rw[N,I_neq,hb]
      simp (disch:=first|omega|decide|simp only[nmsB,lB]) only[simprocAttr,-rR,-rS,leB,memB,arrB,numB,qaf,opsB,qay,qaj,L8,hpH.isCell,hpR.isCell,qbB,qdl g s sl j sg ti me la nm hnm,hc,k1,hk1,k2,qbY,I_gtr,d1,d2,e3,qab,qad,qac,qaa,qah]
      rw[qbI rfl (fun _=>rfl)]
  · rw [if_neg h0] at hc
    simp (disch:=first|omega|decide|simp only[nmsB,lB]) only[simprocAttr,-rR,-rS,leB,memB,arrB,numB,qaf,opsB,qay,qaj,L8,hpH.isCell,hpR.isCell,qbB,qdl g s sl j sg ti me la nm hnm,hc,k1,hk1,k2,qab,qad,qac,qaa,qah]
    rw[qbI rfl (fun _=>rfl)]
end Sl
namespace Sl
open Go Go.LE Tb
open Sha (Lent qbz)
set_option maxRecDepth 20000
def rzJ (key:List (BitVec 8)) (hd rt:qak) (c:BitVec 64) (i:Nat) (st:St):Prop := ∃ (H:Heap) (cp:Option Nat),
  st=⟨[.undef,.undef,.undef,.ptr (1,0) 0,.ptr (1,1) 0,.ptr (1,2) 0,.undef,.undef,.sl (1,3) 0 (4+i) cp 1,N i,.undef,.undef,.undef,.undef,.undef,.undef,.undef,.undef,.undef,.undef,.undef,.undef,.undef,.undef,.undef,.undef,.undef,.undef,.undef,.undef,.undef,.undef,.undef,.undef,.undef,.undef,.undef,.undef,.undef,.undef,.undef,.undef,.undef,.undef,.undef,.undef,.undef,.undef,.undef,.undef,.undef,.undef,.undef,.undef,.undef,.undef,.undef,.undef,.undef,.undef,.undef,.undef,.undef,.undef,.undef,.undef,.undef,.undef,.undef,.undef,.undef,.undef,.undef,.undef,.undef,.undef,.undef,.undef,.undef,.undef,.undef,.undef,.undef,.undef,.undef],H,2,0⟩∧((i=0∧cp=some 4)∨(0 < i∧cp=none)) ∧
  H (1,0)=some (bs key)∧H (1,1)=some hd∧H (1,2)=some rt∧H (1,3)=some (bs (qcY++nB8 c i))
theorem rz_round (k K:Nat) (key:List (BitVec 8)) (hd rt:qak) (phd:PC hd) (prt:PC rt) (c:BitVec 64) (k0:qaY 0 1 (some rt)=some [B64 c]) (i:Nat) (hi:i < 8) (st:St) (hJ:rzJ key hd rt c i st) :
    ∃ st1,ev (envC C k) K L8b0 st=some (.normal,st1)∧rzJ key hd rt c (i+1) (qa8 L8k0 st1):=by
  obtain ⟨H,cp,rfl,hcp,h0,h1,h2,h3⟩:=hJ
  have h8:8*i < 64:=by omega
  have hl:(qcY++nB8 c i).length=4+i:=by rw[zH,qb5]; rfl
  have hf1:∀ y:BitVec 8,qb4 0 1 1 (some [B8 y])=some (bs [y]):=fun y=>rfl
  rcases hcp with ⟨rfl,rfl⟩ | ⟨hi0,rfl⟩
  · have ha:∀ (b:Nat) (H:Heap) (y:BitVec 8),H (1,3)=some (bs (qcY++nB8 c 0))→appX b 1 1 1 H [] (bs [y]) (.sl (1,3) 0 4 (some 4) 1)=some ⟨.sl (b,0) 0 5 none 1,[bs (qcY++nB8 c 0++[y])],[]⟩:=fun b H y h=>by
      rw[qc2 1 (1,3) 0 4 4 _ [y] h (by omega) (by decide) (by decide),zF,List.take_of_length_le (by omega)]
    simp (disch:=first|omega|decide|simp only[nmsB,lB]) only[simprocAttr,-rR,-rS,leB,memB,arrB,numB,qaf,opsB,qay,qaj,L8b0,h0,h1,h2,h3,k0,hf1,qab,qad,qac,qaa,qah]
    refine ⟨_,rfl,?_⟩
    refine qao [(1,0),(1,1),(1,2),(12,0)] rfl (by simp only[simprocAttr,-rR,-rS,qal,L8k0,qam,h0,h1,h2,phd.nms,prt.nms,qag,qac,qaa]) rfl ⟨_,none,rfl,.inr ⟨by omega,rfl⟩,?_,?_,?_,?_⟩
    · exact qai (1,0) rfl (by simp (disch:=first|omega|decide|simp only[nmsB,lB]) only[simprocAttr,-rR,-rS,memB,h0,qab]) (qap _ _)
    · exact qai (1,1) rfl (by simp (disch:=first|omega|decide|simp only[nmsB,lB]) only[simprocAttr,-rR,-rS,memB,h1,qab]) (phd.ren 7 _)
    · exact qai (1,2) rfl (by simp (disch:=first|omega|decide|simp only[nmsB,lB]) only[simprocAttr,-rR,-rS,memB,h2,qab]) (prt.ren 7 _)
    · rw[nB8_succ,←List.append_assoc]; exact qai (12,0) rfl (by simp (disch:=first|omega|decide|simp only[nmsB,lB]) only[simprocAttr,-rR,-rS,memB,qab]) (qap _ _)
  · simp (disch := first | omega | decide | simp only [nmsB, lB]) only [simprocAttr, -rR, -rS, leB, memB, arrB, numB, qaf, opsB, qay, qaj, L8b0, hi, h0, h1, h2, h3, k0, hf1, qab, qad, qac, qaa, qah]
    rw[List.take_of_length_le (Nat.le_of_eq hl)]
    refine ⟨_,rfl,?_⟩
    refine qao [(1,0),(1,1),(1,2),(12,0)] rfl (by simp only[simprocAttr,-rR,-rS,qal,L8k0,qam,h0,h1,h2,phd.nms,prt.nms,qag,qac,qaa]) rfl ⟨_,none,rfl,.inr ⟨by omega,rfl⟩,?_,?_,?_,?_⟩
    · exact qai (1,0) rfl (by simp (disch:=first|omega|decide|simp only[nmsB,lB]) only[simprocAttr,-rR,-rS,memB,h0,qab]) (qap _ _)
    · exact qai (1,1) rfl (by simp (disch:=first|omega|decide|simp only[nmsB,lB]) only[simprocAttr,-rR,-rS,memB,h1,qab]) (phd.ren 7 _)
    · exact qai (1,2) rfl (by simp (disch:=first|omega|decide|simp only[nmsB,lB]) only[simprocAttr,-rR,-rS,memB,h2,qab]) (prt.ren 7 _)
    · rw[nB8_succ,←List.append_assoc]; exact qai (12,0) rfl (by simp (disch:=first|omega|decide|simp only[nmsB,lB]) only[simprocAttr,-rR,-rS,memB,qab]) (qap _ _)
def appZV (b size bytes:Nat) (z:qak) (H:Heap):Option Nat→LV→Option Out
  | some k,.sl m off len none es=>(match H m with
    | some cs=>if es=size∧(len+k)*bytes≤211106232532992∧k < 2 ^ 62∧bytes≤2 ^ 20∧z.all qaE=true∧off+len*size≤cs.length then
        some ⟨.sl (b,0) 0 (len+k) none size,[(cs.drop off).take (len*size)++(List.replicate k z).flatten],[(m,none)]⟩ else none
    | none=>none)
  | _,_=>none
theorem op_appz {E:Env} {tm:List LV} {H:Heap} {b:Nat} (size bytes:Nat) (z:qak) (x y:LX):qa1 E tm H b (.appz size bytes z x y)=appZV b size bytes z H (qci (evX E.gl tm y)) (evX E.gl tm x):=by
  simp only[qa1,qa0,qbw]
  generalize qci (evX E.gl tm y)=k
  generalize evX E.gl tm x=v
  cases k with
  | none=>cases v <;> rfl
  | some k =>
    cases v with
    | sl m off len c es=>cases c <;> rfl
    | _=>rfl
theorem flat_rep (k:Nat) (x:LV):(List.replicate k [x]).flatten=List.replicate k x:=by
  induction k with
  | zero=>rfl
  | succ k ih=>rw[List.replicate_succ,List.flatten_cons,ih]; rfl
theorem appZV_bs {b:Nat} {H:Heap} {m:Nm} {l:List (BitVec 8)} {len k:Nat} (h:H m=some (bs l)) (hl:l.length=len) (hk:len+k < 1000000) :
    appZV b 1 1 [B8 0#8] H (some k) (.sl m 0 len none 1)=some ⟨.sl (b,0) 0 (len+k) none 1,[bs (l++List.replicate k 0#8)],[(m,none)]⟩:=by
  simp only[appZV,h]
  rw[if_pos ⟨trivial,by omega,by omega,by decide,rfl,by rw[qaQ]; omega⟩,zF,List.take_of_length_le (by rw[qaQ]; omega),flat_rep]
  simp only[bs,List.map_append,List.map_replicate]
theorem f4_nB8 (f:Nat) (h:f < 4294967296):nB8 (BitVec.ofNat 64 f) 4=f4 f:=by
  have e:∀ j,(BitVec.ofNat 64 f >>> j).setWidth 8=BitVec.ofNat 8 (f / 2 ^ j):=fun j=>by
    apply BitVec.eq_of_toNat_eq
    rw[BitVec.toNat_setWidth,BitVec.toNat_ushiftRight,BitVec.toNat_ofNat,BitVec.toNat_ofNat,Nat.shiftRight_eq_div_pow,Nat.mod_eq_of_lt (show f < 2 ^ 64 by omega)]
  simp only[nB8,show List.range 4=[0,1,2,3] from rfl,zB,zA,e,f4]
  simp
theorem rRootBlock_F (k:Nat) (key:List (BitVec 8)) (hkey:key.length=32) (g:BitVec 64) (s:Nat) (sl j sg ti me la:Int) (nm:List (BitVec 8)) (hnm:nm.length=16) (hh:hcOk g s sl j sg ti me la) (c:BitVec 64) (rk:Bool) (f:Nat) (tr:List (BitVec 8)) (ht:tr.length=32) (hf:f≤s) (hr:rk=false→f=0) :
    F C (k+1400) 8 [.agg (bs key),.agg (HC g s sl j sg ti me la nm),.agg (RC c rk f tr)] []=some (.tup [.sl (1,0) 0 512 none 1,N 0],[],[bs (qb1 key s nm c rk f tr)]):=by
  rw[qaK Tb.f8]
  have hpH:=qcX g s sl j sg ti me la nm
  have hpR:=qdH c rk f tr
  obtain ⟨k0,k1,k2⟩:=RC_k c rk f tr
  have hk2:qaY 2 1 (some (RC c rk f tr))=some [N f]:=k2
  have hk1:qaY 1 1 (some (HC g s sl j sg ti me la nm))=some [N s]:=HC_k1 g s sl j sg ti me la nm
  have hc:=fun b H=>qgU (k+1389) b H g s sl j sg ti me la nm hnm
  rw[if_pos hh] at hc
  have hs:=hh.2.1
  have hfs:¬ s < f:=by omega
  have hlen:(RC c rk f tr).length=35:=by simp only[RC,zG,qaQ,ht]
  cases rk with
  | true =>
    simp (disch:=first|omega|decide|simp only[nmsB,lB]) only[simprocAttr,-rR,-rS,leB,memB,arrB,numB,qaf,opsB,qay,qaj,L8,hpH.isCell,hpR.isCell,qbB,qdl g s sl j sg ti me la nm hnm,hc,k1,hk1,hk2,hfs,Nat.not_lt_zero,qab,qad,qac,qaa,qah]
    generalize hL:qa2 L8k0 _ _ _=z
    refine qaR hL (rzJ key (HC g s sl j sg ti me la nm) (RC c true f tr) c) 8 (by omega) (fun i st hi hJ=>rz_round _ _ key _ _ hpH hpR c k0 i hi st hJ) ?_ ?_ ?_
    · refine qao [(2, 0), (3, 0), (4, 0), (32, 0)] rfl (by simp only [simprocAttr, -rR, -rS, qal, L8k0, qam, hpH.nms, hpR.nms, qag, qac, qaa]) rfl ⟨_, some 4, rfl, .inl ⟨rfl, rfl⟩, ?_, ?_, ?_, ?_⟩
      · exact qai (2,0) rfl rfl (qap _ _)
      · exact qai (3,0) rfl rfl (hpH.ren 7 _)
      · exact qai (4,0) rfl rfl (hpR.ren 7 _)
      · exact qai (32,0) rfl rfl (qap _ _)
    · rintro st ⟨H, cp, rfl, hcp, h0, h1, h2, h3⟩
      apply qaN
      simp (disch:=first|omega|decide|simp only[nmsB,lB]) only[simprocAttr,-rR,-rS,leB,memB,arrB,numB,qaf,L8b0,qae,qab,qad,qac,qaa]
      rfl
    · rintro st ⟨H, cp, rfl, hcp, h0, h1, h2, h3⟩ rfl
      obtain ⟨h8,_⟩ | ⟨_,rfl⟩:=hcp
      · cases h8
      have h4:=fun (b n:Nat) H=>qhA (k+1398) b n H
      have hf1:∀ y:BitVec 8,qb4 0 1 1 (some [B8 y])=some (bs [y]):=fun y=>rfl
      have hft:qb4 3 1 32 (some (RC c true f tr))=some (bs tr):=by
        rw[qb4,if_pos (by rw[hlen]; decide),zX,RC_tr c true f tr ht]
      have hfn:qb4 8 1 16 (some (HC g s sl j sg ti me la nm))=some (bs nm):=by
        rw[qb4,if_pos (by simp only[HC,zG,qaQ,hnm]; decide),zX,HC_nm g s sl j sg ti me la nm hnm]
      have hf4:∀ x,qb4 0 1 4 (some (bs (f4 x)))=some (bs (f4 x)):=fun x=>qah 4 _ rfl
      have l12:(qcY++nB8 c 8).length=12:=by rw[zH,qb5]; rfl
      generalize hB0:qcY++nB8 c 8=B0 at *
      have t12:List.take 12 B0=B0:=List.take_of_length_le (Nat.le_of_eq l12)
      have l13:(B0++[1#8]).length=13:=by rw[zH,l12]; rfl
      have t13:List.take 13 (B0++[1#8])=B0++[1#8]:=List.take_of_length_le (Nat.le_of_eq l13)
      have l17:(B0++[1#8]++f4 f).length=17:=by rw[zH,l13]; rfl
      have t17:List.take 17 (B0++[1#8]++f4 f)=B0++[1#8]++f4 f:=List.take_of_length_le (Nat.le_of_eq l17)
      simp (disch:=first|omega|decide|simp only[nmsB,lB]) only[simprocAttr,-rR,-rS,leB,memB,arrB,numB,qaf,opsB,ordB,qal,qay,qaj,qaP,L8b0,h0,h1,h2,h3,k1,hk2,hk1,h4,hf1,hft,hfn,hf4,t12,t13,t17,l12,l13,l17,qab,qad,qac,qaa,qaA,qag,qah]
      have heB:B0++[1#8]++f4 f++tr=qbW c true f tr:=by
        rw[qbW,hB0,f4_nB8 f (by omega)]; rfl
      have l49:=qbV c true f tr ht
      rw[heB]
      generalize hRB:qbW c true f tr=RB at *
      have hf49:qb4 0 1 49 (some (bs RB))=some (bs RB):=qah 49 _ l49.symm
      have hap:∀ b' H m,appX b' 1 1 49 H [] (bs RB) (.sl m 0 0 (some 0) 1)=some ⟨.sl (b',0) 0 49 none 1,[bs RB],[]⟩:=fun b' H m=>appX_e b' 49 H m (bs RB) (by decide) (by decide)
      have t49:List.take 49 RB=RB:=List.take_of_length_le (Nat.le_of_eq l49)
      have l65:(RB++nm).length=65:=by rw[zH,l49,hnm]
      have t65:List.take 65 (RB++nm)=RB++nm:=List.take_of_length_le (Nat.le_of_eq l65)
      have l69:(RB++nm++f4 s).length=69:=by rw[zH,l65]; rfl
      simp (disch:=first|omega|decide|simp only[nmsB,lB]) only[simprocAttr,-rR,-rS,leB,memB,arrB,numB,qaf,opsB,ordB,qal,qay,qaj,qaP,h0,h1,h2,h3,k1,hk2,hk1,h4,hf1,hft,hfn,hf4,hf49,hap,t49,t65,l49,l65,l69,qab,qad,qac,qaa,qaA,qag,qah]
      rw [Sha.rtag_call (k + 1399) _ _ _ _ key (RB ++ nm ++ f4 s) ⟨[(1, 0)], qbH _ (1, 0) 0 32 _ (bs key) key (by exact h0) (by rw [zF, List.take_of_length_le (by rw [qaQ]; omega)]) hkey (by decide) 6, rfl⟩
        ⟨[(30,0)],qbH _ (30,0) 0 69 _ (bs (RB++nm++f4 s)) (RB++nm++f4 s) (by exact rfl) (by rw[zF,List.take_of_length_le (by rw[qaQ]; omega)]) l69 (by decide) 6,rfl⟩ (by omega) (by omega) (by omega),List.append_assoc RB nm]
      have hftag:qb4 0 1 32 (some (aB 32 (Sha.tagv key (RB++(nm++f4 s)))))=some (bs (tagL key (RB++(nm++f4 s)))):=by
        rw[aB_tagL]; exact qah 32 _ (qbO _ _).symm
      have l81:(RB++tagL key (RB++(nm++f4 s))).length=81:=by rw[zH,l49,qbO]
      simp (disch:=first|omega|decide|simp only[nmsB,lB]) only[simprocAttr,-rR,-rS,leB,memB,arrB,numB,qaf,opsB,ordB,qal,qay,qaj,qaP,h0,h1,h2,h3,hftag,t49,l49,l81,op_appz,qab,qad,qac,qaa,qaA,qag,qah]
      rw[appZV_bs (l:=RB++tagL key (RB++(nm++f4 s))) (by exact rfl) l81 (by decide)]
      simp (disch:=first|omega|decide|simp only[nmsB,lB]) only[simprocAttr,-rR,-rS,leB,memB,arrB,numB,qaf,opsB,ordB,qal,qay,qaj,qaP,qab,qad,qac,qaa,qaA,qag,qah]
      rw[show qb1 key s nm c true f tr=RB++tagL key (RB++(nm++f4 s))++List.replicate 431 0#8 by rw[qb1,hRB]]
      exact out_st _ _ _ 42 512 0 none _ (by decide) rfl
  | false =>
    obtain rfl:=hr rfl
    have hpR:PC (RC c false (0:Int) tr):=hpR
    have k0:qaY 0 1 (some (RC c false (0:Int) tr))=some [B64 c]:=k0
    have k1:qaY 1 1 (some (RC c false (0:Int) tr))=some [Bo false]:=k1
    have hk2:qaY 2 1 (some (RC c false (0:Int) tr))=some [N 0]:=hk2
    have hlen:(RC c false (0:Int) tr).length=35:=hlen
    simp (disch:=first|omega|decide|simp only[nmsB,lB]) only[simprocAttr,-rR,-rS,leB,memB,arrB,numB,qaf,opsB,qay,qaj,L8,hpH.isCell,hpR.isCell,qbB,qdl g s sl j sg ti me la nm hnm,hc,k1,hk1,hk2,hfs,Nat.not_lt_zero,qab,qad,qac,qaa,qah]
    generalize hL:qa2 L8k0 _ _ _=z
    refine qaR hL (rzJ key (HC g s sl j sg ti me la nm) (RC c false (0:Int) tr) c) 8 (by omega) (fun i st hi hJ=>rz_round _ _ key _ _ hpH hpR c k0 i hi st hJ) ?_ ?_ ?_
    · refine qao [(2, 0), (3, 0), (4, 0), (32, 0)] rfl (by simp only [simprocAttr, -rR, -rS, qal, L8k0, qam, hpH.nms, hpR.nms, qag, qac, qaa]) rfl ⟨_, some 4, rfl, .inl ⟨rfl, rfl⟩, ?_, ?_, ?_, ?_⟩
      · exact qai (2,0) rfl rfl (qap _ _)
      · exact qai (3,0) rfl rfl (hpH.ren 7 _)
      · exact qai (4,0) rfl rfl (hpR.ren 7 _)
      · exact qai (32,0) rfl rfl (qap _ _)
    · rintro st ⟨H, cp, rfl, hcp, h0, h1, h2, h3⟩
      apply qaN
      simp (disch:=first|omega|decide|simp only[nmsB,lB]) only[simprocAttr,-rR,-rS,leB,memB,arrB,numB,qaf,L8b0,qae,qab,qad,qac,qaa]
      rfl
    · rintro st ⟨H, cp, rfl, hcp, h0, h1, h2, h3⟩ rfl
      obtain ⟨h8,_⟩ | ⟨_,rfl⟩:=hcp
      · cases h8
      have h4:=fun (b n:Nat) H=>qhA (k+1398) b n H
      have hf1:∀ y:BitVec 8,qb4 0 1 1 (some [B8 y])=some (bs [y]):=fun y=>rfl
      have hft:qb4 3 1 32 (some (RC c false (0:Int) tr))=some (bs tr):=by
        rw[qb4,if_pos (by rw[hlen]; decide),zX,RC_tr c false 0 tr ht]
      have hfn:qb4 8 1 16 (some (HC g s sl j sg ti me la nm))=some (bs nm):=by
        rw[qb4,if_pos (by simp only[HC,zG,qaQ,hnm]; decide),zX,HC_nm g s sl j sg ti me la nm hnm]
      have hf4:∀ x,qb4 0 1 4 (some (bs (f4 x)))=some (bs (f4 x)):=fun x=>qah 4 _ rfl
      have l12:(qcY++nB8 c 8).length=12:=by rw[zH,qb5]; rfl
      generalize hB0:qcY++nB8 c 8=B0 at *
      have t12:List.take 12 B0=B0:=List.take_of_length_le (Nat.le_of_eq l12)
      have l13:(B0++[0#8]).length=13:=by rw[zH,l12]; rfl
      have t13:List.take 13 (B0++[0#8])=B0++[0#8]:=List.take_of_length_le (Nat.le_of_eq l13)
      have l17:(B0++[0#8]++f4 0).length=17:=by rw[zH,l13]; rfl
      have t17:List.take 17 (B0++[0#8]++f4 0)=B0++[0#8]++f4 0:=List.take_of_length_le (Nat.le_of_eq l17)
      simp (disch:=first|omega|decide|simp only[nmsB,lB]) only[simprocAttr,-rR,-rS,leB,memB,arrB,numB,qaf,opsB,ordB,qal,qay,qaj,qaP,L8b0,h0,h1,h2,h3,k1,hk2,hk1,h4,hf1,hft,hfn,hf4,t12,t13,t17,l12,l13,l17,qab,qad,qac,qaa,qaA,qag,qah]
      have heB:B0++[0#8]++f4 0++tr=qbW c false 0 tr:=by
        rw[qbW,hB0,f4_nB8 0 (by decide)]; rfl
      have l49:=qbV c false 0 tr ht
      rw[heB]
      generalize hRB:qbW c false 0 tr=RB at *
      have hf49:qb4 0 1 49 (some (bs RB))=some (bs RB):=qah 49 _ l49.symm
      have hap:∀ b' H m,appX b' 1 1 49 H [] (bs RB) (.sl m 0 0 (some 0) 1)=some ⟨.sl (b',0) 0 49 none 1,[bs RB],[]⟩:=fun b' H m=>appX_e b' 49 H m (bs RB) (by decide) (by decide)
      have t49:List.take 49 RB=RB:=List.take_of_length_le (Nat.le_of_eq l49)
      have l65:(RB++nm).length=65:=by rw[zH,l49,hnm]
      have t65:List.take 65 (RB++nm)=RB++nm:=List.take_of_length_le (Nat.le_of_eq l65)
      have l69:(RB++nm++f4 s).length=69:=by rw[zH,l65]; rfl
      simp (disch:=first|omega|decide|simp only[nmsB,lB]) only[simprocAttr,-rR,-rS,leB,memB,arrB,numB,qaf,opsB,ordB,qal,qay,qaj,qaP,h0,h1,h2,h3,k1,hk2,hk1,h4,hf1,hft,hfn,hf4,hf49,hap,t49,t65,l49,l65,l69,qab,qad,qac,qaa,qaA,qag,qah]
      rw [Sha.rtag_call (k + 1399) _ _ _ _ key (RB ++ nm ++ f4 s) ⟨[(1, 0)], qbH _ (1, 0) 0 32 _ (bs key) key (by exact h0) (by rw [zF, List.take_of_length_le (by rw [qaQ]; omega)]) hkey (by decide) 6, rfl⟩
        ⟨[(29,0)],qbH _ (29,0) 0 69 _ (bs (RB++nm++f4 s)) (RB++nm++f4 s) (by exact rfl) (by rw[zF,List.take_of_length_le (by rw[qaQ]; omega)]) l69 (by decide) 6,rfl⟩ (by omega) (by omega) (by omega),List.append_assoc RB nm]
      have hftag:qb4 0 1 32 (some (aB 32 (Sha.tagv key (RB++(nm++f4 s)))))=some (bs (tagL key (RB++(nm++f4 s)))):=by
        rw[aB_tagL]; exact qah 32 _ (qbO _ _).symm
      have l81:(RB++tagL key (RB++(nm++f4 s))).length=81:=by rw[zH,l49,qbO]
      simp (disch:=first|omega|decide|simp only[nmsB,lB]) only[simprocAttr,-rR,-rS,leB,memB,arrB,numB,qaf,opsB,ordB,qal,qay,qaj,qaP,h0,h1,h2,h3,hftag,t49,l49,l81,op_appz,qab,qad,qac,qaa,qaA,qag,qah]
      rw[appZV_bs (l:=RB++tagL key (RB++(nm++f4 s))) (by exact rfl) l81 (by decide)]
      simp (disch:=first|omega|decide|simp only[nmsB,lB]) only[simprocAttr,-rR,-rS,leB,memB,arrB,numB,qaf,opsB,ordB,qal,qay,qaj,qaP,qab,qad,qac,qaa,qaA,qag,qah]
      rw[show qb1 key s nm c false 0 tr=RB++tagL key (RB++(nm++f4 s))++List.replicate 431 0#8 by rw[qb1,hRB]]
      exact out_st _ _ _ 41 512 0 none _ (by decide) rfl
end Sl
namespace Sl
open Go Go.LE Tb
open Sha (Lent qbz)
set_option maxRecDepth 20000
theorem eqU_refl:∀ (cs:qak),(∀ x ∈ cs,∃ k n,x = .v (.int k n))→eqU .int cs cs=some true:=by
  intro cs
  induction cs with
  | nil=>intro _; rfl
  | cons x cs ih =>
    intro h
    obtain ⟨k,n,rfl⟩:=h x (by simp)
    have h2:=ih fun y hy=>h y (by simp[hy])
    have h0:qdf .int (.int k n) (.int k n)=some true:=by simp[qdf]
    simp only[eqU,h0,h2]
    rfl
theorem RC_refl (c:BitVec 64) (rk:Bool) (f:Int) (tr:List (BitVec 8)) (ht:tr.length=32):binV .eql (.flat [(1,.int),(1,.bool),(33,.int)]) (.agg (RC c rk f tr)) (.agg (RC c rk f tr))=some (Bo true):=by
  have hb:eqU .int (I f::bs tr) (I f::bs tr)=some true:=eqU_refl _ fun x hx=>by
    rcases List.mem_cons.1 hx with rfl | hx
    · exact ⟨_,_,rfl⟩
    · obtain ⟨y,_,rfl⟩:=List.mem_map.1 hx; exact ⟨_,_,rfl⟩
  have hl:(I f::bs tr).length=33:=by rw[zG,qaQ,ht]
  have h1:eqU .int [B64 c] [B64 c]=some true:=eqU_refl _ fun x hx=>by
    rw[List.mem_singleton] at hx; subst hx; exact ⟨_,_,rfl⟩
  have h2:eqU .bool [Bo rk] [Bo rk]=some true:=by cases rk <;> rfl
  have h:eqR [(1,.int),(1,.bool),(33,.int)] (RC c rk f tr) (RC c rk f tr)=some true:=by
    rw[eqR.eq_def]
    simp only[RC,zG,ze,zW,zd,zF,h1]
    rw[if_pos (by omega)]
    rw[eqR.eq_def]
    simp only[zG,ze,zW,zd,zF,h2]
    rw[if_pos (by omega)]
    rw[eqR.eq_def]
    simp only[]
    rw[if_pos ⟨by omega,by omega⟩,List.take_of_length_le (by omega),hb,List.drop_of_length_le (by omega)]
    simp[eqR]
  simp[binV,eqV,aggOf,h,Bo]
theorem call_newN {K b g:Nat} (hg:qaI g=fun _=>false) (H:Heap) {args:List LV} {l:List (BitVec 8)} {n z:Nat} (hn:args.flatMap (nms D)=[]) (hr:args.map (ren D (qaH []))=args)
    (hF:F C K g args []=some (.tup [.sl (1,0) 0 n none 1,N z],[],[bs l])):qax (envC C K) H b g args=some ⟨.tup [.sl (b,0) 0 n none 1,N z],[bs l],[]⟩:=by
  rw[Aes.qcl K b g hg H args args [] [] [] _ hn rfl hr rfl hF,qaT]
  have e:ren 7 (qbe [] b 1) (.sl (1,0) 0 n none 1) = .sl (b,0) 0 n none 1:=by simp[ren,qbh]
  simp only[qcr,zB,zA,qap,qa3,qej,e,zG,zM,qbh,zO,Nat.lt_one_iff,qbd,zE,List.zipWith_nil_left]
theorem qhE (k b:Nat) (H:Heap) (key:List (BitVec 8)) (hkey:key.length=32) (g:BitVec 64) (s:Nat) (sl j sg ti me la:Int) (nm:List (BitVec 8)) (hnm:nm.length=16) (hh:hcOk g s sl j sg ti me la) (c:BitVec 64) (rk:Bool) (f:Nat) (tr:List (BitVec 8)) (ht:tr.length=32) (hf:f≤s) (hr:rk=false→f=0) :
    qax (envC C (k+1400)) H b 8 [.agg (bs key),.agg (HC g s sl j sg ti me la nm),.agg (RC c rk f tr)]=some ⟨.tup [.sl (b,0) 0 512 none 1,N 0],[bs (qb1 key s nm c rk f tr)],[]⟩ :=
  call_newN l8 H (by simp only[zK,zN,(qcX g s sl j sg ti me la nm).anms,(qdH c rk f tr).anms,(PC.bs key).anms,zD]) (by simp only[zB,zA,(qcX g s sl j sg ti me la nm).aren,(qdH c rk f tr).aren,(PC.bs key).aren]) (rRootBlock_F k key hkey g s sl j sg ti me la nm hnm hh c rk f tr ht hf hr)
theorem rb_bad {k b g':Nat} (hg:qaI g'=fun _=>false) {H:Heap} {key nm tr:List (BitVec 8)} {g c:BitVec 64} {s sl j sg ti me la f:Int} {rk:Bool}
    (hF:F C k g' [.agg (bs key),.agg (HC g s sl j sg ti me la nm),.agg (RC c rk f tr)] []=some (.tup [Nil,N 1],[],[])) :
    qax (envC C k) H b g' [.agg (bs key),.agg (HC g s sl j sg ti me la nm),.agg (RC c rk f tr)]=some ⟨.tup [Nil,N 1],[],[]⟩:=by
  rw[qae hg (by simp only[zK,zN,(qcX g s sl j sg ti me la nm).anms,(qdH c rk f tr).anms,(PC.bs key).anms,zD]) (by simp only[zB,zA,(qcX g s sl j sg ti me la nm).aren,(qdH c rk f tr).aren,(PC.bs key).aren]),hF]
  rfl
theorem rtOk_nat {g:BitVec 64} {s sl j sg ti me la:Int} {rk:Bool} {f:Int} (h:rtOk g s sl j sg ti me la rk f):∃ s' f':Nat,s=s'∧f=f'∧f'≤s'∧(rk=false→f'=0)∧hcOk g s' sl j sg ti me la:=by
  obtain ⟨h1,h2,h3,h4⟩:=h
  have:=h1.2.1
  refine ⟨s.toNat,f.toNat,by omega,by omega,by omega,fun h=>by have:=h4 h; omega,?_⟩
  rw[show ((s.toNat:Nat):Int)=s by omega]; exact h1
instance (g:BitVec 64) (s sl j sg ti me la:Int) (rk:Bool) (f:Int):Decidable (rtOk g s sl j sg ti me la rk f):=by unfold rtOk; infer_instance
theorem sealRoots_F (k:Nat) (key:List (BitVec 8)) (hkey:key.length=32) (g:BitVec 64) (s sl j sg ti me la:Int) (nm:List (BitVec 8)) (hnm:nm.length=16) (c:BitVec 64) (rk:Bool) (f:Int) (tr:List (BitVec 8)) (ht:tr.length=32) :
    F C (k+12001) 3 [.agg (bs key),.agg (HC g s sl j sg ti me la nm),.agg (RC c rk f tr)] []=some (Bo true,[],[]):=by
  rw[qaK Tb.f3]
  have hlv:=fun b H=>lives_call k b H
  have hpH:=qcX g s sl j sg ti me la nm
  have hpR:=qdH c rk f tr
  have hlen:(RC c rk f tr).length=35:=by simp only[RC,zG,qaQ,ht]
  have hka:qaY 0 32 (some (bs key))=some (bs key):=by
    rw[qaY,if_pos (by rw[qaQ]; omega),zF,List.take_of_length_le (by rw[qaQ]; omega)]
  have hra:qaY 0 35 (some (RC c rk f tr))=some (RC c rk f tr):=by
    rw[qaY,if_pos (by omega),zF,List.take_of_length_le (by omega)]
  have hha:=qdl g s sl j sg ti me la nm hnm
  by_cases hok:rtOk g s sl j sg ti me la rk f
  · obtain ⟨s, f, rfl, rfl, hf, hr, hh⟩ := rtOk_nat hok
    have hA:∀ (b:Nat) (H:Heap),qax (envC C (k+12000)) H b 7 [.agg (bs key),.agg (HC g s sl j sg ti me la nm),.agg (RC c rk f tr)]=_:=fun b H=>qgc (k+10600) b H key hkey g s sl j sg ti me la nm hnm hh c rk f tr ht hf hr
    have hB:∀ (b:Nat) (H:Heap),qax (envC C (k+12000)) H b 8 [.agg (bs key),.agg (HC g s sl j sg ti me la nm),.agg (RC c rk f tr)]=_:=fun b H=>qhE (k+10600) b H key hkey g s sl j sg ti me la nm hnm hh c rk f tr ht hf hr
    have hR:∀ (b:Nat) (H:Heap) (m:Nm),H m=some (bs (qb1 key s nm c rk f tr))→qax (envC C (k+12000)) H b 10 [.agg (bs key),.agg (HC g s sl j sg ti me la nm),.sl m 0 512 (some 512) 1]=_:=fun b H m hm=>qgA (k+10500) b H key hkey g s sl j sg ti me la nm hnm hh c rk f tr ht hf hr (some 512) m hm
    have hbl:=(qhC key s nm c rk f tr ht).1
    have hrf:=RC_refl c rk f tr ht
    generalize qb1 key s nm c rk f tr=Q at *
    have hfq:qb4 0 1 512 (some (bs Q))=some (bs Q):=qah 512 _ hbl.symm
    simp (disch:=first|omega|decide|simp only[nmsB,lB]) only[simprocAttr,-rR,-rS,leB,memB,arrB,numB,qaf,opsB,ordB,qal,qay,qaj,qaP,L3,qbB,hpH.isCell,hpR.isCell,hka,hra,hha,hA,hB,hlv,hfq,hlen,op_b2s,b2sV_sl,b2sK_bs,txt_neq',qab,qad,qac,qaa,qaA,qag,qah]
    rw[hR _ _ _ rfl]
    simp (disch:=first|omega|decide|simp only[nmsB,lB]) only[simprocAttr,-rR,-rS,leB,memB,arrB,numB,qaf,opsB,ordB,qal,qay,qaj,qaP,qbB,hpH.isCell,hpR.isCell,hka,hra,hha,hlen,hrf,qab,qad,qac,qaa,qaA,qag,qah]
  · have hA := fun b H => rb_bad (b := b) (H := H) (k := k + 12000) l7 (RootBlock_bad (k + 11980) key hkey g s sl j sg ti me la nm hnm c rk f tr ht hok)
    have hB:=fun b H=>rb_bad (b:=b) (H:=H) (k:=k+12000) l8 (qhK (k+11980) key hkey g s sl j sg ti me la nm hnm c rk f tr ht hok)
    simp (disch:=first|omega|decide|simp only[nmsB,lB]) only[simprocAttr,-rR,-rS,leB,memB,arrB,numB,qaf,opsB,ordB,qal,qay,qaj,qaP,L3,qbB,hpH.isCell,hpR.isCell,hka,hra,hha,hA,hB,hlv,hlen,op_b2s,b2sV_sl,b2sK_bs,b2sV_nil',txt_neq',qab,qad,qac,qaa,qaA,qag,qah]
end Sl
