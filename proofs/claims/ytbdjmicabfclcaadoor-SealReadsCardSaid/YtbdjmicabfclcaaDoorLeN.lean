/- seal: the document's root block, evaluated. -/
import Derived.Test.YtbdjmicabfclcaaDoorLeM
set_option linter.unusedVariables false
set_option linter.unusedSimpArgs false
open List renaming reduceReplicate → rR
open Nat renaming reduceSubDiff → rS
namespace Sl
open Go Go.LE Tb
open Sha (Lent qbq)
set_option maxRecDepth 20000
def rtOk (g:BitVec 64) (s sl j sg ti me la:Int) (rk:Bool) (f:Int):Prop:=hcOk g s sl j sg ti me la∧0≤f∧f≤s∧(rk=false→f=0)
theorem RootBlock_bad (k:Nat) (key:List (BitVec 8)) (hkey:key.length=32) (g:BitVec 64) (s sl j sg ti me la:Int) (nm:List (BitVec 8)) (hnm:nm.length=16) (c:BitVec 64) (rk:Bool) (f:Int) (tr:List (BitVec 8)) (ht:tr.length=32) (hno:¬ rtOk g s sl j sg ti me la rk f) :
    F C (k+20) 7 [.agg (bs key),.agg (HC g s sl j sg ti me la nm),.agg (RC c rk f tr)] []=some (.tup [Nil,N 1],[],[]):=by
  rw[qaH Tb.f7]
  have hpH:=qcm g s sl j sg ti me la nm
  have hpR:=qbZ c rk f tr
  obtain ⟨k0,k1,k2⟩:=RC_k c rk f tr
  have hk1:=HC_k1 g s sl j sg ti me la nm
  have hc:=fun b H=>qdI (k+9) b H g s sl j sg ti me la nm hnm
  by_cases h0:hcOk g s sl j sg ti me la
  · rw [if_pos h0] at hc
    by_cases h1:f < 0
    · have d1 : decide (f < 0) = true := decide_eq_true h1
      simp (disch:=first|omega|decide|simp only[nmsB,lB]) only[simprocAttr,-rR,-rS,leB,memB,arrB,numB,qaf,opsB,qan,qai,L7,hpH.isCell,hpR.isCell,qbn,qcz g s sl j sg ti me la nm hnm,hc,k1,hk1,k2,qb5,d1,qab,qad,qac,qaa,qag]
      rw[qbB rfl (fun _=>rfl)]
    have d1:decide (f < 0)=false:=decide_eq_false h1
    by_cases h2:s < f
    · have d2 : decide (s < f) = true := decide_eq_true h2
      simp (disch:=first|omega|decide|simp only[nmsB,lB]) only[simprocAttr,-rR,-rS,leB,memB,arrB,numB,qaf,opsB,qan,qai,L7,hpH.isCell,hpR.isCell,qbn,qcz g s sl j sg ti me la nm hnm,hc,k1,hk1,k2,qb5,I_gtr,d1,d2,qab,qad,qac,qaa,qag]
      rw[qbB rfl (fun _=>rfl)]
    have d2:decide (s < f)=false:=decide_eq_false h2
    cases rk with
    | true=>exact absurd ⟨h0,by omega,by omega,fun h=>by cases h⟩ hno
    | false =>
      have h3:f≠0:=fun h3=>hno ⟨h0,by omega,by omega,fun _=>h3⟩
      have hb:(f != ((0:Nat):Int))=true:=bne_iff_ne.2 h3
      have e3:binV .neq .none (I f) (N 0)=some (Bo true):=by rw[N,I_neq,hb]
      simp (disch:=first|omega|decide|simp only[nmsB,lB]) only[simprocAttr,-rR,-rS,leB,memB,arrB,numB,qaf,opsB,qan,qai,L7,hpH.isCell,hpR.isCell,qbn,qcz g s sl j sg ti me la nm hnm,hc,k1,hk1,k2,qb5,I_gtr,d1,d2,e3,qab,qad,qac,qaa,qag]
      rw[qbB rfl (fun _=>rfl)]
  · rw [if_neg h0] at hc
    simp (disch:=first|omega|decide|simp only[nmsB,lB]) only[simprocAttr,-rR,-rS,leB,memB,arrB,numB,qaf,opsB,qan,qai,L7,hpH.isCell,hpR.isCell,qbn,qcz g s sl j sg ti me la nm hnm,hc,k1,hk1,k2,qab,qad,qac,qaa,qag]
    rw[qbB rfl (fun _=>rfl)]
theorem qhW (k:Nat) (key:List (BitVec 8)) (hkey:key.length=32) (g:BitVec 64) (s sl j sg ti me la:Int) (nm:List (BitVec 8)) (hnm:nm.length=16) (c:BitVec 64) (rk:Bool) (f:Int) (tr:List (BitVec 8)) (ht:tr.length=32) (hno:¬ rtOk g s sl j sg ti me la rk f) :
    F C (k+20) 8 [.agg (bs key),.agg (HC g s sl j sg ti me la nm),.agg (RC c rk f tr)] []=some (.tup [Nil,N 1],[],[]):=by
  rw[qaH Tb.f8]
  have hpH:=qcm g s sl j sg ti me la nm
  have hpR:=qbZ c rk f tr
  obtain ⟨k0,k1,k2⟩:=RC_k c rk f tr
  have hk1:=HC_k1 g s sl j sg ti me la nm
  have hc:=fun b H=>qeQ (k+9) b H g s sl j sg ti me la nm hnm
  by_cases h0:hcOk g s sl j sg ti me la
  · rw [if_pos h0] at hc
    by_cases h1:f < 0
    · have d1 : decide (f < 0) = true := decide_eq_true h1
      simp (disch:=first|omega|decide|simp only[nmsB,lB]) only[simprocAttr,-rR,-rS,leB,memB,arrB,numB,qaf,opsB,qan,qai,L8,hpH.isCell,hpR.isCell,qbn,qcz g s sl j sg ti me la nm hnm,hc,k1,hk1,k2,qb5,d1,qab,qad,qac,qaa,qag]
      rw[qbB rfl (fun _=>rfl)]
    have d1:decide (f < 0)=false:=decide_eq_false h1
    by_cases h2:s < f
    · have d2 : decide (s < f) = true := decide_eq_true h2
      simp (disch:=first|omega|decide|simp only[nmsB,lB]) only[simprocAttr,-rR,-rS,leB,memB,arrB,numB,qaf,opsB,qan,qai,L8,hpH.isCell,hpR.isCell,qbn,qcz g s sl j sg ti me la nm hnm,hc,k1,hk1,k2,qb5,I_gtr,d1,d2,qab,qad,qac,qaa,qag]
      rw[qbB rfl (fun _=>rfl)]
    have d2:decide (s < f)=false:=decide_eq_false h2
    cases rk with
    | true=>exact absurd ⟨h0,by omega,by omega,fun h=>by cases h⟩ hno
    | false =>
      have h3:f≠0:=fun h3=>hno ⟨h0,by omega,by omega,fun _=>h3⟩
      have hb:(f != ((0:Nat):Int))=true:=bne_iff_ne.2 h3
      have e3:binV .neq .none (I f) (N 0)=some (Bo true):=by rw[N,I_neq,hb]
      simp (disch:=first|omega|decide|simp only[nmsB,lB]) only[simprocAttr,-rR,-rS,leB,memB,arrB,numB,qaf,opsB,qan,qai,L8,hpH.isCell,hpR.isCell,qbn,qcz g s sl j sg ti me la nm hnm,hc,k1,hk1,k2,qb5,I_gtr,d1,d2,e3,qab,qad,qac,qaa,qag]
      rw[qbB rfl (fun _=>rfl)]
  · rw [if_neg h0] at hc
    simp (disch:=first|omega|decide|simp only[nmsB,lB]) only[simprocAttr,-rR,-rS,leB,memB,arrB,numB,qaf,opsB,qan,qai,L8,hpH.isCell,hpR.isCell,qbn,qcz g s sl j sg ti me la nm hnm,hc,k1,hk1,k2,qab,qad,qac,qaa,qag]
    rw[qbB rfl (fun _=>rfl)]
end Sl
namespace Sl
open Go Go.LE Tb
open Sha (Lent qbq)
set_option maxRecDepth 20000
def rzJ (key:List (BitVec 8)) (hd rt:qal) (c:BitVec 64) (i:Nat) (st:St):Prop := ∃ (H:Heap) (cp:Option Nat),
  st=⟨[.undef,.undef,.undef,.ptr (1,0) 0,.ptr (1,1) 0,.ptr (1,2) 0,.undef,.undef,.sl (1,3) 0 (4+i) cp 1,N i,.undef,.undef,.undef,.undef,.undef,.undef,.undef,.undef,.undef,.undef,.undef,.undef,.undef,.undef,.undef,.undef,.undef,.undef,.undef,.undef,.undef,.undef,.undef,.undef,.undef,.undef,.undef,.undef,.undef,.undef,.undef,.undef,.undef,.undef,.undef,.undef,.undef,.undef,.undef,.undef,.undef,.undef,.undef,.undef,.undef,.undef,.undef,.undef,.undef,.undef,.undef,.undef,.undef,.undef,.undef,.undef,.undef,.undef,.undef,.undef,.undef,.undef,.undef,.undef,.undef,.undef,.undef,.undef,.undef,.undef,.undef,.undef,.undef,.undef,.undef],H,2,0⟩∧((i=0∧cp=some 4)∨(0 < i∧cp=none)) ∧
  H (1,0)=some (bs key)∧H (1,1)=some hd∧H (1,2)=some rt∧H (1,3)=some (bs (qc4++nB8 c i))
theorem rz_round (k K:Nat) (key:List (BitVec 8)) (hd rt:qal) (phd:PC hd) (prt:PC rt) (c:BitVec 64) (k0:qaS 0 1 (some rt)=some [B64 c]) (i:Nat) (hi:i < 8) (st:St) (hJ:rzJ key hd rt c i st) :
    ∃ st1,ev (envC C k) K L8b0 st=some (.normal,st1)∧rzJ key hd rt c (i+1) (qa8 L8k0 st1):=by
  obtain ⟨H,cp,rfl,hcp,h0,h1,h2,h3⟩:=hJ
  have h8:8*i < 64:=by omega
  have hl:(qc4++nB8 c i).length=4+i:=by rw[zH,qca]; rfl
  have hf1:∀ y:BitVec 8,qb8 0 1 1 (some [B8 y])=some (bs [y]):=fun y=>rfl
  rcases hcp with ⟨rfl,rfl⟩ | ⟨hi0,rfl⟩
  · have ha:∀ (b:Nat) (H:Heap) (y:BitVec 8),H (1,3)=some (bs (qc4++nB8 c 0))→appX b 1 1 1 H [] (bs [y]) (.sl (1,3) 0 4 (some 4) 1)=some ⟨.sl (b,0) 0 5 none 1,[bs (qc4++nB8 c 0++[y])],[]⟩:=fun b H y h=>by
      rw[qc9 1 (1,3) 0 4 4 _ [y] h (by omega) (by decide) (by decide),zF,List.take_of_length_le (by omega)]
    simp (disch:=first|omega|decide|simp only[nmsB,lB]) only[simprocAttr,-rR,-rS,leB,memB,arrB,numB,qaf,opsB,qan,qai,L8b0,h0,h1,h2,h3,k0,hf1,qab,qad,qac,qaa,qag]
    refine ⟨_,rfl,?_⟩
    refine qao [(1,0),(1,1),(1,2),(12,0)] rfl (by simp only[simprocAttr,-rR,-rS,qak,L8k0,qam,h0,h1,h2,phd.nms,prt.nms,qah,qac,qaa]) rfl ⟨_,none,rfl,.inr ⟨by omega,rfl⟩,?_,?_,?_,?_⟩
    · exact qaj (1,0) rfl (by simp (disch:=first|omega|decide|simp only[nmsB,lB]) only[simprocAttr,-rR,-rS,memB,h0,qab]) (qaq _ _)
    · exact qaj (1,1) rfl (by simp (disch:=first|omega|decide|simp only[nmsB,lB]) only[simprocAttr,-rR,-rS,memB,h1,qab]) (phd.ren 7 _)
    · exact qaj (1,2) rfl (by simp (disch:=first|omega|decide|simp only[nmsB,lB]) only[simprocAttr,-rR,-rS,memB,h2,qab]) (prt.ren 7 _)
    · rw[nB8_succ,←List.append_assoc]; exact qaj (12,0) rfl (by simp (disch:=first|omega|decide|simp only[nmsB,lB]) only[simprocAttr,-rR,-rS,memB,qab]) (qaq _ _)
  · simp (disch := first | omega | decide | simp only [nmsB, lB]) only [simprocAttr, -rR, -rS, leB, memB, arrB, numB, qaf, opsB, qan, qai, L8b0, hi, h0, h1, h2, h3, k0, hf1, qab, qad, qac, qaa, qag]
    rw[List.take_of_length_le (Nat.le_of_eq hl)]
    refine ⟨_,rfl,?_⟩
    refine qao [(1,0),(1,1),(1,2),(12,0)] rfl (by simp only[simprocAttr,-rR,-rS,qak,L8k0,qam,h0,h1,h2,phd.nms,prt.nms,qah,qac,qaa]) rfl ⟨_,none,rfl,.inr ⟨by omega,rfl⟩,?_,?_,?_,?_⟩
    · exact qaj (1,0) rfl (by simp (disch:=first|omega|decide|simp only[nmsB,lB]) only[simprocAttr,-rR,-rS,memB,h0,qab]) (qaq _ _)
    · exact qaj (1,1) rfl (by simp (disch:=first|omega|decide|simp only[nmsB,lB]) only[simprocAttr,-rR,-rS,memB,h1,qab]) (phd.ren 7 _)
    · exact qaj (1,2) rfl (by simp (disch:=first|omega|decide|simp only[nmsB,lB]) only[simprocAttr,-rR,-rS,memB,h2,qab]) (prt.ren 7 _)
    · rw[nB8_succ,←List.append_assoc]; exact qaj (12,0) rfl (by simp (disch:=first|omega|decide|simp only[nmsB,lB]) only[simprocAttr,-rR,-rS,memB,qab]) (qaq _ _)
def appZV (b size bytes:Nat) (z:qal) (H:Heap):Option Nat→LV→Option Out
  | some k,.sl m off len none es=>(match H m with
    | some cs=>if es=size∧(len+k)*bytes≤211106232532992∧k < 2 ^ 62∧bytes≤2 ^ 20∧z.all qaB=true∧off+len*size≤cs.length then
        some ⟨.sl (b,0) 0 (len+k) none size,[(cs.drop off).take (len*size)++(List.replicate k z).flatten],[(m,none)]⟩ else none
    | none=>none)
  | _,_=>none
theorem op_appz {E:Env} {tm:List LV} {H:Heap} {b:Nat} (size bytes:Nat) (z:qal) (x y:LX):qa4 E tm H b (.appz size bytes z x y)=appZV b size bytes z H (qco (evX E.gl tm y)) (evX E.gl tm x):=by
  simp only[qa4,qa2,qbz]
  generalize qco (evX E.gl tm y)=k
  generalize evX E.gl tm x=v
  cases k with
  | none=>cases v <;> rfl
  | some k =>
    cases v with
    | sl m off len c es=>cases c <;> rfl
    | _=>rfl
theorem flat_rep (k:Nat) (x:LV):(List.replicate k [x]).flatten=List.replicate k x:=by
  induction k with
  | zero=>rfl
  | succ k ih=>rw[List.replicate_succ,List.flatten_cons,ih]; rfl
theorem appZV_bs {b:Nat} {H:Heap} {m:Nm} {l:List (BitVec 8)} {len k:Nat} (h:H m=some (bs l)) (hl:l.length=len) (hk:len+k < 1000000) :
    appZV b 1 1 [B8 0#8] H (some k) (.sl m 0 len none 1)=some ⟨.sl (b,0) 0 (len+k) none 1,[bs (l++List.replicate k 0#8)],[(m,none)]⟩:=by
  simp only[appZV,h]
  rw[if_pos ⟨trivial,by omega,by omega,by decide,rfl,by rw[qaM]; omega⟩,zF,List.take_of_length_le (by rw[qaM]; omega),flat_rep]
  simp only[bs,List.map_append,List.map_replicate]
theorem f4_nB8 (f:Nat) (h:f < 4294967296):nB8 (BitVec.ofNat 64 f) 4=f4 f:=by
  have e:∀ j,(BitVec.ofNat 64 f >>> j).setWidth 8=BitVec.ofNat 8 (f / 2 ^ j):=fun j=>by
    apply BitVec.eq_of_toNat_eq
    rw[BitVec.toNat_setWidth,BitVec.toNat_ushiftRight,BitVec.toNat_ofNat,BitVec.toNat_ofNat,Nat.shiftRight_eq_div_pow,Nat.mod_eq_of_lt (show f < 2 ^ 64 by omega)]
  simp only[nB8,show List.range 4=[0,1,2,3] from rfl,zB,zA,e,f4]
  simp
theorem rRootBlock_F (k:Nat) (key:List (BitVec 8)) (hkey:key.length=32) (g:BitVec 64) (s:Nat) (sl j sg ti me la:Int) (nm:List (BitVec 8)) (hnm:nm.length=16) (hh:hcOk g s sl j sg ti me la) (c:BitVec 64) (rk:Bool) (f:Nat) (tr:List (BitVec 8)) (ht:tr.length=32) (hf:f≤s) (hr:rk=false→f=0) :
    F C (k+1400) 8 [.agg (bs key),.agg (HC g s sl j sg ti me la nm),.agg (RC c rk f tr)] []=some (.tup [.sl (1,0) 0 512 none 1,N 0],[],[bs (qbL key s nm c rk f tr)]):=by
  rw[qaH Tb.f8]
  have hpH:=qcm g s sl j sg ti me la nm
  have hpR:=qbZ c rk f tr
  obtain ⟨k0,k1,k2⟩:=RC_k c rk f tr
  have hk2:qaS 2 1 (some (RC c rk f tr))=some [N f]:=k2
  have hk1:qaS 1 1 (some (HC g s sl j sg ti me la nm))=some [N s]:=HC_k1 g s sl j sg ti me la nm
  have hc:=fun b H=>qeQ (k+1389) b H g s sl j sg ti me la nm hnm
  rw[if_pos hh] at hc
  have hs:=hh.2.1
  have hfs:¬ s < f:=by omega
  have hlen:(RC c rk f tr).length=35:=by simp only[RC,zE,qaM,ht]
  cases rk with
  | true =>
    simp (disch:=first|omega|decide|simp only[nmsB,lB]) only[simprocAttr,-rR,-rS,leB,memB,arrB,numB,qaf,opsB,qan,qai,L8,hpH.isCell,hpR.isCell,qbn,qcz g s sl j sg ti me la nm hnm,hc,k1,hk1,hk2,hfs,Nat.not_lt_zero,qab,qad,qac,qaa,qag]
    generalize hL:qa1 L8k0 _ _ _=z
    refine qaR hL (rzJ key (HC g s sl j sg ti me la nm) (RC c true f tr) c) 8 (by omega) (fun i st hi hJ=>rz_round _ _ key _ _ hpH hpR c k0 i hi st hJ) ?_ ?_ ?_
    · refine qao [(2, 0), (3, 0), (4, 0), (32, 0)] rfl (by simp only [simprocAttr, -rR, -rS, qak, L8k0, qam, hpH.nms, hpR.nms, qah, qac, qaa]) rfl ⟨_, some 4, rfl, .inl ⟨rfl, rfl⟩, ?_, ?_, ?_, ?_⟩
      · exact qaj (2,0) rfl rfl (qaq _ _)
      · exact qaj (3,0) rfl rfl (hpH.ren 7 _)
      · exact qaj (4,0) rfl rfl (hpR.ren 7 _)
      · exact qaj (32,0) rfl rfl (qaq _ _)
    · rintro st ⟨H, cp, rfl, hcp, h0, h1, h2, h3⟩
      apply qaO
      simp (disch:=first|omega|decide|simp only[nmsB,lB]) only[simprocAttr,-rR,-rS,leB,memB,arrB,numB,qaf,L8b0,qae,qab,qad,qac,qaa]
      rfl
    · rintro st ⟨H, cp, rfl, hcp, h0, h1, h2, h3⟩ rfl
      obtain ⟨h8,_⟩ | ⟨_,rfl⟩:=hcp
      · cases h8
      have h4:=fun (b n:Nat) H=>qhN (k+1398) b n H
      have hf1:∀ y:BitVec 8,qb8 0 1 1 (some [B8 y])=some (bs [y]):=fun y=>rfl
      have hft:qb8 3 1 32 (some (RC c true f tr))=some (bs tr):=by
        rw[qb8,if_pos (by rw[hlen]; decide),zX,RC_tr c true f tr ht]
      have hfn:qb8 8 1 16 (some (HC g s sl j sg ti me la nm))=some (bs nm):=by
        rw[qb8,if_pos (by simp only[HC,zE,qaM,hnm]; decide),zX,HC_nm g s sl j sg ti me la nm hnm]
      have hf4:∀ x,qb8 0 1 4 (some (bs (f4 x)))=some (bs (f4 x)):=fun x=>qag 4 _ rfl
      have l12:(qc4++nB8 c 8).length=12:=by rw[zH,qca]; rfl
      generalize hB0:qc4++nB8 c 8=B0 at *
      have t12:List.take 12 B0=B0:=List.take_of_length_le (Nat.le_of_eq l12)
      have l13:(B0++[1#8]).length=13:=by rw[zH,l12]; rfl
      have t13:List.take 13 (B0++[1#8])=B0++[1#8]:=List.take_of_length_le (Nat.le_of_eq l13)
      have l17:(B0++[1#8]++f4 f).length=17:=by rw[zH,l13]; rfl
      have t17:List.take 17 (B0++[1#8]++f4 f)=B0++[1#8]++f4 f:=List.take_of_length_le (Nat.le_of_eq l17)
      simp (disch:=first|omega|decide|simp only[nmsB,lB]) only[simprocAttr,-rR,-rS,leB,memB,arrB,numB,qaf,opsB,ordB,qak,qan,qai,qaI,L8b0,h0,h1,h2,h3,k1,hk2,hk1,h4,hf1,hft,hfn,hf4,t12,t13,t17,l12,l13,l17,qab,qad,qac,qaa,qas,qah,qag]
      have heB:B0++[1#8]++f4 f++tr=qb2 c true f tr:=by
        rw[qb2,hB0,f4_nB8 f (by omega)]; rfl
      have l49:=qb1 c true f tr ht
      rw[heB]
      generalize hRB:qb2 c true f tr=RB at *
      have hf49:qb8 0 1 49 (some (bs RB))=some (bs RB):=qag 49 _ l49.symm
      have hap:∀ b' H m,appX b' 1 1 49 H [] (bs RB) (.sl m 0 0 (some 0) 1)=some ⟨.sl (b',0) 0 49 none 1,[bs RB],[]⟩:=fun b' H m=>appX_e b' 49 H m (bs RB) (by decide) (by decide)
      have t49:List.take 49 RB=RB:=List.take_of_length_le (Nat.le_of_eq l49)
      have l65:(RB++nm).length=65:=by rw[zH,l49,hnm]
      have t65:List.take 65 (RB++nm)=RB++nm:=List.take_of_length_le (Nat.le_of_eq l65)
      have l69:(RB++nm++f4 s).length=69:=by rw[zH,l65]; rfl
      simp (disch:=first|omega|decide|simp only[nmsB,lB]) only[simprocAttr,-rR,-rS,leB,memB,arrB,numB,qaf,opsB,ordB,qak,qan,qai,qaI,h0,h1,h2,h3,k1,hk2,hk1,h4,hf1,hft,hfn,hf4,hf49,hap,t49,t65,l49,l65,l69,qab,qad,qac,qaa,qas,qah,qag]
      rw [Sha.rtag_call (k + 1399) _ _ _ _ key (RB ++ nm ++ f4 s) ⟨[(1, 0)], qbJ _ (1, 0) 0 32 _ (bs key) key (by exact h0) (by rw [zF, List.take_of_length_le (by rw [qaM]; omega)]) hkey (by decide) 6, rfl⟩
        ⟨[(30,0)],qbJ _ (30,0) 0 69 _ (bs (RB++nm++f4 s)) (RB++nm++f4 s) (by exact rfl) (by rw[zF,List.take_of_length_le (by rw[qaM]; omega)]) l69 (by decide) 6,rfl⟩ (by omega) (by omega) (by omega),List.append_assoc RB nm]
      have hftag:qb8 0 1 32 (some (aB 32 (Sha.tagv key (RB++(nm++f4 s)))))=some (bs (tagL key (RB++(nm++f4 s)))):=by
        rw[aB_tagL]; exact qag 32 _ (qbR _ _).symm
      have l81:(RB++tagL key (RB++(nm++f4 s))).length=81:=by rw[zH,l49,qbR]
      simp (disch:=first|omega|decide|simp only[nmsB,lB]) only[simprocAttr,-rR,-rS,leB,memB,arrB,numB,qaf,opsB,ordB,qak,qan,qai,qaI,h0,h1,h2,h3,hftag,t49,l49,l81,op_appz,qab,qad,qac,qaa,qas,qah,qag]
      rw[appZV_bs (l:=RB++tagL key (RB++(nm++f4 s))) (by exact rfl) l81 (by decide)]
      simp (disch:=first|omega|decide|simp only[nmsB,lB]) only[simprocAttr,-rR,-rS,leB,memB,arrB,numB,qaf,opsB,ordB,qak,qan,qai,qaI,qab,qad,qac,qaa,qas,qah,qag]
      rw[show qbL key s nm c true f tr=RB++tagL key (RB++(nm++f4 s))++List.replicate 431 0#8 by rw[qbL,hRB]]
      exact out_st _ _ _ 42 512 0 none _ (by decide) rfl
  | false =>
    obtain rfl:=hr rfl
    have hpR:PC (RC c false (0:Int) tr):=hpR
    have k0:qaS 0 1 (some (RC c false (0:Int) tr))=some [B64 c]:=k0
    have k1:qaS 1 1 (some (RC c false (0:Int) tr))=some [Bo false]:=k1
    have hk2:qaS 2 1 (some (RC c false (0:Int) tr))=some [N 0]:=hk2
    have hlen:(RC c false (0:Int) tr).length=35:=hlen
    simp (disch:=first|omega|decide|simp only[nmsB,lB]) only[simprocAttr,-rR,-rS,leB,memB,arrB,numB,qaf,opsB,qan,qai,L8,hpH.isCell,hpR.isCell,qbn,qcz g s sl j sg ti me la nm hnm,hc,k1,hk1,hk2,hfs,Nat.not_lt_zero,qab,qad,qac,qaa,qag]
    generalize hL:qa1 L8k0 _ _ _=z
    refine qaR hL (rzJ key (HC g s sl j sg ti me la nm) (RC c false (0:Int) tr) c) 8 (by omega) (fun i st hi hJ=>rz_round _ _ key _ _ hpH hpR c k0 i hi st hJ) ?_ ?_ ?_
    · refine qao [(2, 0), (3, 0), (4, 0), (32, 0)] rfl (by simp only [simprocAttr, -rR, -rS, qak, L8k0, qam, hpH.nms, hpR.nms, qah, qac, qaa]) rfl ⟨_, some 4, rfl, .inl ⟨rfl, rfl⟩, ?_, ?_, ?_, ?_⟩
      · exact qaj (2,0) rfl rfl (qaq _ _)
      · exact qaj (3,0) rfl rfl (hpH.ren 7 _)
      · exact qaj (4,0) rfl rfl (hpR.ren 7 _)
      · exact qaj (32,0) rfl rfl (qaq _ _)
    · rintro st ⟨H, cp, rfl, hcp, h0, h1, h2, h3⟩
      apply qaO
      simp (disch:=first|omega|decide|simp only[nmsB,lB]) only[simprocAttr,-rR,-rS,leB,memB,arrB,numB,qaf,L8b0,qae,qab,qad,qac,qaa]
      rfl
    · rintro st ⟨H, cp, rfl, hcp, h0, h1, h2, h3⟩ rfl
      obtain ⟨h8,_⟩ | ⟨_,rfl⟩:=hcp
      · cases h8
      have h4:=fun (b n:Nat) H=>qhN (k+1398) b n H
      have hf1:∀ y:BitVec 8,qb8 0 1 1 (some [B8 y])=some (bs [y]):=fun y=>rfl
      have hft:qb8 3 1 32 (some (RC c false (0:Int) tr))=some (bs tr):=by
        rw[qb8,if_pos (by rw[hlen]; decide),zX,RC_tr c false 0 tr ht]
      have hfn:qb8 8 1 16 (some (HC g s sl j sg ti me la nm))=some (bs nm):=by
        rw[qb8,if_pos (by simp only[HC,zE,qaM,hnm]; decide),zX,HC_nm g s sl j sg ti me la nm hnm]
      have hf4:∀ x,qb8 0 1 4 (some (bs (f4 x)))=some (bs (f4 x)):=fun x=>qag 4 _ rfl
      have l12:(qc4++nB8 c 8).length=12:=by rw[zH,qca]; rfl
      generalize hB0:qc4++nB8 c 8=B0 at *
      have t12:List.take 12 B0=B0:=List.take_of_length_le (Nat.le_of_eq l12)
      have l13:(B0++[0#8]).length=13:=by rw[zH,l12]; rfl
      have t13:List.take 13 (B0++[0#8])=B0++[0#8]:=List.take_of_length_le (Nat.le_of_eq l13)
      have l17:(B0++[0#8]++f4 0).length=17:=by rw[zH,l13]; rfl
      have t17:List.take 17 (B0++[0#8]++f4 0)=B0++[0#8]++f4 0:=List.take_of_length_le (Nat.le_of_eq l17)
      simp (disch:=first|omega|decide|simp only[nmsB,lB]) only[simprocAttr,-rR,-rS,leB,memB,arrB,numB,qaf,opsB,ordB,qak,qan,qai,qaI,L8b0,h0,h1,h2,h3,k1,hk2,hk1,h4,hf1,hft,hfn,hf4,t12,t13,t17,l12,l13,l17,qab,qad,qac,qaa,qas,qah,qag]
      have heB:B0++[0#8]++f4 0++tr=qb2 c false 0 tr:=by
        rw[qb2,hB0,f4_nB8 0 (by decide)]; rfl
      have l49:=qb1 c false 0 tr ht
      rw[heB]
      generalize hRB:qb2 c false 0 tr=RB at *
      have hf49:qb8 0 1 49 (some (bs RB))=some (bs RB):=qag 49 _ l49.symm
      have hap:∀ b' H m,appX b' 1 1 49 H [] (bs RB) (.sl m 0 0 (some 0) 1)=some ⟨.sl (b',0) 0 49 none 1,[bs RB],[]⟩:=fun b' H m=>appX_e b' 49 H m (bs RB) (by decide) (by decide)
      have t49:List.take 49 RB=RB:=List.take_of_length_le (Nat.le_of_eq l49)
      have l65:(RB++nm).length=65:=by rw[zH,l49,hnm]
      have t65:List.take 65 (RB++nm)=RB++nm:=List.take_of_length_le (Nat.le_of_eq l65)
      have l69:(RB++nm++f4 s).length=69:=by rw[zH,l65]; rfl
      simp (disch:=first|omega|decide|simp only[nmsB,lB]) only[simprocAttr,-rR,-rS,leB,memB,arrB,numB,qaf,opsB,ordB,qak,qan,qai,qaI,h0,h1,h2,h3,k1,hk2,hk1,h4,hf1,hft,hfn,hf4,hf49,hap,t49,t65,l49,l65,l69,qab,qad,qac,qaa,qas,qah,qag]
      rw [Sha.rtag_call (k + 1399) _ _ _ _ key (RB ++ nm ++ f4 s) ⟨[(1, 0)], qbJ _ (1, 0) 0 32 _ (bs key) key (by exact h0) (by rw [zF, List.take_of_length_le (by rw [qaM]; omega)]) hkey (by decide) 6, rfl⟩
        ⟨[(29,0)],qbJ _ (29,0) 0 69 _ (bs (RB++nm++f4 s)) (RB++nm++f4 s) (by exact rfl) (by rw[zF,List.take_of_length_le (by rw[qaM]; omega)]) l69 (by decide) 6,rfl⟩ (by omega) (by omega) (by omega),List.append_assoc RB nm]
      have hftag:qb8 0 1 32 (some (aB 32 (Sha.tagv key (RB++(nm++f4 s)))))=some (bs (tagL key (RB++(nm++f4 s)))):=by
        rw[aB_tagL]; exact qag 32 _ (qbR _ _).symm
      have l81:(RB++tagL key (RB++(nm++f4 s))).length=81:=by rw[zH,l49,qbR]
      simp (disch:=first|omega|decide|simp only[nmsB,lB]) only[simprocAttr,-rR,-rS,leB,memB,arrB,numB,qaf,opsB,ordB,qak,qan,qai,qaI,h0,h1,h2,h3,hftag,t49,l49,l81,op_appz,qab,qad,qac,qaa,qas,qah,qag]
      rw[appZV_bs (l:=RB++tagL key (RB++(nm++f4 s))) (by exact rfl) l81 (by decide)]
      simp (disch:=first|omega|decide|simp only[nmsB,lB]) only[simprocAttr,-rR,-rS,leB,memB,arrB,numB,qaf,opsB,ordB,qak,qan,qai,qaI,qab,qad,qac,qaa,qas,qah,qag]
      rw[show qbL key s nm c false 0 tr=RB++tagL key (RB++(nm++f4 s))++List.replicate 431 0#8 by rw[qbL,hRB]]
      exact out_st _ _ _ 41 512 0 none _ (by decide) rfl
end Sl
namespace Sl
open Go Go.LE Tb
open Sha (Lent qbq)
set_option maxRecDepth 20000
theorem eqU_refl:∀ (cs:qal),(∀ x ∈ cs,∃ k n,x = .v (.int k n))→eqU .int cs cs=some true:=by
  intro cs
  induction cs with
  | nil=>intro _; rfl
  | cons x cs ih =>
    intro h
    obtain ⟨k,n,rfl⟩:=h x (by simp)
    have h2:=ih fun y hy=>h y (by simp[hy])
    have h0:qdm .int (.int k n) (.int k n)=some true:=by simp[qdm]
    simp only[eqU,h0,h2]
    rfl
theorem RC_refl (c:BitVec 64) (rk:Bool) (f:Int) (tr:List (BitVec 8)) (ht:tr.length=32):binV .eql (.flat [(1,.int),(1,.bool),(33,.int)]) (.agg (RC c rk f tr)) (.agg (RC c rk f tr))=some (Bo true):=by
  have hb:eqU .int (I f::bs tr) (I f::bs tr)=some true:=eqU_refl _ fun x hx=>by
    rcases List.mem_cons.1 hx with rfl | hx
    · exact ⟨_,_,rfl⟩
    · obtain ⟨y,_,rfl⟩:=List.mem_map.1 hx; exact ⟨_,_,rfl⟩
  have hl:(I f::bs tr).length=33:=by rw[zE,qaM,ht]
  have h1:eqU .int [B64 c] [B64 c]=some true:=eqU_refl _ fun x hx=>by
    rw[List.mem_singleton] at hx; subst hx; exact ⟨_,_,rfl⟩
  have h2:eqU .bool [Bo rk] [Bo rk]=some true:=by cases rk <;> rfl
  have h:eqR [(1,.int),(1,.bool),(33,.int)] (RC c rk f tr) (RC c rk f tr)=some true:=by
    rw[eqR.eq_def]
    simp only[RC,zE,zf,zW,zd,zF,h1]
    rw[if_pos (by omega)]
    rw[eqR.eq_def]
    simp only[zE,zf,zW,zd,zF,h2]
    rw[if_pos (by omega)]
    rw[eqR.eq_def]
    simp only[]
    rw[if_pos ⟨by omega,by omega⟩,List.take_of_length_le (by omega),hb,List.drop_of_length_le (by omega)]
    simp[eqR]
  simp[binV,eqV,aggOf,h,Bo]
theorem call_newN {K b g:Nat} (hg:qaJ g=fun _=>false) (H:Heap) {args:List LV} {l:List (BitVec 8)} {n z:Nat} (hn:args.flatMap (nms D)=[]) (hr:args.map (ren D (qaK []))=args)
    (hF:F C K g args []=some (.tup [.sl (1,0) 0 n none 1,N z],[],[bs l])):qar (envC C K) H b g args=some ⟨.tup [.sl (b,0) 0 n none 1,N z],[bs l],[]⟩:=by
  rw[Aes.qb4 K b g hg H args args [] [] [] _ hn rfl hr rfl hF,qaT]
  have e:ren 7 (qbf [] b 1) (.sl (1,0) 0 n none 1) = .sl (b,0) 0 n none 1:=by simp[ren,qbd]
  simp only[qb0,zB,zA,qaq,qaZ,qc8,e,zE,zL,qbd,zO,Nat.lt_one_iff,qa9,zG,List.zipWith_nil_left]
theorem qhQ (k b:Nat) (H:Heap) (key:List (BitVec 8)) (hkey:key.length=32) (g:BitVec 64) (s:Nat) (sl j sg ti me la:Int) (nm:List (BitVec 8)) (hnm:nm.length=16) (hh:hcOk g s sl j sg ti me la) (c:BitVec 64) (rk:Bool) (f:Nat) (tr:List (BitVec 8)) (ht:tr.length=32) (hf:f≤s) (hr:rk=false→f=0) :
    qar (envC C (k+1400)) H b 8 [.agg (bs key),.agg (HC g s sl j sg ti me la nm),.agg (RC c rk f tr)]=some ⟨.tup [.sl (b,0) 0 512 none 1,N 0],[bs (qbL key s nm c rk f tr)],[]⟩ :=
  call_newN l8 H (by simp only[zK,zN,(qcm g s sl j sg ti me la nm).anms,(qbZ c rk f tr).anms,(PC.bs key).anms,zD]) (by simp only[zB,zA,(qcm g s sl j sg ti me la nm).aren,(qbZ c rk f tr).aren,(PC.bs key).aren]) (rRootBlock_F k key hkey g s sl j sg ti me la nm hnm hh c rk f tr ht hf hr)
theorem rb_bad {k b g':Nat} (hg:qaJ g'=fun _=>false) {H:Heap} {key nm tr:List (BitVec 8)} {g c:BitVec 64} {s sl j sg ti me la f:Int} {rk:Bool}
    (hF:F C k g' [.agg (bs key),.agg (HC g s sl j sg ti me la nm),.agg (RC c rk f tr)] []=some (.tup [Nil,N 1],[],[])) :
    qar (envC C k) H b g' [.agg (bs key),.agg (HC g s sl j sg ti me la nm),.agg (RC c rk f tr)]=some ⟨.tup [Nil,N 1],[],[]⟩:=by
  rw[qae hg (by simp only[zK,zN,(qcm g s sl j sg ti me la nm).anms,(qbZ c rk f tr).anms,(PC.bs key).anms,zD]) (by simp only[zB,zA,(qcm g s sl j sg ti me la nm).aren,(qbZ c rk f tr).aren,(PC.bs key).aren]),hF]
  rfl
theorem rtOk_nat {g:BitVec 64} {s sl j sg ti me la:Int} {rk:Bool} {f:Int} (h:rtOk g s sl j sg ti me la rk f):∃ s' f':Nat,s=s'∧f=f'∧f'≤s'∧(rk=false→f'=0)∧hcOk g s' sl j sg ti me la:=by
  obtain ⟨h1,h2,h3,h4⟩:=h
  have:=h1.2.1
  refine ⟨s.toNat,f.toNat,by omega,by omega,by omega,fun h=>by have:=h4 h; omega,?_⟩
  rw[show ((s.toNat:Nat):Int)=s by omega]; exact h1
instance (g:BitVec 64) (s sl j sg ti me la:Int) (rk:Bool) (f:Int):Decidable (rtOk g s sl j sg ti me la rk f):=by unfold rtOk; infer_instance
end Sl
namespace Sl
open Go Go.LE Tb
open Sha (Lent qbq)
set_option maxRecDepth 20000
def rdG (m:Nm) (off len:Nat) (cp:Option Nat) (bad:Bool):qal:=[.sl m off len cp 1,Bo bad]
theorem qeY (m:Nm) (off len:Nat) (cp:Option Nat) (bad:Bool):(rdG m off len cp bad).flatMap (nms D)=[m]:=rfl
theorem qgp (m m':Nm) (π:Nm→Option Nm) (h:π m=some m') (off len:Nat) (cp:Option Nat) (bad:Bool):(rdG m off len cp bad).map (ren D π)=rdG m' off len cp bad:=by
  simp only[rdG,zB,zA,qaZ,h,qa9,qeK]
theorem rBytes_no (k n off len:Nat) (cp:Option Nat) (bad:Bool) (l:List (BitVec 8)) (hn:bad=true∨len < n) :
    F C (k+2) 33 [.ptr (0,0) 0,N n] [rdG (0,1) off len cp bad,bs l]=some (Nil,[some (rdG (0,1) off len cp true),some (bs l)],[]):=by
  rw[qaH f33]
  cases bad with
  | true =>
    simp (disch:=first|omega|decide|simp only[nmsB,lB]) only[simprocAttr,-rR,-rS,leB,memB,arrB,numB,qaf,qan,qai,L33,rdG,Nat.not_lt_zero,qab,qad,qac,qaa,qag]
    refine Aes.qbK (names:=[]) ?_ ?_
    · simp only[simprocAttr,-rR,-rS,qak,qam,qa3,qah,qac,qaa]
    · simp (disch:=first|omega|decide|simp only[nmsB,lB]) only[simprocAttr,-rR,-rS,leB,memB,qaf,qae,qab,qad,qac,qaa]
  | false =>
    have h:len < n:=by simpa using hn
    simp (disch:=first|omega|decide|simp only[nmsB,lB]) only[simprocAttr,-rR,-rS,leB,memB,arrB,numB,qaf,qan,qai,L33,rdG,h,Nat.not_lt_zero,qab,qad,qac,qaa,qag]
    refine Aes.qbK (names:=[]) ?_ ?_
    · simp only[simprocAttr,-rR,-rS,qak,qam,qa3,qah,qac,qaa]
    · simp (disch:=first|omega|decide|simp only[nmsB,lB]) only[simprocAttr,-rR,-rS,leB,memB,qaf,qae,qab,qad,qac,qaa]
theorem rd_callG {K b g:Nat} (hg:qaJ g=fun _=>false) {H:Heap} {p x:Nm} (hpx:p≠x) {off len n off' len':Nat} {cp cp':Option Nat} {bad bad':Bool} {l:List (BitVec 8)} (hp:H p=some (rdG x off len cp bad)) (hx:H x=some (bs l)) {v v':LV} {news news':List qal}
    (hv:ren D (qbf [p,x] b news.length) v=v') (hnews:news.map (fun cs=>cs.map (ren D (qbf [p,x] b news.length)))=news')
    (hF:F C K g [.ptr (0,0) 0,N n] [rdG (0,1) off len cp bad,bs l]=some (v,[some (rdG (0,1) off' len' cp' bad'),some (bs l)],news)) :
    qar (envC C K) H b g [.ptr p 0,N n]=some ⟨v',news',[(p,some (rdG x off' len' cp' bad')),(x,some (bs l))]⟩:=by
  obtain ⟨c0,c1⟩:=toCee2 hpx
  rw [Aes.qb4 K b g hg H [.ptr p 0, N n] [.ptr (0, 0) 0, N n] [p] [p, x] [rdG (0, 1) off len cp bad, bs l] _ rfl
    ((Aes.qaA rfl hp (qeY _ _ _ _ _)).trans ((Aes.qaA (by simpa using Ne.symm hpx) hx (qam l)).trans (qba _ _ _)))
    (by simp only[zB,zA,qbk,c0,qbs,qew]) (by simp only[List.filterMap_cons,zQ,hp,hx,zB,zA,qaq,qgp x (0,1) _ c1]) hF,qaT,hv,hnews]
  simp only[List.zipWith_cons_cons,List.zipWith_nil_left,zC,qaq]
  rw[qgp (0,1) x _ (by rw[qcI] <;> rfl)]
theorem qgI (k b n off len:Nat) (cp:Option Nat) (bad:Bool) (l:List (BitVec 8)) (H:Heap) (p x:Nm) (hpx:p≠x) (hp:H p=some (rdG x off len cp bad)) (hx:H x=some (bs l)) (hn:bad=true∨len < n) :
    qar (envC C (k+2)) H b 33 [.ptr p 0,N n]=some ⟨Nil,[],[(p,some (rdG x off len cp true)),(x,some (bs l))]⟩ :=
  rd_callG l33 hpx hp hx rfl rfl (rBytes_no k n off len cp bad l hn)
def rnJ (rd:qal) (l:List (BitVec 8)) (st:St):Prop := ∃ (H:Heap),st=⟨[.undef,.undef,.undef,.undef,.undef,B64 0#64,.undef,.undef,.undef,.undef,.undef,.undef,.undef,Nil,N 0,N 0,.undef,.undef,.undef,.undef,.undef,.undef,.undef,.undef,.undef,.undef,.undef,.undef,.undef],H,2,2⟩∧H (0,0)=some rd∧H (0,1)=some (bs l)
theorem rUint_no (k n off len:Nat) (cp:Option Nat) (bad:Bool) (l:List (BitVec 8)) (h:n=1∨n=2∨n=4∨n=8) (hn:bad=true∨len < n) :
    F C (k+30) 34 [.ptr (0,0) 0,N n] [rdG (0,1) off len cp bad,bs l]=some (B64 0#64,[some (rdG (0,1) off len cp true),some (bs l)],[]):=by
  rw[qaH f34]
  have hw:=fun b H=>qf4 (k+28) b n h H
  have hr:=fun b=>qgI (k+27) b n off len cp bad l (qaY [rdG (0,1) off len cp bad,bs l]) (0,0) (0,1) (by decide) rfl rfl hn
  simp (disch:=first|omega|decide|simp only[nmsB,lB]) only[simprocAttr,-rR,-rS,leB,memB,arrB,numB,qaf,qan,qai,L34,hw,hr,qab,qad,qac,qaa,qag]
  generalize hL:qa1 L34k0 _ _ _=r
  refine qaR hL (fun _=>rnJ (rdG (0,1) off len cp true) l) 0 (by omega) (fun i st hi hJ=>by omega) ?_ ?_ ?_
  · refine qao [] rfl (by simp only [simprocAttr, -rR, -rS, qak, L34k0, qeY, qam, qah, qac, qaa]) rfl ⟨_, rfl, ?_, ?_⟩
    · rw[qaG,qby,if_pos rfl,zC,qgp _ _ _ (qcT _ _)]
    · rw[qaG,qby,if_neg (by decide),qby,if_pos rfl,zC,qaq]
  · rintro st ⟨H, rfl, h0, h1⟩
    apply qaO
    simp (disch:=first|omega|decide|simp only[nmsB,lB]) only[simprocAttr,-rR,-rS,leB,memB,arrB,numB,qaf,L34b0,zY,qae,qab,qad,qac,qaa]
    rfl
  · rintro st ⟨H, rfl, h0, h1⟩ rfl
    simp (disch:=first|omega|decide|simp only[nmsB,lB]) only[simprocAttr,-rR,-rS,leB,memB,arrB,numB,qaf,L34b0,zY,qae,qab,qad,qac,qaa]
    refine Aes.qbK (names:=[]) ?_ ?_
    · simp only[simprocAttr,-rR,-rS,qak,qeY,qam,h0,h1,qah,qac,qaa]
    · simp (disch:=first|omega|decide|simp only[nmsB,lB]) only[simprocAttr,-rR,-rS,leB,memB,qaf,h0,h1,qgp _ _ _ (qcT _ _),qae,qab,qad,qac,qaa]
theorem rUint_noC (k b n off len:Nat) (cp:Option Nat) (bad:Bool) (l:List (BitVec 8)) (H:Heap) (p x:Nm) (hpx:p≠x) (hp:H p=some (rdG x off len cp bad)) (hx:H x=some (bs l)) (h:n=1∨n=2∨n=4∨n=8) (hn:bad=true∨len < n) :
    qar (envC C (k+30)) H b 34 [.ptr p 0,N n]=some ⟨B64 0#64,[],[(p,some (rdG x off len cp true)),(x,some (bs l))]⟩ :=
  rd_callG l34 hpx hp hx (qdb _ _) rfl (rUint_no k n off len cp bad l h hn)
theorem qg9 (k n off len:Nat) (bad:Bool) (l:List (BitVec 8)) (h:n=1∨n=2∨n=4∨n=8) (hl:off+len≤l.length) (hb:off+len≤211106232532992) :
    ∃ (v : BitVec 64) (off' len' : Nat) (bad' : Bool), (∀ (b : Nat) (H : Heap) (p x : Nm), p ≠ x → H p = some (rdG x off len none bad) → H x = some (bs l) →
      qar (envC C (k+30)) H b 34 [.ptr p 0,N n]=some ⟨B64 v,[],[(p,some (rdG x off' len' none bad')),(x,some (bs l))]⟩) ∧
      off'+len'=off+len∧(bad'=false→bad=false∧off'=off+n):=by
  by_cases hn:bad=true∨len < n
  · exact ⟨0#64,off,len,true,fun b H p x hpx hp hx=>rUint_noC k b n off len none bad l H p x hpx hp hx h hn,rfl,fun h=>by cases h⟩
  · have hb0 : bad = false := by cases bad with | true => exact absurd (.inl rfl) hn | false => rfl
    subst hb0
    have hle:n≤len:=Nat.le_of_not_lt fun h=>hn (.inr h)
    exact ⟨_,off+n,len - n,false,fun b H p x hpx hp hx=>qep k b n off len l H p x hpx hp hx h hle hl hb,by omega,fun _=>⟨rfl,rfl⟩⟩
theorem clone_0 (k:Nat):F C (k+1) 37 [.sl (0,0) 0 0 (some 0) 1] [bs []]=some (.sl (1,0) 0 0 (some 0) 1,[some (bs [])],[bs []]):=by
  rw[qaH f37]
  simp (disch:=first|omega|decide|simp only[nmsB,lB]) only[simprocAttr,-rR,-rS,leB,memB,arrB,numB,qaf,qan,L37,qae,qab,qad,qac,qaa,qag]
  refine Aes.qbK (names:=[(5,0)]) ?_ ?_
  · simp only[simprocAttr,-rR,-rS,qak,qam,qah,qac,qaa]
  · simp (disch := first | omega | decide | simp only [nmsB, lB]) only [simprocAttr, -rR, -rS, leB, memB, qaf, qae, qab, qad, qac, qaa]
    rfl
theorem clone_0C (k b:Nat) (H:Heap) (m:Nm) (hm:H m=some (bs [])) :
    qar (envC C (k+1)) H b 37 [.sl m 0 0 (some 0) 1]=some ⟨.sl (b,0) 0 0 (some 0) 1,[bs []],[(m,some (bs []))]⟩:=by
  have hi:∀ x:Nm,idx x [x] 0=some 0:=fun x=>by simp[idx]
  rw[Aes.qb4 (k+1) b 37 l37 H [.sl m 0 0 (some 0) 1] [.sl (0,0) 0 0 (some 0) 1] [m] [m] [bs []] _ rfl ((Aes.qaA rfl hm (qam [])).trans (qba _ _ _)) (by simp only[zB,zA,qaZ,qbC,hi,zC,qa9]) (by simp only[List.filterMap_cons,zQ,hm,zB,zA,qaq]) (clone_0 k),qaT]
  simp only[qaZ,qbd,zE,zL,zO,Nat.lt_one_iff,qa9,zB,zA,qaq,List.zipWith_cons_cons,List.zipWith_nil_left,zC]
theorem newReader_0 (k:Nat):F C (k+2) 32 [.sl (0,0) 0 0 (some 0) 1] [bs []]=some (.ptr (1,0) 0,[some (bs [])],[rdG (1,1) 0 0 (some 0) false,bs []]):=by
  rw[qaH f32]
  have hc:=fun b=>clone_0C k b (qaY [bs []]) (0,0) rfl
  simp (disch:=first|omega|decide|simp only[nmsB,lB]) only[simprocAttr,-rR,-rS,leB,memB,arrB,numB,qaf,L32,hc,qab,qad,qac,qaa]
  refine Aes.qbK (names:=[(6,0),(4,0)]) ?_ ?_
  · simp only[simprocAttr,-rR,-rS,qak,qam,qa3,qah,qac,qaa]
  · simp (disch := first | omega | decide | simp only [nmsB, lB]) only [simprocAttr, -rR, -rS, leB, memB, qaf, qae, qab, qad, qac, qaa]
    rfl
theorem newReader_0C (k b:Nat) (H:Heap) (m:Nm) (hm:H m=some (bs [])) :
    qar (envC C (k+2)) H b 32 [.sl m 0 0 (some 0) 1]=some ⟨.ptr (b,0) 0,[rdG (b,1) 0 0 (some 0) false,bs []],[(m,some (bs []))]⟩:=by
  have hi:∀ x:Nm,idx x [x] 0=some 0:=fun x=>by simp[idx]
  rw[Aes.qb4 (k+2) b 32 l32 H [.sl m 0 0 (some 0) 1] [.sl (0,0) 0 0 (some 0) 1] [m] [m] [bs []] _ rfl ((Aes.qaA rfl hm (qam [])).trans (qba _ _ _)) (by simp only[zB,zA,qaZ,qbC,hi,zC,qa9]) (by simp only[List.filterMap_cons,zQ,hm,zB,zA,qaq]) (newReader_0 k),qaT]
  simp only[qbk,qbd,zE,zL,zO,Nat.reduceAdd,Nat.reduceLT,zG,qbs,zB,zA,qaq,List.zipWith_cons_cons,List.zipWith_nil_left,zC]
  rw[qgp (1,1) (b,1) _ (by simp[qbd])]
theorem qgP (k:Nat) (l:List (BitVec 8)) (c:Option Nat) (hc:l.length=0→c=some 0) (hb:l.length≤211106232532992) :
    ∃ cp,(l.length≠0→cp=none)∧∀ (b:Nat) (H:Heap) (m:Nm),H m=some (bs l)→qar (envC C (k+2)) H b 32 [.sl m 0 l.length c 1]=some ⟨.ptr (b,0) 0,[rdG (b,1) 0 l.length cp false,bs l],[(m,some (bs l))]⟩:=by
  by_cases h0:l.length=0
  · obtain rfl : l = [] := List.length_eq_zero_iff.1 h0
    rw[hc rfl]
    exact ⟨some 0,fun h=>absurd rfl h,fun b H m hm=>newReader_0C k b H m hm⟩
  · refine ⟨none, fun _ => rfl, fun b H m hm => ?_⟩
    have:=qeq k b l.length c l H m hm (Nat.le_refl _) (by omega) hb
    rw[List.take_length] at this
    exact this
end Sl
namespace Sl
open Go Go.LE Tb
open Sha (Lent qbq)
set_option maxRecDepth 20000
theorem qff:(aB 32 fun _=>0#8)=bs z32:=by rw[qdt]; rfl
theorem z32_len:z32.length=32:=rfl
theorem rb_any (k:Nat) (key:List (BitVec 8)) (hkey:key.length=32) (g:BitVec 64) (s sl j sg ti me la:Int) (nm:List (BitVec 8)) (hnm:nm.length=16) (c:BitVec 64) (rk:Bool) (f:Int) (tr:List (BitVec 8)) (ht:tr.length=32) :
    (rtOk g s sl j sg ti me la rk f∧(qbL key s.toNat nm c rk f.toNat tr).length=512∧∀ b H,qar (envC C (k+1400)) H b 7 [.agg (bs key),.agg (HC g s sl j sg ti me la nm),.agg (RC c rk f tr)]=some ⟨.tup [.sl (b,0) 0 512 (some 512) 1,N 0],[bs (qbL key s.toNat nm c rk f.toNat tr)],[]⟩) ∨
    (¬ rtOk g s sl j sg ti me la rk f∧∀ b H,qar (envC C (k+1400)) H b 7 [.agg (bs key),.agg (HC g s sl j sg ti me la nm),.agg (RC c rk f tr)]=some ⟨.tup [Nil,N 1],[],[]⟩):=by
  by_cases hok:rtOk g s sl j sg ti me la rk f
  · left
    obtain ⟨s,f,rfl,rfl,hf,hr,hh⟩:=rtOk_nat hok
    exact ⟨hok,(qfo key s nm c rk f tr ht).1,fun b H=>qgo k b H key hkey g s sl j sg ti me la nm hnm hh c rk f tr ht hf hr⟩
  · exact .inr ⟨hok,fun b H=>rb_bad (b:=b) (H:=H) (k:=k+1400) l7 (RootBlock_bad (k+1380) key hkey g s sl j sg ti me la nm hnm c rk f tr ht hok)⟩
theorem trim_rdG (H:Heap) (v:LV) (news:List qal) (ms:List (Nm × Option qal)) (m x x':Nm) (o l o' l':Nat) (cp cp':Option Nat) (bad bad':Bool) (h:H m=some (rdG x o l cp bad)) :
    qdp true H (some ⟨v,news,(m,some (rdG x' o' l' cp' bad'))::ms⟩)=some ⟨v,news,(m,some (rdG x' o' l' cp' bad'))::ms⟩:=by
  have e:qcY (H m) (some (rdG x' o' l' cp' bad'))=false:=by
    rw[h]; simp[qcY,qdJ,rdG,qeu,Bo]
  show some (if _ then _ else _)=_
  rw[if_neg (by rw[zT,e]; simp)]
theorem cp_nil (H:Heap) (m:Nm):cpK 1 H (.sl m 3 32 (some 32) 1) Nil (some 0)=some ⟨N 0,[],[]⟩:=nf rfl
theorem lent_len {H:Heap} {m:Nm} {b:List (BitVec 8)} (h:H m=some (bs b)) (c:Option Nat):Lent H (.sl m 0 b.length c 1) b []:=by
  by_cases h0:b.length=0
  · obtain rfl : b = [] := List.length_eq_zero_iff.1 h0
    exact ⟨[],lentA_zero H m 0 c 1 6,rfl⟩
  · exact lent_at h rfl h0 c
theorem qfK (tm:List LV) (H:Heap) (nx z:Nat) (b:List (BitVec 8)) (c:BitVec 64) (rk:Bool) (f:Int) (tr:List (BitVec 8)) (h0:H (0,0)=some (bs b)) :
    some (qbY 1 ⟨tm,H,nx,1⟩ (.tup [.agg (RC c rk f tr),N z]))=some (.tup [.agg (RC c rk f tr),N z],[some (bs b)],[]):=by
  have hpR:=qbZ c rk f tr
  refine Aes.qbK (names:=[]) ?_ ?_
  · simp only[simprocAttr,-rR,-rS,qak,qam,qdx,hpR.n7,qd0,h0,qah,qac,qaa]
  · simp (disch:=first|omega|decide|simp only[nmsB,lB]) only[simprocAttr,-rR,-rS,leB,memB,qaf,hpR.r7,qb0,qc8,h0,qae,qab,qad,qac,qaa]
theorem st_k (m:Nm) (x:Bool) (c:BitVec 64) (rk:Bool) (f:Int) (tr:List (BitVec 8)):stK 1 1 m (some [Bo x]) (some (RC c rk f tr))=some ⟨Un,[],[(m,some (RC c x f tr))]⟩:=by
  rw[qcw,if_pos ⟨rfl,by simp only[RC,zE]; omega,rfl⟩]; rfl
theorem st_f (m:Nm) (x:Int) (c:BitVec 64) (rk:Bool) (f:Int) (tr:List (BitVec 8)):stK 1 2 m (some [I x]) (some (RC c rk f tr))=some ⟨Un,[],[(m,some (RC c rk x tr))]⟩:=by
  rw[qcw,if_pos ⟨rfl,by simp only[RC,zE]; omega,rfl⟩]; rfl
theorem st35 (m:Nm) (X Y:qal) (hx:X.length=35) (hy:Y.length=35) (hc:Y.all qaB=true):stK 35 0 m (some Y) (some X)=some ⟨Un,[],[(m,some Y)]⟩:=by
  rw[qcw,if_pos ⟨hy,by omega,hc⟩]
  simp only[qbh,zW,zI,hy,zO]
  rw[List.drop_of_length_le (by omega),zD]
theorem readRoot_no (k:Nat) (key:List (BitVec 8)) (hkey:key.length=32) (g:BitVec 64) (s sl j sg ti me la:Int) (nm:List (BitVec 8)) (hnm:nm.length=16) (hh:¬ hcOk g s sl j sg ti me la) (b:List (BitVec 8)) (cp:Option Nat) :
    F C (k+1500) 10 [.agg (bs key),.agg (HC g s sl j sg ti me la nm),.sl (0,0) 0 b.length cp 1] [bs b]=some (.tup [.agg (RC 0#64 false 0 z32),N 1],[some (bs b)],[]):=by
  rw[qaH Tb.f10]
  have hpH:=qcm g s sl j sg ti me la nm
  have hpR:=qbZ 0#64 false 0 z32
  have hc:=fun b H=>qdI (k+1489) b H g s sl j sg ti me la nm hnm
  rw[if_neg hh] at hc
  have hz:(B64 0#64::Bo false::N 0::aB 32 fun _=>0#8)=RC 0#64 false 0 z32:=by rw[qff]; rfl
  have hl:(RC 0#64 false 0 z32).length=35:=rfl
  have hra:qaS 0 35 (some (RC 0#64 false 0 z32))=some (RC 0#64 false 0 z32):=rfl
  have hs:=fun m=>st35 m _ _ hl hl hpR.isCell
  simp (disch:=first|omega|decide|simp only[nmsB,lB]) only[simprocAttr,-rR,-rS,leB,memB,arrB,numB,qaf,opsB,qan,qai,L10,hpH.isCell,hpR.isCell,qbn,qcz g s sl j sg ti me la nm hnm,hc,hz,hs,hra,qcF,qab,qad,qac,qaa,qag]
  show some (qbY 1 _ (.tup [.agg (RC 0#64 false 0 z32),N 1]))=_
  refine Aes.qbK (names:=[]) ?_ ?_
  · simp only[simprocAttr,-rR,-rS,qak,qam,qdx,hpR.n7,qd0,qah,qac,qaa]
  · simp (disch:=first|omega|decide|simp only[nmsB,lB]) only[simprocAttr,-rR,-rS,leB,memB,qaf,hpR.r7,qb0,qc8,qae,qab,qad,qac,qaa]
theorem readRoot_lt4 (k:Nat) (key:List (BitVec 8)) (hkey:key.length=32) (g:BitVec 64) (s sl j sg ti me la:Int) (nm:List (BitVec 8)) (hnm:nm.length=16) (hh:hcOk g s sl j sg ti me la) (b:List (BitVec 8)) (cp:Option Nat) (hb:b.length < 4) (hcp:b.length=0→cp=some 0) :
    F C (k+1500) 10 [.agg (bs key),.agg (HC g s sl j sg ti me la nm),.sl (0,0) 0 b.length cp 1] [bs b]=some (.tup [.agg (RC 0#64 false 0 z32),N 160],[some (bs b)],[]):=by
  rw[qaH Tb.f10]
  have hpH:=qcm g s sl j sg ti me la nm
  have hpR:=qbZ 0#64 false 0 z32
  have hc:=fun b H=>qdI (k+1489) b H g s sl j sg ti me la nm hnm
  rw[if_pos hh] at hc
  have hz:(B64 0#64::Bo false::N 0::aB 32 fun _=>0#8)=RC 0#64 false 0 z32:=by rw[qff]; rfl
  have hl:(RC 0#64 false 0 z32).length=35:=rfl
  have hra:qaS 0 35 (some (RC 0#64 false 0 z32))=some (RC 0#64 false 0 z32):=rfl
  have hs:=fun m=>st35 m _ _ hl hl hpR.isCell
  have hs0:∀ m,stK 1 1 m (some [Bo false]) (some (RC 0#64 false 0 z32))=some ⟨Un,[],[(m,some (RC 0#64 false 0 z32))]⟩:=fun _=>rfl
  have hs1:∀ m,stK 1 2 m (some [I 0]) (some (RC 0#64 false 0 z32))=some ⟨Un,[],[(m,some (RC 0#64 false 0 z32))]⟩:=fun _=>rfl
  have hbf:fill (RC 0#64 false 0 z32) [(0,1,B64 0#64)]=some (RC 0#64 false 0 z32):=rfl
  simp (disch:=first|omega|decide|simp only[nmsB,lB]) only[simprocAttr,-rR,-rS,leB,memB,arrB,numB,qaf,opsB,qan,qai,L10,hpH.isCell,hpR.isCell,qbn,qcz g s sl j sg ti me la nm hnm,hc,hz,hs,hra,qad,qac,qaa,qag]
  obtain ⟨cp',_,hn⟩:=qgP (k+1497) b cp hcp (by omega)
  rw[hn _ _ _ rfl]
  simp (disch:=first|omega|decide|simp only[nmsB,lB]) only[simprocAttr,-rR,-rS,leB,memB,arrB,numB,qaf,opsB,qan,qai,qab,qad,qac,qaa,qag]
  have hB:=fun (n:Nat) (bb:Nat) (H:Heap) (bad:Bool) (h:bad=true∨b.length < n) h1 h2=>qgI (k+1497) bb n 0 b.length cp' bad b H (10,0) (10,1) (by decide) h1 h2 h
  have hU:=fun (n:Nat) (bb:Nat) (H:Heap) (h:n=1∨n=2∨n=4∨n=8) h1 h2=>rUint_noC (k+1469) bb n 0 b.length cp' true b H (10,0) (10,1) (by decide) h1 h2 h (.inl rfl)
  rw[hB 4 _ _ false (.inr hb) rfl rfl]
  simp (disch:=first|omega|decide|simp only[nmsB,lB]) only[simprocAttr,-rR,-rS,leB,memB,arrB,numB,qaf,opsB,qan,qai,qab,qad,qac,qaa,qag]
  rw[hU 8 _ _ (by decide) rfl rfl]
  simp (disch:=first|omega|decide|simp only[nmsB,lB]) only[simprocAttr,-rR,-rS,leB,memB,arrB,numB,qaf,opsB,qan,qai,hz,hs,hra,hbf,hpR.isCell,qad,qac,qaa,qag]
  rw[hU 1 _ _ (by decide) rfl rfl]
  have e01:((0#64:BitVec 64) == 1#64)=false:=rfl
  simp (disch:=first|omega|decide|simp only[nmsB,lB]) only[simprocAttr,-rR,-rS,leB,memB,arrB,numB,qaf,opsB,qan,qai,hz,hs,hra,hbf,hpR.isCell,e01,hs0,qad,qac,qaa,qag]
  rw[hU 4 _ _ (by decide) rfl rfl]
  have e00:(0#64:BitVec 64).toInt=0:=rfl
  simp (disch:=first|omega|decide|simp only[nmsB,lB]) only[simprocAttr,-rR,-rS,leB,memB,arrB,numB,qaf,opsB,ordB,qak,qan,qai,qaI,hz,hs,hra,hbf,hpR.isCell,e00,hs1,qeY,qad,qac,qaa,qas,qah,qag]
  rw[hB 32 _ _ true (.inl rfl) rfl rfl,trim_rdG _ _ _ _ (10,0) (10,1) (10,1) 0 b.length 0 b.length cp' cp' true true rfl]
  simp (disch:=first|omega|decide|simp only[nmsB,lB]) only[simprocAttr,-rR,-rS,leB,memB,arrB,numB,qaf,opsB,ordB,qak,qan,qai,qaI,hz,hs,hra,hbf,hpR.isCell,e00,hs1,qeY,qad,qac,qaa,qas,qah,qag]
  rw[cp_nil]
  simp (disch:=first|omega|decide|simp only[nmsB,lB]) only[simprocAttr,-rR,-rS,leB,memB,arrB,numB,qaf,opsB,ordB,qak,qan,qai,qaI,qab,qad,qac,qaa,qas,qah,qag]
  generalize hG:upd _ (10,0) _=G
  have g0:G (0,0)=some (bs b):=by rw[←hG]; rfl
  have g2:G (2,0)=some (bs key):=by rw[←hG]; rfl
  have g3:G (3,0)=some (HC g s sl j sg ti me la nm):=by rw[←hG]; rfl
  have g4:G (4,0)=some (RC 0#64 false 0 z32):=by rw[←hG]; rfl
  have g17:G (17,0)=some (RC 0#64 false 0 z32):=by rw[←hG]; rfl
  clear hG
  have hka:qaS 0 32 (some (bs key))=some (bs key):=by
    rw[qaS,if_pos (by rw[qaM]; omega),zF,List.take_of_length_le (by rw[qaM]; omega)]
  have hha:=qcz g s sl j sg ti me la nm hnm
  rcases rb_any (k+99) key hkey g s sl j sg ti me la nm hnm 0#64 false 0 z32 rfl with ⟨_,hql,hR⟩ | ⟨_,hR⟩
  · generalize qbL key s.toNat nm 0#64 false (0 : Int).toNat z32 = Q at *
    have hE:=fun (bb:Nat) (H:Heap) (h1:H (0,0)=some (bs b)) (h2:H (37,0)=some (bs Q))=>Sha.qeO (k+1499) bb H _ _ b Q (lent_len h1 cp) (lent_at (c:=some 512) h2 hql (by decide)) (by omega) (by omega) (by omega)
    have hne:decide (b=Q)=false:=decide_eq_false fun h=>by rw[h] at hb; omega
    rw[hne] at hE
    simp (disch:=first|omega|decide|simp only[nmsB,lB]) only[simprocAttr,-rR,-rS,leB,memB,arrB,numB,qaf,opsB,qan,qai,g0,g2,g3,g4,g17,hka,hha,hra,hR,qab,qad,qac,qaa,qag]
    rw[hE _ _ (by exact g0) rfl]
    simp (disch:=first|omega|decide|simp only[nmsB,lB]) only[simprocAttr,-rR,-rS,leB,memB,arrB,numB,qaf,opsB,qan,qai,g0,g2,g3,g4,g17,hz,hs,hra,qcF,qab,qad,qac,qaa,qag]
    exact qfK _ _ _ 160 b 0#64 false 0 z32 (by exact g0)
  · simp (disch := first | omega | decide | simp only [nmsB, lB]) only [simprocAttr, -rR, -rS, leB, memB, arrB, numB, qaf, opsB, qan, qai, g0, g2, g3, g4, g17, hka, hha, hra, hR, hz, hs, qcF, qab, qad, qac, qaa, qag]
    exact qfK _ _ _ 160 b 0#64 false 0 z32 (by exact g0)
theorem readRoot_lt49 (k:Nat) (key:List (BitVec 8)) (hkey:key.length=32) (g:BitVec 64) (s sl j sg ti me la:Int) (nm:List (BitVec 8)) (hnm:nm.length=16) (hh:hcOk g s sl j sg ti me la) (b:List (BitVec 8)) (cp:Option Nat) (h4:4≤b.length) (hb:b.length < 49) :
    F C (k+1500) 10 [.agg (bs key),.agg (HC g s sl j sg ti me la nm),.sl (0,0) 0 b.length cp 1] [bs b]=some (.tup [.agg (RC 0#64 false 0 z32),N 160],[some (bs b)],[]):=by
  rw[qaH Tb.f10]
  have hpH:=qcm g s sl j sg ti me la nm
  have hpR:=qbZ 0#64 false 0 z32
  have hc:=fun b H=>qdI (k+1489) b H g s sl j sg ti me la nm hnm
  rw[if_pos hh] at hc
  have hz:(B64 0#64::Bo false::N 0::aB 32 fun _=>0#8)=RC 0#64 false 0 z32:=by rw[qff]; rfl
  have hl:(RC 0#64 false 0 z32).length=35:=rfl
  have hra:∀ c rk f,qaS 0 35 (some (RC c rk f z32))=some (RC c rk f z32):=fun _ _ _=>rfl
  have hs:=fun m c rk f=>st35 m (RC 0#64 false 0 z32) (RC c rk f z32) hl rfl (qbZ c rk f z32).isCell
  have hpc:=fun c rk f=>(qbZ c rk f z32).isCell
  have hbf:∀ v,fill (RC 0#64 false 0 z32) [(0,1,B64 v)]=some (RC v false 0 z32):=fun _=>rfl
  obtain ⟨cp',hcp',hn⟩:=qgP (k+1497) b cp (fun h=>by omega) (by omega)
  obtain rfl:=hcp' (by omega)
  obtain ⟨v8,o1,l1,b1,hU8,e1,q1⟩:=qg9 (k+1469) 8 4 (b.length - 4) false b (by decide) (by omega) (by omega)
  obtain ⟨v1,o2,l2,b2,hU1,e2,q2⟩:=qg9 (k+1469) 1 o1 l1 b1 b (by decide) (by omega) (by omega)
  obtain ⟨v4,o3,l3,b3,hU4,e3,q3⟩:=qg9 (k+1469) 4 o2 l2 b2 b (by decide) (by omega) (by omega)
  have hbad:b3=true∨l3 < 32:=by
    cases h3:b3 with
    | true=>exact .inl rfl
    | false =>
      have a3:=q3 h3; have a2:=q2 a3.1; have a1:=q1 a2.1
      right; omega
  simp (disch:=first|omega|decide|simp only[nmsB,lB]) only[simprocAttr,-rR,-rS,leB,memB,arrB,numB,qaf,opsB,qan,qai,L10,hpH.isCell,hpR.isCell,qbn,qcz g s sl j sg ti me la nm hnm,hc,hz,hs,hra,qad,qac,qaa,qag]
  rw[hn _ _ _ rfl]
  simp (disch:=first|omega|decide|simp only[nmsB,lB]) only[simprocAttr,-rR,-rS,leB,memB,arrB,numB,qaf,opsB,qan,qai,qab,qad,qac,qaa,qag]
  have hB4:=fun (bb:Nat) (H:Heap) (h1:H (10,0)=some (rdG (10,1) 0 b.length none false)) (h2:H (10,1)=some (bs b))=>qes (k+1497) bb 4 0 b.length b H (10,0) (10,1) (by decide) h1 h2 (by decide) h4 (by omega) (by omega)
  have hB4:∀ (bb:Nat) (H:Heap),H (10,0)=some (rdG (10,1) 0 b.length none false)→H (10,1)=some (bs b)→qar (envC C (k+1499)) H bb 33 [.ptr (10,0) 0,N 4]=some ⟨.sl (bb,0) 0 4 none 1,[bs ((b.drop 0).take 4)],[((10,0),some (rdG (10,1) 4 (b.length - 4) none false)),((10,1),some (bs b))]⟩:=hB4
  rw[hB4 _ _ rfl rfl]
  simp (disch:=first|omega|decide|simp only[nmsB,lB]) only[simprocAttr,-rR,-rS,leB,memB,arrB,numB,qaf,opsB,qan,qai,qab,qad,qac,qaa,qag]
  rw[hU8 _ _ (10,0) (10,1) (by decide) rfl rfl]
  simp (disch:=first|omega|decide|simp only[nmsB,lB]) only[simprocAttr,-rR,-rS,leB,memB,arrB,numB,qaf,opsB,qan,qai,hz,hs,hra,hbf,hpc,qad,qac,qaa,qag]
  rw[hU1 _ _ (10,0) (10,1) (by decide) rfl rfl]
  simp (disch:=first|omega|decide|simp only[nmsB,lB]) only[simprocAttr,-rR,-rS,leB,memB,arrB,numB,qaf,opsB,qan,qai,hz,hs,hra,hbf,hpc,st_k,qad,qac,qaa,qag]
  rw[hU4 _ _ (10,0) (10,1) (by decide) rfl rfl]
  simp (disch:=first|omega|decide|simp only[nmsB,lB]) only[simprocAttr,-rR,-rS,leB,memB,arrB,numB,qaf,opsB,ordB,qak,qan,qai,qaI,hz,hs,hra,hbf,hpc,st_f,qeY,qad,qac,qaa,qas,qah,qag]
  rw[qgI (k+1497) _ 32 o3 l3 none b3 b _ (10,0) (10,1) (by decide) rfl rfl hbad,trim_rdG _ _ _ _ (10,0) (10,1) (10,1) o3 l3 o3 l3 none none b3 true rfl]
  simp (disch:=first|omega|decide|simp only[nmsB,lB]) only[simprocAttr,-rR,-rS,leB,memB,arrB,numB,qaf,opsB,ordB,qak,qan,qai,qaI,hz,hs,hra,hbf,hpc,qeY,qad,qac,qaa,qas,qah,qag]
  rw[cp_nil]
  simp (disch:=first|omega|decide|simp only[nmsB,lB]) only[simprocAttr,-rR,-rS,leB,memB,arrB,numB,qaf,opsB,ordB,qak,qan,qai,qaI,qab,qad,qac,qaa,qas,qah,qag]
  generalize hG:upd _ (10,0) _=G
  have g0:G (0,0)=some (bs b):=by rw[←hG]; rfl
  have g2:G (2,0)=some (bs key):=by rw[←hG]; rfl
  have g3:G (3,0)=some (HC g s sl j sg ti me la nm):=by rw[←hG]; rfl
  have g4:G (4,0)=some (RC 0#64 false 0 z32):=by rw[←hG]; rfl
  have g17:G (17,0)=some (RC v8 (v1 == 1#64) v4.toInt z32):=by rw[←hG]; rfl
  clear hG
  have hka:qaS 0 32 (some (bs key))=some (bs key):=by
    rw[qaS,if_pos (by rw[qaM]; omega),zF,List.take_of_length_le (by rw[qaM]; omega)]
  have hha:=qcz g s sl j sg ti me la nm hnm
  rcases rb_any (k+99) key hkey g s sl j sg ti me la nm hnm v8 (v1 == 1#64) v4.toInt z32 rfl with ⟨_,hql,hR⟩ | ⟨_,hR⟩
  · generalize qbL key s.toNat nm v8 (v1 == 1#64) v4.toInt.toNat z32 = Q at *
    have hE:=fun (bb:Nat) (H:Heap) (h1:H (0,0)=some (bs b)) (h2:H (37,0)=some (bs Q))=>Sha.qeO (k+1499) bb H _ _ b Q (lent_len h1 cp) (lent_at (c:=some 512) h2 hql (by decide)) (by omega) (by omega) (by omega)
    have hne:decide (b=Q)=false:=decide_eq_false fun h=>by rw[h] at hb; omega
    rw[hne] at hE
    simp (disch:=first|omega|decide|simp only[nmsB,lB]) only[simprocAttr,-rR,-rS,leB,memB,arrB,numB,qaf,opsB,qan,qai,g0,g2,g3,g4,g17,hka,hha,hra,hR,qab,qad,qac,qaa,qag]
    rw[hE _ _ (by exact g0) rfl]
    simp (disch:=first|omega|decide|simp only[nmsB,lB]) only[simprocAttr,-rR,-rS,leB,memB,arrB,numB,qaf,opsB,qan,qai,g0,g2,g3,g4,g17,hz,hs,hra,qcF,qab,qad,qac,qaa,qag]
    exact qfK _ _ _ 160 b 0#64 false 0 z32 (by exact g0)
  · simp (disch := first | omega | decide | simp only [nmsB, lB]) only [simprocAttr, -rR, -rS, leB, memB, arrB, numB, qaf, opsB, qan, qai, g0, g2, g3, g4, g17, hka, hha, hra, hR, hz, hs, qcF, qab, qad, qac, qaa, qag]
    exact qfK _ _ _ 160 b 0#64 false 0 z32 (by exact g0)
end Sl
namespace Sl
open Go Go.LE Tb
open Sha (Lent qbq)
set_option maxRecDepth 20000
def cB (b:List (BitVec 8)):BitVec 64:=leU ((b.drop 4).take 8) 8
def kB (b:List (BitVec 8)):Bool:=leU ((b.drop 12).take 1) 1 == 1#64
def fB (b:List (BitVec 8)):Int:=(leU ((b.drop 13).take 4) 4).toInt
def tB (b:List (BitVec 8)):List (BitVec 8):=(b.drop 17).take 32
theorem qfV (b:List (BitVec 8)) (h:49≤b.length):(tB b).length=32:=by rw[tB,zU,zR]; omega
def rrOk (key:List (BitVec 8)) (g:BitVec 64) (s sl j sg ti me la:Int) (nm b:List (BitVec 8)):Prop:=rtOk g s sl j sg ti me la (kB b) (fB b)∧b=qbL key s.toNat nm (cB b) (kB b) (fB b).toNat (tB b)
theorem rc_cp2 (c:BitVec 64) (rk:Bool) (f:Int) (tr:List (BitVec 8)) (ht:tr.length=32) (H:Heap) (m:Nm) (h1:H (17,0)=some (RC c rk f z32)) (h2:H m=some (bs tr)) :
    cpK 1 H (.sl (17,0) 3 32 (some 32) 1) (.sl m 0 32 none 1) (some 32)=some ⟨N 32,[],[((17,0),some (RC c rk f tr))]⟩ :=
  rc_cp c rk f tr ht H m (by rw[qff]; exact h1) h2
theorem qf6 (k:Nat) (key:List (BitVec 8)) (hkey:key.length=32) (g:BitVec 64) (s sl j sg ti me la:Int) (nm:List (BitVec 8)) (hnm:nm.length=16) (hh:hcOk g s sl j sg ti me la) (b:List (BitVec 8)) (cp:Option Nat) (hb:49≤b.length) (hb2:b.length≤211106232532992) :
    (rrOk key g s sl j sg ti me la nm b→F C (k+1500) 10 [.agg (bs key),.agg (HC g s sl j sg ti me la nm),.sl (0,0) 0 b.length cp 1] [bs b]=some (.tup [.agg (RC (cB b) (kB b) (fB b) (tB b)),N 0],[some (bs b)],[])) ∧
    (¬ rrOk key g s sl j sg ti me la nm b→F C (k+1500) 10 [.agg (bs key),.agg (HC g s sl j sg ti me la nm),.sl (0,0) 0 b.length cp 1] [bs b]=some (.tup [.agg (RC 0#64 false 0 z32),N 160],[some (bs b)],[])):=by
  rw[qaH Tb.f10]
  have hpH:=qcm g s sl j sg ti me la nm
  have hpR:=qbZ 0#64 false 0 z32
  have hc:=fun b H=>qdI (k+1489) b H g s sl j sg ti me la nm hnm
  rw[if_pos hh] at hc
  have hz:(B64 0#64::Bo false::N 0::aB 32 fun _=>0#8)=RC 0#64 false 0 z32:=by rw[qff]; rfl
  have hl:(RC 0#64 false 0 z32).length=35:=rfl
  have hra:∀ c rk f,qaS 0 35 (some (RC c rk f z32))=some (RC c rk f z32):=fun _ _ _=>rfl
  have hs:=fun m c rk f=>st35 m (RC 0#64 false 0 z32) (RC c rk f z32) hl rfl (qbZ c rk f z32).isCell
  have hpc:=fun c rk f=>(qbZ c rk f z32).isCell
  have hbf:∀ v,fill (RC 0#64 false 0 z32) [(0,1,B64 v)]=some (RC v false 0 z32):=fun _=>rfl
  have hn:∀ (bb:Nat) (H:Heap) (m:Nm),H m=some (bs b)→qar (envC C (k+1499)) H bb 32 [.sl m 0 b.length cp 1]=some ⟨.ptr (bb,0) 0,[rdC (bb,1) 0 b.length false,bs b],[(m,some (bs b))]⟩:=fun bb H m hm=>by
    have h:=qeq (k+1497) bb b.length cp b H m hm (Nat.le_refl _) (by omega) hb2
    rw[List.take_length] at h; exact h
  have hka:qaS 0 32 (some (bs key))=some (bs key):=by
    rw[qaS,if_pos (by rw[qaM]; omega),zF,List.take_of_length_le (by rw[qaM]; omega)]
  have hha:=qcz g s sl j sg ti me la nm hnm
  have ht:=qfV b hb
  have hB:∀ (n off len bb:Nat) (H:Heap),0 < n→n≤len→off+len=b.length→H (10,0)=some (rdC (10,1) off len false)→H (10,1)=some (bs b)→qar (envC C (k+1499)) H bb 33 [.ptr (10,0) 0,N n]=some ⟨.sl (bb,0) 0 n none 1,[bs ((b.drop off).take n)],[((10,0),some (rdC (10,1) (off+n) (len - n) false)),((10,1),some (bs b))]⟩:=fun n off len bb H h0 hn hl h1 h2 =>
    qes (k+1497) bb n off len b H (10,0) (10,1) (by decide) h1 h2 h0 hn (by omega) (by omega)
  have hU:∀ (n off len bb:Nat) (H:Heap),(n=1∨n=2∨n=4∨n=8)→n≤len→off+len=b.length→H (10,0)=some (rdC (10,1) off len false)→H (10,1)=some (bs b)→qar (envC C (k+1499)) H bb 34 [.ptr (10,0) 0,N n]=some ⟨B64 (leU ((b.drop off).take n) n),[],[((10,0),some (rdC (10,1) (off+n) (len - n) false)),((10,1),some (bs b))]⟩:=fun n off len bb H h hn hl h1 h2 =>
    qep (k+1469) bb n off len b H (10,0) (10,1) (by decide) h1 h2 h hn (by omega) (by omega)
  simp (disch:=first|omega|decide|simp only[nmsB,lB]) only[simprocAttr,-rR,-rS,leB,memB,arrB,numB,qaf,opsB,qan,qai,L10,hpH.isCell,hpR.isCell,qbn,hha,hc,hz,hs,hra,qad,qac,qaa,qag]
  rw[hn _ _ _ rfl]
  simp (disch:=first|omega|decide|simp only[nmsB,lB]) only[simprocAttr,-rR,-rS,leB,memB,arrB,numB,qaf,opsB,qan,qai,qab,qad,qac,qaa,qag]
  rw[hB 4 0 b.length _ _ (by decide) (by omega) (by omega) rfl rfl]
  simp (disch:=first|omega|decide|simp only[nmsB,lB]) only[simprocAttr,-rR,-rS,leB,memB,arrB,numB,qaf,opsB,qan,qai,qab,qad,qac,qaa,qag]
  rw[hU 8 4 (b.length - 4) _ _ (by decide) (by omega) (by omega) rfl rfl]
  simp (disch:=first|omega|decide|simp only[nmsB,lB]) only[simprocAttr,-rR,-rS,leB,memB,arrB,numB,qaf,opsB,qan,qai,hz,hs,hra,hbf,hpc,qad,qac,qaa,qag]
  rw[hU 1 12 (b.length - 4 - 8) _ _ (by decide) (by omega) (by omega) rfl rfl]
  simp (disch:=first|omega|decide|simp only[nmsB,lB]) only[simprocAttr,-rR,-rS,leB,memB,arrB,numB,qaf,opsB,qan,qai,hz,hs,hra,hbf,hpc,st_k,qad,qac,qaa,qag]
  rw[hU 4 13 (b.length - 4 - 8 - 1) _ _ (by decide) (by omega) (by omega) rfl rfl]
  rw[←cB,←kB]
  simp (disch:=first|omega|decide|simp only[nmsB,lB]) only[simprocAttr,-rR,-rS,leB,memB,arrB,numB,qaf,opsB,ordB,qak,qan,qai,qaI,hz,hs,hra,hbf,hpc,st_f,qgl,qad,qac,qaa,qas,qah,qag]
  rw[hB 32 17 (b.length - 4 - 8 - 1 - 4) _ _ (by decide) (by omega) (by omega) rfl rfl,←fB,←tB,trim_rd _ _ _ _ (10,0) (10,1) 17 (b.length - 4 - 8 - 1 - 4) (17+32) (b.length - 4 - 8 - 1 - 4 - 32) rfl (by decide)]
  simp (disch:=first|omega|decide|simp only[nmsB,lB]) only[simprocAttr,-rR,-rS,leB,memB,arrB,numB,qaf,opsB,ordB,qak,qan,qai,qaI,qab,qad,qac,qaa,qas,qah,qag]
  generalize hc0:cB b=c
  generalize hk0:kB b=rk
  generalize hf0:fB b=f
  generalize ht0:tB b=tr at *
  rw[rc_cp2 c rk f tr ht _ (32,0) (by exact rfl) (by exact rfl)]
  simp (disch:=first|omega|decide|simp only[nmsB,lB]) only[simprocAttr,-rR,-rS,leB,memB,arrB,numB,qaf,opsB,ordB,qak,qan,qai,qaI,qab,qad,qac,qaa,qas,qah,qag]
  generalize hG:upd _ (17,0) _=G
  have g0:G (0,0)=some (bs b):=by rw[←hG]; rfl
  have g2:G (2,0)=some (bs key):=by rw[←hG]; rfl
  have g3:G (3,0)=some (HC g s sl j sg ti me la nm):=by rw[←hG]; rfl
  have g4:G (4,0)=some (RC 0#64 false 0 z32):=by rw[←hG]; rfl
  have g17:G (17,0)=some (RC c rk f tr):=by rw[←hG]; rfl
  clear hG
  have hrl:(RC c rk f tr).length=35:=by simp only[RC,zE,qaM,ht]
  have hrb:qaS 0 35 (some (RC c rk f tr))=some (RC c rk f tr):=by
    rw[qaS,if_pos (by omega),zF,List.take_of_length_le (by omega)]
  have hs2:=fun m=>st35 m (RC 0#64 false 0 z32) (RC c rk f tr) hl hrl (qbZ c rk f tr).isCell
  simp only[rrOk,hc0,hk0,hf0,ht0]
  rcases rb_any (k+99) key hkey g s sl j sg ti me la nm hnm c rk f tr ht with ⟨hok,hql,hR⟩ | ⟨hok,hR⟩
  · generalize qbL key s.toNat nm c rk f.toNat tr = Q at *
    have hE:=fun (bb:Nat) (H:Heap) (h1:H (0,0)=some (bs b)) (h2:H (37,0)=some (bs Q))=>Sha.qeO (k+1499) bb H _ _ b Q (lent_len h1 cp) (lent_at (c:=some 512) h2 hql (by decide)) (by omega) (by omega) (by omega)
    by_cases he:b=Q
    · rw [decide_eq_true he] at hE
      refine ⟨fun _ => ?_,fun h=>absurd ⟨hok,he⟩ h⟩
      simp (disch:=first|omega|decide|simp only[nmsB,lB]) only[simprocAttr,-rR,-rS,leB,memB,arrB,numB,qaf,opsB,qan,qai,g0,g2,g3,g4,g17,hka,hha,hrb,hR,qab,qad,qac,qaa,qag]
      rw[hE _ _ (by exact g0) rfl]
      simp (disch:=first|omega|decide|simp only[nmsB,lB]) only[simprocAttr,-rR,-rS,leB,memB,arrB,numB,qaf,opsB,qan,qai,g0,g2,g3,g4,g17,hz,hs2,hrb,qcF,qab,qad,qac,qaa,qag]
      exact qfK _ _ _ 0 b c rk f tr (by exact g0)
    · rw [decide_eq_false he] at hE
      refine ⟨fun h=>absurd h.2 he,fun _ => ?_⟩
      simp (disch:=first|omega|decide|simp only[nmsB,lB]) only[simprocAttr,-rR,-rS,leB,memB,arrB,numB,qaf,opsB,qan,qai,g0,g2,g3,g4,g17,hka,hha,hrb,hR,qab,qad,qac,qaa,qag]
      rw[hE _ _ (by exact g0) rfl]
      simp (disch:=first|omega|decide|simp only[nmsB,lB]) only[simprocAttr,-rR,-rS,leB,memB,arrB,numB,qaf,opsB,qan,qai,g0,g2,g3,g4,g17,hz,hs,hra,qcF,qab,qad,qac,qaa,qag]
      exact qfK _ _ _ 160 b 0#64 false 0 z32 (by exact g0)
  · refine ⟨fun h => absurd h.1 hok, fun _ => ?_⟩
    simp (disch:=first|omega|decide|simp only[nmsB,lB]) only[simprocAttr,-rR,-rS,leB,memB,arrB,numB,qaf,opsB,qan,qai,g0,g2,g3,g4,g17,hka,hha,hrb,hR,hz,hs,hra,qcF,qab,qad,qac,qaa,qag]
    exact qfK _ _ _ 160 b 0#64 false 0 z32 (by exact g0)
end Sl
namespace Sl
open Go Go.LE Tb
open Sha (Lent qbq)
set_option maxRecDepth 20000
def RT (c:BitVec 64) (rk:Bool) (f:Int) (g:Nat→BitVec 8):qal:=B64 c::Bo rk::I f::aB 32 g
theorem RT_pc (c:BitVec 64) (rk:Bool) (f:Int) (g:Nat→BitVec 8):PC (RT c rk f g) := .B64 _ (.boo _ (.I _ (.aB _ _)))
theorem RT_length (c:BitVec 64) (rk:Bool) (f:Int) (g:Nat→BitVec 8):(RT c rk f g).length=35:=by simp only[RT,zE,qbX]
theorem RT_c (c:BitVec 64) (rk:Bool) (f:Int) (g:Nat→BitVec 8):qaS 0 1 (some (RT c rk f g))=some [B64 c]:=rfl
theorem RT_RC (c:BitVec 64) (rk:Bool) (f:Int) (T:List (BitVec 8)) (h:T.length=32):RT c rk f (fun j=>T.getD j 0#8)=RC c rk f T:=by rw[RT,RC,qe0 T 32 h]
theorem st_c (m:Nm) (x c:BitVec 64) (rk:Bool) (f:Int) (g:Nat→BitVec 8):stK 1 0 m (some [B64 x]) (some (RT c rk f g))=some ⟨Un,[],[(m,some (RT x rk f g))]⟩:=by
  rw[qcw,if_pos ⟨rfl,by rw[RT_length]; omega,rfl⟩]; rfl
theorem st_t (m:Nm) (x:BitVec 8) (c:BitVec 64) (rk:Bool) (f:Int) (g:Nat→BitVec 8) (i:Nat) (hi:i < 32):stK 1 (3+i) m (some [B8 x]) (some (RT c rk f g))=some ⟨Un,[],[(m,some (RT c rk f (set1 g i x)))]⟩:=by
  have h:=aB_st i 32 m x g hi
  rw[qcw,if_pos ⟨rfl,by rw[qbX]; omega,rfl⟩] at h
  have h2:qbh (aB 32 g) i [B8 x]=aB 32 (set1 g i x):=by
    have:=congrArg (fun o=>o.map fun r=>r.mods) h
    simpa using this
  rw[qcw,if_pos ⟨rfl,by rw[RT_length]; omega,rfl⟩]
  have e:qbh (RT c rk f g) (3+i) [B8 x]=RT c rk f (set1 g i x):=by
    rw[RT,RT,←h2,qbh,qbh,show 3+i=i+3 by omega]
    simp only[zf,zS,zE,zL,show i+3+(0+1)=(i+(0+1))+3 by omega,zd]
  rw[e]
theorem qha (k:Nat) (key:List (BitVec 8)) (g:BitVec 64) (s sl j sg ti me la:Int) (nm:List (BitVec 8)) (hnm:nm.length=16) (b:List (BitVec 8)) (hno:¬ hcOk g s sl j sg ti me la∨b.length≠512) :
    F C (k+20) 11 [.agg (bs key),.agg (HC g s sl j sg ti me la nm),.isl (bs b) b.length] []=some (.tup [.agg (RC 0#64 false 0 z32),N (if hcOk g s sl j sg ti me la then 160 else 1)],[],[]):=by
  rw[qaH Tb.f11]
  have hpH:=qcm g s sl j sg ti me la nm
  have hpR:=qbZ 0#64 false 0 z32
  have hc:=fun b H=>qeQ (k+9) b H g s sl j sg ti me la nm hnm
  have hz:(B64 0#64::Bo false::N 0::aB 32 fun _=>0#8)=RC 0#64 false 0 z32:=by rw[qff]; rfl
  have hl:(RC 0#64 false 0 z32).length=35:=rfl
  have hra:qaS 0 35 (some (RC 0#64 false 0 z32))=some (RC 0#64 false 0 z32):=rfl
  have hs:=fun m=>st35 m _ _ hl hl hpR.isCell
  have hha:=qcz g s sl j sg ti me la nm hnm
  by_cases hh:hcOk g s sl j sg ti me la
  · have h5 : b.length ≠ 512 := hno.resolve_left fun h => h hh
    have h5d:decide (b.length≠512)=true:=by simpa using h5
    rw[if_pos hh] at hc ⊢
    simp (disch:=first|omega|decide|simp only[nmsB,lB]) only[simprocAttr,-rR,-rS,leB,memB,arrB,numB,qaf,opsB,qan,qai,L11,hpH.isCell,hpR.isCell,qbn,hha,hc,hz,hs,hra,h5,h5d,qcF,qab,qad,qac,qaa,qag]
    show some (qbY 0 _ (.tup [.agg (RC 0#64 false 0 z32),N 160]))=_
    rw[qbB (by rw[qdx]; simp only[zK,zN,hpR.n7,qd0,zD] <;> rfl) (fun π=>by rw[qb0]; simp only[zB,zA,hpR.r7,qc8] <;> rfl)]
  · rw [if_neg hh] at hc ⊢
    simp (disch:=first|omega|decide|simp only[nmsB,lB]) only[simprocAttr,-rR,-rS,leB,memB,arrB,numB,qaf,opsB,qan,qai,L11,hpH.isCell,hpR.isCell,qbn,hha,hc,hz,hs,hra,qcF,qab,qad,qac,qaa,qag]
    show some (qbY 0 _ (.tup [.agg (RC 0#64 false 0 z32),N 1]))=_
    rw[qbB (by rw[qdx]; simp only[zK,zN,hpR.n7,qd0,zD] <;> rfl) (fun π=>by rw[qb0]; simp only[zB,zA,hpR.r7,qc8] <;> rfl)]
def rrJ0 (b:List (BitVec 8)) (key hd:qal) (rk:Bool) (f:Int) (i:Nat) (st:St):Prop := ∃ (H:Heap),
  st=⟨[.undef,.undef,.isl (bs b) 512,.ptr (1,0) 0,.ptr (1,1) 0,.undef,.ptr (1,2) 0,.undef,.ptr (1,3) 0,N i,.undef,.undef,.undef,.undef,.undef,.undef,.undef,.undef,.undef,.undef,.undef,.undef,.undef,.undef,.undef,.undef,.undef,.undef,.undef,.undef,.undef,.undef,.undef,.undef,.undef,.undef,.undef,.undef,.undef,.undef,.undef,.undef,.undef,.undef,.undef,.undef,.undef,.undef,.undef,.undef,.undef,.undef,.undef,.undef,.undef,.undef,.undef,.undef,.undef,.undef,.undef,.undef,.undef,.undef,.undef,.undef,.undef,.undef,.undef,.undef,.undef,.undef,.undef,.undef,.undef,.undef,.undef,.undef,.undef,.undef,.undef,.undef,.undef,.undef,.undef,.undef,.undef,Un,Un,Un,Un,Un,.undef,.undef,.undef],H,2,0⟩ ∧
  H (1,0)=some key∧H (1,1)=some hd∧H (1,2)=some (RC 0#64 false 0 z32)∧H (1,3)=some (RT (leU ((b.drop 4).take 8) i) rk f fun _=>0#8)
theorem rr0_round (k K:Nat) (b:List (BitVec 8)) (hb:b.length=512) (key hd:qal) (pk:PC key) (phd:PC hd) (rk:Bool) (f:Int) (i:Nat) (hi:i < 8) (st:St) (hJ:rrJ0 b key hd rk f i st) :
    ∃ st1,ev (envC C k) K L11b1 st=some (.normal,st1)∧rrJ0 b key hd rk f (i+1) (qa8 L11k1 st1):=by
  obtain ⟨H,rfl,h0,h1,h2,h3⟩:=hJ
  have hix:4+i < 512:=by omega
  have h8:8*i < 64:=by omega
  have hc:∀ H:Heap,qb6 H 1 (.ipt ((bs b).drop (4+i)))=some [B8 (((b.drop 4).take 8).getD i 0#8)]:=fun H=>by
    rw[qdP b _ (by omega)]
    congr 3
    rw[List.getD_eq_getElem?_getD,List.getD_eq_getElem?_getD,List.getElem?_take,if_pos hi,List.getElem?_drop]
  have pR:=qbZ 0#64 false 0 z32
  have pT:=RT_pc (leU ((b.drop 4).take 8) i) rk f fun _=>0#8
  have hcc:=RT_c (leU ((b.drop 4).take 8) i) rk f fun _=>0#8
  apply Exists.intro
  apply And.intro
  · simp (disch := first | omega | decide | simp only [nmsB, lB]) only [simprocAttr, -rR, -rS, leB, memB, arrB, numB, qaf, opsB, ordB, qak, qan, qai, qaI, L11b1, hi, hix, h8, h0, h1, h2, h3, hc, hcc, st_c, ibp_nms, qab, qad, qac, qaa, qas, qah, qag]
    rfl
  · refine qao [(1, 0), (1, 1), (1, 2), (1, 3)] rfl (by simp only [simprocAttr, -rR, -rS, qak, L11k1, qam, qbg, h0, h1, h2, h3, pk.nms, phd.nms, pR.nms, (RT_pc _ _ _ _).nms, qah, qac, qaa]) (by simp only [simprocAttr, -rR, -rS, qak, L11k1, zB, zA, qbj, qah, qac, qaa] <;> rfl) ⟨_, rfl, ?_, ?_, ?_, ?_⟩
    · exact qaj (1,0) rfl (by simp (disch:=first|omega|decide|simp only[nmsB,lB]) only[simprocAttr,-rR,-rS,memB,h0,qab]) (pk.ren 7 _)
    · exact qaj (1,1) rfl (by simp (disch:=first|omega|decide|simp only[nmsB,lB]) only[simprocAttr,-rR,-rS,memB,h1,qab]) (phd.ren 7 _)
    · exact qaj (1,2) rfl (by simp (disch:=first|omega|decide|simp only[nmsB,lB]) only[simprocAttr,-rR,-rS,memB,h2,qab]) (pR.ren 7 _)
    · exact qaj (1,3) rfl (by simp (disch:=first|omega|decide|simp only[nmsB,lB]) only[simprocAttr,-rR,-rS,memB,qab] <;> rfl) ((RT_pc _ _ _ _).ren 7 _)
def rrJ1 (b:List (BitVec 8)) (key hd:qal) (c:BitVec 64) (rk:Bool) (f:Int) (i:Nat) (st:St):Prop := ∃ (H:Heap),
  st=⟨[.undef,.undef,.isl (bs b) 512,.ptr (1,0) 0,.ptr (1,1) 0,.undef,.ptr (1,2) 0,.undef,.ptr (1,3) 0,.undef,N i,.undef,.undef,.undef,.undef,.undef,.undef,.undef,.undef,.undef,.undef,.undef,.undef,.undef,.undef,.undef,.undef,.undef,.undef,.undef,.undef,.undef,.undef,.undef,.undef,.undef,.undef,.undef,.undef,.undef,.undef,.undef,.undef,.undef,.undef,.undef,.undef,.undef,.undef,.undef,.undef,.undef,.undef,.undef,.undef,.undef,.undef,.undef,.undef,.undef,.undef,.undef,.undef,.undef,.undef,.undef,.undef,.undef,.undef,.undef,.undef,.undef,.undef,.undef,.undef,.undef,.undef,.undef,.undef,.undef,.undef,.undef,.undef,.undef,.undef,.undef,.undef,Un,Un,Un,Un,Un,.undef,.undef,.undef],H,2,0⟩ ∧
  H (1,0)=some key∧H (1,1)=some hd∧H (1,2)=some (RC 0#64 false 0 z32)∧H (1,3)=some (RT c rk f (pfx (tB b) i))
theorem rr1_round (k K:Nat) (b:List (BitVec 8)) (hb:b.length=512) (key hd:qal) (pk:PC key) (phd:PC hd) (c:BitVec 64) (rk:Bool) (f:Int) (i:Nat) (hi:i < 32) (st:St) (hJ:rrJ1 b key hd c rk f i st) :
    ∃ st1,ev (envC C k) K L11b0 st=some (.normal,st1)∧rrJ1 b key hd c rk f (i+1) (qa8 L11k0 st1):=by
  obtain ⟨H,rfl,h0,h1,h2,h3⟩:=hJ
  have hix:17+i < 512:=by omega
  have hc:∀ H:Heap,qb6 H 1 (.ipt ((bs b).drop (17+i)))=some [B8 ((tB b).getD i 0#8)]:=fun H=>by
    rw[qdP b _ (by omega)]
    congr 3
    rw[tB,List.getD_eq_getElem?_getD,List.getD_eq_getElem?_getD,List.getElem?_take,if_pos hi,List.getElem?_drop]
  have pR:=qbZ 0#64 false 0 z32
  have hst:=fun m=>st_t m ((tB b).getD i 0#8) c rk f (pfx (tB b) i) i hi
  rw[pfx_succ] at hst
  apply Exists.intro
  apply And.intro
  · simp (disch := first | omega | decide | simp only [nmsB, lB]) only [simprocAttr, -rR, -rS, leB, memB, arrB, numB, qaf, opsB, ordB, qak, qan, qai, qaI, L11b0, hi, hix, h0, h1, h2, h3, hc, hst, qab, qad, qac, qaa, qas, qah, qag]
    rfl
  · refine qao [(1, 0), (1, 1), (1, 2), (1, 3)] rfl (by simp only [simprocAttr, -rR, -rS, qak, L11k0, qam, qbg, h0, h1, h2, h3, pk.nms, phd.nms, pR.nms, (RT_pc _ _ _ _).nms, qah, qac, qaa]) (by simp only [simprocAttr, -rR, -rS, qak, L11k0, zB, zA, qbj, qah, qac, qaa] <;> rfl) ⟨_, rfl, ?_, ?_, ?_, ?_⟩
    · exact qaj (1,0) rfl (by simp (disch:=first|omega|decide|simp only[nmsB,lB]) only[simprocAttr,-rR,-rS,memB,h0,qab]) (pk.ren 7 _)
    · exact qaj (1,1) rfl (by simp (disch:=first|omega|decide|simp only[nmsB,lB]) only[simprocAttr,-rR,-rS,memB,h1,qab]) (phd.ren 7 _)
    · exact qaj (1,2) rfl (by simp (disch:=first|omega|decide|simp only[nmsB,lB]) only[simprocAttr,-rR,-rS,memB,h2,qab]) (pR.ren 7 _)
    · exact qaj (1,3) rfl (by simp (disch:=first|omega|decide|simp only[nmsB,lB]) only[simprocAttr,-rR,-rS,memB,qab]) ((RT_pc _ _ _ _).ren 7 _)
end Sl
namespace Sl
open Go Go.LE Tb
open Sha (Lent qbq)
set_option maxRecDepth 20000
theorem kB_get (b:List (BitVec 8)) (h:13≤b.length):kB b=(b.getD 12 0#8 == 1#8):=by
  have h0:((b.drop 12).take 1).getD 0 0#8=b.getD 12 0#8:=by
    rw[List.getD_eq_getElem?_getD,List.getD_eq_getElem?_getD,List.getElem?_take,if_pos (by decide),List.getElem?_drop]
  rw[kB,leU,leU,h0,Bool.eq_iff_iff,beq_iff_eq,beq_iff_eq]
  generalize b.getD 12 0#8=x
  have hx:=x.isLt
  have e:(0#64 ||| x.setWidth 64 <<< (8*0)).toNat=x.toNat:=by
    rw[Nat.mul_zero,BitVec.shiftLeft_zero,BitVec.zero_or,BitVec.toNat_setWidth,Nat.mod_eq_of_lt (by omega)]
  constructor
  · intro hh
    apply BitVec.eq_of_toNat_eq
    rw[←e,hh]; rfl
  · rintro rfl; rfl
theorem fB_nat (b:List (BitVec 8)):fB b=(epN (b.drop 13):Int):=by
  have h:=leU_lt ((b.drop 13).take 4) 4 (by decide)
  rw[fB,epN,BitVec.toInt_eq_toNat_of_lt (by omega)]
theorem out_r0 (st:St) (z:Nat) (c:BitVec 64) (rk:Bool) (f:Int) (tr:List (BitVec 8)):some (qbY 0 st (.tup [.agg (RC c rk f tr),N z]))=some (.tup [.agg (RC c rk f tr),N z],[],[]):=by
  have hpR:=qbZ c rk f tr
  rw[qbB (by rw[qdx]; simp only[zK,zN,hpR.n7,qd0,zD] <;> rfl) (fun π=>by rw[qb0]; simp only[zB,zA,hpR.r7,qc8] <;> rfl)]
theorem qho (k:Nat) (key:List (BitVec 8)) (hkey:key.length=32) (g:BitVec 64) (s sl j sg ti me la:Int) (nm:List (BitVec 8)) (hnm:nm.length=16) (hh:hcOk g s sl j sg ti me la) (b:List (BitVec 8)) (hb:b.length=512) :
    (rrOk key g s sl j sg ti me la nm b→F C (k+1500) 11 [.agg (bs key),.agg (HC g s sl j sg ti me la nm),.isl (bs b) b.length] []=some (.tup [.agg (RC (cB b) (kB b) (fB b) (tB b)),N 0],[],[])) ∧
    (¬ rrOk key g s sl j sg ti me la nm b→F C (k+1500) 11 [.agg (bs key),.agg (HC g s sl j sg ti me la nm),.isl (bs b) b.length] []=some (.tup [.agg (RC 0#64 false 0 z32),N 160],[],[])):=by
  rw[qaH Tb.f11]
  have hpH:=qcm g s sl j sg ti me la nm
  have hpR:=qbZ 0#64 false 0 z32
  have hc:=fun b H=>qeQ (k+1489) b H g s sl j sg ti me la nm hnm
  rw[if_pos hh] at hc
  have hz:(B64 0#64::Bo false::N 0::aB 32 fun _=>0#8)=RC 0#64 false 0 z32:=by rw[qff]; rfl
  have hl:(RC 0#64 false 0 z32).length=35:=rfl
  have hs:=fun m c rk f=>st35 m (RC 0#64 false 0 z32) (RC c rk f z32) hl rfl (qbZ c rk f z32).isCell
  have hpc:=fun c rk f=>(qbZ c rk f z32).isCell
  have hka:qaS 0 32 (some (bs key))=some (bs key):=by
    rw[qaS,if_pos (by rw[qaM]; omega),zF,List.take_of_length_le (by rw[qaM]; omega)]
  have hha:=qcz g s sl j sg ti me la nm hnm
  obtain ⟨f,hf⟩:∃ f:Nat→BitVec 8,f=fun j=>(b.drop 13).getD j 0#8:=⟨_,rfl⟩
  have he:epN (b.drop 13)=((f 0).toNat ||| (f 1).toNat*256 ||| (f 2).toNat*65536) ||| (f 3).toNat*16777216:=by rw[epN_or (b.drop 13) (by rw[zR]; omega),hf]
  have l0:=(f 0).isLt
  have l1:=(f 1).isLt
  have l2:=(f 2).isLt
  have l3:=(f 3).isLt
  have o1:binV .or .none (I ((f 0).toNat:Int)) (N ((f 1).toNat*256))=some (N ((f 0).toNat ||| (f 1).toNat*256)):=N_or .none (f 0).toNat ((f 1).toNat*256) (by omega) (by omega)
  have b1:(f 0).toNat ||| (f 1).toNat*256 < 2 ^ 40:=Nat.or_lt_two_pow (by omega) (by omega)
  have o2:=N_or .none ((f 0).toNat ||| (f 1).toNat*256) ((f 2).toNat*65536) (by omega) (by omega)
  have b2:(f 0).toNat ||| (f 1).toNat*256 ||| (f 2).toNat*65536 < 2 ^ 40:=Nat.or_lt_two_pow b1 (by omega)
  have o3:=N_or .none ((f 0).toNat ||| (f 1).toNat*256 ||| (f 2).toNat*65536) ((f 3).toNat*16777216) (by omega) (by omega)
  have s1:binV .shl .none (I ((f 1).toNat:Int)) (B64 8#64)=some (N ((f 1).toNat*256)):=N_shl64 _ _ _ (by decide) (by simp; omega)
  have s2:binV .shl .none (I ((f 2).toNat:Int)) (B64 16#64)=some (N ((f 2).toNat*65536)):=N_shl64 _ _ _ (by decide) (by simp; omega)
  have s3:binV .shl .none (I ((f 3).toNat:Int)) (B64 24#64)=some (N ((f 3).toNat*16777216)):=N_shl64 _ _ _ (by decide) (by simp; omega)
  rw[←he] at o3
  have hcA:∀ (H:Heap) (n:Nat),n < 512→qb6 H 1 (.ipt ((bs b).drop n))=some [B8 (b.getD n 0#8)]:=fun H n hn=>qdP b n (by omega)
  have hg:∀ n,b.getD (13+n) 0#8=f n:=fun n=>by
    rw[hf]; simp only[List.getD_eq_getElem?_getD,List.getElem?_drop]
  have c12:=fun H=>hcA H 12 (by decide)
  have c13:=fun H=>hcA H 13 (by decide)
  have c14:=fun H=>hcA H 14 (by decide)
  have c15:=fun H=>hcA H 15 (by decide)
  have c16:=fun H=>hcA H 16 (by decide)
  rw[hg 0] at c13; rw[hg 1] at c14; rw[hg 2] at c15; rw[hg 3] at c16
  have hbf:∀ x y,fill (RC 0#64 false 0 z32) [(1,1,Bo x),(2,1,N y)]=some (RC 0#64 x y z32):=fun _ _=>rfl
  have hpn:=fun c rk f=>(qbZ c rk f z32).anms
  rw[hb]
  simp (disch:=first|omega|decide|simp only[nmsB,lB]) only[simprocAttr,-rR,-rS,leB,memB,arrB,numB,qaf,opsB,ordB,qak,qan,qai,qaI,L11,hpH.isCell,hpR.isCell,qbn,hha,hc,hz,hs,hpc,c12,c13,c14,c15,c16,s1,s2,s3,o1,o2,o3,hbf,hpn,ibp_nms,qad,qac,qaa,qas,qah,qag]
  rw[←kB_get b (by omega),←fB_nat b]
  generalize hL:qa1 L11k1 _ _ _=z
  have ht:=qfV b (by omega)
  have hB : (rtOk g s sl j sg ti me la (kB b) (fB b) ∧ (qbL key s.toNat nm (cB b) (kB b) (fB b).toNat (tB b)).length = 512 ∧ ∀ (bb : Nat) (H : Heap), qar (envC C (k + 1499)) H bb 8 [.agg (bs key), .agg (HC g s sl j sg ti me la nm), .agg (RC (cB b) (kB b) (fB b) (tB b))] = some ⟨.tup [.sl (bb, 0) 0 512 none 1, N 0], [bs (qbL key s.toNat nm (cB b) (kB b) (fB b).toNat (tB b))], []⟩) ∨
    (¬ rtOk g s sl j sg ti me la (kB b) (fB b)∧∀ (bb:Nat) (H:Heap),qar (envC C (k+1499)) H bb 8 [.agg (bs key),.agg (HC g s sl j sg ti me la nm),.agg (RC (cB b) (kB b) (fB b) (tB b))]=some ⟨.tup [Nil,N 1],[],[]⟩):=by
    by_cases hok:rtOk g s sl j sg ti me la (kB b) (fB b)
    · left
      obtain ⟨s',f',e1,e2,hf',hr,hh'⟩:=rtOk_nat hok
      rw[e1,e2] at hok ⊢
      exact ⟨hok,(qfo key s' nm (cB b) (kB b) f' (tB b) ht).1,fun bb H=>qhQ (k+99) bb H key hkey g s' sl j sg ti me la nm hnm hh' (cB b) (kB b) f' (tB b) ht hf' hr⟩
    · exact .inr ⟨hok,fun bb H=>rb_bad (b:=bb) (H:=H) (k:=k+1499) l8 (qhW (k+1479) key hkey g s sl j sg ti me la nm hnm (cB b) (kB b) (fB b) (tB b) ht hok)⟩
  have hfb:∀ H,qbp H 1 512 (.isl (bs b) 512)=some (bs b):=fun H=>qb9 b 512 hb
  have hrl:(RC (cB b) (kB b) (fB b) (tB b)).length=35:=by simp only[RC,zE,qaM,ht]
  have hrb:qaS 0 35 (some (RC (cB b) (kB b) (fB b) (tB b)))=some (RC (cB b) (kB b) (fB b) (tB b)):=by
    rw[qaS,if_pos (by omega),zF,List.take_of_length_le (by omega)]
  have hrz:qaS 0 35 (some (RC 0#64 false 0 z32))=some (RC 0#64 false 0 z32):=rfl
  have hpb:=qbZ (cB b) (kB b) (fB b) (tB b)
  have hs2:=fun m=>st35 m (RC 0#64 false 0 z32) (RC (cB b) (kB b) (fB b) (tB b)) hl hrl hpb.isCell
  have hsz:=fun m=>st35 m (RC 0#64 false 0 z32) (RC 0#64 false 0 z32) hl hl hpR.isCell
  refine qaR hL (rrJ0 b (bs key) (HC g s sl j sg ti me la nm) (kB b) (fB b)) 8 (by omega) (fun i st hi hJ=>rr0_round _ _ b hb _ _ (.bs key) hpH (kB b) (fB b) i hi st hJ) ?_ ?_ ?_
  · refine qao [(2, 0), (3, 0), (4, 0), (39, 0)] rfl (by simp only [simprocAttr, -rR, -rS, qak, L11k1, qam, qbg, hpH.nms, hpR.nms, (qbZ _ _ _ _).nms, qah, qac, qaa]) (by simp only [simprocAttr, -rR, -rS, qak, L11k1, zB, zA, qbj, qah, qac, qaa] <;> rfl) ⟨_, rfl, ?_, ?_, ?_, ?_⟩
    · exact qaj (2,0) rfl rfl (qaq _ _)
    · exact qaj (3,0) rfl rfl (hpH.ren 7 _)
    · exact qaj (4,0) rfl rfl (hpR.ren 7 _)
    · rw[RT,qff]; exact qaj (39,0) rfl rfl ((qbZ _ _ _ _).ren 7 _)
  · rintro st ⟨H, rfl, h0, h1, h2, h3⟩
    apply qaO
    simp (disch:=first|omega|decide|simp only[nmsB,lB]) only[simprocAttr,-rR,-rS,leB,memB,arrB,numB,qaf,L11b1,qae,qab,qad,qac,qaa]
    rfl
  · rintro st ⟨H, rfl, h0, h1, h2, h3⟩ rfl
    rw[←cB] at h3
    simp (disch:=first|omega|decide|simp only[nmsB,lB]) only[simprocAttr,-rR,-rS,leB,memB,arrB,numB,qaf,opsB,qan,qai,L11b1,h0,h1,h2,h3,qab,qad,qac,qaa,qag]
    clear hL
    generalize hL:qa1 L11k0 _ _ _=z
    refine qaR hL (rrJ1 b (bs key) (HC g s sl j sg ti me la nm) (cB b) (kB b) (fB b)) 32 (by omega) (fun i st hi hJ=>rr1_round _ _ b hb _ _ (.bs key) hpH (cB b) (kB b) (fB b) i hi st hJ) ?_ ?_ ?_
    · refine qao [(1, 0), (1, 1), (1, 2), (1, 3)] rfl (by simp only [simprocAttr, -rR, -rS, qak, L11k0, qam, qbg, hpH.nms, hpR.nms, (RT_pc _ _ _ _).nms, h0, h1, h2, h3, qah, qac, qaa]) (by simp only [simprocAttr, -rR, -rS, qak, L11k0, zB, zA, qbj, qah, qac, qaa] <;> rfl) ⟨_, rfl, ?_, ?_, ?_, ?_⟩
      · exact qaj (1,0) rfl h0 (qaq _ _)
      · exact qaj (1,1) rfl h1 (hpH.ren 7 _)
      · exact qaj (1,2) rfl h2 (hpR.ren 7 _)
      · rw[pfx_0]; exact qaj (1,3) rfl h3 ((RT_pc _ _ _ _).ren 7 _)
    · rintro st ⟨H, rfl, h0, h1, h2, h3⟩
      apply qaO
      simp (disch:=first|omega|decide|simp only[nmsB,lB]) only[simprocAttr,-rR,-rS,leB,memB,arrB,numB,qaf,L11b0,qae,qab,qad,qac,qaa]
      rfl
    · rintro st ⟨H, rfl, h0, h1, h2, h3⟩ rfl
      rw[show RT (cB b) (kB b) (fB b) (pfx (tB b) 32)=RC (cB b) (kB b) (fB b) (tB b) by
        rw[←RT_RC _ _ _ _ ht,RT,RT,qcn 32 fun j hj=>(by rw[pfx,if_pos hj]:pfx (tB b) 32 j=(tB b).getD j 0#8)]] at h3
      rcases hB with ⟨hok,hql,hR⟩ | ⟨hok,hR⟩
      · simp only [rrOk]
        generalize qbL key s.toNat nm (cB b) (kB b) (fB b).toNat (tB b)=Q at *
        have hfq:qb8 0 1 512 (some (bs Q))=some (bs Q):=qag 512 _ hql.symm
        by_cases hq:b=Q
        · have hd : decide (Q = b) = true := decide_eq_true hq.symm
          refine ⟨fun _ => ?_,fun h=>absurd ⟨hok,hq⟩ h⟩
          simp (disch:=first|omega|decide|simp only[nmsB,lB]) only[simprocAttr,-rR,-rS,leB,memB,arrB,numB,qaf,opsB,qan,qai,L11b0,h0,h1,h2,h3,hka,hha,hrb,hR,hfq,hfb,hd,hs2,op_b2s,b2sV_sl,b2sV_isl,b2sK_bs,txt_neq',qcF,qab,qad,qac,qaa,qag]
          exact out_r0 _ 0 _ _ _ _
        · have hd : decide (Q = b) = false := decide_eq_false fun h => hq h.symm
          refine ⟨fun h=>absurd h.2 hq,fun _ => ?_⟩
          simp (disch:=first|omega|decide|simp only[nmsB,lB]) only[simprocAttr,-rR,-rS,leB,memB,arrB,numB,qaf,opsB,qan,qai,L11b0,h0,h1,h2,h3,hka,hha,hrb,hrz,hR,hfq,hfb,hd,hsz,op_b2s,b2sV_sl,b2sV_isl,b2sK_bs,txt_neq',qcF,qab,qad,qac,qaa,qag]
          exact out_r0 _ 160 _ _ _ _
      · refine ⟨fun h => absurd h.1 hok, fun _ => ?_⟩
        simp (disch:=first|omega|decide|simp only[nmsB,lB]) only[simprocAttr,-rR,-rS,leB,memB,arrB,numB,qaf,opsB,qan,qai,L11b0,h0,h1,h2,h3,hka,hha,hrb,hrz,hR,hsz,qcF,qab,qad,qac,qaa,qag]
        exact out_r0 _ 160 _ _ _ _
end Sl
namespace Sl
open Go Go.LE Tb
open Sha (Lent qbq)
set_option maxRecDepth 20000
theorem rrOk_512 {key:List (BitVec 8)} {g:BitVec 64} {s sl j sg ti me la:Int} {nm b:List (BitVec 8)} (h49:49≤b.length) (h:rrOk key g s sl j sg ti me la nm b):b.length=512:=by
  obtain ⟨hok,he⟩:=h
  rw[he]
  exact (qfo key s.toNat nm (cB b) (kB b) (fB b).toNat (tB b) (qfV b h49)).1
theorem reads_both (key:List (BitVec 8)) (hkey:key.length=32) (g:BitVec 64) (s sl j sg ti me la:Int) (nm:List (BitVec 8)) (hnm:nm.length=16) (b:List (BitVec 8)) (hb2:b.length≤140737488351232) :
    ∃ c rk f tr z, tr.length = 32 ∧ (∀ k cp, (b.length = 0 → cp = some 0) → F C (k + 1500) 10 [.agg (bs key), .agg (HC g s sl j sg ti me la nm), .sl (0, 0) 0 b.length cp 1] [bs b] = some (.tup [.agg (RC c rk f tr), N z], [some (bs b)], [])) ∧
      ∀ k,F C (k+1500) 11 [.agg (bs key),.agg (HC g s sl j sg ti me la nm),.isl (bs b) b.length] []=some (.tup [.agg (RC c rk f tr),N z],[],[]):=by
  by_cases hh:hcOk g s sl j sg ti me la
  · by_cases h5 : b.length = 512
    · by_cases hr : rrOk key g s sl j sg ti me la nm b
      · exact ⟨_,_,_,_,_,qfV b (by omega),fun k cp _=>(qf6 k key hkey g s sl j sg ti me la nm hnm hh b cp (by omega) (by omega)).1 hr,fun k=>(qho k key hkey g s sl j sg ti me la nm hnm hh b h5).1 hr⟩
      · exact ⟨_,_,_,_,_,z32_len,fun k cp _=>(qf6 k key hkey g s sl j sg ti me la nm hnm hh b cp (by omega) (by omega)).2 hr,fun k=>(qho k key hkey g s sl j sg ti me la nm hnm hh b h5).2 hr⟩
    · have hR := fun k => qha (k + 1480) key g s sl j sg ti me la nm hnm b (.inr h5)
      rw[if_pos hh] at hR
      refine ⟨_,_,_,_,_,z32_len,fun k cp hcp => ?_,hR⟩
      by_cases h4:b.length < 4
      · exact readRoot_lt4 k key hkey g s sl j sg ti me la nm hnm hh b cp h4 hcp
      · by_cases h49 : b.length < 49
        · exact readRoot_lt49 k key hkey g s sl j sg ti me la nm hnm hh b cp (by omega) h49
        · exact (qf6 k key hkey g s sl j sg ti me la nm hnm hh b cp (by omega) (by omega)).2 fun h=>h5 (rrOk_512 (by omega) h)
  · have hR := fun k => qha (k + 1480) key g s sl j sg ti me la nm hnm b (.inl hh)
    rw[if_neg hh] at hR
    exact ⟨_,_,_,_,_,z32_len,fun k cp _=>readRoot_no k key hkey g s sl j sg ti me la nm hnm hh b cp,hR⟩
theorem qgq {K b z len:Nat} {H:Heap} {key nm l tr:List (BitVec 8)} {g c:BitVec 64} {s sl j sg ti me la f:Int} {rk:Bool} {cp:Option Nat} (m:Nm) (hm:H m=some (bs l))
    (hF:F C K 10 [.agg (bs key),.agg (HC g s sl j sg ti me la nm),.sl (0,0) 0 len cp 1] [bs l]=some (.tup [.agg (RC c rk f tr),N z],[some (bs l)],[])) :
    qar (envC C K) H b 10 [.agg (bs key),.agg (HC g s sl j sg ti me la nm),.sl m 0 len cp 1]=some ⟨.tup [.agg (RC c rk f tr),N z],[],[(m,some (bs l))]⟩:=by
  have hi:∀ x:Nm,idx x [x] 0=some 0:=fun x=>by simp[idx]
  rw [Aes.qb4 K b 10 l10 H [.agg (bs key), .agg (HC g s sl j sg ti me la nm), .sl m 0 len cp 1] [.agg (bs key), .agg (HC g s sl j sg ti me la nm), .sl (0, 0) 0 len cp 1] [m] [m] [bs l] _
    (by simp only[zK,zN,(qcm g s sl j sg ti me la nm).anms,(PC.bs key).anms,zD,zI] <;> rfl) ((Aes.qaA rfl hm (qam _)).trans (qba _ _ _))
    (by simp only[zB,zA,(qcm g s sl j sg ti me la nm).aren,(PC.bs key).aren,qaZ,qbC,hi,zC,qa9]) (by simp only[List.filterMap_cons,zQ,hm,zB,zA,qaq]) hF,qaT]
  simp only[qb0,zB,zA,(qbZ c rk f tr).r7,qc8,List.zipWith_cons_cons,List.zipWith_nil_left,zC,qaq]
theorem qhX {K b z:Nat} {H:Heap} {key nm l tr:List (BitVec 8)} {g c:BitVec 64} {s sl j sg ti me la f:Int} {rk:Bool}
    (hF:F C K 11 [.agg (bs key),.agg (HC g s sl j sg ti me la nm),.isl (bs l) l.length] []=some (.tup [.agg (RC c rk f tr),N z],[],[])) :
    qar (envC C K) H b 11 [.agg (bs key),.agg (HC g s sl j sg ti me la nm),.isl (bs l) l.length]=some ⟨.tup [.agg (RC c rk f tr),N z],[],[]⟩:=by
  have hpR:=qbZ c rk f tr
  have hpl:qa5 (.tup [.agg (RC c rk f tr),N z],[],[])=true:=by
    have h1:(RC c rk f tr).all (qbP 6)=true:=by
      rw[List.all_eq_true]; intro x hx
      rcases hpR x hx with ⟨k,n,rfl⟩ | ⟨b,rfl⟩ <;> rfl
    show (((RC c rk f tr).all (qbP 6) && (true && true)) && true && true)=true
    rw[h1]; rfl
  rw[call_l3 rfl rfl rfl (qbq H l []) (PC.bs key).anms (qcm g s sl j sg ti me la nm).anms (PC.bs key).aren (qcm g s sl j sg ti me la nm).aren hpl hF,qaT]
  simp only[qb0,zB,zA,hpR.r7,qc8,List.zipWith_nil_left]
theorem sealReads_F (k:Nat) (key:List (BitVec 8)) (hkey:key.length=32) (g:BitVec 64) (s sl j sg ti me la:Int) (nm:List (BitVec 8)) (hnm:nm.length=16) (b:List (BitVec 8)) (hb:b.length≤140737488351232) :
    F C (k+12001) 4 [.agg (bs key),.agg (HC g s sl j sg ti me la nm),.isl (bs b) b.length] []=some (Bo true,[],[]):=by
  rw[qaH Tb.f4]
  have hlv:=fun b H=>lives_call k b H
  have hpH:=qcm g s sl j sg ti me la nm
  have hka:qaS 0 32 (some (bs key))=some (bs key):=by
    rw[qaS,if_pos (by rw[qaM]; omega),zF,List.take_of_length_le (by rw[qaM]; omega)]
  have hha:=qcz g s sl j sg ti me la nm hnm
  obtain ⟨c,rk,f,tr,z,ht,hA,hB⟩:=reads_both key hkey g s sl j sg ti me la nm hnm b hb
  have hpR:=qbZ c rk f tr
  have hrl:(RC c rk f tr).length=35:=by simp only[RC,zE,qaM,ht]
  have hrb:qaS 0 35 (some (RC c rk f tr))=some (RC c rk f tr):=by
    rw[qaS,if_pos (by omega),zF,List.take_of_length_le (by omega)]
  have hz:([B64 0#64,Bo false,N 0,B8 0#8,B8 0#8,B8 0#8,B8 0#8,B8 0#8,B8 0#8,B8 0#8,B8 0#8,B8 0#8,B8 0#8,B8 0#8,B8 0#8,B8 0#8,B8 0#8,B8 0#8,B8 0#8,B8 0#8,B8 0#8,B8 0#8,B8 0#8,B8 0#8,B8 0#8,B8 0#8,B8 0#8,B8 0#8,B8 0#8,B8 0#8,B8 0#8,B8 0#8,B8 0#8,B8 0#8,B8 0#8]:qal)=RC 0#64 false 0 z32:=rfl
  have hk':=(PC.bs key).anms
  have hh':=hpH.anms
  have hs:=fun m=>st35 m (RC 0#64 false 0 z32) (RC c rk f tr) rfl hrl hpR.isCell
  have hre:=RC_refl c rk f tr ht
  have hy:=fun bb H=>qhX (b:=bb) (H:=H) (hB (k+10500))
  by_cases h0:b.length=0
  · obtain rfl : b = [] := List.length_eq_zero_iff.1 h0
    have hfp:∀ H,qbp H 1 0 (.isl (bs []) 0)=some (bs []):=fun H=>qb9 [] 0 rfl
    have hx:=fun (bb:Nat) (H:Heap) (m:Nm) (hm:H m=some (bs []))=>qgq (b:=bb) m hm (hA (k+10500) (some 0) fun _=>rfl)
    simp only[zL] at hx hy
    simp (disch:=first|omega|decide|simp only[nmsB,lB]) only[simprocAttr,-rR,-rS,leB,memB,arrB,numB,qaf,opsB,ordB,qak,qan,qai,qaI,L4,qbn,hpH.isCell,hpR.isCell,hka,hha,hfp,hlv,hrl,hrb,hz,hs,hy,hk',hh',qam,zL,qab,qad,qac,qaa,qas,qah,qag]
    rw[hx _ _ (7,0) rfl,Sha.tr_bs (H:=only _ _) (m:=(7,0)) (l:=[]) rfl]
    simp (disch:=first|omega|decide|simp only[nmsB,lB]) only[simprocAttr,-rR,-rS,leB,memB,arrB,numB,qaf,opsB,ordB,qak,qan,qai,qaI,qbn,hpH.isCell,hpR.isCell,hka,hha,hlv,hrl,hrb,hz,hs,hy,hk',hh',hpR.anms,hre,qab,qad,qac,qaa,qas,qah,qag]
  · have h1 : 0 < b.length := by omega
    have hfp:∀ H,qbp H 1 b.length (.isl (bs b) b.length)=some (bs b):=fun H=>qb9 b b.length rfl
    have hap:∀ b' H m,appX b' 1 1 b.length H [] (bs b) (.sl m 0 0 (some 0) 1)=some ⟨.sl (b',0) 0 b.length none 1,[bs b],[]⟩:=fun b' H m=>appX_e b' b.length H m (bs b) h0 (by omega)
    have hx:=fun (bb:Nat) (H:Heap) (m:Nm) (hm:H m=some (bs b))=>qgq (b:=bb) m hm (hA (k+10500) none fun h=>absurd h h0)
    simp (disch:=first|omega|decide|simp only[nmsB,lB]) only[simprocAttr,-rR,-rS,leB,memB,arrB,numB,qaf,opsB,ordB,qak,qan,qai,qaI,L4,qbn,hpH.isCell,hpR.isCell,hka,hha,hfp,hap,h0,h1,hlv,hrl,hrb,hz,hs,hy,hk',hh',qam,qab,qad,qac,qaa,qas,qah,qag]
    rw[hx _ _ (9,0) rfl,Sha.tr_bs (H:=only _ _) (m:=(9,0)) (l:=b) rfl]
    simp (disch:=first|omega|decide|simp only[nmsB,lB]) only[simprocAttr,-rR,-rS,leB,memB,arrB,numB,qaf,opsB,ordB,qak,qan,qai,qaI,qbn,hpH.isCell,hpR.isCell,hka,hha,hlv,hrl,hrb,hz,hs,hy,hk',hh',hpR.anms,hre,qab,qad,qac,qaa,qas,qah,qag]
end Sl
