/- seal: what must come of every program, evaluated. -/
import Derived.Test.YtbdjmicabfclcaaGreatDoorLeK
import Derived.Test.YtbdjmicabfclcaaGreatDoorLeL
import Derived.Test.YtbdjmicabfclcaaGreatDoorLeJ
set_option linter.unusedVariables false
set_option linter.unusedSimpArgs false
open List renaming reduceReplicate → rR
open Nat renaming reduceSubDiff → rS
namespace Sl
open Go Go.LE Tb
open Sha (tagv qdx Lent qbf)
set_option maxRecDepth 20000
theorem qiA (k b:Nat) (H:Heap) (m:Nm) (hm:H m=some (bs [120#8])) :
    qaA (envC C (k+600)) H b 21 [.sl m 0 1 (some 1) 1]=some ⟨.sl (b,0) 0 512 (some 512) 1,[bs qer],[(m,some (bs [120#8]))]⟩:=by
  have hi:∀ x:Nm,idx x [x] 0=some 0:=fun x=>by simp[idx]
  rw[Aes.qcG (k+600) b 21 l21 H [.sl m 0 1 (some 1) 1] [.sl (0,0) 0 1 (some 1) 1] [m] [m] [bs [120#8]] _ rfl ((Aes.qaE rfl hm (qam _)).trans (qbm _ _ _)) (by simp only[zA,zB,qaY,qbM,hi,zC,qbj]) (by simp only[List.filterMap_cons,zS,hm,zA,zB,qar]) (Block_F k),qaW]
  simp only[qaY,qbs,zH,zM,zO,Nat.reduceAdd,Nat.reduceLT,zF,qbj,zA,zB,qar,List.zipWith_cons_cons,List.zipWith_nil_left,zC]
theorem ek_build:fill (N 0::aB 64 fun _=>0#8) [(0,1,N 3),(1,32,.agg (bs d1)),(33,32,.agg (bs t2))]=some (EK 3 d1 t2):=rfl
theorem seal_call (k b e n:Nat) (H:Heap) (d t p:List (BitVec 8)) (hd:d.length=32) (ht:t.length=32) (hp:p.length=512) (hm:mayE e n 512=0) (B:LV) (hB:Lent H B p []) :
    qaA (envC C (k+6000)) H b 6 [.agg (EK e d t),N n,B]=some ⟨.tup [.sl (b,0) 0 512 none 1,.agg (bs (recL e n t (qby d n p))),N 0],[bs (qby d n p)],[]⟩:=by
  have hn:qbN D (.agg (bs (recL e n t (qby d n p))))=true:=qhp (.bs _)
  have hpl:qa7 (.tup [.sl (1,0) 0 512 none 1,.agg (bs (recL e n t (qby d n p))),N 0],[],[bs (qby d n p)])=true:=by
    have hb:∀ (l:List (BitVec 8)) (d:Nat),(bs l).all (qbN (d+1))=true:=by
      intro l d; rw[List.all_eq_true]; intro x hx; obtain ⟨y,_,rfl⟩:=List.mem_map.1 hx; rfl
    show ((true && ((bs (recL e n t (qby d n p))).all (qbN 6) && (true && true))) && true && ((bs (qby d n p)).all (qbN D) && true))=true
    rw[hb,hb]; rfl
  rw[qgb rfl rfl rfl hB (qb6 e d t).anms rfl (qb6 e d t).aren (fun _=>rfl) hpl (Seal_F k e n d t p hd ht hp hm),qaW]
  have e1:ren 7 (qbh [] b 1) (.sl (1,0) 0 512 none 1) = .sl (b,0) 0 512 none 1:=by simp[ren,qbs]
  simp only[qbS,zA,zB,qar,(PC.bs _).r7,qdK,e1,zH,zM,zO,List.zipWith_nil_left]
theorem call_l4 {K b g:Nat} (h0:qaJ g 0=false) (h1:qaJ g 1=false) (h2:qaJ g 2=true) (h3:qaJ g 3=false) {H:Heap} {a x B y:LV} {bb:List (BitVec 8)} (hB:Lent H B bb [])
    (ha:nms D a=[]) (hx:nms D x=[]) (hy:nms D y=[]) (ra:∀ π,ren D π a=a) (rx:∀ π,ren D π x=x) (ry:∀ π,ren D π y=y) {res:qce} (hp:qa7 res=true)
    (hF:F C K g [a,x,.isl (bs bb) bb.length,y] []=some res):qaA (envC C K) H b g [a,x,B,y]=some (qcA [] b res):=by
  obtain ⟨lent,hs,hl⟩:=hB
  have hlend:lend H ((envC C K).borrow g) 0 [a,x,B,y]=some ([a,x,.isl (bs bb) bb.length,y],lent):=by
    rw[qba,qba,qba,qba,qct,qbK,qdg,h0,if_neg (by decide),h1,if_neg (by decide),if_pos h2,hs,h3,if_neg (by decide),qa3,qa3,qa3,qa3,zG,zG,zG,zD]
  rw [qbV, hlend, qbD, show ([a, x, .isl (bs bb) bb.length, y] : List LV).flatMap (nms D) = [] by simp only [zI, zN, qa1, ha, hx, hy, zD],
    show qa2 H FUEL [] []=[] from rfl,qbW _ _ _ _ _ hl,show ([a,x,.isl (bs bb) bb.length,y]:List LV).map (ren D (qaM []))=[a,x,.isl (bs bb) bb.length,y] by simp only[zA,zB,qa9,ra,rx,ry],
    zS,zB,qbU,hF,Sha.qcz _ _ _ _ hp]
theorem open_good (k b e n:Nat) (H:Heap) (d t p:List (BitVec 8)) (r:Nat→BitVec 8) (hd:d.length=32) (ht:t.length=32) (hp:p.length=512) (hm:mayE e n 512=0) (hr:(List.range 64).map r=recL e n t p) (B:LV) (hB:Lent H B p []) :
    qaA (envC C (k+6000)) H b 9 [.agg (EK e d t),N n,B,.agg (aB 64 r)]=some ⟨.tup [.sl (b,0) 0 512 none 1,N 0],[bs (qcp d n p)],[]⟩:=by
  have hb:∀ (l:List (BitVec 8)) (d:Nat),(bs l).all (qbN (d+1))=true:=by
    intro l d; rw[List.all_eq_true]; intro x hx; obtain ⟨y,_,rfl⟩:=List.mem_map.1 hx; rfl
  have hpl:qa7 (.tup [.sl (1,0) 0 512 none 1,N 0],[],[bs (qcp d n p)])=true:=by
    show ((true && (true && true)) && true && ((bs (qcp d n p)).all (qbN D) && true))=true
    rw[hb]; rfl
  have hF:=qfO k e n d t p r hd ht hp hm
  rw[if_pos hr] at hF
  have hy:PC (aB 64 r):=by rw[qcK]; exact .bs _
  rw[call_l4 rfl rfl rfl rfl hB (qb6 e d t).anms rfl hy.anms (qb6 e d t).aren (fun _=>rfl) hy.aren hpl hF,qaW]
  have e1:ren 7 (qbh [] b 1) (.sl (1,0) 0 512 none 1) = .sl (b,0) 0 512 none 1:=by simp[ren,qbs]
  simp only[qbS,zA,zB,qar,qdK,e1,zH,zM,zO,List.zipWith_nil_left]
theorem open_bad (k b e n:Nat) (H:Heap) (d t p:List (BitVec 8)) (r:Nat→BitVec 8) (hd:d.length=32) (ht:t.length=32) (hp:p.length=512) (hm:mayE e n 512=0) (hr:(List.range 64).map r≠recL e n t p) (B:LV) (hB:Lent H B p []) :
    qaA (envC C (k+6000)) H b 9 [.agg (EK e d t),N n,B,.agg (aB 64 r)]=some ⟨.tup [Nil,N 160],[],[]⟩:=by
  have hF:=qfO k e n d t p r hd ht hp hm
  rw[if_neg hr] at hF
  have hy:PC (aB 64 r):=by rw[qcK]; exact .bs _
  rw[call_l4 rfl rfl rfl rfl hB (qb6 e d t).anms rfl hy.anms (qb6 e d t).aren (fun _=>rfl) hy.aren rfl hF,qaW]
  rfl
theorem epoch_call (k b n:Nat) (H:Heap) (t p:List (BitVec 8)):qaA (envC C (k+40)) H b 11 [.agg (bs (recL 3 n t p))]=some ⟨.tup [N 3,N 0],[],[]⟩:=by
  have ht:(recL 3 n t p).take 4=f4 3:=by rw[recL]; exact List.take_left' rfl
  have hn:epN (recL 3 n t p)=3:=by rw[epN,ht]; rfl
  rw[qae l11 (by simp only[zI,zN,(PC.bs _).anms,zD]) (by simp only[zA,zB,(PC.bs _).aren]),Epoch_F k _ (qb4 _ _ _ _),epR,if_neg (by rw[hn]; exact fun h=>by cases h.1),hn]
  rfl
theorem head_call (k b n:Nat) (H:Heap):qaA (envC C (k+1)) H b 23 [N n]=some ⟨.agg (HC 1#64 n 1 40 2 1 8 1 (List.replicate 16 0#8)),[],[]⟩:=by
  have hp:=qfn 1#64 n 1 40 2 1 8 1 (List.replicate 16 0#8)
  rw[Aes.qcG (k+1) b 23 l23 H _ [N n] [] [] [] _ rfl rfl rfl rfl (Head_F k n),qaW,hp.aren]
  rfl
def d7:List (BitVec 8):=7#8::List.replicate 31 0#8
def z32:List (BitVec 8):=List.replicate 32 0#8
theorem qiG (k b:Nat) (H:Heap) (key:List (BitVec 8)) (hkey:key.length=32) (g:BitVec 64) (s:Nat) (sl j sg ti me la:Int) (nm:List (BitVec 8)) (hnm:nm.length=16) (hh:hcOk g s sl j sg ti me la) (c:BitVec 64) (rk:Bool) (f:Nat) (tr:List (BitVec 8)) (ht:tr.length=32) (hf:f≤s) (hr:rk=false→f=0) :
    qaA (envC C (k+1400)) H b 22 [.agg (bs key),.agg (HC g s sl j sg ti me la nm),.agg (RC c rk f tr)]=some ⟨.tup [.sl (b,0) 0 512 (some 512) 1,N 0],[bs (qc0 key s nm c rk f tr)],[]⟩ :=
  call_newT l22 H (by simp only[zI,zN,(qfn g s sl j sg ti me la nm).anms,(RC_pc c rk f tr).anms,(PC.bs key).anms,zD]) (by simp only[zA,zB,(qfn g s sl j sg ti me la nm).aren,(RC_pc c rk f tr).aren,(PC.bs key).aren]) (qic k key hkey g s sl j sg ti me la nm hnm hh c rk f tr ht hf hr)
theorem readRoot_call (k b:Nat) (H:Heap) (key:List (BitVec 8)) (hkey:key.length=32) (g:BitVec 64) (s:Nat) (sl j sg ti me la:Int) (nm:List (BitVec 8)) (hnm:nm.length=16) (hh:hcOk g s sl j sg ti me la) (c:BitVec 64) (rk:Bool) (f:Nat) (tr:List (BitVec 8)) (ht:tr.length=32) (hf:f≤s) (hr:rk=false→f=0) (cp:Option Nat)
    (m:Nm) (hm:H m=some (bs (qc0 key s nm c rk f tr))) :
    qaA (envC C (k+1500)) H b 24 [.agg (bs key),.agg (HC g s sl j sg ti me la nm),.sl m 0 512 cp 1]=some ⟨.tup [.agg (RC c rk f tr),N 0],[],[(m,some (bs (qc0 key s nm c rk f tr)))]⟩:=by
  have hi:∀ x:Nm,idx x [x] 0=some 0:=fun x=>by simp[idx]
  rw [Aes.qcG (k + 1500) b 24 l24 H [.agg (bs key), .agg (HC g s sl j sg ti me la nm), .sl m 0 512 cp 1] [.agg (bs key), .agg (HC g s sl j sg ti me la nm), .sl (0, 0) 0 512 cp 1] [m] [m] [bs (qc0 key s nm c rk f tr)] _
    (by simp only[zI,zN,(qfn g s sl j sg ti me la nm).anms,(PC.bs key).anms,zD,zG] <;> rfl) ((Aes.qaE rfl hm (qam _)).trans (qbm _ _ _))
    (by simp only[zA,zB,(qfn g s sl j sg ti me la nm).aren,(PC.bs key).aren,qaY,qbM,hi,zC,qbj]) (by simp only[List.filterMap_cons,zS,hm,zA,zB,qar]) (readRoot_F k key hkey g s sl j sg ti me la nm hnm hh c rk f tr ht hf hr cp),qaW]
  simp only[qbS,zA,zB,(RC_pc c rk f tr).r7,qdK,List.zipWith_cons_cons,List.zipWith_nil_left,zC,qar]
def rB:List (BitVec 8):=qc0 d7 9 (List.replicate 16 0#8) 4#64 false 0 z32
theorem lives_F (k:Nat):F C (k+12000) 8 [] []=some (Bo true,[],[]):=by
  rw[qaL f8]
  have hr1:fill (aB 32 fun _=>0#8) [(0,1,B8 1#8)]=some (bs d1):=rfl
  have hr2:fill (aB 32 fun _=>0#8) [(0,1,B8 2#8)]=some (bs t2):=rfl
  have hpE:=qb6 3 d1 t2
  have hE:(EK 3 d1 t2).length=65:=rfl
  simp (disch:=first|omega|decide|simp only[nmsB,lB]) only[simprocAttr,-rR,-rS,leB,memB,arrB,numB,qaf,opsB,qaz,qak,L8,hr1,hr2,ek_build,hpE.isCell,hE,hpE.nms,qad,qab,qaa,qah]
  have hdd:List.drop 64 (aB 64 fun _=>0#8)=[]:=List.drop_of_length_le (by rw[qbB]; exact Nat.le_refl _)
  have heka:qbc 0 65 (some (EK 3 d1 t2))=some (EK 3 d1 t2):=rfl
  simp (disch:=first|omega|decide|simp only[nmsB,lB]) only[simprocAttr,-rR,-rS,leB,memB,arrB,numB,qaf,opsB,ordB,qaj,qaz,qak,hdd,zD,heka,hpE.isCell,hpE.nms,qac,qad,qab,qaa,qaq,qag,qah]
  rw[qiA (k+11399) _ _ (9,0) rfl,Sha.tr_bs (H:=only _ _) (m:=(9,0)) (l:=[120#8]) rfl]
  simp (disch:=first|omega|decide|simp only[nmsB,lB]) only[simprocAttr,-rR,-rS,leB,memB,arrB,numB,qaf,opsB,ordB,qaj,qaz,qak,hpE.isCell,hpE.nms,hpE.anms,qam,qac,qad,qab,qaa,qaq,qag,qah]
  have hs5:=fun b H B hB=>seal_call (k+5999) b 3 5 H d1 t2 qer rfl rfl List.length_replicate rfl B hB
  rw[show qby d1 5 qer=b5 from sealed_5] at hs5
  have hs5:∀ (b:Nat) (H:Heap) (B:LV),Lent H B qer []→qaA (envC C (k+11999)) H b 6 [.agg (EK 3 d1 t2),N 5,B]=some ⟨.tup [.sl (b,0) 0 512 none 1,.agg (aB 64 fun j=>(recL 3 5 t2 b5).getD j 0#8),N 0],[bs b5],[]⟩:=by rw[←qen]; exact hs5
  rw[hs5 _ _ _ ⟨[(11,0)],qbJ _ (11,0) 0 512 (some 512) (bs qer) qer (by exact rfl) (by rw[zE,List.take_of_length_le (by rw[qaV]; exact Nat.le_refl _)]) List.length_replicate (by decide) 6,rfl⟩]
  simp (disch:=first|omega|decide|simp only[nmsB,lB]) only[simprocAttr,-rR,-rS,leB,memB,arrB,numB,qaf,opsB,ordB,qaj,qaz,qak,qcO,hpE.isCell,qac,qad,qab,qaa,qaq,qag,qah]
  have hR:(bs (recL 3 5 t2 b5)).length=64:=by rw[qaV,qb4]
  have hRc:∀ l:List (BitVec 8),qbc 0 64 (some (bs (recL 3 5 t2 l)))=some (bs (recL 3 5 t2 l)):=fun l=>by
    rw[qbc,if_pos (by rw[qaV,qb4]; omega),zE,List.take_of_length_le (by rw[qaV,qb4]; omega)]
  simp (disch:=first|omega|decide|simp only[nmsB,lB]) only[simprocAttr,-rR,-rS,leB,memB,arrB,numB,qaf,opsB,ordB,qaj,qaz,qak,qcO,hpE.isCell,hR,hRc,hdd,zD,heka,qac,qad,qab,qaa,qaq,qag,qah]
  have hr5:(List.range 64).map (fun j=>(recL 3 5 t2 b5).getD j 0#8)=recL 3 5 t2 b5:=by
    apply List.ext_getElem (by rw[zX,List.length_range,qb4])
    intro i h1 h2
    rw[List.getElem_map,List.getElem_range,List.getD_eq_getElem?_getD,List.getElem?_eq_getElem h2]; rfl
  generalize hRR:(fun j=>(recL 3 5 t2 b5).getD j 0#8)=R at *
  have hB5:∀ H:Heap,H (12,0)=some (bs b5)→Lent H (.sl (12,0) 0 512 none 1) b5 []:=fun H h=>⟨[(12,0)],qbJ _ (12,0) 0 512 none (bs b5) b5 h (by rw[zE,List.take_of_length_le (by rw[qaV]; exact Nat.le_refl _)]) rfl (by decide) 6,rfl⟩
  have ho5:=fun b H h=>open_good (k+5999) b 3 5 H d1 t2 b5 R rfl rfl rfl rfl hr5 _ (hB5 H h)
  have ho6:=fun b H h=>open_bad (k+5999) b 3 6 H d1 t2 b5 R rfl rfl rfl rfl (by rw[hr5]; exact fun h=>rec_ne h.symm) _ (hB5 H h)
  have ho5:∀ (b:Nat) (H:Heap),H (12,0)=some (bs b5)→qaA (envC C (k+11999)) H b 9 [.agg (EK 3 d1 t2),N 5,.sl (12,0) 0 512 none 1,.agg (aB 64 R)]=some ⟨.tup [.sl (b,0) 0 512 none 1,N 0],[bs (qcp d1 5 b5)],[]⟩:=ho5
  have ho6:∀ (b:Nat) (H:Heap),H (12,0)=some (bs b5)→qaA (envC C (k+11999)) H b 9 [.agg (EK 3 d1 t2),N 6,.sl (12,0) 0 512 none 1,.agg (aB 64 R)]=some ⟨.tup [Nil,N 160],[],[]⟩:=ho6
  have hop:qcp d1 5 b5=qer:=by rw[←sealed_5]; exact qfS _ _ _ List.length_replicate
  rw[hop] at ho5
  rw[ho5 _ _ rfl]
  simp (disch:=first|omega|decide|simp only[nmsB,lB]) only[simprocAttr,-rR,-rS,leB,memB,arrB,numB,qaf,opsB,ordB,qaj,qaz,qak,qcO,hpE.isCell,heka,qac,qad,qab,qaa,qaq,qag,qah]
  rw[ho6 _ _ rfl]
  simp (disch:=first|omega|decide|simp only[nmsB,lB]) only[simprocAttr,-rR,-rS,leB,memB,arrB,numB,qaf,opsB,ordB,qaj,qaz,qak,qcO,hpE.isCell,heka,qac,qad,qab,qaa,qaq,qag,qah]
  have hep:∀ (b:Nat) (H:Heap),qaA (envC C (k+11999)) H b 11 [.agg (aB 64 R)]=some ⟨.tup [N 3,N 0],[],[]⟩:=fun b H=>by
    rw[←hRR,←qen]
    exact epoch_call (k+11959) b 5 H t2 b5
  rw[hep]
  have hr7:fill (aB 32 fun _=>0#8) [(0,1,B8 7#8)]=some (bs d7):=rfl
  have hrr:fill (B64 0#64::Bo false::N 0::aB 32 fun _=>0#8) [(0,1,B64 4#64)]=some (RC 4#64 false 0 z32):=rfl
  have hh:∀ (b:Nat) (H:Heap),qaA (envC C (k+11999)) H b 23 [N 9]=some ⟨.agg (HC 1#64 9 1 40 2 1 8 1 (List.replicate 16 0#8)),[],[]⟩:=fun b H=>head_call (k+11998) b 9 H
  have hpH:=qfn 1#64 9 1 40 2 1 8 1 (List.replicate 16 0#8)
  have hpR:=RC_pc 4#64 false 0 z32
  have hrb:∀ (b:Nat) (H:Heap),qaA (envC C (k+11999)) H b 22 [.agg (bs d7),.agg (HC 1#64 9 1 40 2 1 8 1 (List.replicate 16 0#8)),.agg (RC 4#64 false 0 z32)]=some ⟨.tup [.sl (b,0) 0 512 (some 512) 1,N 0],[bs rB],[]⟩:=fun b H =>
    qiG (k+10599) b H d7 rfl 1#64 9 1 40 2 1 8 1 (List.replicate 16 0#8) rfl (by decide) 4#64 false 0 z32 rfl (by decide) (fun _=>rfl)
  simp (disch:=first|omega|decide|simp only[nmsB,lB]) only[simprocAttr,-rR,-rS,leB,memB,arrB,numB,qaf,opsB,ordB,qaj,qaz,qak,qcO,hr7,hrr,hh,hrb,hpH.isCell,hpR.isCell,qad,qab,qaa,qaq,qag,qah]
  have hrd:∀ (b:Nat) (H:Heap),H (49,0)=some (bs rB)→qaA (envC C (k+11999)) H b 24 [.agg (bs d7),.agg (HC 1#64 9 1 40 2 1 8 1 (List.replicate 16 0#8)),.sl (49,0) 0 512 (some 512) 1]=some ⟨.tup [.agg (RC 4#64 false 0 z32),N 0],[],[((49,0),some (bs rB))]⟩:=fun b H h =>
    readRoot_call (k+10499) b H d7 rfl 1#64 9 1 40 2 1 8 1 (List.replicate 16 0#8) rfl (by decide) 4#64 false 0 z32 rfl (by decide) (fun _=>rfl) (some 512) (49,0) h
  rw[hrd _ _ rfl]
  have hR35:(RC 4#64 false (0:Int) z32).length=35:=rfl
  simp (disch:=first|omega|decide|simp only[nmsB,lB]) only[simprocAttr,-rR,-rS,leB,memB,arrB,numB,qaf,opsB,ordB,qaj,qaz,qak,qcO,hpH.isCell,hpR.isCell,hR35,qad,qab,qaa,qaq,qag,qah]
  generalize hG:upd _ (62,0) _=G
  have g24:G (24,0)=some (bs qer):=by rw[←hG]; rfl
  have g62:G (62,0)=some (RC 4#64 false (0:Int) z32):=by rw[←hG]; rfl
  clear hG
  have hfk:qcF 0 1 512 (some (bs qer))=some (bs qer):=qah 512 qer List.length_replicate.symm
  simp (disch:=first|omega|decide|simp only[nmsB,lB]) only[simprocAttr,-rR,-rS,leB,memB,arrB,numB,qaf,opsB,ordB,qaj,qaz,qak,qaF,qdh,qcR,qcQ,qcM,hfk,g24,g62,qac,qad,qab,qaa,qaq,qag,qah]
  rw[qiA (k+11399) _ _ (94,0) rfl,Sha.tr_bs (H:=only _ _) (m:=(94,0)) (l:=[120#8]) rfl]
  obtain ⟨k0,k1,k2⟩:=RC_k 4#64 false (0:Int) z32
  simp (disch:=first|omega|decide|simp only[nmsB,lB]) only[simprocAttr,-rR,-rS,leB,memB,arrB,numB,qaf,opsB,ordB,qaj,qaz,qak,qaF,qdh,qcR,qcQ,qcM,hfk,g24,g62,k0,qac,qad,qab,qaa,qaq,qag,qah]
theorem qht (k b:Nat) (H:Heap):qaA (envC C (k+12000)) H b 8 []=some ⟨Bo true,[],[]⟩:=by
  rw[qae l8 rfl rfl,lives_F,qgV]
end Sl
namespace Sl
open Go Go.LE Tb
open Sha (tagv qdx Lent qbf)
set_option maxRecDepth 20000
theorem qgk {K b g:Nat} (h0:qaJ g 0=false) (h1:qaJ g 1=false) (h2:qaJ g 2=true) (h3:qaJ g 3=false) {H:Heap} {e n:Int} {d t p q:List (BitVec 8)} {r:Nat→BitVec 8} {B:LV} (hB:Lent H B p [])
    (hF:F C K g [.agg (EK e d t),I n,.isl (bs p) p.length,.agg (aB 64 r)] []=some (.tup [.sl (1,0) 0 512 none 1,N 0],[],[bs q])) :
    qaA (envC C K) H b g [.agg (EK e d t),I n,B,.agg (aB 64 r)]=some ⟨.tup [.sl (b,0) 0 512 none 1,N 0],[bs q],[]⟩:=by
  have hb:∀ (l:List (BitVec 8)) (d:Nat),(bs l).all (qbN (d+1))=true:=by
    intro l d; rw[List.all_eq_true]; intro x hx; obtain ⟨y,_,rfl⟩:=List.mem_map.1 hx; rfl
  have hpl:qa7 (.tup [.sl (1,0) 0 512 none 1,N 0],[],[bs q])=true:=by
    show ((true && (true && true)) && true && ((bs q).all (qbN D) && true))=true
    rw[hb]; rfl
  have hy:PC (aB 64 r):=by rw[qcK]; exact .bs _
  rw[call_l4 h0 h1 h2 h3 hB (qb6 e d t).anms rfl hy.anms (qb6 e d t).aren (fun _=>rfl) hy.aren hpl hF,qaW]
  have e1:ren 7 (qbh [] b 1) (.sl (1,0) 0 512 none 1) = .sl (b,0) 0 512 none 1:=by simp[ren,qbs]
  simp only[qbS,zA,zB,qar,qdK,e1,zH,zM,zO,List.zipWith_nil_left]
theorem qfP {K b g z:Nat} (h0:qaJ g 0=false) (h1:qaJ g 1=false) (h2:qaJ g 2=true) (h3:qaJ g 3=false) {H:Heap} {e n:Int} {d t p:List (BitVec 8)} {r:Nat→BitVec 8} {B:LV} (hB:Lent H B p [])
    (hF:F C K g [.agg (EK e d t),I n,.isl (bs p) p.length,.agg (aB 64 r)] []=some (.tup [Nil,N z],[],[])) :
    qaA (envC C K) H b g [.agg (EK e d t),I n,B,.agg (aB 64 r)]=some ⟨.tup [Nil,N z],[],[]⟩:=by
  have hy:PC (aB 64 r):=by rw[qcK]; exact .bs _
  rw[call_l4 h0 h1 h2 h3 hB (qb6 e d t).anms rfl hy.anms (qb6 e d t).aren (fun _=>rfl) hy.aren rfl hF,qaW]
  rfl
theorem mayE_0 {e n:Int} {len:Nat} (h:mayE e n len=0):len=512∧∃ e' n':Nat,e=e'∧n=n'∧mayE e' n' 512=0:=by
  unfold mayE at h
  split at h
  · cases h
  · rename_i h1
    split at h
    · rename_i h2
      refine ⟨h2,e.toNat,n.toNat,by omega,by omega,?_⟩
      rw[mayE,if_neg (by omega),if_pos rfl]
    · cases h
theorem epR_tup (R:List (BitVec 8)):∃ x z:Nat,epR R = .tup [N x,N z]:=by
  rw[epR]; split
  · exact ⟨_,_,rfl⟩
  · exact ⟨_,_,rfl⟩
theorem ep_call {k b g x z:Nat} (hg:qaJ g=fun _=>false) {H:Heap} {r:Nat→BitVec 8} (hF:F C k g [.agg (aB 64 r)] []=some (.tup [N x,N z],[],[])) :
    qaA (envC C k) H b g [.agg (aB 64 r)]=some ⟨.tup [N x,N z],[],[]⟩:=by
  have hy:PC (aB 64 r):=by rw[qcK]; exact .bs _
  rw[qae hg (by simp only[zI,zN,hy.anms,zD]) (by simp only[zA,zB,hy.aren]),hF]
  rfl
theorem qcV (H:Heap):b2sV H Nil (some 0)=some ⟨txt [],[],[]⟩:=nf rfl
theorem sealOpens_F (k:Nat) (e n:Int) (d t p:List (BitVec 8)) (r:Nat→BitVec 8) (hd:d.length=32) (ht:t.length=32) (hp:p.length≤140737488351232) :
    F C (k+12001) 4 [.agg (EK e d t),I n,.isl (bs p) p.length,.agg (aB 64 r)] []=some (Bo true,[],[]):=by
  rw[qaL Tb.f4]
  have hpE:=qb6 e d t
  have hpr:PC (aB 64 r):=by rw[qcK]; exact .bs _
  have hlv:=fun b H=>qht k b H
  obtain ⟨x,z,hxz⟩:=epR_tup ((List.range 64).map r)
  have hep:=fun b H=>ep_call (k:=k+12000) (b:=b) l11 (H:=H) (r:=r) (by rw[qcK,←hxz]; exact Epoch_F (k+11960) _ (by simp))
  have hre:=fun b H=>ep_call (k:=k+12000) (b:=b) l12 (H:=H) (r:=r) (by rw[qcK,←hxz]; exact rEpoch_F (k+11960) _ (by simp))
  by_cases hm:mayE e n p.length=0
  · obtain ⟨hl, e, n, rfl, rfl, hm'⟩ := mayE_0 hm
    by_cases hr:(List.range 64).map r=recL e n t p
    · have ho := fun b H => qgk (b := b) (H := H) (K := k + 12000) (g := 9) rfl rfl rfl rfl (qbf H p []) (by have h := qfO (k + 6000) e n d t p r hd ht hl hm'; rw [if_pos hr] at h; exact h)
      have hro:=fun b H=>qgk (b:=b) (H:=H) (K:=k+12000) (g:=10) rfl rfl rfl rfl (qbf H p []) (by have h:=rOpen_F (k+4000) e n d t p r hd ht hl hm'; rw[if_pos hr] at h; exact h)
      have hfk:qcF 0 1 512 (some (bs (qcp d n p)))=some (bs (qcp d n p)):=qah 512 _ (qfR d n p hl).symm
      simp (disch:=first|omega|decide|simp only[nmsB,lB]) only[simprocAttr,-rR,-rS,leB,memB,arrB,numB,qaf,opsB,ordB,qaj,qaz,qak,qaF,L4,hpE.isCell,qca e d t hd ht,hlv,hep,hre,ho,hro,qdh,qcR,qcQ,qcM,hfk,qac,qad,qab,qaa,qaq,qag,qah]
    · have ho := fun b H => qfP (b := b) (H := H) (K := k + 12000) (g := 9) rfl rfl rfl rfl (qbf H p []) (by have h := qfO (k + 6000) e n d t p r hd ht hl hm'; rw [if_neg hr] at h; exact h)
      have hro:=fun b H=>qfP (b:=b) (H:=H) (K:=k+12000) (g:=10) rfl rfl rfl rfl (qbf H p []) (by have h:=rOpen_F (k+4000) e n d t p r hd ht hl hm'; rw[if_neg hr] at h; exact h)
      simp (disch:=first|omega|decide|simp only[nmsB,lB]) only[simprocAttr,-rR,-rS,leB,memB,arrB,numB,qaf,opsB,ordB,qaj,qaz,qak,qaF,L4,hpE.isCell,qca e d t hd ht,hlv,hep,hre,ho,hro,qdh,qcR,qcQ,qcM,qcV,qac,qad,qab,qaa,qaq,qag,qah]
  · have ho := fun b H => qfP (b := b) (H := H) (K := k + 12000) (g := 9) rfl rfl rfl rfl (qbf H p []) (Open_bad (k + 11998) e n d t p r hd ht (by omega) hm)
    have hro:=fun b H=>qfP (b:=b) (H:=H) (K:=k+12000) (g:=10) rfl rfl rfl rfl (qbf H p []) (rOpen_bad (k+11998) e n d t p r hd ht (by omega) hm)
    simp (disch:=first|omega|decide|simp only[nmsB,lB]) only[simprocAttr,-rR,-rS,leB,memB,arrB,numB,qaf,opsB,ordB,qaj,qaz,qak,qaF,L4,hpE.isCell,qca e d t hd ht,hlv,hep,hre,ho,hro,qdh,qcR,qcQ,qcM,qcV,qac,qad,qab,qaa,qaq,qag,qah]
end Sl
namespace Sl
open Go Go.LE Tb
open Sha (tagv qdx Lent qbf)
set_option maxRecDepth 20000
theorem sl_bad {K b g z:Nat} (h0:qaJ g 0=false) (h1:qaJ g 1=false) (h2:qaJ g 2=true) {H:Heap} {e n:Int} {d t p:List (BitVec 8)} {B:LV} (hB:Lent H B p [])
    (hF:F C K g [.agg (EK e d t),I n,.isl (bs p) p.length] []=some (.tup [Nil,.agg (bs (List.replicate 64 0#8)),N z],[],[])) :
    qaA (envC C K) H b g [.agg (EK e d t),I n,B]=some ⟨.tup [Nil,.agg (aB 64 fun _=>0#8),N z],[],[]⟩:=by
  have hz:=PC.bs (List.replicate 64 0#8)
  have hpl:qa7 (.tup [Nil,.agg (bs (List.replicate 64 0#8)),N z],[],[])=true:=by rfl
  rw[qgb h0 h1 h2 hB (qb6 e d t).anms rfl (qb6 e d t).aren (fun _=>rfl) hpl hF,qaW,z64]
  have e1:∀ π,ren 7 π Nil=Nil:=fun _=>rfl
  simp only[qbS,zA,zB,hz.r7,qdK,e1,List.zipWith_nil_left]
theorem sl_new {K b g e n:Nat} (h0:qaJ g 0=false) (h1:qaJ g 1=false) (h2:qaJ g 2=true) {H:Heap} {d t p q R:List (BitVec 8)} {B:LV} (hB:Lent H B p []) (hR:R.length=64)
    (hF:F C K g [.agg (EK e d t),N n,.isl (bs p) p.length] []=some (.tup [.sl (1,0) 0 512 none 1,.agg (bs R),N 0],[],[bs q])) :
    qaA (envC C K) H b g [.agg (EK e d t),N n,B]=some ⟨.tup [.sl (b,0) 0 512 none 1,.agg (aB 64 fun j=>R.getD j 0#8),N 0],[bs q],[]⟩:=by
  have hn:qbN D (.agg (bs R))=true:=qhp (.bs _)
  have hpl:qa7 (.tup [.sl (1,0) 0 512 none 1,.agg (bs R),N 0],[],[bs q])=true:=by
    have hb:∀ (l:List (BitVec 8)) (d:Nat),(bs l).all (qbN (d+1))=true:=by
      intro l d; rw[List.all_eq_true]; intro x hx; obtain ⟨y,_,rfl⟩:=List.mem_map.1 hx; rfl
    show ((true && ((bs R).all (qbN 6) && (true && true))) && true && ((bs q).all (qbN D) && true))=true
    rw[hb,hb]; rfl
  rw[qgb h0 h1 h2 hB (qb6 e d t).anms rfl (qb6 e d t).aren (fun _=>rfl) hpl hF,qaW,←qeU R 64 hR]
  have e1:ren 7 (qbh [] b 1) (.sl (1,0) 0 512 none 1) = .sl (b,0) 0 512 none 1:=by simp[ren,qbs]
  simp only[qbS,zA,zB,qar,(PC.bs _).r7,qdK,e1,zH,zM,zO,List.zipWith_nil_left]
theorem qdS (e:EqT) (a b:List (BitVec 8)):binV .neq e (txt a) (txt b)=some (Bo !(decide (a=b))):=by
  have h:=qcM e a b
  simp only[binV,txt,strOp,zC,Option.some.injEq,Bo,LV.v.injEq,Value.bool.injEq] at h ⊢
  rw[h]
theorem b2sK_nil:b2sK (some [])=some ⟨txt [],[],[]⟩:=nf rfl
theorem qdf (n:Nat) (f:Nat→BitVec 8):qdj n f f=true:=(qh5 n f f).2 fun _ _=>rfl
theorem sealSeals_F (k:Nat) (e n:Int) (d t p:List (BitVec 8)) (hd:d.length=32) (ht:t.length=32) (hp:p.length≤140737488351232) :
    F C (k+12001) 3 [.agg (EK e d t),I n,.isl (bs p) p.length] []=some (Bo true,[],[]):=by
  rw[qaL Tb.f3]
  have hpE:=qb6 e d t
  have hlv:=fun b H=>qht k b H
  have hfp:∀ H,qbu H 1 p.length (.isl (bs p) p.length)=some (bs p):=fun H=>qb2 p p.length rfl
  by_cases hm:mayE e n p.length=0
  · obtain ⟨hl, e, n, rfl, rfl, hm'⟩ := mayE_0 hm
    have hap:∀ b H m,appX b 1 1 512 H [] (bs p) (.sl m 0 0 (some 0) 1)=some ⟨.sl (b,0) 0 512 none 1,[bs p],[]⟩:=fun b H m=>appX_e b 512 H m (bs p) (by decide) (by decide)
    rw[hl] at hfp ⊢
    simp (disch:=first|omega|decide|simp only[nmsB,lB]) only[simprocAttr,-rR,-rS,leB,memB,arrB,numB,qaf,opsB,ordB,qaj,qaz,qak,qaF,L3,hpE.isCell,qca e d t hd ht,hlv,hfp,hap,qdh,qcR,qdk,qcQ,qcM,qcV,qac,qad,qab,qaa,qaq,qag,qah]
    have hL:=fun (H:Heap) (m:Nm) (h:H m=some (bs p))=>(⟨[m],qbJ H m 0 512 none (bs p) p h (by rw[zE,List.take_of_length_le (by rw[qaV]; omega)]) hl (by decide) 6,rfl⟩:Lent H (.sl m 0 512 none 1) p [])
    have hS:=fun b H h=>sl_new (b:=b) (K:=k+12000) (g:=6) rfl rfl rfl (hL H (6,0) h) (qb4 e n t _) (Seal_F (k+6000) e n d t p hd ht hl hm')
    have hS:∀ (b:Nat) (H:Heap),H (6,0)=some (bs p)→qaA (envC C (k+12000)) H b 6 [.agg (EK e d t),I n,.sl (6,0) 0 512 none 1]=_:=hS
    rw[hS _ _ rfl]
    have hrS:∀ (b:Nat) (H:Heap),qaA (envC C (k+12000)) H b 7 [.agg (EK e d t),I n,.isl (bs p) 512]=_:=fun b H=>sl_new (b:=b) (H:=H) (K:=k+12000) (g:=7) rfl rfl rfl (B := .isl (bs p) 512) (by rw[←hl]; exact qbf H p []) (qb4 e n t _) (rSeal_F (k+4000) e n d t p hd ht hl hm')
    have hsl:=qeW d n p hl
    have hR:=qb4 e n t (qby d n p)
    have hro:=qfS d n p hl
    generalize hr:(fun j=>(recL e n t (qby d n p)).getD j 0#8)=R at *
    have hfs:qcF 0 1 512 (some (bs (qby d n p)))=some (bs (qby d n p)):=qah 512 _ hsl.symm
    have hfp':qcF 0 1 512 (some (bs p))=some (bs p):=qah 512 _ hl.symm
    simp (disch:=first|omega|decide|simp only[nmsB,lB]) only[simprocAttr,-rR,-rS,leB,memB,arrB,numB,qaf,opsB,ordB,qaj,qaz,qak,qaF,hpE.isCell,qca e d t hd ht,hlv,hfp,hfp',hrS,hfs,qdh,qcR,qdk,qcQ,qcM,qdS,qcV,qdp,qdf,qac,qad,qab,qaa,qaq,qag,qah]
    have hr64:(List.range 64).map R=recL e n t (qby d n p):=by
      rw[←hr]
      apply List.ext_getElem (by rw[zX,List.length_range,hR])
      intro i h1 h2
      rw[List.getElem_map,List.getElem_range,List.getD_eq_getElem?_getD,List.getElem?_eq_getElem h2]; rfl
    have hO:∀ (b:Nat) (H:Heap),H (11,0)=some (bs (qby d n p))→qaA (envC C (k+12000)) H b 9 [.agg (EK e d t),I n,.sl (11,0) 0 512 none 1,.agg (aB 64 R)]=some ⟨.tup [.sl (b,0) 0 512 none 1,N 0],[bs p],[]⟩:=fun b H h =>
      qgk rfl rfl rfl rfl ⟨[(11, 0)], qbJ H (11, 0) 0 512 none (bs (qby d n p)) (qby d n p) h (by rw [zE, List.take_of_length_le (by rw [qaV]; omega)]) hsl (by decide) 6, rfl⟩
        (by have h:=qfO (k+6000) e n d t (qby d n p) R hd ht hsl hm'; rw[if_pos hr64,hro] at h; exact h)
    rw[hO _ _ rfl]
    simp (disch:=first|omega|decide|simp only[nmsB,lB]) only[simprocAttr,-rR,-rS,leB,memB,arrB,numB,qaf,opsB,ordB,qaj,qaz,qak,qaF,hpE.isCell,qca e d t hd ht,hlv,hfp,hfp',qdh,qcR,qdk,qcQ,qcM,qdS,qcV,qdp,qdf,qac,qad,qab,qaa,qaq,qag,qah]
  · have hrS : ∀ (b : Nat) (H : Heap), qaA (envC C (k + 12000)) H b 7 [.agg (EK e d t), I n, .isl (bs p) p.length] = _ := fun b H => sl_bad (b := b) (H := H) (K := k + 12000) (g := 7) rfl rfl rfl (qbf H p []) (rSeal_bad (k + 11998) e n d t p hd ht (by omega) hm)
    by_cases h0:p=[]
    · subst h0
      simp only[zM] at hm hrS
      have hfp:∀ H,qbu H 1 0 (.isl (bs []) 0)=some (bs []):=fun H=>qb2 [] 0 rfl
      have hS:∀ (b:Nat) (H:Heap) (m:Nm),qaA (envC C (k+12000)) H b 6 [.agg (EK e d t),I n,.sl m 0 0 (some 0) 1]=_:=fun b H m=>sl_bad (b:=b) (H:=H) (K:=k+12000) (g:=6) rfl rfl rfl ⟨[],lentA_zero H m 0 (some 0) 1 6,rfl⟩ (Seal_bad (k+11998) e n d t [] hd ht (by simp) hm)
      simp (disch:=first|omega|decide|simp only[nmsB,lB]) only[simprocAttr,-rR,-rS,leB,memB,arrB,numB,qaf,opsB,ordB,qaj,qaz,qak,qaF,L3,hpE.isCell,qca e d t hd ht,hlv,hfp,hS,hrS,zM,hm,b2sK_nil,qdh,qcR,qdk,qcQ,qcM,qdS,qcV,qdp,qdf,qac,qad,qab,qaa,qaq,qag,qah]
    · have h1 : p.length ≠ 0 := fun h => h0 (List.length_eq_zero_iff.1 h)
      have h2:0 < p.length:=by omega
      have hap:∀ b H m,appX b 1 1 p.length H [] (bs p) (.sl m 0 0 (some 0) 1)=some ⟨.sl (b,0) 0 p.length none 1,[bs p],[]⟩:=fun b H m=>appX_e b p.length H m (bs p) h1 (by omega)
      have hS : ∀ (b : Nat) (H : Heap), H (6, 0) = some (bs p) → qaA (envC C (k + 12000)) H b 6 [.agg (EK e d t), I n, .sl (6, 0) 0 p.length none 1] = _ := fun b H h => sl_bad (b := b) (H := H) (K := k + 12000) (g := 6) rfl rfl rfl (p := p)
        ⟨[(6,0)],qbJ H (6,0) 0 p.length none (bs p) p h (by rw[zE,List.take_of_length_le (by rw[qaV]; omega)]) rfl h1 6,rfl⟩ (Seal_bad (k+11998) e n d t p hd ht (by omega) hm)
      have hfp':qcF 0 1 p.length (some (bs p))=some (bs p):=qah p.length _ rfl
      simp (disch:=first|omega|decide|simp only[nmsB,lB]) only[simprocAttr,-rR,-rS,leB,memB,arrB,numB,qaf,opsB,ordB,qaj,qaz,qak,qaF,L3,hpE.isCell,qca e d t hd ht,hlv,hfp,hap,h1,h2,hm,qdh,qcR,qdk,qcQ,qcM,qdS,qcV,qdp,qdf,qac,qad,qab,qaa,qaq,qag,qah]
      rw[hS _ _ rfl]
      simp (disch:=first|omega|decide|simp only[nmsB,lB]) only[simprocAttr,-rR,-rS,leB,memB,arrB,numB,qaf,opsB,ordB,qaj,qaz,qak,qaF,hpE.isCell,qca e d t hd ht,hlv,hfp,hfp',hrS,h1,h2,hm,qdh,qcR,qdk,qcQ,qcM,qdS,qcV,qdp,qdf,qac,qad,qab,qaa,qaq,qag,qah]
end Sl
namespace Sl
open Go Go.LE Tb
open Sha (tagv qdx Lent qbf)
set_option maxRecDepth 20000
theorem Of_new (k b e n:Nat) (H:Heap) (d t:List (BitVec 8)) (hd:d.length=32) (ht:t.length=32) (bb:List (BitVec 8)) (hb:bb.length=512) :
    qaA (envC C (k+1300)) H b 13 [.agg (EK e d t),N n,.isl (bs bb) bb.length]=some ⟨.agg (aB 64 fun j=>(recL e n t bb).getD j 0#8),[],[]⟩:=Of_call k b e n H d t hd ht _ bb (qbf _ _ _) hb
theorem open_any (k:Nat) (e n:Int) (d t p:List (BitVec 8)) (r:Nat→BitVec 8) (hd:d.length=32) (ht:t.length=32) (hp:p.length≤140737488351232) :
    (∃ q,∀ (b:Nat) (H:Heap),qaA (envC C (k+12000)) H b 9 [.agg (EK e d t),I n,.isl (bs p) p.length,.agg (aB 64 r)]=some ⟨.tup [.sl (b,0) 0 512 none 1,N 0],[bs q],[]⟩) ∨
    ∃ z,z≠0∧∀ (b:Nat) (H:Heap),qaA (envC C (k+12000)) H b 9 [.agg (EK e d t),I n,.isl (bs p) p.length,.agg (aB 64 r)]=some ⟨.tup [Nil,N z],[],[]⟩:=by
  by_cases hm:mayE e n p.length=0
  · obtain ⟨hl, e, n, rfl, rfl, hm'⟩ := mayE_0 hm
    by_cases hr:(List.range 64).map r=recL e n t p
    · exact .inl ⟨_,fun b H=>qgk rfl rfl rfl rfl (qbf H p []) (by have h:=qfO (k+6000) e n d t p r hd ht hl hm'; rw[if_pos hr] at h; exact h)⟩
    · exact .inr ⟨160,by decide,fun b H=>qfP rfl rfl rfl rfl (qbf H p []) (by have h:=qfO (k+6000) e n d t p r hd ht hl hm'; rw[if_neg hr] at h; exact h)⟩
  · exact .inr ⟨_,hm,fun b H=>qfP rfl rfl rfl rfl (qbf H p []) (Open_bad (k+11998) e n d t p r hd ht (by omega) hm)⟩
theorem sealBinds_F (k:Nat) (e n m:Int) (d t p s:List (BitVec 8)) (hd:d.length=32) (ht:t.length=32) (hp:p.length≤140737488351232) (hs:s.length≤140737488351232) :
    F C (k+12001) 5 [.agg (EK e d t),I n,.isl (bs p) p.length,I m,.isl (bs s) s.length] []=some (Bo true,[],[]):=by
  rw[qaL Tb.f5]
  have hpE:=qb6 e d t
  have hlv:=fun b H=>qht k b H
  by_cases hm:mayE e n p.length=0
  · obtain ⟨hl, e, n, rfl, rfl, hm'⟩ := mayE_0 hm
    have hrS:∀ (b:Nat) (H:Heap),qaA (envC C (k+12000)) H b 7 [.agg (EK e d t),I n,.isl (bs p) p.length]=_:=fun b H=>sl_new (b:=b) (H:=H) (K:=k+12000) (g:=7) rfl rfl rfl (qbf H p []) (qb4 e n t _) (rSeal_F (k+4000) e n d t p hd ht hl hm')
    have hsl:=qeW d n p hl
    have hR:=qb4 e n t (qby d n p)
    have hro:=qfS d n p hl
    have hr64:(List.range 64).map (fun j=>(recL e n t (qby d n p)).getD j 0#8)=recL e n t (qby d n p):=by
      apply List.ext_getElem (by rw[zX,List.length_range,hR])
      intro i h1 h2
      rw[List.getElem_map,List.getElem_range,List.getD_eq_getElem?_getD,List.getElem?_eq_getElem h2]; rfl
    have hO1:=fun (m:Nat) (hl:s.length=512) (hm':mayE e m 512=0)=>qfO (k+6000) e m d t s (fun j=>(recL e n t (qby d n p)).getD j 0#8) hd ht hl hm'
    have hO2:=fun (hm:mayE e m s.length≠0)=>Open_bad (k+11998) e m d t s (fun j=>(recL e n t (qby d n p)).getD j 0#8) hd ht (by omega) hm
    generalize hr:(fun j=>(recL e n t (qby d n p)).getD j 0#8)=R at *
    by_cases hM:mayE (e:Int) m s.length=0
    · obtain ⟨hs5, e2, m, he, rfl, hM'⟩ := mayE_0 hM
      obtain rfl:e2=e:=by omega
      by_cases h:(List.range 64).map R=recL e2 m t s
      · have hO := fun b H => qgk (b := b) (H := H) (K := k + 12000) (g := 9) rfl rfl rfl rfl (qbf H s []) (by have h2 := hO1 m hs5 hM'; rw [if_pos h] at h2; exact h2)
        have hOf:∀ (b:Nat) (H:Heap),qaA (envC C (k+12000)) H b 13 [.agg (EK e2 d t),I m,.isl (bs s) s.length]=_:=fun b H=>Of_new (k+10700) b e2 m H d t hd ht s hs5
        have hfs:∀ H,qbu H 1 s.length (.isl (bs s) s.length)=some (bs s):=fun H=>qb2 s s.length rfl
        have hfp:∀ H,qbu H 1 p.length (.isl (bs p) p.length)=some (bs p):=fun H=>qb2 p p.length rfl
        have hfa:qcF 0 1 512 (some (bs (qby d n p)))=some (bs (qby d n p)):=qah 512 _ hsl.symm
        have hfo:qcF 0 1 512 (some (bs (qcp d m s)))=some (bs (qcp d m s)):=qah 512 _ (qfR d m s hs5).symm
        have hsame:qdj 64 (fun j=>(recL e2 m t s).getD j 0#8) R=true:=by
          rw[same_rec _ R (qb4 _ _ _ _)]; exact decide_eq_true h
        by_cases hmn:m=n
        · subst hmn
          by_cases hsp:s=qby d m p
          · have hsd : decide (s = qby d m p) = true := decide_eq_true hsp
            have hop:qcp d m s=p:=by rw[hsp,hro]
            simp (disch:=first|omega|decide|simp only[nmsB,lB]) only[simprocAttr,-rR,-rS,leB,memB,arrB,numB,qaf,opsB,ordB,qaj,qaz,qak,qaF,L5,hpE.isCell,qca e2 d t hd ht,hlv,hrS,hO,hOf,hfs,hfp,hfa,hfo,hsd,hop,qdh,qcR,qdk,qcQ,qcM,qdS,qcV,qdp,qgm,qdf,qac,qad,qab,qaa,qaq,qag,qah]
          · have hsd : decide (s = qby d m p) = false := decide_eq_false hsp
            simp (disch:=first|omega|decide|simp only[nmsB,lB]) only[simprocAttr,-rR,-rS,leB,memB,arrB,numB,qaf,opsB,ordB,qaj,qaz,qak,qaF,L5,hpE.isCell,qca e2 d t hd ht,hlv,hrS,hO,hOf,hfs,hfp,hfa,hfo,hsd,hsame,hpE.anms,hpE.nms,qa1,qdh,qcR,qdk,qcQ,qcM,qdS,qcV,qdp,qgm,qdf,qac,qad,qab,qaa,qaq,qag,qah]
        · have hmd : ((m : Int) == (n : Int)) = false := by rw [beq_eq_false_iff_ne]; omega
          simp (disch:=first|omega|decide|simp only[nmsB,lB]) only[simprocAttr,-rR,-rS,leB,memB,arrB,numB,qaf,opsB,ordB,qaj,qaz,qak,qaF,L5,hpE.isCell,qca e2 d t hd ht,hlv,hrS,hO,hOf,hfs,hfp,hfa,hfo,hmd,hsame,hpE.anms,hpE.nms,qa1,qdh,qcR,qdk,qcQ,qcM,qdS,qcV,qdp,qgm,qdf,qac,qad,qab,qaa,qaq,qag,qah]
      · have hO := fun b H => qfP (b := b) (H := H) (K := k + 12000) (g := 9) rfl rfl rfl rfl (qbf H s []) (by have h2 := hO1 m hs5 hM'; rw [if_neg h] at h2; exact h2)
        simp (disch:=first|omega|decide|simp only[nmsB,lB]) only[simprocAttr,-rR,-rS,leB,memB,arrB,numB,qaf,opsB,ordB,qaj,qaz,qak,qaF,L5,hpE.isCell,qca e2 d t hd ht,hlv,hrS,hO,qdh,qcR,qdk,qcQ,qcM,qdS,qcV,qdp,qgm,qdf,qac,qad,qab,qaa,qaq,qag,qah]
    · have hO := fun b H => qfP (b := b) (H := H) (K := k + 12000) (g := 9) rfl rfl rfl rfl (qbf H s []) (hO2 hM)
      simp (disch:=first|omega|decide|simp only[nmsB,lB]) only[simprocAttr,-rR,-rS,leB,memB,arrB,numB,qaf,opsB,ordB,qaj,qaz,qak,qaF,L5,hpE.isCell,qca e d t hd ht,hlv,hrS,hO,hM,qdh,qcR,qdk,qcQ,qcM,qdS,qcV,qdp,qgm,qdf,qac,qad,qab,qaa,qaq,qag,qah]
  · have hrS : ∀ (b : Nat) (H : Heap), qaA (envC C (k + 12000)) H b 7 [.agg (EK e d t), I n, .isl (bs p) p.length] = _ := fun b H => sl_bad (b := b) (H := H) (K := k + 12000) (g := 7) rfl rfl rfl (qbf H p []) (rSeal_bad (k + 11998) e n d t p hd ht (by omega) hm)
    rcases open_any k e m d t s (fun _=>0#8) hd ht hs with ⟨q,hO⟩ | ⟨z,hz,hO⟩
    · simp (disch:=first|omega|decide|simp only[nmsB,lB]) only[simprocAttr,-rR,-rS,leB,memB,arrB,numB,qaf,opsB,ordB,qaj,qaz,qak,qaF,L5,hpE.isCell,qca e d t hd ht,hlv,hrS,hO,hm,qdh,qcR,qdk,qcQ,qcM,qdS,qcV,qdp,qdf,qac,qad,qab,qaa,qaq,qag,qah]
    · simp (disch:=first|omega|decide|simp only[nmsB,lB]) only[simprocAttr,-rR,-rS,leB,memB,arrB,numB,qaf,opsB,ordB,qaj,qaz,qak,qaF,L5,hpE.isCell,qca e d t hd ht,hlv,hrS,hO,hm,qdh,qcR,qdk,qcQ,qcM,qdS,qcV,qdp,qdf,qac,qad,qab,qaa,qaq,qag,qah]
end Sl
