/- seal: what must come of every program, evaluated. -/
import Derived.Test.YtbdjmicabfclcaaDoorLeK
import Derived.Test.YtbdjmicabfclcaaDoorLeL
import Derived.Test.YtbdjmicabfclcaaDoorLeJ
set_option linter.unusedVariables false
set_option linter.unusedSimpArgs false
open List renaming reduceReplicate → rR
open Nat renaming reduceSubDiff → rS
namespace Sl
open Go Go.LE Tb
open Sha (tagv qdY Lent qbq)
set_option maxRecDepth 20000
theorem qhP (k b:Nat) (H:Heap) (m:Nm) (hm:H m=some (bs [120#8])) :
    qar (envC C (k+600)) H b 28 [.sl m 0 1 (some 1) 1]=some ⟨.sl (b,0) 0 512 (some 512) 1,[bs qd9],[(m,some (bs [120#8]))]⟩:=by
  have hi:∀ x:Nm,idx x [x] 0=some 0:=fun x=>by simp[idx]
  rw[Aes.qb4 (k+600) b 28 l28 H [.sl m 0 1 (some 1) 1] [.sl (0,0) 0 1 (some 1) 1] [m] [m] [bs [120#8]] _ rfl ((Aes.qaA rfl hm (qam _)).trans (qba _ _ _)) (by simp only[zB,zA,qaZ,qbC,hi,zC,qa9]) (by simp only[List.filterMap_cons,zQ,hm,zB,zA,qaq]) (Block_F k),qaT]
  simp only[qaZ,qbd,zE,zL,zO,Nat.reduceAdd,Nat.reduceLT,zG,qa9,zB,zA,qaq,List.zipWith_cons_cons,List.zipWith_nil_left,zC]
theorem ek_build:fill (N 0::aB 64 fun _=>0#8) [(0,1,N 3),(1,32,.agg (bs d1)),(33,32,.agg (bs t2))]=some (EK 3 d1 t2):=rfl
theorem seal_call (k b e n:Nat) (H:Heap) (d t p:List (BitVec 8)) (hd:d.length=32) (ht:t.length=32) (hp:p.length=512) (hm:mayE e n 512=0) (B:LV) (hB:Lent H B p []) :
    qar (envC C (k+6000)) H b 27 [.agg (EK e d t),N n,B]=some ⟨.tup [.sl (b,0) 0 512 none 1,.agg (bs (recL e n t (qcy d n p))),N 0],[bs (qcy d n p)],[]⟩:=by
  have hn:qbP D (.agg (bs (recL e n t (qcy d n p))))=true:=noImm_PC (.bs _)
  have hpl:qa5 (.tup [.sl (1,0) 0 512 none 1,.agg (bs (recL e n t (qcy d n p))),N 0],[],[bs (qcy d n p)])=true:=by
    have hb:∀ (l:List (BitVec 8)) (d:Nat),(bs l).all (qbP (d+1))=true:=by
      intro l d; rw[List.all_eq_true]; intro x hx; obtain ⟨y,_,rfl⟩:=List.mem_map.1 hx; rfl
    show ((true && ((bs (recL e n t (qcy d n p))).all (qbP 6) && (true && true))) && true && ((bs (qcy d n p)).all (qbP D) && true))=true
    rw[hb,hb]; rfl
  rw[call_l3 rfl rfl rfl hB (qdZ e d t).anms rfl (qdZ e d t).aren (fun _=>rfl) hpl (Seal_F k e n d t p hd ht hp hm),qaT]
  have e1:ren 7 (qbf [] b 1) (.sl (1,0) 0 512 none 1) = .sl (b,0) 0 512 none 1:=by simp[ren,qbd]
  simp only[qb0,zB,zA,qaq,(PC.bs _).r7,qc8,e1,zE,zL,zO,List.zipWith_nil_left]
theorem call_l4 {K b g:Nat} (h0:qaJ g 0=false) (h1:qaJ g 1=false) (h2:qaJ g 2=true) (h3:qaJ g 3=false) {H:Heap} {a x B y:LV} {bb:List (BitVec 8)} (hB:Lent H B bb [])
    (ha:nms D a=[]) (hx:nms D x=[]) (hy:nms D y=[]) (ra:∀ π,ren D π a=a) (rx:∀ π,ren D π x=x) (ry:∀ π,ren D π y=y) {res:qcg} (hp:qa5 res=true)
    (hF:F C K g [a,x,.isl (bs bb) bb.length,y] []=some res):qar (envC C K) H b g [a,x,B,y]=some (qcG [] b res):=by
  obtain ⟨lent,hs,hl⟩:=hB
  have hlend:lend H ((envC C K).borrow g) 0 [a,x,B,y]=some ([a,x,.isl (bs bb) bb.length,y],lent):=by
    rw[qbo,qbo,qbo,qbo,qcC,qbF,qc3,h0,if_neg (by decide),h1,if_neg (by decide),if_pos h2,hs,h3,if_neg (by decide),qbc,qbc,qbc,qbc,zI,zI,zI,zD]
  rw [qbU, hlend, qbA, show ([a, x, .isl (bs bb) bb.length, y] : List LV).flatMap (nms D) = [] by simp only [zK, zN, qbg, ha, hx, hy, zD],
    show qa7 H FUEL [] []=[] from rfl,qbV _ _ _ _ _ hl,show ([a,x,.isl (bs bb) bb.length,y]:List LV).map (ren D (qaK []))=[a,x,.isl (bs bb) bb.length,y] by simp only[zB,zA,qbj,ra,rx,ry],
    zQ,zA,qbT,hF,Sha.qcs _ _ _ _ hp]
theorem open_good (k b e n:Nat) (H:Heap) (d t p:List (BitVec 8)) (r:Nat→BitVec 8) (hd:d.length=32) (ht:t.length=32) (hp:p.length=512) (hm:mayE e n 512=0) (hr:(List.range 64).map r=recL e n t p) (B:LV) (hB:Lent H B p []) :
    qar (envC C (k+6000)) H b 29 [.agg (EK e d t),N n,B,.agg (aB 64 r)]=some ⟨.tup [.sl (b,0) 0 512 none 1,N 0],[bs (qcZ d n p)],[]⟩:=by
  have hb:∀ (l:List (BitVec 8)) (d:Nat),(bs l).all (qbP (d+1))=true:=by
    intro l d; rw[List.all_eq_true]; intro x hx; obtain ⟨y,_,rfl⟩:=List.mem_map.1 hx; rfl
  have hpl:qa5 (.tup [.sl (1,0) 0 512 none 1,N 0],[],[bs (qcZ d n p)])=true:=by
    show ((true && (true && true)) && true && ((bs (qcZ d n p)).all (qbP D) && true))=true
    rw[hb]; rfl
  have hF:=Open_F k e n d t p r hd ht hp hm
  rw[if_pos hr] at hF
  have hy:PC (aB 64 r):=by rw[qdt]; exact .bs _
  rw[call_l4 rfl rfl rfl rfl hB (qdZ e d t).anms rfl hy.anms (qdZ e d t).aren (fun _=>rfl) hy.aren hpl hF,qaT]
  have e1:ren 7 (qbf [] b 1) (.sl (1,0) 0 512 none 1) = .sl (b,0) 0 512 none 1:=by simp[ren,qbd]
  simp only[qb0,zB,zA,qaq,qc8,e1,zE,zL,zO,List.zipWith_nil_left]
theorem open_bad (k b e n:Nat) (H:Heap) (d t p:List (BitVec 8)) (r:Nat→BitVec 8) (hd:d.length=32) (ht:t.length=32) (hp:p.length=512) (hm:mayE e n 512=0) (hr:(List.range 64).map r≠recL e n t p) (B:LV) (hB:Lent H B p []) :
    qar (envC C (k+6000)) H b 29 [.agg (EK e d t),N n,B,.agg (aB 64 r)]=some ⟨.tup [Nil,N 160],[],[]⟩:=by
  have hF:=Open_F k e n d t p r hd ht hp hm
  rw[if_neg hr] at hF
  have hy:PC (aB 64 r):=by rw[qdt]; exact .bs _
  rw[call_l4 rfl rfl rfl rfl hB (qdZ e d t).anms rfl hy.anms (qdZ e d t).aren (fun _=>rfl) hy.aren rfl hF,qaT]
  rfl
theorem epoch_call (k b n:Nat) (H:Heap) (t p:List (BitVec 8)):qar (envC C (k+40)) H b 30 [.agg (bs (recL 3 n t p))]=some ⟨.tup [N 3,N 0],[],[]⟩:=by
  have ht:(recL 3 n t p).take 4=f4 3:=by rw[recL]; exact List.take_left' rfl
  have hn:epN (recL 3 n t p)=3:=by rw[epN,ht]; rfl
  rw[qae l30 (by simp only[zK,zN,(PC.bs _).anms,zD]) (by simp only[zB,zA,(PC.bs _).aren]),Epoch_F k _ (qcN _ _ _ _),epR,if_neg (by rw[hn]; exact fun h=>by cases h.1),hn]
  rfl
theorem head_call (k b n:Nat) (H:Heap):qar (envC C (k+1)) H b 31 [N n]=some ⟨.agg (HC 1#64 n 1 40 2 1 8 1 (List.replicate 16 0#8)),[],[]⟩:=by
  have hp:=qcm 1#64 n 1 40 2 1 8 1 (List.replicate 16 0#8)
  rw[Aes.qb4 (k+1) b 31 l31 H _ [N n] [] [] [] _ rfl rfl rfl rfl (Head_F k n),qaT,hp.aren]
  rfl
def d7:List (BitVec 8):=7#8::List.replicate 31 0#8
def z32:List (BitVec 8):=List.replicate 32 0#8
theorem qgo (k b:Nat) (H:Heap) (key:List (BitVec 8)) (hkey:key.length=32) (g:BitVec 64) (s:Nat) (sl j sg ti me la:Int) (nm:List (BitVec 8)) (hnm:nm.length=16) (hh:hcOk g s sl j sg ti me la) (c:BitVec 64) (rk:Bool) (f:Nat) (tr:List (BitVec 8)) (ht:tr.length=32) (hf:f≤s) (hr:rk=false→f=0) :
    qar (envC C (k+1400)) H b 7 [.agg (bs key),.agg (HC g s sl j sg ti me la nm),.agg (RC c rk f tr)]=some ⟨.tup [.sl (b,0) 0 512 (some 512) 1,N 0],[bs (qbL key s nm c rk f tr)],[]⟩ :=
  call_newT l7 H (by simp only[zK,zN,(qcm g s sl j sg ti me la nm).anms,(qbZ c rk f tr).anms,(PC.bs key).anms,zD]) (by simp only[zB,zA,(qcm g s sl j sg ti me la nm).aren,(qbZ c rk f tr).aren,(PC.bs key).aren]) (qhn k key hkey g s sl j sg ti me la nm hnm hh c rk f tr ht hf hr)
theorem readRoot_call (k b:Nat) (H:Heap) (key:List (BitVec 8)) (hkey:key.length=32) (g:BitVec 64) (s:Nat) (sl j sg ti me la:Int) (nm:List (BitVec 8)) (hnm:nm.length=16) (hh:hcOk g s sl j sg ti me la) (c:BitVec 64) (rk:Bool) (f:Nat) (tr:List (BitVec 8)) (ht:tr.length=32) (hf:f≤s) (hr:rk=false→f=0) (cp:Option Nat)
    (m:Nm) (hm:H m=some (bs (qbL key s nm c rk f tr))) :
    qar (envC C (k+1500)) H b 10 [.agg (bs key),.agg (HC g s sl j sg ti me la nm),.sl m 0 512 cp 1]=some ⟨.tup [.agg (RC c rk f tr),N 0],[],[(m,some (bs (qbL key s nm c rk f tr)))]⟩:=by
  have hi:∀ x:Nm,idx x [x] 0=some 0:=fun x=>by simp[idx]
  rw [Aes.qb4 (k + 1500) b 10 l10 H [.agg (bs key), .agg (HC g s sl j sg ti me la nm), .sl m 0 512 cp 1] [.agg (bs key), .agg (HC g s sl j sg ti me la nm), .sl (0, 0) 0 512 cp 1] [m] [m] [bs (qbL key s nm c rk f tr)] _
    (by simp only[zK,zN,(qcm g s sl j sg ti me la nm).anms,(PC.bs key).anms,zD,zI] <;> rfl) ((Aes.qaA rfl hm (qam _)).trans (qba _ _ _))
    (by simp only[zB,zA,(qcm g s sl j sg ti me la nm).aren,(PC.bs key).aren,qaZ,qbC,hi,zC,qa9]) (by simp only[List.filterMap_cons,zQ,hm,zB,zA,qaq]) (readRoot_F k key hkey g s sl j sg ti me la nm hnm hh c rk f tr ht hf hr cp),qaT]
  simp only[qb0,zB,zA,(qbZ c rk f tr).r7,qc8,List.zipWith_cons_cons,List.zipWith_nil_left,zC,qaq]
def rB:List (BitVec 8):=qbL d7 9 (List.replicate 16 0#8) 4#64 false 0 z32
theorem lives_F (k:Nat):F C (k+12000) 9 [] []=some (Bo true,[],[]):=by
  rw[qaH f9]
  have hr1:fill (aB 32 fun _=>0#8) [(0,1,B8 1#8)]=some (bs d1):=rfl
  have hr2:fill (aB 32 fun _=>0#8) [(0,1,B8 2#8)]=some (bs t2):=rfl
  have hpE:=qdZ 3 d1 t2
  have hE:(EK 3 d1 t2).length=65:=rfl
  simp (disch:=first|omega|decide|simp only[nmsB,lB]) only[simprocAttr,-rR,-rS,leB,memB,arrB,numB,qaf,opsB,qan,qai,L9,hr1,hr2,ek_build,hpE.isCell,hE,hpE.nms,qad,qac,qaa,qag]
  have hdd:List.drop 64 (aB 64 fun _=>0#8)=[]:=List.drop_of_length_le (by rw[qbX]; exact Nat.le_refl _)
  have heka:qaS 0 65 (some (EK 3 d1 t2))=some (EK 3 d1 t2):=rfl
  simp (disch:=first|omega|decide|simp only[nmsB,lB]) only[simprocAttr,-rR,-rS,leB,memB,arrB,numB,qaf,opsB,ordB,qak,qan,qai,hdd,zD,heka,hpE.isCell,hpE.nms,qab,qad,qac,qaa,qas,qah,qag]
  rw[qhP (k+11399) _ _ (9,0) rfl,Sha.tr_bs (H:=only _ _) (m:=(9,0)) (l:=[120#8]) rfl]
  simp (disch:=first|omega|decide|simp only[nmsB,lB]) only[simprocAttr,-rR,-rS,leB,memB,arrB,numB,qaf,opsB,ordB,qak,qan,qai,hpE.isCell,hpE.nms,hpE.anms,qam,qab,qad,qac,qaa,qas,qah,qag]
  have hs5:=fun b H B hB=>seal_call (k+5999) b 3 5 H d1 t2 qd9 rfl rfl List.length_replicate rfl B hB
  rw[show qcy d1 5 qd9=b5 from sealed_5] at hs5
  have hs5:∀ (b:Nat) (H:Heap) (B:LV),Lent H B qd9 []→qar (envC C (k+11999)) H b 27 [.agg (EK 3 d1 t2),N 5,B]=some ⟨.tup [.sl (b,0) 0 512 none 1,.agg (aB 64 fun j=>(recL 3 5 t2 b5).getD j 0#8),N 0],[bs b5],[]⟩:=by rw[←qeX]; exact hs5
  rw[hs5 _ _ _ ⟨[(11,0)],qbJ _ (11,0) 0 512 (some 512) (bs qd9) qd9 (by exact rfl) (by rw[zF,List.take_of_length_le (by rw[qaM]; exact Nat.le_refl _)]) List.length_replicate (by decide) 6,rfl⟩]
  simp (disch:=first|omega|decide|simp only[nmsB,lB]) only[simprocAttr,-rR,-rS,leB,memB,arrB,numB,qaf,opsB,ordB,qak,qan,qai,qbn,hpE.isCell,qab,qad,qac,qaa,qas,qah,qag]
  have hR:(bs (recL 3 5 t2 b5)).length=64:=by rw[qaM,qcN]
  have hRc:∀ l:List (BitVec 8),qaS 0 64 (some (bs (recL 3 5 t2 l)))=some (bs (recL 3 5 t2 l)):=fun l=>by
    rw[qaS,if_pos (by rw[qaM,qcN]; omega),zF,List.take_of_length_le (by rw[qaM,qcN]; omega)]
  simp (disch:=first|omega|decide|simp only[nmsB,lB]) only[simprocAttr,-rR,-rS,leB,memB,arrB,numB,qaf,opsB,ordB,qak,qan,qai,qbn,hpE.isCell,hR,hRc,hdd,zD,heka,qab,qad,qac,qaa,qas,qah,qag]
  have hr5:(List.range 64).map (fun j=>(recL 3 5 t2 b5).getD j 0#8)=recL 3 5 t2 b5:=by
    apply List.ext_getElem (by rw[zV,List.length_range,qcN])
    intro i h1 h2
    rw[List.getElem_map,List.getElem_range,List.getD_eq_getElem?_getD,List.getElem?_eq_getElem h2]; rfl
  generalize hRR:(fun j=>(recL 3 5 t2 b5).getD j 0#8)=R at *
  have hB5:∀ H:Heap,H (12,0)=some (bs b5)→Lent H (.sl (12,0) 0 512 none 1) b5 []:=fun H h=>⟨[(12,0)],qbJ _ (12,0) 0 512 none (bs b5) b5 h (by rw[zF,List.take_of_length_le (by rw[qaM]; exact Nat.le_refl _)]) rfl (by decide) 6,rfl⟩
  have ho5:=fun b H h=>open_good (k+5999) b 3 5 H d1 t2 b5 R rfl rfl rfl rfl hr5 _ (hB5 H h)
  have ho6:=fun b H h=>open_bad (k+5999) b 3 6 H d1 t2 b5 R rfl rfl rfl rfl (by rw[hr5]; exact fun h=>rec_ne h.symm) _ (hB5 H h)
  have ho5:∀ (b:Nat) (H:Heap),H (12,0)=some (bs b5)→qar (envC C (k+11999)) H b 29 [.agg (EK 3 d1 t2),N 5,.sl (12,0) 0 512 none 1,.agg (aB 64 R)]=some ⟨.tup [.sl (b,0) 0 512 none 1,N 0],[bs (qcZ d1 5 b5)],[]⟩:=ho5
  have ho6:∀ (b:Nat) (H:Heap),H (12,0)=some (bs b5)→qar (envC C (k+11999)) H b 29 [.agg (EK 3 d1 t2),N 6,.sl (12,0) 0 512 none 1,.agg (aB 64 R)]=some ⟨.tup [Nil,N 160],[],[]⟩:=ho6
  have hop:qcZ d1 5 b5=qd9:=by rw[←sealed_5]; exact opened_sealed _ _ _ List.length_replicate
  rw[hop] at ho5
  rw[ho5 _ _ rfl]
  simp (disch:=first|omega|decide|simp only[nmsB,lB]) only[simprocAttr,-rR,-rS,leB,memB,arrB,numB,qaf,opsB,ordB,qak,qan,qai,qbn,hpE.isCell,heka,qab,qad,qac,qaa,qas,qah,qag]
  rw[ho6 _ _ rfl]
  simp (disch:=first|omega|decide|simp only[nmsB,lB]) only[simprocAttr,-rR,-rS,leB,memB,arrB,numB,qaf,opsB,ordB,qak,qan,qai,qbn,hpE.isCell,heka,qab,qad,qac,qaa,qas,qah,qag]
  have hep:∀ (b:Nat) (H:Heap),qar (envC C (k+11999)) H b 30 [.agg (aB 64 R)]=some ⟨.tup [N 3,N 0],[],[]⟩:=fun b H=>by
    rw[←hRR,←qeX]
    exact epoch_call (k+11959) b 5 H t2 b5
  rw[hep]
  have hr7:fill (aB 32 fun _=>0#8) [(0,1,B8 7#8)]=some (bs d7):=rfl
  have hrr:fill (B64 0#64::Bo false::N 0::aB 32 fun _=>0#8) [(0,1,B64 4#64)]=some (RC 4#64 false 0 z32):=rfl
  have hh:∀ (b:Nat) (H:Heap),qar (envC C (k+11999)) H b 31 [N 9]=some ⟨.agg (HC 1#64 9 1 40 2 1 8 1 (List.replicate 16 0#8)),[],[]⟩:=fun b H=>head_call (k+11998) b 9 H
  have hpH:=qcm 1#64 9 1 40 2 1 8 1 (List.replicate 16 0#8)
  have hpR:=qbZ 4#64 false 0 z32
  have hrb:∀ (b:Nat) (H:Heap),qar (envC C (k+11999)) H b 7 [.agg (bs d7),.agg (HC 1#64 9 1 40 2 1 8 1 (List.replicate 16 0#8)),.agg (RC 4#64 false 0 z32)]=some ⟨.tup [.sl (b,0) 0 512 (some 512) 1,N 0],[bs rB],[]⟩:=fun b H =>
    qgo (k+10599) b H d7 rfl 1#64 9 1 40 2 1 8 1 (List.replicate 16 0#8) rfl (by decide) 4#64 false 0 z32 rfl (by decide) (fun _=>rfl)
  simp (disch:=first|omega|decide|simp only[nmsB,lB]) only[simprocAttr,-rR,-rS,leB,memB,arrB,numB,qaf,opsB,ordB,qak,qan,qai,qbn,hr7,hrr,hh,hrb,hpH.isCell,hpR.isCell,qad,qac,qaa,qas,qah,qag]
  have hrd:∀ (b:Nat) (H:Heap),H (49,0)=some (bs rB)→qar (envC C (k+11999)) H b 10 [.agg (bs d7),.agg (HC 1#64 9 1 40 2 1 8 1 (List.replicate 16 0#8)),.sl (49,0) 0 512 (some 512) 1]=some ⟨.tup [.agg (RC 4#64 false 0 z32),N 0],[],[((49,0),some (bs rB))]⟩:=fun b H h =>
    readRoot_call (k+10499) b H d7 rfl 1#64 9 1 40 2 1 8 1 (List.replicate 16 0#8) rfl (by decide) 4#64 false 0 z32 rfl (by decide) (fun _=>rfl) (some 512) (49,0) h
  rw[hrd _ _ rfl]
  have hR35:(RC 4#64 false (0:Int) z32).length=35:=rfl
  simp (disch:=first|omega|decide|simp only[nmsB,lB]) only[simprocAttr,-rR,-rS,leB,memB,arrB,numB,qaf,opsB,ordB,qak,qan,qai,qbn,hpH.isCell,hpR.isCell,hR35,qad,qac,qaa,qas,qah,qag]
  generalize hG:upd _ (62,0) _=G
  have g24:G (24,0)=some (bs qd9):=by rw[←hG]; rfl
  have g62:G (62,0)=some (RC 4#64 false (0:Int) z32):=by rw[←hG]; rfl
  clear hG
  have hfk:qb8 0 1 512 (some (bs qd9))=some (bs qd9):=qag 512 qd9 List.length_replicate.symm
  simp (disch:=first|omega|decide|simp only[nmsB,lB]) only[simprocAttr,-rR,-rS,leB,memB,arrB,numB,qaf,opsB,ordB,qak,qan,qai,qaI,op_b2s,b2sV_sl,b2sK_bs,txt_eql,hfk,g24,g62,qab,qad,qac,qaa,qas,qah,qag]
  rw[qhP (k+11399) _ _ (94,0) rfl,Sha.tr_bs (H:=only _ _) (m:=(94,0)) (l:=[120#8]) rfl]
  obtain ⟨k0,k1,k2⟩:=RC_k 4#64 false (0:Int) z32
  simp (disch:=first|omega|decide|simp only[nmsB,lB]) only[simprocAttr,-rR,-rS,leB,memB,arrB,numB,qaf,opsB,ordB,qak,qan,qai,qaI,op_b2s,b2sV_sl,b2sK_bs,txt_eql,hfk,g24,g62,k0,qab,qad,qac,qaa,qas,qah,qag]
theorem lives_call (k b:Nat) (H:Heap):qar (envC C (k+12000)) H b 9 []=some ⟨Bo true,[],[]⟩:=by
  rw[qae l9 rfl rfl,lives_F,calK_Bo]
end Sl
namespace Sl
open Go Go.LE Tb
set_option maxRecDepth 20000
theorem raCheck_F (k:Nat) (ti me la:Int):F C (k+1) 45 [.agg [I ti,I me,I la]] []=some (N (if acOk ti me la then 0 else 80),[],[]):=by
  rw[qaH f45]
  have hp:=pc3 ti me la
  have c0:qaS 0 1 (some [I ti,I me,I la])=some [I ti]:=rfl
  have c1:qaS 1 1 (some [I ti,I me,I la])=some [I me]:=rfl
  have c2:qaS 2 1 (some [I ti,I me,I la])=some [I la]:=rfl
  by_cases h1:ti < 1
  · have dh1 : decide (ti < 1) = true := decide_eq_true h1
    rw[if_neg (by unfold acOk; omega)]
    simp (disch:=first|omega|decide|simp only[nmsB,lB]) only[simprocAttr,-rR,-rS,leB,memB,arrB,numB,qaf,qan,qai,L45,hp.isCell,c0,c1,c2,qc1,qb5,qcu,dh1,qab,qad,qac,qaa,qag]
  have dh1:decide (ti < 1)=false:=decide_eq_false h1
  by_cases h2:8 < ti
  · have dh2 : decide (8 < ti) = true := decide_eq_true h2
    rw[if_neg (by unfold acOk; omega)]
    simp (disch:=first|omega|decide|simp only[nmsB,lB]) only[simprocAttr,-rR,-rS,leB,memB,arrB,numB,qaf,qan,qai,L45,hp.isCell,c0,c1,c2,qc1,qb5,qcu,dh1,dh2,qab,qad,qac,qaa,qag]
  have dh2:decide (8 < ti)=false:=decide_eq_false h2
  by_cases h3:la < 1
  · have dh3 : decide (la < 1) = true := decide_eq_true h3
    rw[if_neg (by unfold acOk; omega)]
    simp (disch:=first|omega|decide|simp only[nmsB,lB]) only[simprocAttr,-rR,-rS,leB,memB,arrB,numB,qaf,qan,qai,L45,hp.isCell,c0,c1,c2,qc1,qb5,qcu,dh1,dh2,dh3,qab,qad,qac,qaa,qag]
  have dh3:decide (la < 1)=false:=decide_eq_false h3
  by_cases h4:4 < la
  · have dh4 : decide (4 < la) = true := decide_eq_true h4
    rw[if_neg (by unfold acOk; omega)]
    simp (disch:=first|omega|decide|simp only[nmsB,lB]) only[simprocAttr,-rR,-rS,leB,memB,arrB,numB,qaf,qan,qai,L45,hp.isCell,c0,c1,c2,qc1,qb5,qcu,dh1,dh2,dh3,dh4,qab,qad,qac,qaa,qag]
  have dh4:decide (4 < la)=false:=decide_eq_false h4
  have hm:binV .mul .none (N 8) (I la)=some (I (8*la)):=I_mul .none 8 la (by omega)
  by_cases h5:me < 8*la
  · have dh5 : decide (me < 8 * la) = true := decide_eq_true h5
    rw[if_neg (by unfold acOk; omega)]
    simp (disch:=first|omega|decide|simp only[nmsB,lB]) only[simprocAttr,-rR,-rS,leB,memB,arrB,numB,qaf,qan,qai,L45,hp.isCell,c0,c1,c2,qc1,qb5,qcu,dh1,dh2,dh3,hm,dh4,dh5,qab,qad,qac,qaa,qag]
  have dh5:decide (me < 8*la)=false:=decide_eq_false h5
  by_cases h6:256 < me
  · have dh6 : decide (256 < me) = true := decide_eq_true h6
    rw[if_neg (by unfold acOk; omega)]
    simp (disch:=first|omega|decide|simp only[nmsB,lB]) only[simprocAttr,-rR,-rS,leB,memB,arrB,numB,qaf,qan,qai,L45,hp.isCell,c0,c1,c2,qc1,qb5,qcu,dh1,dh2,dh3,hm,dh4,dh5,dh6,qab,qad,qac,qaa,qag]
  have dh6:decide (256 < me)=false:=decide_eq_false h6
  rw[if_pos (by unfold acOk; omega)]
  simp (disch:=first|omega|decide|simp only[nmsB,lB]) only[simprocAttr,-rR,-rS,leB,memB,arrB,numB,qaf,qan,qai,L45,hp.isCell,c0,c1,c2,qc1,qb5,qcu,dh1,dh2,dh3,hm,dh4,dh5,dh6,qab,qad,qac,qaa,qag]
theorem raCheck_call (k b:Nat) (H:Heap) (ti me la:Int):qar (envC C (k+1)) H b 45 [.agg [I ti,I me,I la]]=some ⟨N (if acOk ti me la then 0 else 80),[],[]⟩:=by
  rw[qae l45 (by simp only[zK,zN,(pc3 ti me la).anms,zD]) (by simp only[zB,zA,(pc3 ti me la).aren]),raCheck_F]
  rfl
theorem rhCheck_F (k:Nat) (g:BitVec 64) (s sl j sg ti me la:Int) (nm:List (BitVec 8)) (hnm:nm.length=16):F C (k+10) 24 [.agg (HC g s sl j sg ti me la nm)] []=some (N (if hcOk g s sl j sg ti me la then 0 else 1),[],[]):=by
  rw[qaH f24]
  have hp:=qcm g s sl j sg ti me la nm
  have ha:=fun b H=>raCheck_call (k+8) b H ti me la
  have c0:qaS 0 1 (some (HC g s sl j sg ti me la nm))=some [B64 g]:=rfl
  have c1:qaS 1 1 (some (HC g s sl j sg ti me la nm))=some [I s]:=by simp only[HC,qbH,zE]; rw[if_pos (by omega)]; rfl
  have c2:qaS 2 1 (some (HC g s sl j sg ti me la nm))=some [I sl]:=by simp only[HC,qbH,zE]; rw[if_pos (by omega)]; rfl
  have c3:qaS 3 1 (some (HC g s sl j sg ti me la nm))=some [I j]:=by simp only[HC,qbH,zE]; rw[if_pos (by omega)]; rfl
  have c4:qaS 4 1 (some (HC g s sl j sg ti me la nm))=some [I sg]:=by simp only[HC,qbH,zE]; rw[if_pos (by omega)]; rfl
  have c5:qaS 5 3 (some (HC g s sl j sg ti me la nm))=some [I ti,I me,I la]:=by simp only[HC,qbH,zE]; rw[if_pos (by omega)]; rfl
  by_cases h0:g=0#64
  · have e0 : (decide (g < 1#64)) = true := by subst h0; rfl
    rw[if_neg (fun h=>h.1 h0)]
    simp (disch:=first|omega|decide|simp only[nmsB,lB]) only[simprocAttr,-rR,-rS,leB,memB,arrB,numB,qaf,qan,qai,L24,hp.isCell,c0,e0,qab,qad,qac,qaa,qag]
  have e0:(decide (g < 1#64))=false:=by
    apply decide_eq_false; intro h; apply h0
    apply BitVec.eq_of_toNat_eq
    have h2:=BitVec.lt_def.1 h
    simp at h2 ⊢; omega
  by_cases h1:s < 1
  · have dh1 : decide (s < 1) = true := decide_eq_true h1
    rw[if_neg (fun h=>by have:=h.2.1; have:=h.2.2.1; have:=h.2.2.2.1; have:=h.2.2.2.2.1; have:=h.2.2.2.2.2.1; omega)]
    simp (disch:=first|omega|decide|simp only[nmsB,lB]) only[simprocAttr,-rR,-rS,leB,memB,arrB,numB,qaf,qan,qai,L24,hp.isCell,c0,c1,c2,c3,c4,c5,e0,ha,qc1,qb5,qcu,dh1,qab,qad,qac,qaa,qag]
  have dh1:decide (s < 1)=false:=decide_eq_false h1
  by_cases h2:1024 < s
  · have dh2 : decide (1024 < s) = true := decide_eq_true h2
    rw[if_neg (fun h=>by have:=h.2.1; have:=h.2.2.1; have:=h.2.2.2.1; have:=h.2.2.2.2.1; have:=h.2.2.2.2.2.1; omega)]
    simp (disch:=first|omega|decide|simp only[nmsB,lB]) only[simprocAttr,-rR,-rS,leB,memB,arrB,numB,qaf,qan,qai,L24,hp.isCell,c0,c1,c2,c3,c4,c5,e0,ha,qc1,qb5,qcu,dh1,dh2,qab,qad,qac,qaa,qag]
  have dh2:decide (1024 < s)=false:=decide_eq_false h2
  by_cases h3:sl < 1
  · have dh3 : decide (sl < 1) = true := decide_eq_true h3
    rw[if_neg (fun h=>by have:=h.2.1; have:=h.2.2.1; have:=h.2.2.2.1; have:=h.2.2.2.2.1; have:=h.2.2.2.2.2.1; omega)]
    simp (disch:=first|omega|decide|simp only[nmsB,lB]) only[simprocAttr,-rR,-rS,leB,memB,arrB,numB,qaf,qan,qai,L24,hp.isCell,c0,c1,c2,c3,c4,c5,e0,ha,qc1,qb5,qcu,dh1,dh2,dh3,qab,qad,qac,qaa,qag]
  have dh3:decide (sl < 1)=false:=decide_eq_false h3
  by_cases h4:8 < sl
  · have dh4 : decide (8 < sl) = true := decide_eq_true h4
    rw[if_neg (fun h=>by have:=h.2.1; have:=h.2.2.1; have:=h.2.2.2.1; have:=h.2.2.2.2.1; have:=h.2.2.2.2.2.1; omega)]
    simp (disch:=first|omega|decide|simp only[nmsB,lB]) only[simprocAttr,-rR,-rS,leB,memB,arrB,numB,qaf,qan,qai,L24,hp.isCell,c0,c1,c2,c3,c4,c5,e0,ha,qc1,qb5,qcu,dh1,dh2,dh3,dh4,qab,qad,qac,qaa,qag]
  have dh4:decide (8 < sl)=false:=decide_eq_false h4
  by_cases h5:j < 16
  · have dh5 : decide (j < 16) = true := decide_eq_true h5
    rw[if_neg (fun h=>by have:=h.2.1; have:=h.2.2.1; have:=h.2.2.2.1; have:=h.2.2.2.2.1; have:=h.2.2.2.2.2.1; omega)]
    simp (disch:=first|omega|decide|simp only[nmsB,lB]) only[simprocAttr,-rR,-rS,leB,memB,arrB,numB,qaf,qan,qai,L24,hp.isCell,c0,c1,c2,c3,c4,c5,e0,ha,qc1,qb5,qcu,dh1,dh2,dh3,dh4,dh5,qab,qad,qac,qaa,qag]
  have dh5:decide (j < 16)=false:=decide_eq_false h5
  by_cases h6:256 < j
  · have dh6 : decide (256 < j) = true := decide_eq_true h6
    rw[if_neg (fun h=>by have:=h.2.1; have:=h.2.2.1; have:=h.2.2.2.1; have:=h.2.2.2.2.1; have:=h.2.2.2.2.2.1; omega)]
    simp (disch:=first|omega|decide|simp only[nmsB,lB]) only[simprocAttr,-rR,-rS,leB,memB,arrB,numB,qaf,qan,qai,L24,hp.isCell,c0,c1,c2,c3,c4,c5,e0,ha,qc1,qb5,qcu,dh1,dh2,dh3,dh4,dh5,dh6,qab,qad,qac,qaa,qag]
  have dh6:decide (256 < j)=false:=decide_eq_false h6
  by_cases h7:sg < 1
  · have dh7 : decide (sg < 1) = true := decide_eq_true h7
    rw[if_neg (fun h=>by have:=h.2.1; have:=h.2.2.1; have:=h.2.2.2.1; have:=h.2.2.2.2.1; have:=h.2.2.2.2.2.1; omega)]
    simp (disch:=first|omega|decide|simp only[nmsB,lB]) only[simprocAttr,-rR,-rS,leB,memB,arrB,numB,qaf,qan,qai,L24,hp.isCell,c0,c1,c2,c3,c4,c5,e0,ha,qc1,qb5,qcu,dh1,dh2,dh3,dh4,dh5,dh6,dh7,qab,qad,qac,qaa,qag]
  have dh7:decide (sg < 1)=false:=decide_eq_false h7
  by_cases h8:16 < sg
  · have dh8 : decide (16 < sg) = true := decide_eq_true h8
    rw[if_neg (fun h=>by have:=h.2.1; have:=h.2.2.1; have:=h.2.2.2.1; have:=h.2.2.2.2.1; have:=h.2.2.2.2.2.1; omega)]
    simp (disch:=first|omega|decide|simp only[nmsB,lB]) only[simprocAttr,-rR,-rS,leB,memB,arrB,numB,qaf,qan,qai,L24,hp.isCell,c0,c1,c2,c3,c4,c5,e0,ha,qc1,qb5,qcu,dh1,dh2,dh3,dh4,dh5,dh6,dh7,dh8,qab,qad,qac,qaa,qag]
  have dh8:decide (16 < sg)=false:=decide_eq_false h8
  have hadd:binV .add .none (I sg) (N 10)=some (I (sg+10)):=I_add .none sg 10 (by omega)
  by_cases h9:j < sg+10
  · have dh9 : decide (j < sg + 10) = true := decide_eq_true h9
    rw[if_neg (fun h=>by have:=h.2.1; have:=h.2.2.1; have:=h.2.2.2.1; have:=h.2.2.2.2.1; have:=h.2.2.2.2.2.1; omega)]
    simp (disch:=first|omega|decide|simp only[nmsB,lB]) only[simprocAttr,-rR,-rS,leB,memB,arrB,numB,qaf,qan,qai,L24,hp.isCell,c0,c1,c2,c3,c4,c5,e0,ha,qc1,qb5,qcu,dh1,dh2,dh3,dh4,dh5,dh6,dh7,hadd,dh8,dh9,qab,qad,qac,qaa,qag]
  have dh9:decide (j < sg+10)=false:=decide_eq_false h9
  by_cases h10:acOk ti me la
  · rw [if_pos ⟨h0, by omega, by omega, by omega, by omega, by omega, h10⟩]
    simp (disch:=first|omega|decide|simp only[nmsB,lB]) only[simprocAttr,-rR,-rS,leB,memB,arrB,numB,qaf,qan,qai,L24,hp.isCell,c0,c1,c2,c3,c4,c5,e0,ha,qc1,qb5,qcu,dh1,dh2,dh3,dh4,dh5,dh6,dh7,dh8,dh9,hadd,h10,qab,qad,qac,qaa,qag]
  rw[if_neg (fun h=>h10 h.2.2.2.2.2.2)]
  simp only[if_neg h10] at ha
  simp (disch:=first|omega|decide|simp only[nmsB,lB]) only[simprocAttr,-rR,-rS,leB,memB,arrB,numB,qaf,qan,qai,L24,hp.isCell,c0,c1,c2,c3,c4,c5,e0,ha,qc1,qb5,qcu,dh1,dh2,dh3,dh4,dh5,dh6,dh7,hadd,dh8,dh9,qab,qad,qac,qaa,qag]
theorem qeQ (k b:Nat) (H:Heap) (g:BitVec 64) (s sl j sg ti me la:Int) (nm:List (BitVec 8)) (hnm:nm.length=16):qar (envC C (k+10)) H b 24 [.agg (HC g s sl j sg ti me la nm)]=some ⟨N (if hcOk g s sl j sg ti me la then 0 else 1),[],[]⟩:=by
  have hp:=qcm g s sl j sg ti me la nm
  rw[qae l24 (by simp only[zK,zN,hp.anms,zD]) (by simp only[zB,zA,hp.aren]),rhCheck_F k g s sl j sg ti me la nm hnm]
  rfl
end Sl
namespace Sl
open Go Go.LE Tb
open Sha (Lent qbq)
set_option maxRecDepth 20000
end Sl
namespace Sl
open Go Go.LE Tb
open Sha (Lent qbq)
set_option maxRecDepth 20000
end Sl
namespace Sl
open Go Go.LE Tb
open Sha (Lent qbq)
set_option maxRecDepth 20000
theorem txt_neq' (e:EqT) (a b:List (BitVec 8)):binV .neq e (txt a) (txt b)=some (Bo !(decide (a=b))):=by
  have h:=txt_eql e a b
  simp only[binV,txt,strOp,zC,Option.some.injEq,Bo,LV.v.injEq,Value.bool.injEq] at h ⊢
  rw[h]
theorem lent_at {H:Heap} {m:Nm} {b:List (BitVec 8)} {n:Nat} (h:H m=some (bs b)) (hn:b.length=n) (h0:n≠0) (c:Option Nat):Lent H (.sl m 0 n c 1) b [] :=
  ⟨[m],qbJ H m 0 n c (bs b) b h (by rw[zF,List.take_of_length_le (by rw[qaM]; omega)]) hn h0 6,rfl⟩
end Sl
