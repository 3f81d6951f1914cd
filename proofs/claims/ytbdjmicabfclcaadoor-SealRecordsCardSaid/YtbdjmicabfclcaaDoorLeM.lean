/- seal: what must come of every program, evaluated. -/
import Derived.Test.YtbdjmicabfclcaaDoorLeK
import Derived.Test.YtbdjmicabfclcaaDoorLeL
import Derived.Test.YtbdjmicabfclcaaDoorLeJ
set_option linter.unusedVariables false
set_option linter.unusedSimpArgs false
open List renaming reduceReplicate → rR
open Nat renaming reduceSubDiff → rS
namespace Sl
open Go Go.LE Tb
open Sha (tagv qdR Lent qbn)
set_option maxRecDepth 20000
theorem qhL (k b:Nat) (H:Heap) (m:Nm) (hm:H m=some (bs [120#8])) :
    qav (envC C (k+600)) H b 28 [.sl m 0 1 (some 1) 1]=some ⟨.sl (b,0) 0 512 (some 512) 1,[bs qd0],[(m,some (bs [120#8]))]⟩:=by
  have hi:∀ x:Nm,idx x [x] 0=some 0:=fun x=>by simp[idx]
  rw[Aes.qco (k+600) b 28 l28 H [.sl m 0 1 (some 1) 1] [.sl (0,0) 0 1 (some 1) 1] [m] [m] [bs [120#8]] _ rfl ((Aes.qaw rfl hm (qan _)).trans (qba _ _ _)) (by simp only[zB,zA,qa5,qbE,hi,zC,qbh]) (by simp only[List.filterMap_cons,zS,hm,zB,zA,qax]) (Block_F k),qaP]
  simp only[qa5,qbo,zG,zM,zO,Nat.reduceAdd,Nat.reduceLT,zE,qbh,zB,zA,qax,List.zipWith_cons_cons,List.zipWith_nil_left,zC]
theorem ek_build:fill (N 0::aB 64 fun _=>0#8) [(0,1,N 3),(1,32,.agg (bs d1)),(33,32,.agg (bs t2))]=some (EK 3 d1 t2):=rfl
theorem seal_call (k b e n:Nat) (H:Heap) (d t p:List (BitVec 8)) (hd:d.length=32) (ht:t.length=32) (hp:p.length=512) (hm:mayE e n 512=0) (B:LV) (hB:Lent H B p []) :
    qav (envC C (k+6000)) H b 27 [.agg (EK e d t),N n,B]=some ⟨.tup [.sl (b,0) 0 512 none 1,.agg (bs (recL e n t (qcq d n p))),N 0],[bs (qcq d n p)],[]⟩:=by
  have hn:qbF D (.agg (bs (recL e n t (qcq d n p))))=true:=noImm_PC (.bs _)
  have hpl:qa1 (.tup [.sl (1,0) 0 512 none 1,.agg (bs (recL e n t (qcq d n p))),N 0],[],[bs (qcq d n p)])=true:=by
    have hb:∀ (l:List (BitVec 8)) (d:Nat),(bs l).all (qbF (d+1))=true:=by
      intro l d; rw[List.all_eq_true]; intro x hx; obtain ⟨y,_,rfl⟩:=List.mem_map.1 hx; rfl
    show ((true && ((bs (recL e n t (qcq d n p))).all (qbF 6) && (true && true))) && true && ((bs (qcq d n p)).all (qbF D) && true))=true
    rw[hb,hb]; rfl
  rw[call_l3 rfl rfl rfl hB (qdS e d t).anms rfl (qdS e d t).aren (fun _=>rfl) hpl (Seal_F k e n d t p hd ht hp hm),qaP]
  have e1:ren 7 (qbc [] b 1) (.sl (1,0) 0 512 none 1) = .sl (b,0) 0 512 none 1:=by simp[ren,qbo]
  simp only[qbP,zB,zA,qax,(PC.bs _).r7,qcU,e1,zG,zM,zO,List.zipWith_nil_left]
theorem call_l4 {K b g:Nat} (h0:qaF g 0=false) (h1:qaF g 1=false) (h2:qaF g 2=true) (h3:qaF g 3=false) {H:Heap} {a x B y:LV} {bb:List (BitVec 8)} (hB:Lent H B bb [])
    (ha:nms D a=[]) (hx:nms D x=[]) (hy:nms D y=[]) (ra:∀ π,ren D π a=a) (rx:∀ π,ren D π x=x) (ry:∀ π,ren D π y=y) {res:qbV} (hp:qa1 res=true)
    (hF:F C K g [a,x,.isl (bs bb) bb.length,y] []=some res):qav (envC C K) H b g [a,x,B,y]=some (qcl [] b res):=by
  obtain ⟨lent,hs,hl⟩:=hB
  have hlend:lend H ((envC C K).borrow g) 0 [a,x,B,y]=some ([a,x,.isl (bs bb) bb.length,y],lent):=by
    rw[qbe,qbe,qbe,qbe,qcu,qbB,qcQ,h0,if_neg (by decide),h1,if_neg (by decide),if_pos h2,hs,h3,if_neg (by decide),qa6,qa6,qa6,qa6,zF,zF,zF,zD]
  rw [qbM, hlend, qbx, show ([a, x, .isl (bs bb) bb.length, y] : List LV).flatMap (nms D) = [] by simp only [zI, zN, qbl, ha, hx, hy, zD],
    show qa4 H FUEL [] []=[] from rfl,qbN _ _ _ _ _ hl,show ([a,x,.isl (bs bb) bb.length,y]:List LV).map (ren D (qaH []))=[a,x,.isl (bs bb) bb.length,y] by simp only[zB,zA,qa8,ra,rx,ry],
    zS,zA,qbL,hF,Sha.qcg _ _ _ _ hp]
theorem open_good (k b e n:Nat) (H:Heap) (d t p:List (BitVec 8)) (r:Nat→BitVec 8) (hd:d.length=32) (ht:t.length=32) (hp:p.length=512) (hm:mayE e n 512=0) (hr:(List.range 64).map r=recL e n t p) (B:LV) (hB:Lent H B p []) :
    qav (envC C (k+6000)) H b 29 [.agg (EK e d t),N n,B,.agg (aB 64 r)]=some ⟨.tup [.sl (b,0) 0 512 none 1,N 0],[bs (qcW d n p)],[]⟩:=by
  have hb:∀ (l:List (BitVec 8)) (d:Nat),(bs l).all (qbF (d+1))=true:=by
    intro l d; rw[List.all_eq_true]; intro x hx; obtain ⟨y,_,rfl⟩:=List.mem_map.1 hx; rfl
  have hpl:qa1 (.tup [.sl (1,0) 0 512 none 1,N 0],[],[bs (qcW d n p)])=true:=by
    show ((true && (true && true)) && true && ((bs (qcW d n p)).all (qbF D) && true))=true
    rw[hb]; rfl
  have hF:=Open_F k e n d t p r hd ht hp hm
  rw[if_pos hr] at hF
  have hy:PC (aB 64 r):=by rw[qdy]; exact .bs _
  rw[call_l4 rfl rfl rfl rfl hB (qdS e d t).anms rfl hy.anms (qdS e d t).aren (fun _=>rfl) hy.aren hpl hF,qaP]
  have e1:ren 7 (qbc [] b 1) (.sl (1,0) 0 512 none 1) = .sl (b,0) 0 512 none 1:=by simp[ren,qbo]
  simp only[qbP,zB,zA,qax,qcU,e1,zG,zM,zO,List.zipWith_nil_left]
theorem open_bad (k b e n:Nat) (H:Heap) (d t p:List (BitVec 8)) (r:Nat→BitVec 8) (hd:d.length=32) (ht:t.length=32) (hp:p.length=512) (hm:mayE e n 512=0) (hr:(List.range 64).map r≠recL e n t p) (B:LV) (hB:Lent H B p []) :
    qav (envC C (k+6000)) H b 29 [.agg (EK e d t),N n,B,.agg (aB 64 r)]=some ⟨.tup [Nil,N 160],[],[]⟩:=by
  have hF:=Open_F k e n d t p r hd ht hp hm
  rw[if_neg hr] at hF
  have hy:PC (aB 64 r):=by rw[qdy]; exact .bs _
  rw[call_l4 rfl rfl rfl rfl hB (qdS e d t).anms rfl hy.anms (qdS e d t).aren (fun _=>rfl) hy.aren rfl hF,qaP]
  rfl
theorem epoch_call (k b n:Nat) (H:Heap) (t p:List (BitVec 8)):qav (envC C (k+40)) H b 30 [.agg (bs (recL 3 n t p))]=some ⟨.tup [N 3,N 0],[],[]⟩:=by
  have ht:(recL 3 n t p).take 4=f4 3:=by rw[recL]; exact List.take_left' rfl
  have hn:epN (recL 3 n t p)=3:=by rw[epN,ht]; rfl
  rw[qae l30 (by simp only[zI,zN,(PC.bs _).anms,zD]) (by simp only[zB,zA,(PC.bs _).aren]),Epoch_F k _ (qcE _ _ _ _),epR,if_neg (by rw[hn]; exact fun h=>by cases h.1),hn]
  rfl
theorem head_call (k b n:Nat) (H:Heap):qav (envC C (k+1)) H b 31 [N n]=some ⟨.agg (HC 1#64 n 1 40 2 1 8 1 (List.replicate 16 0#8)),[],[]⟩:=by
  have hp:=qeL 1#64 n 1 40 2 1 8 1 (List.replicate 16 0#8)
  rw[Aes.qco (k+1) b 31 l31 H _ [N n] [] [] [] _ rfl rfl rfl rfl (Head_F k n),qaP,hp.aren]
  rfl
def d7:List (BitVec 8):=7#8::List.replicate 31 0#8
def z32:List (BitVec 8):=List.replicate 32 0#8
theorem qhT (k b:Nat) (H:Heap) (key:List (BitVec 8)) (hkey:key.length=32) (g:BitVec 64) (s:Nat) (sl j sg ti me la:Int) (nm:List (BitVec 8)) (hnm:nm.length=16) (hh:hcOk g s sl j sg ti me la) (c:BitVec 64) (rk:Bool) (f:Nat) (tr:List (BitVec 8)) (ht:tr.length=32) (hf:f≤s) (hr:rk=false→f=0) :
    qav (envC C (k+1400)) H b 7 [.agg (bs key),.agg (HC g s sl j sg ti me la nm),.agg (RC c rk f tr)]=some ⟨.tup [.sl (b,0) 0 512 (some 512) 1,N 0],[bs (qcC key s nm c rk f tr)],[]⟩ :=
  call_newT l7 H (by simp only[zI,zN,(qeL g s sl j sg ti me la nm).anms,(RC_pc c rk f tr).anms,(PC.bs key).anms,zD]) (by simp only[zB,zA,(qeL g s sl j sg ti me la nm).aren,(RC_pc c rk f tr).aren,(PC.bs key).aren]) (qhk k key hkey g s sl j sg ti me la nm hnm hh c rk f tr ht hf hr)
theorem readRoot_call (k b:Nat) (H:Heap) (key:List (BitVec 8)) (hkey:key.length=32) (g:BitVec 64) (s:Nat) (sl j sg ti me la:Int) (nm:List (BitVec 8)) (hnm:nm.length=16) (hh:hcOk g s sl j sg ti me la) (c:BitVec 64) (rk:Bool) (f:Nat) (tr:List (BitVec 8)) (ht:tr.length=32) (hf:f≤s) (hr:rk=false→f=0) (cp:Option Nat)
    (m:Nm) (hm:H m=some (bs (qcC key s nm c rk f tr))) :
    qav (envC C (k+1500)) H b 10 [.agg (bs key),.agg (HC g s sl j sg ti me la nm),.sl m 0 512 cp 1]=some ⟨.tup [.agg (RC c rk f tr),N 0],[],[(m,some (bs (qcC key s nm c rk f tr)))]⟩:=by
  have hi:∀ x:Nm,idx x [x] 0=some 0:=fun x=>by simp[idx]
  rw [Aes.qco (k + 1500) b 10 l10 H [.agg (bs key), .agg (HC g s sl j sg ti me la nm), .sl m 0 512 cp 1] [.agg (bs key), .agg (HC g s sl j sg ti me la nm), .sl (0, 0) 0 512 cp 1] [m] [m] [bs (qcC key s nm c rk f tr)] _
    (by simp only[zI,zN,(qeL g s sl j sg ti me la nm).anms,(PC.bs key).anms,zD,zF] <;> rfl) ((Aes.qaw rfl hm (qan _)).trans (qba _ _ _))
    (by simp only[zB,zA,(qeL g s sl j sg ti me la nm).aren,(PC.bs key).aren,qa5,qbE,hi,zC,qbh]) (by simp only[List.filterMap_cons,zS,hm,zB,zA,qax]) (readRoot_F k key hkey g s sl j sg ti me la nm hnm hh c rk f tr ht hf hr cp),qaP]
  simp only[qbP,zB,zA,(RC_pc c rk f tr).r7,qcU,List.zipWith_cons_cons,List.zipWith_nil_left,zC,qax]
def rB:List (BitVec 8):=qcC d7 9 (List.replicate 16 0#8) 4#64 false 0 z32
theorem lives_F (k:Nat):F C (k+12000) 9 [] []=some (Bo true,[],[]):=by
  rw[qaI f9]
  have hr1:fill (aB 32 fun _=>0#8) [(0,1,B8 1#8)]=some (bs d1):=rfl
  have hr2:fill (aB 32 fun _=>0#8) [(0,1,B8 2#8)]=some (bs t2):=rfl
  have hpE:=qdS 3 d1 t2
  have hE:(EK 3 d1 t2).length=65:=rfl
  simp (disch:=first|omega|decide|simp only[nmsB,lB]) only[simprocAttr,-rR,-rS,leB,memB,arrB,numB,qaf,opsB,qaA,qai,L9,hr1,hr2,ek_build,hpE.isCell,hE,hpE.nms,qad,qab,qaa,qah]
  have hdd:List.drop 64 (aB 64 fun _=>0#8)=[]:=List.drop_of_length_le (by rw[qbS]; exact Nat.le_refl _)
  have heka:qbi 0 65 (some (EK 3 d1 t2))=some (EK 3 d1 t2):=rfl
  simp (disch:=first|omega|decide|simp only[nmsB,lB]) only[simprocAttr,-rR,-rS,leB,memB,arrB,numB,qaf,opsB,ordB,qal,qaA,qai,hdd,zD,heka,hpE.isCell,hpE.nms,qac,qad,qab,qaa,qay,qag,qah]
  rw[qhL (k+11399) _ _ (9,0) rfl,Sha.tr_bs (H:=only _ _) (m:=(9,0)) (l:=[120#8]) rfl]
  simp (disch:=first|omega|decide|simp only[nmsB,lB]) only[simprocAttr,-rR,-rS,leB,memB,arrB,numB,qaf,opsB,ordB,qal,qaA,qai,hpE.isCell,hpE.nms,hpE.anms,qan,qac,qad,qab,qaa,qay,qag,qah]
  have hs5:=fun b H B hB=>seal_call (k+5999) b 3 5 H d1 t2 qd0 rfl rfl List.length_replicate rfl B hB
  rw[show qcq d1 5 qd0=b5 from sealed_5] at hs5
  have hs5:∀ (b:Nat) (H:Heap) (B:LV),Lent H B qd0 []→qav (envC C (k+11999)) H b 27 [.agg (EK 3 d1 t2),N 5,B]=some ⟨.tup [.sl (b,0) 0 512 none 1,.agg (aB 64 fun j=>(recL 3 5 t2 b5).getD j 0#8),N 0],[bs b5],[]⟩:=by rw[←qeS]; exact hs5
  rw[hs5 _ _ _ ⟨[(11,0)],qbR _ (11,0) 0 512 (some 512) (bs qd0) qd0 (by exact rfl) (by rw[zH,List.take_of_length_le (by rw[qaU]; exact Nat.le_refl _)]) List.length_replicate (by decide) 6,rfl⟩]
  simp (disch:=first|omega|decide|simp only[nmsB,lB]) only[simprocAttr,-rR,-rS,leB,memB,arrB,numB,qaf,opsB,ordB,qal,qaA,qai,qcw,hpE.isCell,qac,qad,qab,qaa,qay,qag,qah]
  have hR:(bs (recL 3 5 t2 b5)).length=64:=by rw[qaU,qcE]
  have hRc:∀ l:List (BitVec 8),qbi 0 64 (some (bs (recL 3 5 t2 l)))=some (bs (recL 3 5 t2 l)):=fun l=>by
    rw[qbi,if_pos (by rw[qaU,qcE]; omega),zH,List.take_of_length_le (by rw[qaU,qcE]; omega)]
  simp (disch:=first|omega|decide|simp only[nmsB,lB]) only[simprocAttr,-rR,-rS,leB,memB,arrB,numB,qaf,opsB,ordB,qal,qaA,qai,qcw,hpE.isCell,hR,hRc,hdd,zD,heka,qac,qad,qab,qaa,qay,qag,qah]
  have hr5:(List.range 64).map (fun j=>(recL 3 5 t2 b5).getD j 0#8)=recL 3 5 t2 b5:=by
    apply List.ext_getElem (by rw[zV,List.length_range,qcE])
    intro i h1 h2
    rw[List.getElem_map,List.getElem_range,List.getD_eq_getElem?_getD,List.getElem?_eq_getElem h2]; rfl
  generalize hRR:(fun j=>(recL 3 5 t2 b5).getD j 0#8)=R at *
  have hB5:∀ H:Heap,H (12,0)=some (bs b5)→Lent H (.sl (12,0) 0 512 none 1) b5 []:=fun H h=>⟨[(12,0)],qbR _ (12,0) 0 512 none (bs b5) b5 h (by rw[zH,List.take_of_length_le (by rw[qaU]; exact Nat.le_refl _)]) rfl (by decide) 6,rfl⟩
  have ho5:=fun b H h=>open_good (k+5999) b 3 5 H d1 t2 b5 R rfl rfl rfl rfl hr5 _ (hB5 H h)
  have ho6:=fun b H h=>open_bad (k+5999) b 3 6 H d1 t2 b5 R rfl rfl rfl rfl (by rw[hr5]; exact fun h=>rec_ne h.symm) _ (hB5 H h)
  have ho5:∀ (b:Nat) (H:Heap),H (12,0)=some (bs b5)→qav (envC C (k+11999)) H b 29 [.agg (EK 3 d1 t2),N 5,.sl (12,0) 0 512 none 1,.agg (aB 64 R)]=some ⟨.tup [.sl (b,0) 0 512 none 1,N 0],[bs (qcW d1 5 b5)],[]⟩:=ho5
  have ho6:∀ (b:Nat) (H:Heap),H (12,0)=some (bs b5)→qav (envC C (k+11999)) H b 29 [.agg (EK 3 d1 t2),N 6,.sl (12,0) 0 512 none 1,.agg (aB 64 R)]=some ⟨.tup [Nil,N 160],[],[]⟩:=ho6
  have hop:qcW d1 5 b5=qd0:=by rw[←sealed_5]; exact opened_sealed _ _ _ List.length_replicate
  rw[hop] at ho5
  rw[ho5 _ _ rfl]
  simp (disch:=first|omega|decide|simp only[nmsB,lB]) only[simprocAttr,-rR,-rS,leB,memB,arrB,numB,qaf,opsB,ordB,qal,qaA,qai,qcw,hpE.isCell,heka,qac,qad,qab,qaa,qay,qag,qah]
  rw[ho6 _ _ rfl]
  simp (disch:=first|omega|decide|simp only[nmsB,lB]) only[simprocAttr,-rR,-rS,leB,memB,arrB,numB,qaf,opsB,ordB,qal,qaA,qai,qcw,hpE.isCell,heka,qac,qad,qab,qaa,qay,qag,qah]
  have hep:∀ (b:Nat) (H:Heap),qav (envC C (k+11999)) H b 30 [.agg (aB 64 R)]=some ⟨.tup [N 3,N 0],[],[]⟩:=fun b H=>by
    rw[←hRR,←qeS]
    exact epoch_call (k+11959) b 5 H t2 b5
  rw[hep]
  have hr7:fill (aB 32 fun _=>0#8) [(0,1,B8 7#8)]=some (bs d7):=rfl
  have hrr:fill (B64 0#64::Bo false::N 0::aB 32 fun _=>0#8) [(0,1,B64 4#64)]=some (RC 4#64 false 0 z32):=rfl
  have hh:∀ (b:Nat) (H:Heap),qav (envC C (k+11999)) H b 31 [N 9]=some ⟨.agg (HC 1#64 9 1 40 2 1 8 1 (List.replicate 16 0#8)),[],[]⟩:=fun b H=>head_call (k+11998) b 9 H
  have hpH:=qeL 1#64 9 1 40 2 1 8 1 (List.replicate 16 0#8)
  have hpR:=RC_pc 4#64 false 0 z32
  have hrb:∀ (b:Nat) (H:Heap),qav (envC C (k+11999)) H b 7 [.agg (bs d7),.agg (HC 1#64 9 1 40 2 1 8 1 (List.replicate 16 0#8)),.agg (RC 4#64 false 0 z32)]=some ⟨.tup [.sl (b,0) 0 512 (some 512) 1,N 0],[bs rB],[]⟩:=fun b H =>
    qhT (k+10599) b H d7 rfl 1#64 9 1 40 2 1 8 1 (List.replicate 16 0#8) rfl (by decide) 4#64 false 0 z32 rfl (by decide) (fun _=>rfl)
  simp (disch:=first|omega|decide|simp only[nmsB,lB]) only[simprocAttr,-rR,-rS,leB,memB,arrB,numB,qaf,opsB,ordB,qal,qaA,qai,qcw,hr7,hrr,hh,hrb,hpH.isCell,hpR.isCell,qad,qab,qaa,qay,qag,qah]
  have hrd:∀ (b:Nat) (H:Heap),H (49,0)=some (bs rB)→qav (envC C (k+11999)) H b 10 [.agg (bs d7),.agg (HC 1#64 9 1 40 2 1 8 1 (List.replicate 16 0#8)),.sl (49,0) 0 512 (some 512) 1]=some ⟨.tup [.agg (RC 4#64 false 0 z32),N 0],[],[((49,0),some (bs rB))]⟩:=fun b H h =>
    readRoot_call (k+10499) b H d7 rfl 1#64 9 1 40 2 1 8 1 (List.replicate 16 0#8) rfl (by decide) 4#64 false 0 z32 rfl (by decide) (fun _=>rfl) (some 512) (49,0) h
  rw[hrd _ _ rfl]
  have hR35:(RC 4#64 false (0:Int) z32).length=35:=rfl
  simp (disch:=first|omega|decide|simp only[nmsB,lB]) only[simprocAttr,-rR,-rS,leB,memB,arrB,numB,qaf,opsB,ordB,qal,qaA,qai,qcw,hpH.isCell,hpR.isCell,hR35,qad,qab,qaa,qay,qag,qah]
  generalize hG:upd _ (62,0) _=G
  have g24:G (24,0)=some (bs qd0):=by rw[←hG]; rfl
  have g62:G (62,0)=some (RC 4#64 false (0:Int) z32):=by rw[←hG]; rfl
  clear hG
  have hfk:qdp 0 1 512 (some (bs qd0))=some (bs qd0):=qah 512 qd0 List.length_replicate.symm
  simp (disch:=first|omega|decide|simp only[nmsB,lB]) only[simprocAttr,-rR,-rS,leB,memB,arrB,numB,qaf,opsB,ordB,qal,qaA,qai,qaJ,qej,qdX,qdW,qdE,hfk,g24,g62,qac,qad,qab,qaa,qay,qag,qah]
  rw[qhL (k+11399) _ _ (94,0) rfl,Sha.tr_bs (H:=only _ _) (m:=(94,0)) (l:=[120#8]) rfl]
  obtain ⟨k0,k1,k2⟩:=RC_k 4#64 false (0:Int) z32
  simp (disch:=first|omega|decide|simp only[nmsB,lB]) only[simprocAttr,-rR,-rS,leB,memB,arrB,numB,qaf,opsB,ordB,qal,qaA,qai,qaJ,qej,qdX,qdW,qdE,hfk,g24,g62,k0,qac,qad,qab,qaa,qay,qag,qah]
theorem qhM (k b:Nat) (H:Heap):qav (envC C (k+12000)) H b 9 []=some ⟨Bo true,[],[]⟩:=by
  rw[qae l9 rfl rfl,lives_F,calK_Bo]
end Sl
namespace Sl
open Go Go.LE Tb
set_option maxRecDepth 20000
end Sl
namespace Sl
open Go Go.LE Tb
open Sha (Lent qbn)
set_option maxRecDepth 20000
def plE (n:Int) (len:Nat):Nat:=if n < 0 then 1 else if len=512 then 0 else 101
def qci (b:List (BitVec 8)) (n:Nat):List (BitVec 8):=(b.drop (64*(n % 8))).take 64
def qcX (b:List (BitVec 8)) (n:Nat) (R:List (BitVec 8)):List (BitVec 8):=b.take (64*(n % 8))++R++b.drop (64*(n % 8)+64)
theorem qg4 (b:List (BitVec 8)) (n:Nat) (h:b.length=512):(qci b n).length=64:=by
  have:=Nat.mod_lt n (by decide:0 < 8)
  rw[qci,zT,zQ]; omega
theorem plE_0 {n:Int} {len:Nat} (h:plE n len=0):len=512∧∃ m:Nat,n=m:=by
  unfold plE at h
  split at h
  · cases h
  · split at h
    · rename_i h1 h2; exact ⟨h2,n.toNat,by omega⟩
    · cases h
theorem place_F (k:Nat) (n:Int) (b:List (BitVec 8)):F C (k+1) 36 [.isl (bs b) b.length,I n] []=some (.tup [N (if plE n b.length=0 then 64*(n.toNat % 8) else 0),N (plE n b.length)],[],[]):=by
  rw[qaI f36]
  by_cases h1:n < 0
  · have e1 : decide (n < 0) = true := decide_eq_true h1
    have e2:plE n b.length=1:=by rw[plE,if_pos h1]
    rw[e2]
    simp (disch:=first|omega|decide|simp only[nmsB,lB]) only[simprocAttr,-rR,-rS,leB,memB,arrB,numB,qaf,qaA,qai,L36,qdH,e1,qac,qad,qab,qaa,qah]
    rfl
  have e1:decide (n < 0)=false:=decide_eq_false h1
  by_cases h2:b.length=512
  · have e2 : plE n b.length = 0 := by rw [plE, if_neg h1, if_pos h2]
    obtain ⟨m,rfl⟩:∃ m:Nat,n=m:=⟨n.toNat,by omega⟩
    rw[e2,h2]
    have hI:I (m:Int)=N m:=rfl
    have hm:64*(m % 8) < 9223372036854775808:=by omega
    simp (disch:=first|omega|decide|simp only[nmsB,lB]) only[simprocAttr,-rR,-rS,leB,memB,arrB,numB,qaf,qaA,qai,L36,qdH,e1,hI,hm,Nat.not_lt_zero,Int.toNat_natCast,qac,qad,qab,qaa,qah]
    rfl
  · have e2 : plE n b.length = 101 := by rw [plE, if_neg h1, if_neg h2]
    have d2:decide (b.length≠512)=true:=by simpa using h2
    rw[e2]
    simp (disch:=first|omega|decide|simp only[nmsB,lB]) only[simprocAttr,-rR,-rS,leB,memB,arrB,numB,qaf,qaA,qai,L36,qdH,e1,h2,d2,qac,qad,qab,qaa,qah]
    rfl
theorem call_l1 {K b g:Nat} (h0:qaF g 0=true) (h1:qaF g 1=false) {H:Heap} {x B:LV} {bb:List (BitVec 8)} (hB:Lent H B bb [])
    (hx:nms D x=[]) (rx:∀ π,ren D π x=x) {res:qbV} (hp:qa1 res=true)
    (hF:F C K g [.isl (bs bb) bb.length,x] []=some res):qav (envC C K) H b g [B,x]=some (qcl [] b res):=by
  obtain ⟨lent,hs,hl⟩:=hB
  have hlend:lend H ((envC C K).borrow g) 0 [B,x]=some ([.isl (bs bb) bb.length,x],lent):=by
    rw[qbe,qbe,qcu,qbB,qcQ,if_pos h0,hs,h1,if_neg (by decide),qa6,qa6,zD,zD]
  rw [qbM, hlend, qbx, show ([.isl (bs bb) bb.length, x] : List LV).flatMap (nms D) = [] by simp only [zI, zN, qbl, hx, zD],
    show qa4 H FUEL [] []=[] from rfl,qbN _ _ _ _ _ hl,show ([.isl (bs bb) bb.length,x]:List LV).map (ren D (qaH []))=[.isl (bs bb) bb.length,x] by simp only[zB,zA,qa8,rx],
    zS,zA,qbL,hF,Sha.qcg _ _ _ _ hp]
theorem qhN (k b:Nat) (H:Heap) (n:Int) (B:LV) (bb:List (BitVec 8)) (hB:Lent H B bb []) :
    qav (envC C (k+1)) H b 36 [B,I n]=some ⟨.tup [N (if plE n bb.length=0 then 64*(n.toNat % 8) else 0),N (plE n bb.length)],[],[]⟩:=by
  rw[call_l1 rfl rfl hB rfl (fun _=>rfl) rfl (place_F k n bb),qaP]
  rfl
theorem place_bad {k b:Nat} {H:Heap} {n:Int} {B:LV} {bb:List (BitVec 8)} (hB:Lent H B bb []) (h:plE n bb.length≠0) :
    qav (envC C (k+1)) H b 36 [B,I n]=some ⟨.tup [N 0,N (plE n bb.length)],[],[]⟩:=by rw[qhN k b H n B bb hB,if_neg h]
theorem place_ok {k b:Nat} {H:Heap} {n:Nat} {B:LV} {bb:List (BitVec 8)} (hB:Lent H B bb []) (h:bb.length=512) :
    qav (envC C (k+1)) H b 36 [B,N n]=some ⟨.tup [N (64*(n % 8)),N 0],[],[]⟩:=by
  have h2:plE (n:Int) bb.length=0:=by rw[plE,if_neg (by omega),if_pos h]
  have:=qhN k b H n B bb hB
  rw[h2,if_pos rfl,Int.toNat_natCast] at this
  exact this
theorem Record_bad (k:Nat) (n:Int) (b:List (BitVec 8)) (h:plE n b.length≠0):F C (k+2) 14 [.isl (bs b) b.length,I n] []=some (.tup [.agg (aB 64 fun _=>0#8),N (plE n b.length)],[],[]):=by
  rw[qaI f14]
  have hc:=fun bb H=>place_bad (k:=k) (b:=bb) (H:=H) (qbn H b []) h
  have hd:decide (plE n b.length≠0)=true:=by simpa using h
  have hz:=PC.aB 64 fun _=>0#8
  simp (disch:=first|omega|decide|simp only[nmsB,lB]) only[simprocAttr,-rR,-rS,leB,memB,arrB,numB,qaf,opsB,qaA,qai,L14,hc,h,hd,qey,qac,qad,qab,qaa,qah]
  show some (qbO 0 _ (.tup [.agg (aB 64 fun _=>0#8),N (plE n b.length)]))=_
  rw[qbJ (by rw[qcN]; simp only[zI,zN,hz.n7,qdC,zD] <;> rfl) (fun π=>by rw[qbP]; simp only[zB,zA,hz.r7,qcU] <;> rfl)]
theorem qgE (k n:Nat) (b:List (BitVec 8)) (h:b.length=512):F C (k+2) 14 [.isl (bs b) b.length,N n] []=some (.tup [.agg (aB 64 fun j=>(qci b n).getD j 0#8),N 0],[],[]):=by
  rw[qaI f14]
  have hc:=fun bb H=>place_ok (k:=k) (b:=bb) (H:=H) (n:=n) (qbn H b []) h
  have hm:=Nat.mod_lt n (by decide:0 < 8)
  have hl:=qg4 b n h
  rw[h] at hc ⊢
  have hcell:∀ H:Heap,qb4 H 64 (.ipt (List.take (64*(n % 8)+64 - 64*(n % 8)) (List.drop (64*(n % 8)) (bs b))))=some (aB 64 fun j=>(qci b n).getD j 0#8):=fun H=>by
    rw[zd,qdD,qdh,show ((b.drop (64*(n % 8))).take 64)=qci b n from rfl,qfk,if_pos (by rw[qaU]; omega),List.take_of_length_le (by rw[qaU]; omega),qen _ 64 hl]
  have hz:=PC.aB 64 fun j=>(qci b n).getD j 0#8
  simp (disch:=first|omega|decide|simp only[nmsB,lB]) only[simprocAttr,-rR,-rS,leB,memB,arrB,numB,qaf,opsB,qaA,qai,L14,hc,hcell,qey,qac,qad,qab,qaa,qah]
  show some (qbO 0 _ (.tup [.agg (aB 64 fun j=>(qci b n).getD j 0#8),N 0]))=_
  rw[qbJ (by rw[qcN]; simp only[zI,zN,hz.n7,qdC,zD] <;> rfl) (fun π=>by rw[qbP]; simp only[zB,zA,hz.r7,qcU] <;> rfl)]
theorem qhl (k:Nat) (n:Int) (b:List (BitVec 8)) (h:plE n b.length≠0):F C (k+2) 15 [.isl (bs b) b.length,I n] []=some (.tup [.agg (aB 64 fun _=>0#8),N (plE n b.length)],[],[]):=by
  rw[qaI f15]
  have hz:=PC.aB 64 fun _=>0#8
  by_cases h1:n < 0
  · have e1 : decide (n < 0) = true := decide_eq_true h1
    have e2:plE n b.length=1:=by rw[plE,if_pos h1]
    rw[e2]
    simp (disch:=first|omega|decide|simp only[nmsB,lB]) only[simprocAttr,-rR,-rS,leB,memB,arrB,numB,qaf,opsB,qaA,qai,L15,qdH,e1,qey,qac,qad,qab,qaa,qah]
    show some (qbO 0 _ (.tup [.agg (aB 64 fun _=>0#8),N 1]))=_
    rw[qbJ (by rw[qcN]; simp only[zI,zN,hz.n7,qdC,zD] <;> rfl) (fun π=>by rw[qbP]; simp only[zB,zA,hz.r7,qcU] <;> rfl)]
  have e1:decide (n < 0)=false:=decide_eq_false h1
  have h2:b.length≠512:=fun h2=>h (by rw[plE,if_neg h1,if_pos h2])
  have e2:plE n b.length=101:=by rw[plE,if_neg h1,if_neg h2]
  have d2:decide (b.length≠512)=true:=by simpa using h2
  rw[e2]
  simp (disch:=first|omega|decide|simp only[nmsB,lB]) only[simprocAttr,-rR,-rS,leB,memB,arrB,numB,qaf,opsB,qaA,qai,L15,qdH,e1,h2,d2,qey,qac,qad,qab,qaa,qah]
  show some (qbO 0 _ (.tup [.agg (aB 64 fun _=>0#8),N 101]))=_
  rw[qbJ (by rw[qcN]; simp only[zI,zN,hz.n7,qdC,zD] <;> rfl) (fun π=>by rw[qbP]; simp only[zB,zA,hz.r7,qcU] <;> rfl)]
def rrJ (b:List (BitVec 8)) (n i:Nat) (st:St):Prop := ∃ (H:Heap),st=⟨[.isl (bs b) 512,N n,.undef,.undef,.ptr (1,0) 0,.undef,.ptr (1,1) 0,N i,.undef,.undef,.undef,.undef,.undef,.undef,.undef,.undef,.undef,.undef,.undef,.undef,.undef,.undef,.undef,.undef,.undef,.undef,.undef,.undef,.undef,.undef],H,2,0⟩ ∧
  H (1,0)=some (aB 64 fun _=>0#8)∧H (1,1)=some (aB 64 (pfx (qci b n) i))
theorem rr_round (k K:Nat) (b:List (BitVec 8)) (hb:b.length=512) (n i:Nat) (hi:i < 64) (st:St) (hJ:rrJ b n i st):∃ st1,ev (envC C k) K L15b0 st=some (.normal,st1)∧rrJ b n (i+1) (qbg L15k0 st1):=by
  obtain ⟨H,rfl,h0,h1⟩:=hJ
  have hm:=Nat.mod_lt n (by decide:0 < 8)
  have hix:64*(n % 8)+i < 512:=by omega
  have hc:∀ H:Heap,qb4 H 1 (.ipt ((bs b).drop (64*(n % 8)+i)))=some [B8 ((qci b n).getD i 0#8)]:=fun H=>by
    rw[qfH b _ (by omega)]
    congr 3
    rw[qci,List.getD_eq_getElem?_getD,List.getD_eq_getElem?_getD,List.getElem?_take,if_pos hi,List.getElem?_drop]
  have hs:=pfx_succ (qci b n) i
  apply Exists.intro
  apply And.intro
  · simp (disch := first | omega | decide | simp only [nmsB, lB]) only [simprocAttr, -rR, -rS, leB, memB, arrB, numB, qaf, L15b0, hi, hix, h0, h1, hc, hs, qae, qac, qad, qab, qaa]
    rfl
  · refine qaz [(1, 0), (1, 1)] rfl (by simp only [simprocAttr, -rR, -rS, qal, L15k0, qaO, qan, qbl, h0, h1, qag, qab, qaa]) (by simp only [simprocAttr, -rR, -rS, qal, L15k0, zB, zA, qa8, qag, qab, qaa] <;> rfl) ⟨_, rfl, ?_, ?_⟩
    · exact qak (1,0) rfl (by simp (disch:=first|omega|decide|simp only[nmsB,lB]) only[simprocAttr,-rR,-rS,memB,h0,qac]) (qaG _ _ _)
    · exact qak (1,1) rfl (by simp (disch:=first|omega|decide|simp only[nmsB,lB]) only[simprocAttr,-rR,-rS,memB,qac]) (qaG _ _ _)
theorem pfx_all (L:List (BitVec 8)) (h:L.length=64):aB 64 (pfx L 64)=aB 64 fun j=>L.getD j 0#8:=qct 64 fun j hj=>by rw[pfx,if_pos hj]
theorem rRecord_F (k n:Nat) (b:List (BitVec 8)) (h:b.length=512):F C (k+100) 15 [.isl (bs b) b.length,N n] []=some (.tup [.agg (aB 64 fun j=>(qci b n).getD j 0#8),N 0],[],[]):=by
  rw[qaI f15]
  have hz:=PC.aB 64 fun j=>(qci b n).getD j 0#8
  rw[h]
  simp (disch:=first|omega|decide|simp only[nmsB,lB]) only[simprocAttr,-rR,-rS,leB,memB,arrB,numB,qaf,opsB,qaA,qai,L15,Nat.not_lt_zero,qac,qad,qab,qaa,qah]
  generalize hL:qbd L15k0 _ _ _=r
  refine qaY hL (rrJ b n) 64 (by omega) (fun i st hi hJ=>rr_round _ _ b h n i hi st hJ) ?_ ?_ ?_
  · refine qaz [(2, 0), (4, 0)] rfl (by simp only [simprocAttr, -rR, -rS, qal, L15k0, qaO, qan, qbl, qag, qab, qaa]) (by simp only [simprocAttr, -rR, -rS, qal, L15k0, zB, zA, qa8, qag, qab, qaa] <;> rfl) ⟨_, rfl, ?_, ?_⟩
    · exact qak (2,0) rfl rfl (qaG _ _ _)
    · rw[pfx_0]; exact qak (4,0) rfl rfl (qaG _ _ _)
  · rintro st ⟨H, rfl, h0, h1⟩
    apply qaR
    simp (disch:=first|omega|decide|simp only[nmsB,lB]) only[simprocAttr,-rR,-rS,leB,memB,arrB,numB,qaf,L15b0,qae,qac,qad,qab,qaa]
    rfl
  · rintro st ⟨H, rfl, h0, h1⟩ rfl
    rw[pfx_all _ (qg4 b n h)] at h1
    simp (disch:=first|omega|decide|simp only[nmsB,lB]) only[simprocAttr,-rR,-rS,leB,memB,arrB,numB,qaf,opsB,qaA,qai,L15b0,h0,h1,qey,qac,qad,qab,qaa,qah]
    show some (qbO 0 _ (.tup [.agg (aB 64 fun j=>(qci b n).getD j 0#8),N 0]))=_
    rw[qbJ (by rw[qcN]; simp only[zI,zN,hz.n7,qdC,zD] <;> rfl) (fun π=>by rw[qbP]; simp only[zB,zA,hz.r7,qcU] <;> rfl)]
theorem qes {K b g z:Nat} (h0:qaF g 0=true) (h1:qaF g 1=false) {H:Heap} {n:Int} {B:LV} {bb:List (BitVec 8)} {f:Nat→BitVec 8} (hB:Lent H B bb [])
    (hF:F C K g [.isl (bs bb) bb.length,I n] []=some (.tup [.agg (aB 64 f),N z],[],[])):qav (envC C K) H b g [B,I n]=some ⟨.tup [.agg (aB 64 f),N z],[],[]⟩:=by
  have hz:=PC.aB 64 f
  have hpl:qa1 (.tup [.agg (aB 64 f),N z],[],[])=true:=by
    have hb:∀ (l:List (BitVec 8)) (d:Nat),(bs l).all (qbF (d+1))=true:=by
      intro l d; rw[List.all_eq_true]; intro x hx; obtain ⟨y,_,rfl⟩:=List.mem_map.1 hx; rfl
    show (((aB 64 f).all (qbF 6) && (true && true)) && true && true)=true
    rw[qdy,hb]; rfl
  rw[call_l1 h0 h1 hB rfl (fun _=>rfl) hpl hF,qaP]
  simp only[qbP,zB,zA,hz.r7,qcU,List.zipWith_nil_left]
end Sl
namespace Sl
open Go Go.LE Tb
open Sha (Lent qbn)
set_option maxRecDepth 20000
theorem qff (b:List (BitVec 8)) (n:Nat) (R:List (BitVec 8)) (h:b.length=512) (hR:R.length=64):(qcX b n R).length=512:=by
  have:=Nat.mod_lt n (by decide:0 < 8)
  rw[qcX,zK,zK,zT,zQ,hR]; omega
theorem With_bad (k:Nat) (n:Int) (b:List (BitVec 8)) (r:Nat→BitVec 8) (h:plE n b.length≠0):F C (k+2) 12 [.isl (bs b) b.length,I n,.agg (aB 64 r)] []=some (.tup [Nil,N (plE n b.length)],[],[]):=by
  rw[qaI f12]
  have hc:=fun bb H=>place_bad (k:=k) (b:=bb) (H:=H) (qbn H b []) h
  have hd:decide (plE n b.length≠0)=true:=by simpa using h
  simp (disch:=first|omega|decide|simp only[nmsB,lB]) only[simprocAttr,-rR,-rS,leB,memB,arrB,numB,qaf,opsB,qaA,qai,L12,hc,h,hd,qac,qad,qab,qaa,qah]
  rw[qbJ rfl (fun _=>rfl)]
theorem with_cp (b R:List (BitVec 8)) (n:Nat) (h:b.length=512) (hR:R.length=64) (H:Heap) (m q:Nm) (h1:H m=some (bs b)) (h2:H q=some (bs R)) :
    cpK 1 H (.sl m (64*(n % 8)) (512 - 64*(n % 8)) none 1) (.sl q 0 64 (some 64) 1) (some 64)=some ⟨N 64,[],[(m,some (bs (qcX b n R)))]⟩:=by
  have:=Nat.mod_lt n (by decide:0 < 8)
  have hmin:min 64 (512 - 64*(n % 8))=64:=by omega
  have hf:qbp H 1 (min 64 (512 - 64*(n % 8))) (.sl q 0 64 (some 64) 1)=some (bs R):=by
    rw[hmin,qbU q 0 64 (some 64) _ h2 (by omega),zH,List.take_of_length_le (by omega)]
  rw[qer 64 m _ _ _ _ _ _ (by omega) hf h1 (by omega),hmin,hR]
  rfl
theorem With_F (k n:Nat) (b:List (BitVec 8)) (r:Nat→BitVec 8) (h:b.length=512):F C (k+20) 12 [.isl (bs b) b.length,N n,.agg (aB 64 r)] []=some (.tup [.sl (1,0) 0 512 none 1,N 0],[],[bs (qcX b n ((List.range 64).map r))]):=by
  rw[qaI f12]
  have hc:=fun bb H=>place_ok (k:=k+18) (b:=bb) (H:=H) (n:=n) (qbn H b []) h
  have hcl:=fun bb H=>Aes.c_xclone (k+14) bb H b (by omega) (by omega)
  have hm:=Nat.mod_lt n (by decide:0 < 8)
  rw[h] at hc hcl ⊢
  simp (disch:=first|omega|decide|simp only[nmsB,lB]) only[simprocAttr,-rR,-rS,leB,memB,arrB,numB,qaf,opsB,ordB,qal,qaA,qai,qaJ,L12,hc,hcl,qac,qad,qab,qaa,qay,qag,qah]
  rw[with_cp b ((List.range 64).map r) n h (by simp) _ (16,0) (2,0) rfl (by rw[←qdy] <;> rfl)]
  simp (disch:=first|omega|decide|simp only[nmsB,lB]) only[simprocAttr,-rR,-rS,leB,memB,arrB,numB,qaf,opsB,ordB,qal,qaA,qai,qaJ,qac,qad,qab,qaa,qay,qag,qah]
  exact out_st _ _ _ 16 512 0 none _ (by decide) rfl
theorem out_stN (tm:List LV) (H:Heap) (nx:Nat) (m:Nm) (n z:Nat) (c:Option Nat) (l:List (BitVec 8)) (hm:m.1≠0) (h:H m=some (bs l)) :
    some (qbO 0 ⟨tm,H,nx,0⟩ (.tup [.sl m 0 n c 1,N z]))=some (.tup [.sl (1,0) 0 n c 1,N z],[],[bs l]):=by
  refine Aes.qbT (names:=[m]) (Aes.qdP (l:=[m]) (ns:=[m]) ?_ ((Aes.qaw rfl h (qan l)).trans (qba _ _ _)) (by simp[hm])) ?_
  · simp only[List.range_zero,zA,zF,zI,zN,qcN,qdC,zD]; rfl
  · have e : qa9 [m] m = some (1, 0) := by obtain ⟨m1, m2⟩ := m; rw [qeU _ _ _ hm]; simp [idx]
    have e2:ren 7 (qa9 [m]) (.sl m 0 n c 1) = .sl (1,0) 0 n c 1:=by simp only[ren,e]
    simp only[List.range_zero,zA,qbP,zB,qcU,e2,List.filterMap_cons,zS,h,qax]
def rsF (b:List (BitVec 8)) (n:Nat) (r:Nat→BitVec 8) (i:Nat):Nat→BitVec 8:=fun j=>if 64*(n % 8)≤j∧j < 64*(n % 8)+i then r (j - 64*(n % 8)) else b.getD j 0#8
theorem rsF_0 (b:List (BitVec 8)) (n:Nat) (r:Nat→BitVec 8):rsF b n r 0=fun j=>b.getD j 0#8:=funext fun j=>if_neg (by omega)
theorem rsF_succ (b:List (BitVec 8)) (n:Nat) (r:Nat→BitVec 8) (i:Nat):set1 (rsF b n r i) (64*(n % 8)+i) (r i)=rsF b n r (i+1):=by
  funext j
  simp only[set1,rsF]
  by_cases h:j=64*(n % 8)+i
  · subst h; rw[if_pos rfl,if_pos (by omega),zd]
  · rw [if_neg h]
    by_cases h2:64*(n % 8)≤j∧j < 64*(n % 8)+i
    · rw[if_pos h2,if_pos (by omega)]
    · rw[if_neg h2,if_neg (by omega)]
theorem qgF (b:List (BitVec 8)) (n:Nat) (R:List (BitVec 8)) (h:b.length=512) (hR:R.length=64) (j:Nat) (hj:j < 512) :
    (qcX b n R).getD j 0#8=if 64*(n % 8)≤j∧j < 64*(n % 8)+64 then R.getD (j - 64*(n % 8)) 0#8 else b.getD j 0#8:=by
  have hm:=Nat.mod_lt n (by decide:0 < 8)
  have l1:(b.take (64*(n % 8))).length=64*(n % 8):=by rw[zT]; omega
  simp only[qcX,List.getD_eq_getElem?_getD]
  by_cases h1:j < 64*(n % 8)
  · rw[if_neg (by omega),List.append_assoc,List.getElem?_append_left (by omega),List.getElem?_take,if_pos h1]
  · by_cases h2 : j < 64 * (n % 8) + 64
    · rw[if_pos (by omega),List.append_assoc,List.getElem?_append_right (by omega),l1,List.getElem?_append_left (by omega)]
    · rw [if_neg (by omega), List.getElem?_append_right (by rw [zK]; omega), zK, l1, hR, List.getElem?_drop]
      congr 2; omega
theorem rsF_all (b:List (BitVec 8)) (n:Nat) (r:Nat→BitVec 8) (h:b.length=512):aB 512 (rsF b n r 64)=bs (qcX b n ((List.range 64).map r)):=by
  rw[qen _ 512 (qff b n _ h (by simp))]
  apply qct
  intro j hj
  rw[qgF b n _ h (by simp) j hj,rsF]
  by_cases h2:64*(n % 8)≤j∧j < 64*(n % 8)+64
  · rw [if_pos h2, if_pos h2]
    have:j - 64*(n % 8) < 64:=by omega
    simp[List.getD_eq_getElem?_getD,this]
  · rw[if_neg h2,if_neg h2]
def rwJ (b:List (BitVec 8)) (n:Nat) (r:Nat→BitVec 8) (i:Nat) (st:St):Prop := ∃ (H:Heap),st=⟨[.undef,N n,.undef,.undef,.undef,.ptr (1,0) 0,.undef,.undef,.undef,.undef,.sl (1,1) 0 512 none 1,N i,.undef,.undef,.undef,.undef,.undef,.undef,.undef,.undef,.undef,.undef,.undef,.undef,.undef,.undef,.undef,.undef,.undef,.undef,.undef,.undef,.undef,.undef,.undef,.undef,.undef,.undef,.undef],H,2,0⟩ ∧
  H (1,0)=some (aB 64 r)∧H (1,1)=some (aB 512 (rsF b n r i))
theorem rw_round (k K:Nat) (b:List (BitVec 8)) (n:Nat) (r:Nat→BitVec 8) (i:Nat) (hi:i < 64) (st:St) (hJ:rwJ b n r i st):∃ st1,ev (envC C k) K L13b0 st=some (.normal,st1)∧rwJ b n r (i+1) (qbg L13k0 st1):=by
  obtain ⟨H,rfl,h0,h1⟩:=hJ
  have hm:=Nat.mod_lt n (by decide:0 < 8)
  have hix:64*(n % 8)+i < 512:=by omega
  have hs:=rsF_succ b n r i
  apply Exists.intro
  apply And.intro
  · simp (disch := first | omega | decide | simp only [nmsB, lB]) only [simprocAttr, -rR, -rS, leB, memB, arrB, numB, qaf, L13b0, hi, hix, h0, h1, hs, qae, qac, qad, qab, qaa]
    rfl
  · refine qaz [(1, 0), (1, 1)] rfl (by simp only [simprocAttr, -rR, -rS, qal, L13k0, qaO, qan, h0, h1, qag, qab, qaa]) rfl ⟨_, rfl, ?_, ?_⟩
    · exact qak (1,0) rfl (by simp (disch:=first|omega|decide|simp only[nmsB,lB]) only[simprocAttr,-rR,-rS,memB,h0,qac]) (qaG _ _ _)
    · exact qak (1,1) rfl (by simp (disch:=first|omega|decide|simp only[nmsB,lB]) only[simprocAttr,-rR,-rS,memB,qac]) (qaG _ _ _)
theorem rWith_bad (k:Nat) (n:Int) (b:List (BitVec 8)) (r:Nat→BitVec 8) (h:plE n b.length≠0):F C (k+3) 13 [.isl (bs b) b.length,I n,.agg (aB 64 r)] []=some (.tup [Nil,N (plE n b.length)],[],[]):=by
  rw[qaI f13]
  have hc:=fun bb H=>qes (K:=k+2) (g:=15) (b:=bb) (H:=H) rfl rfl (qbn H b []) (qhl k n b h)
  have hd:decide (plE n b.length≠0)=true:=by simpa using h
  simp (disch:=first|omega|decide|simp only[nmsB,lB]) only[simprocAttr,-rR,-rS,leB,memB,arrB,numB,qaf,opsB,qaA,qai,L13,hc,h,hd,qac,qad,qab,qaa,qah]
  rw[qbJ rfl (fun _=>rfl)]
theorem rWith_F (k n:Nat) (b:List (BitVec 8)) (r:Nat→BitVec 8) (h:b.length=512):F C (k+120) 13 [.isl (bs b) b.length,N n,.agg (aB 64 r)] []=some (.tup [.sl (1,0) 0 512 none 1,N 0],[],[bs (qcX b n ((List.range 64).map r))]):=by
  rw[qaI f13]
  have hc:∀ (bb:Nat) (H:Heap),qav (envC C (k+119)) H bb 15 [.isl (bs b) b.length,N n]=_:=fun bb H=>qes (K:=k+119) (g:=15) (b:=bb) (H:=H) rfl rfl (qbn H b []) (rRecord_F (k+19) n b h)
  have hm:=Nat.mod_lt n (by decide:0 < 8)
  have hfp:∀ H,qbp H 1 512 (.isl (bs b) 512)=some (bs b):=fun H=>qcn b 512 h
  have hap:∀ b' H m,appX b' 1 1 512 H [] (bs b) (.sl m 0 0 (some 0) 1)=some ⟨.sl (b',0) 0 512 none 1,[bs b],[]⟩:=fun b' H m=>appX_e b' 512 H m (bs b) (by decide) (by decide)
  rw[h] at hc ⊢
  simp (disch:=first|omega|decide|simp only[nmsB,lB]) only[simprocAttr,-rR,-rS,leB,memB,arrB,numB,qaf,opsB,qaA,qai,L13,hc,hfp,hap,qac,qad,qab,qaa,qah]
  generalize hL:qbd L13k0 _ _ _=q
  refine qaY hL (rwJ b n r) 64 (by omega) (fun i st hi hJ=>rw_round _ _ b n r i hi st hJ) ?_ ?_ ?_
  · refine qaz [(2, 0), (18, 0)] rfl (by simp only [simprocAttr, -rR, -rS, qal, L13k0, qaO, qan, qag, qab, qaa]) rfl ⟨_, rfl, ?_, ?_⟩
    · exact qak (2,0) rfl rfl (qaG _ _ _)
    · rw[rsF_0,←qen b 512 h]; exact qak (18,0) rfl rfl (qax _ _)
  · rintro st ⟨H, rfl, h0, h1⟩
    apply qaR
    simp (disch:=first|omega|decide|simp only[nmsB,lB]) only[simprocAttr,-rR,-rS,leB,memB,arrB,numB,qaf,L13b0,qae,qac,qad,qab,qaa]
    rfl
  · rintro st ⟨H, rfl, h0, h1⟩ rfl
    rw[rsF_all b n r h] at h1
    simp (disch:=first|omega|decide|simp only[nmsB,lB]) only[simprocAttr,-rR,-rS,leB,memB,arrB,numB,qaf,opsB,qaA,qai,L13b0,h0,h1,qac,qad,qab,qaa,qah]
    exact out_stN _ _ _ (1,1) 512 0 none _ (by decide) h1
end Sl
namespace Sl
open Go Go.LE Tb
open Sha (Lent qbn)
set_option maxRecDepth 20000
theorem qdK (H:Heap):b2sV H Nil (some 0)=some ⟨txt [],[],[]⟩:=nf rfl
theorem qdL:b2sK (some [])=some ⟨txt [],[],[]⟩:=nf rfl
theorem qd8 (e:EqT) (a b:List (BitVec 8)):binV .neq e (txt a) (txt b)=some (Bo !(decide (a=b))):=by
  have h:=qdE e a b
  simp only[binV,txt,strOp,zC,Option.some.injEq,Bo,LV.v.injEq,Value.bool.injEq] at h ⊢
  rw[h]
theorem qb3 (n:Nat) (f:Nat→BitVec 8):qcJ n f f=true:=(qei n f f).2 fun _ _=>rfl
theorem call_l1a {K b g:Nat} (h0:qaF g 0=true) (h1:qaF g 1=false) (h2:qaF g 2=false) {H:Heap} {x y B:LV} {bb:List (BitVec 8)} (hB:Lent H B bb [])
    (hx:nms D x=[]) (rx:∀ π,ren D π x=x) (hy:nms D y=[]) (ry:∀ π,ren D π y=y) {res:qbV} (hp:qa1 res=true)
    (hF:F C K g [.isl (bs bb) bb.length,x,y] []=some res):qav (envC C K) H b g [B,x,y]=some (qcl [] b res):=by
  obtain ⟨lent,hs,hl⟩:=hB
  have hlend:lend H ((envC C K).borrow g) 0 [B,x,y]=some ([.isl (bs bb) bb.length,x,y],lent):=by
    rw[qbe,qbe,qbe,qcu,qbB,qcQ,if_pos h0,hs,h1,if_neg (by decide),h2,if_neg (by decide),qa6,qa6,qa6,zD,zD,zD]
  rw [qbM, hlend, qbx, show ([.isl (bs bb) bb.length, x, y] : List LV).flatMap (nms D) = [] by simp only [zI, zN, qbl, hx, hy, zD],
    show qa4 H FUEL [] []=[] from rfl,qbN _ _ _ _ _ hl,show ([.isl (bs bb) bb.length,x,y]:List LV).map (ren D (qaH []))=[.isl (bs bb) bb.length,x,y] by simp only[zB,zA,qa8,rx,ry],
    zS,zA,qbL,hF,Sha.qcg _ _ _ _ hp]
theorem wi_new {K b g:Nat} (h0:qaF g 0=true) (h1:qaF g 1=false) (h2:qaF g 2=false) {H:Heap} {n:Int} {r:Nat→BitVec 8} {B:LV} {bb q:List (BitVec 8)} (hB:Lent H B bb [])
    (hF:F C K g [.isl (bs bb) bb.length,I n,.agg (aB 64 r)] []=some (.tup [.sl (1,0) 0 512 none 1,N 0],[],[bs q])) :
    qav (envC C K) H b g [B,I n,.agg (aB 64 r)]=some ⟨.tup [.sl (b,0) 0 512 none 1,N 0],[bs q],[]⟩:=by
  have hy:=PC.aB 64 r
  have hb:∀ (l:List (BitVec 8)) (d:Nat),(bs l).all (qbF (d+1))=true:=by
    intro l d; rw[List.all_eq_true]; intro x hx; obtain ⟨y,_,rfl⟩:=List.mem_map.1 hx; rfl
  have hpl:qa1 (.tup [.sl (1,0) 0 512 none 1,N 0],[],[bs q])=true:=by
    show ((true && (true && true)) && true && ((bs q).all (qbF D) && true))=true
    rw[hb]; rfl
  rw[call_l1a h0 h1 h2 hB rfl (fun _=>rfl) hy.anms hy.aren hpl hF,qaP]
  have e1:ren 7 (qbc [] b 1) (.sl (1,0) 0 512 none 1) = .sl (b,0) 0 512 none 1:=by simp[ren,qbo]
  simp only[qbP,zB,zA,qax,qcU,e1,zG,zM,zO,List.zipWith_nil_left]
theorem wi_nil {K b g z:Nat} (h0:qaF g 0=true) (h1:qaF g 1=false) (h2:qaF g 2=false) {H:Heap} {n:Int} {r:Nat→BitVec 8} {B:LV} {bb:List (BitVec 8)} (hB:Lent H B bb [])
    (hF:F C K g [.isl (bs bb) bb.length,I n,.agg (aB 64 r)] []=some (.tup [Nil,N z],[],[])) :
    qav (envC C K) H b g [B,I n,.agg (aB 64 r)]=some ⟨.tup [Nil,N z],[],[]⟩:=by
  have hy:=PC.aB 64 r
  rw[call_l1a h0 h1 h2 hB rfl (fun _=>rfl) hy.anms hy.aren rfl hF,qaP]
  rfl
theorem rec_both (n:Int) (b:List (BitVec 8)):∃ f z,(∀ k,F C (k+2) 14 [.isl (bs b) b.length,I n] []=some (.tup [.agg (aB 64 f),N z],[],[]))∧∀ k,F C (k+100) 15 [.isl (bs b) b.length,I n] []=some (.tup [.agg (aB 64 f),N z],[],[]):=by
  by_cases h:plE n b.length=0
  · obtain ⟨hl, m, rfl⟩ := plE_0 h
    exact ⟨_,_,fun k=>qgE k m b hl,fun k=>rRecord_F k m b hl⟩
  · exact ⟨_,_,fun k=>Record_bad k n b h,fun k=>qhl (k+98) n b h⟩
theorem qfx {H:Heap} {m:Nm} {b:List (BitVec 8)} {n:Nat} (h:H m=some (bs b)) (hn:b.length=n) (h0:n≠0) (c:Option Nat):Lent H (.sl m 0 n c 1) b [] :=
  ⟨[m],qbR H m 0 n c (bs b) b h (by rw[zH,List.take_of_length_le (by rw[qaU]; omega)]) hn h0 6,rfl⟩
theorem recAt_set (b:List (BitVec 8)) (n:Nat) (r:Nat→BitVec 8) (h:b.length=512) (i:Nat) (hi:i < 64):(qci (qcX b n ((List.range 64).map r)) n).getD i 0#8=r i:=by
  have hm:=Nat.mod_lt n (by decide:0 < 8)
  have h1:(qci (qcX b n ((List.range 64).map r)) n).getD i 0#8=(qcX b n ((List.range 64).map r)).getD (64*(n % 8)+i) 0#8:=by
    rw[qci,List.getD_eq_getElem?_getD,List.getD_eq_getElem?_getD,List.getElem?_take,if_pos hi,List.getElem?_drop]
  rw[h1,qgF b n _ h (by simp) _ (by omega),if_pos (by omega),zd]
  simp[List.getD_eq_getElem?_getD,hi]
theorem recAt_other (b:List (BitVec 8)) (n m:Nat) (R:List (BitVec 8)) (h:b.length=512) (hR:R.length=64) (hne:m % 8≠n % 8) (i:Nat) (hi:i < 64):(qci (qcX b n R) m).getD i 0#8=(qci b m).getD i 0#8:=by
  have hm:=Nat.mod_lt n (by decide:0 < 8)
  have hm2:=Nat.mod_lt m (by decide:0 < 8)
  have h1:∀ b:List (BitVec 8),(qci b m).getD i 0#8=b.getD (64*(m % 8)+i) 0#8:=fun b=>by
    rw[qci,List.getD_eq_getElem?_getD,List.getD_eq_getElem?_getD,List.getElem?_take,if_pos hi,List.getElem?_drop]
  rw[h1,h1,qgF b n _ h hR _ (by omega),if_neg (by omega)]
theorem sealRecords_F (k:Nat) (n o:Int) (b:List (BitVec 8)) (r:Nat→BitVec 8) (hb:b.length≤140737488351232) :
    F C (k+12001) 5 [.isl (bs b) b.length,I n,.agg (aB 64 r),I o] []=some (Bo true,[],[]):=by
  rw[qaI Tb.f5]
  have hlv:=fun b H=>qhM k b H
  obtain ⟨f,z,hR0,hrR0⟩:=rec_both o b
  have hR:=fun (bb:Nat) H B hB=>qes (K:=k+12000) (g:=14) (b:=bb) (H:=H) (B:=B) (n:=o) (bb:=b) rfl rfl hB (hR0 (k+11998))
  have hrR:=fun (bb:Nat) H=>qes (K:=k+12000) (g:=15) (b:=bb) (H:=H) (n:=o) (bb:=b) rfl rfl (qbn H b []) (hrR0 (k+11900))
  have hfp:∀ H,qbp H 1 b.length (.isl (bs b) b.length)=some (bs b):=fun H=>qcn b b.length rfl
  by_cases hp:plE n b.length=0
  · obtain ⟨hl, n, rfl⟩ := plE_0 hp
    have hap:∀ b' H m,appX b' 1 1 512 H [] (bs b) (.sl m 0 0 (some 0) 1)=some ⟨.sl (b',0) 0 512 none 1,[bs b],[]⟩:=fun b' H m=>appX_e b' 512 H m (bs b) (by decide) (by decide)
    have hW:∀ (b':Nat) (H:Heap) (m:Nm),H m=some (bs b)→qav (envC C (k+12000)) H b' 12 [.sl m 0 512 none 1,I n,.agg (aB 64 r)]=_:=fun b' H m h=>wi_new (b:=b') (K:=k+12000) (g:=12) rfl rfl rfl (qfx h hl (by decide) none) (With_F (k+11980) n b r hl)
    have hrW:∀ (b':Nat) (H:Heap),qav (envC C (k+12000)) H b' 13 [.isl (bs b) b.length,I n,.agg (aB 64 r)]=_:=fun b' H=>wi_new (b:=b') (H:=H) (K:=k+12000) (g:=13) rfl rfl rfl (qbn H b []) (rWith_F (k+11880) n b r hl)
    rw[hl] at hfp hrR hrW ⊢
    simp (disch:=first|omega|decide|simp only[nmsB,lB]) only[simprocAttr,-rR,-rS,leB,memB,arrB,numB,qaf,opsB,ordB,qal,qaA,qai,qaJ,L5,hlv,hfp,hap,qej,qdX,qd5,qdW,qdE,qd8,qdK,qdL,qcM,qcL,qb3,qac,qad,qab,qaa,qay,qag,qah]
    rw[hW _ _ _ rfl]
    have hql:=qff b n ((List.range 64).map r) hl (by simp)
    have hsame:qcJ 64 (fun j=>(qci (qcX b n ((List.range 64).map r)) n).getD j 0#8) r=true:=(qei _ _ _).2 fun i hi=>recAt_set b n r hl i hi
    have hZ:∀ (b':Nat) (H:Heap) (m:Nm),H m=some (bs (qcX b n ((List.range 64).map r)))→qav (envC C (k+12000)) H b' 14 [.sl m 0 512 none 1,I n]=_:=fun b' H m h=>qes (K:=k+12000) (g:=14) (b:=b') rfl rfl (qfx h hql (by decide) none) (qgE (k+11998) n _ hql)
    generalize hqq:qcX b n ((List.range 64).map r)=q at *
    have hfq:qdp 0 1 512 (some (bs q))=some (bs q):=qah 512 _ hql.symm
    have hfb:qdp 0 1 512 (some (bs b))=some (bs b):=qah 512 _ hl.symm
    simp (disch:=first|omega|decide|simp only[nmsB,lB]) only[simprocAttr,-rR,-rS,leB,memB,arrB,numB,qaf,opsB,ordB,qal,qaA,qai,qaJ,hlv,hfp,hap,hrW,qej,qdX,qd5,qdW,qdE,qd8,qdK,qdL,qcM,qcL,qb3,qac,qad,qab,qaa,qay,qag,qah]
    have hR2:∀ (b':Nat) (H:Heap) (m:Nm),H m=some (bs b)→qav (envC C (k+12000)) H b' 14 [.sl m 0 512 none 1,I o]=some ⟨.tup [.agg (aB 64 f),N z],[],[]⟩:=fun b' H m h=>hR b' H _ (qfx h hl (by decide) none)
    rw[hR2 _ _ _ rfl]
    simp (disch:=first|omega|decide|simp only[nmsB,lB]) only[simprocAttr,-rR,-rS,leB,memB,arrB,numB,qaf,opsB,ordB,qal,qaA,qai,qaJ,hlv,hfp,hap,hrW,hrR,hfq,hfb,qej,qdX,qd5,qdW,qdE,qd8,qdK,qdL,qcM,qcL,qb3,qac,qad,qab,qaa,qay,qag,qah]
    rw[hZ _ _ _ rfl]
    simp (disch:=first|omega|decide|simp only[nmsB,lB]) only[simprocAttr,-rR,-rS,leB,memB,arrB,numB,qaf,opsB,ordB,qal,qaA,qai,qaJ,hlv,hfp,hap,hrW,hrR,hfq,hfb,hsame,qej,qdX,qd5,qdW,qdE,qd8,qdK,qdL,qcM,qcL,qb3,qac,qad,qab,qaa,qay,qag,qah]
  · have hpd : decide (plE n b.length ≠ 0) = true := by simpa using hp
    have hrW:=fun b' H=>wi_nil (b:=b') (H:=H) (r:=r) (K:=k+12000) (g:=13) rfl rfl rfl (qbn H b []) (rWith_bad (k+11997) n b r hp)
    by_cases h0:b=[]
    · subst h0
      have hL:∀ (H:Heap) (m:Nm),Lent H (.sl m 0 0 (some 0) 1) [] []:=fun H m=>⟨[],lentA_zero H m 0 (some 0) 1 6,rfl⟩
      have hW:=fun b' H m=>wi_nil (b:=b') (H:=H) (r:=r) (K:=k+12000) (g:=12) rfl rfl rfl (hL H m) (With_bad (k+11998) n [] r hp)
      have hR2:=fun b' H m=>hR b' H _ (hL H m)
      simp only[zM] at hW hrW hrR hR2 hp hpd hfp
      simp (disch:=first|omega|decide|simp only[nmsB,lB]) only[simprocAttr,-rR,-rS,leB,memB,arrB,numB,qaf,opsB,ordB,qal,qaA,qai,qaJ,L5,hlv,hfp,hW,hrW,hR2,hrR,hp,hpd,zM,qej,qdX,qd5,qdW,qdE,qd8,qdK,qdL,qcM,qcL,qb3,qac,qad,qab,qaa,qay,qag,qah]
    · have h1 : b.length ≠ 0 := fun h => h0 (List.length_eq_zero_iff.1 h)
      have h2:0 < b.length:=by omega
      have hap:∀ b' H m,appX b' 1 1 b.length H [] (bs b) (.sl m 0 0 (some 0) 1)=some ⟨.sl (b',0) 0 b.length none 1,[bs b],[]⟩:=fun b' H m=>appX_e b' b.length H m (bs b) h1 (by omega)
      have hW:=fun (b':Nat) (H:Heap) (m:Nm) (h:H m=some (bs b))=>wi_nil (b:=b') (H:=H) (r:=r) (K:=k+12000) (g:=12) rfl rfl rfl (qfx h rfl h1 none) (With_bad (k+11998) n b r hp)
      have hR2:=fun (b':Nat) (H:Heap) (m:Nm) (h:H m=some (bs b))=>hR b' H _ (qfx h rfl h1 none)
      have hfb:qdp 0 1 b.length (some (bs b))=some (bs b):=qah b.length _ rfl
      simp (disch:=first|omega|decide|simp only[nmsB,lB]) only[simprocAttr,-rR,-rS,leB,memB,arrB,numB,qaf,opsB,ordB,qal,qaA,qai,qaJ,L5,hlv,hfp,hap,h1,h2,hp,hpd,qej,qdX,qd5,qdW,qdE,qd8,qdK,qdL,qcM,qcL,qb3,qac,qad,qab,qaa,qay,qag,qah]
      rw[hW _ _ _ rfl]
      simp (disch:=first|omega|decide|simp only[nmsB,lB]) only[simprocAttr,-rR,-rS,leB,memB,arrB,numB,qaf,opsB,ordB,qal,qaA,qai,qaJ,hlv,hfp,hrW,hp,hpd,h1,h2,qej,qdX,qd5,qdW,qdE,qd8,qdK,qdL,qcM,qcL,qb3,qac,qad,qab,qaa,qay,qag,qah]
      rw[hR2 _ _ _ rfl]
      simp (disch:=first|omega|decide|simp only[nmsB,lB]) only[simprocAttr,-rR,-rS,leB,memB,arrB,numB,qaf,opsB,ordB,qal,qaA,qai,qaJ,hlv,hfp,hrW,hrR,hp,hpd,hfb,h1,h2,qej,qdX,qd5,qdW,qdE,qd8,qdK,qdL,qcM,qcL,qb3,qac,qad,qab,qaa,qay,qag,qah]
def soJ (b q:List (BitVec 8)) (n:Nat) (r:Nat→BitVec 8) (i:Nat) (st:St):Prop := ∃ (x56 x57 x60 x61 x62 x63 x64 x65 x66 x67 x68 x71 x72 x73 x74 x75 x76 x77 x78 x79:LV) (H:Heap),
  st=⟨[.isl (bs b) 512,N n,.undef,.undef,.undef,.ptr (1,0) 0,.undef,.sl (1,1) 0 512 none 1,N 0,N i,.undef,.undef,.undef,.undef,.undef,.undef,.undef,.undef,.undef,.undef,.undef,.undef,.undef,.undef,.undef,.undef,.undef,.undef,.undef,.undef,.undef,.undef,.undef,.undef,.undef,.undef,.undef,.undef,.undef,.undef,.undef,.undef,.undef,.undef,.undef,.undef,.undef,.undef,.undef,.undef,.undef,.undef,.undef,.undef,.undef,.undef,x56,x57,.undef,.undef,x60,x61,x62,x63,x64,x65,x66,x67,x68,.undef,.undef,x71,x72,x73,x74,x75,x76,x77,x78,x79,.undef,.undef,.undef],H,2,0⟩∧H (1,0)=some (aB 64 r)∧H (1,1)=some (bs q)
theorem so_round (k K:Nat) (b q:List (BitVec 8)) (n:Nat) (r:Nat→BitVec 8) (hb:b.length=512) (hq:q.length=512) (hqq:q=qcX b n ((List.range 64).map r)) (i:Nat) (hi:i < 8) (st:St) (hJ:soJ b q n r i st) :
    ∃ st1,ev (envC C (k+2)) K L6b0 st=some (.normal,st1)∧soJ b q n r (i+1) (qbg L6k0 st1):=by
  obtain ⟨x56,x57,x60,x61,x62,x63,x64,x65,x66,x67,x68,x71,x72,x73,x74,x75,x76,x77,x78,x79, H,rfl,h0,h1⟩:=hJ
  have hi8:i % 8=i:=Nat.mod_eq_of_lt hi
  have hR1:∀ (b':Nat) (H:Heap),qav (envC C (k+2)) H b' 14 [.isl (bs b) b.length,N i]=_:=fun b' H=>qes (K:=k+2) (g:=14) (b:=b') (H:=H) rfl rfl (qbn H b []) (qgE k i b hb)
  rw[hb] at hR1
  have hR2:∀ (b':Nat) (H:Heap) (m:Nm),H m=some (bs q)→qav (envC C (k+2)) H b' 14 [.sl m 0 512 none 1,N i]=_:=fun b' H m h=>qes (K:=k+2) (g:=14) (b:=b') rfl rfl (qfx h hq (by decide) none) (qgE k i q hq)
  by_cases hin:n % 8=i
  · have hs2:qcJ 64 (fun j=>(qci q i).getD j 0#8) r=true:=(qei _ _ _).2 fun j hj=>by
      rw[show qci q i=qci q n from by rw[qci,qci,hi8,hin],hqq]; exact recAt_set b n r hb j hj
    apply Exists.intro
    apply And.intro
    · simp (disch := first | omega | decide | simp only [nmsB, lB]) only [simprocAttr, -rR, -rS, leB, memB, arrB, numB, qaf, opsB, ordB, qal, qaA, qai, qaJ, L6b0, hi, hR1, h0, h1, qcM, qcL, qb3, qac, qad, qab, qaa, qay, qag, qah]
      rw[hR2 _ _ _ (by first | exact h1 | (simp only[simprocAttr,-rR,-rS,memB,qac]; exact h1))]
      simp (disch:=first|omega|decide|simp only[nmsB,lB]) only[simprocAttr,-rR,-rS,leB,memB,arrB,numB,qaf,opsB,ordB,qal,qaA,qai,qaJ,hi,h0,h1,hin,hs2,qcM,qcL,qb3,qac,qad,qab,qaa,qay,qag,qah]
      rfl
    · refine qaz [(1, 0), (1, 1)] rfl (by simp only [simprocAttr, -rR, -rS, qal, L6k0, qaO, qan, qbl, (PC.aB _ _).n7, (PC.aB _ _).anms, qcN, qb5, h0, h1, qag, qab, qaa]) (by simp only [simprocAttr, -rR, -rS, qal, L6k0, zB, zA, qa8, (PC.aB _ _).aren, qbP, qag, qab, qaa] <;> rfl) ⟨_, _, _, _, _, _, _, _, _, _, _, _, _, _, _, _, _, _, _, _,  _, rfl, ?_, ?_⟩
      · exact qak (1,0) rfl (by simp (disch:=first|omega|decide|simp only[nmsB,lB]) only[simprocAttr,-rR,-rS,memB,h0,qac]) (qaG _ _ _)
      · exact qak (1,1) rfl (by simp (disch:=first|omega|decide|simp only[nmsB,lB]) only[simprocAttr,-rR,-rS,memB,h1,qac]) (qax _ _)
  · have hin2 : ¬ i = n % 8 := fun h => hin h.symm
    have hs1:qcJ 64 (fun j=>(qci b i).getD j 0#8) (fun j=>(qci q i).getD j 0#8)=true:=(qei _ _ _).2 fun j hj=>by
      rw[hqq]; exact (recAt_other b n i _ hb (by simp) (by omega) j hj).symm
    apply Exists.intro
    apply And.intro
    · simp (disch := first | omega | decide | simp only [nmsB, lB]) only [simprocAttr, -rR, -rS, leB, memB, arrB, numB, qaf, opsB, ordB, qal, qaA, qai, qaJ, L6b0, hi, hR1, h0, h1, qcM, qcL, qb3, qac, qad, qab, qaa, qay, qag, qah]
      rw[hR2 _ _ _ (by first | exact h1 | (simp only[simprocAttr,-rR,-rS,memB,qac]; exact h1))]
      simp (disch:=first|omega|decide|simp only[nmsB,lB]) only[simprocAttr,-rR,-rS,leB,memB,arrB,numB,qaf,opsB,ordB,qal,qaA,qai,qaJ,hi,h0,h1,hin,hin2,hs1,qcM,qcL,qb3,qac,qad,qab,qaa,qay,qag,qah]
      rfl
    · refine qaz [(1, 0), (1, 1)] rfl (by simp only [simprocAttr, -rR, -rS, qal, L6k0, qaO, qan, qbl, (PC.aB _ _).n7, (PC.aB _ _).anms, qcN, qb5, h0, h1, qag, qab, qaa]) (by simp only [simprocAttr, -rR, -rS, qal, L6k0, zB, zA, qa8, (PC.aB _ _).aren, qbP, qag, qab, qaa] <;> rfl) ⟨_, _, _, _, _, _, _, _, _, _, _, _, _, _, _, _, _, _, _, _,  _, rfl, ?_, ?_⟩
      · exact qak (1,0) rfl (by simp (disch:=first|omega|decide|simp only[nmsB,lB]) only[simprocAttr,-rR,-rS,memB,h0,qac]) (qaG _ _ _)
      · exact qak (1,1) rfl (by simp (disch:=first|omega|decide|simp only[nmsB,lB]) only[simprocAttr,-rR,-rS,memB,h1,qac]) (qax _ _)
theorem sealOthers_F (k:Nat) (n:Int) (b:List (BitVec 8)) (r:Nat→BitVec 8) (hb:b.length≤140737488351232) :
    F C (k+12001) 6 [.isl (bs b) b.length,I n,.agg (aB 64 r)] []=some (Bo true,[],[]):=by
  rw[qaI Tb.f6]
  have hlv:=fun b H=>qhM k b H
  by_cases hp:plE n b.length=0
  · obtain ⟨hl, n, rfl⟩ := plE_0 hp
    have hW:∀ (b':Nat) (H:Heap),qav (envC C (k+12000)) H b' 12 [.isl (bs b) b.length,N n,.agg (aB 64 r)]=_:=fun b' H=>wi_new (b:=b') (H:=H) (K:=k+12000) (g:=12) rfl rfl rfl (qbn H b []) (With_F (k+11980) n b r hl)
    have hI:I (n:Int)=N n:=rfl
    rw[hl] at hW ⊢
    have hql:=qff b n ((List.range 64).map r) hl (by simp)
    simp (disch:=first|omega|decide|simp only[nmsB,lB]) only[simprocAttr,-rR,-rS,leB,memB,arrB,numB,qaf,opsB,ordB,qal,qaA,qai,qaJ,L6,hlv,hI,hW,Nat.not_lt_zero,qcM,qcL,qb3,qac,qad,qab,qaa,qay,qag,qah]
    generalize hqq:qcX b n ((List.range 64).map r)=q at *
    generalize hL:qbd L6k0 _ _ _=z
    refine qaY hL (soJ b q n r) 8 (by omega) (fun i st hi hJ=>so_round (k+11998) _ b q n r hl hql hqq.symm i hi st hJ) ?_ ?_ ?_
    · refine qaz [(2, 0), (7, 0)] rfl (by simp only [simprocAttr, -rR, -rS, qal, L6k0, qaO, qan, qbl, qag, qab, qaa]) (by simp only [simprocAttr, -rR, -rS, qal, L6k0, zB, zA, qa8, qag, qab, qaa] <;> rfl) ⟨_, _, _, _, _, _, _, _, _, _, _, _, _, _, _, _, _, _, _, _,  _, rfl, ?_, ?_⟩
      · exact qak (2,0) rfl rfl (qaG _ _ _)
      · exact qak (7,0) rfl rfl (qax _ _)
    · rintro st ⟨x56, x57, x60, x61, x62, x63, x64, x65, x66, x67, x68, x71, x72, x73, x74, x75, x76, x77, x78, x79,  H, rfl, h0, h1⟩
      apply qaR
      simp (disch:=first|omega|decide|simp only[nmsB,lB]) only[simprocAttr,-rR,-rS,leB,memB,arrB,numB,qaf,L6b0,qae,qac,qad,qab,qaa]
      rfl
    · rintro st ⟨x56, x57, x60, x61, x62, x63, x64, x65, x66, x67, x68, x71, x72, x73, x74, x75, x76, x77, x78, x79,  H, rfl, h0, h1⟩ rfl
      simp (disch:=first|omega|decide|simp only[nmsB,lB]) only[simprocAttr,-rR,-rS,leB,memB,arrB,numB,qaf,opsB,ordB,qal,qaA,qai,qaJ,L6b0,h0,h1,qcM,qcL,qb3,qac,qad,qab,qaa,qay,qag,qah]
  · have hpd : decide (plE n b.length ≠ 0) = true := by simpa using hp
    have hW:=fun b' H=>wi_nil (b:=b') (H:=H) (r:=r) (K:=k+12000) (g:=12) rfl rfl rfl (qbn H b []) (With_bad (k+11998) n b r hp)
    by_cases h5:b.length=512
    · rw [h5] at hW hp hpd ⊢
      have hn:n < 0:=by
        rcases Int.lt_or_le n 0 with h | h
        · exact h
        · exact absurd (by rw[plE,if_neg (by omega),if_pos rfl]) hp
      have hnd:decide (n < 0)=true:=decide_eq_true hn
      simp (disch:=first|omega|decide|simp only[nmsB,lB]) only[simprocAttr,-rR,-rS,leB,memB,arrB,numB,qaf,opsB,ordB,qal,qaA,qai,qaJ,L6,hlv,hW,hnd,hp,hpd,qdH,qcM,qcL,qb3,qac,qad,qab,qaa,qay,qag,qah]
    · have h5d : decide (b.length ≠ 512) = true := by simpa using h5
      simp (disch:=first|omega|decide|simp only[nmsB,lB]) only[simprocAttr,-rR,-rS,leB,memB,arrB,numB,qaf,opsB,ordB,qal,qaA,qai,qaJ,L6,hlv,hW,h5,h5d,hp,hpd,qdH,qcM,qcL,qb3,qac,qad,qab,qaa,qay,qag,qah]
end Sl
