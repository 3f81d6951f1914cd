/- xts: a unit's way, evaluated: calls, the loop. -/
import Derived.Test.YtgabgpgcplkebaaLeR
set_option linter.unusedVariables false
set_option linter.unusedSimpArgs false
namespace Aes
open Go Go.LE Xf
set_option maxRecDepth 20000
theorem c_xclone (k b:Nat) (H:Heap) (B:LV) (d:List (BitVec 8)) (lent:List Nm) (hs:snap H D B=some (.isl (bs d) d.length,lent)) (h0:d.length≠0) (hb:d.length≤211106232532992) :
    qbD (envC C (k+5)) H b 50 [B]=some ⟨.sl (b,0) 0 d.length none 1,[bs d],[]⟩:=by
  have hlend:lend H ((envC C (k+5)).borrow 50) 0 [B]=some ([.isl (bs d) d.length],lent):=by
    rw[qdq,lend_nil,envC_borrow,C_bor,if_pos (show qcf 50 0=true by decide),hs,qde,zQ]
  have hn:([.isl (bs d) d.length]:List LV).flatMap (nms D)=[]:=by
    simp only[zV,zX,qbw,zQ]
  have ha:([.isl (bs d) d.length]:List LV).map (ren D (qbx []))=[.isl (bs d) d.length]:=by
    simp only[zG,zC,qbO]
  have hp:plainRes (.sl (1,0) 0 d.length none 1,[],[bs d])=true:=by
    simp only[plainRes,zd,za,noImm_bs]; rfl
  have hl:lent.any (fun n=>([]:List Nm).contains n)=false:=by simp
  rw[callOp_L,hlend,callL_some,hn,show qbL H FUEL [] []=[] from rfl,callN_eq _ _ _ _ _ hl,ha,zzB,zC,envC_cal,xclone_F k d h0 hb,resK_any _ _ _ _ hp,qdp]
  simp only[zG,zC,qaK,qbq,zK,zJ,toCaller_1,zA,Nat.lt_one_iff,qbK,List.zipWith_nil_left]
structure PH (H:Heap) (n:Nat) (la lb:List (BitVec 8)):Prop where
  g0:H (0,0)=some PO
  g1:H (0,1)=some (KA 2 n)
  g2:H (0,2)=some (bs la)
  g3:H (0,3)=some (KA 4 n)
  g4:H (0,4)=some (bs lb)
theorem PH.reach {H:Heap} {n:Nat} {la lb:List (BitVec 8)} (h:PH H n la lb):qbL H FUEL [] [(0,0)]=[(0,0),(0,1),(0,2),(0,3),(0,4)]:=by
  simp only[FUEL,qaz,qax,qaB,zI,zR,zQ,zW,zY,zF,zm,zn,zf,Nat.reduceEqDiff,zZ,zl,zE,zb,PO_nms,KA_nms,qaP,h.g0,h.g1,h.g2,h.g3,h.g4]
def five:List Nm:=[(0,0),(0,1),(0,2),(0,3),(0,4)]
theorem five_cee (j:Nat) (h:j < 5):qbx five (0,j)=some (0,j):=by
  have:j=0∨j=1∨j=2∨j=3∨j=4:=by omega
  rcases this with rfl | rfl | rfl | rfl | rfl <;> rfl
theorem five_cer (b:Nat) (j:Nat) (h:j < 5):qc5 five b 0 (0,j)=some (0,j):=by
  have:j=0∨j=1∨j=2∨j=3∨j=4:=by omega
  rcases this with rfl | rfl | rfl | rfl | rfl <;> rfl
def mod5 (n:Nat) (la lb:List (BitVec 8)):List (Nm × Option qaV):=[((0,0),some PO),((0,1),some (KA 2 n)),((0,2),some (bs la)),((0,3),some (KA 4 n)),((0,4),some (bs lb))]
theorem c_first (k n b:Nat) (hn:n≤20) (la lb:List (BitVec 8)) (hlb:lb.length=16*(n+2)) (u:BitVec 64) (H:Heap) (h:PH H n la lb) :
    qbD (envC C (k+80)) H b 51 [.ptr (0,0) 0,B64 u]=some ⟨Hf (lo (tw0 n lb u)) (Xf.hi (tw0 n lb u)),[],mod5 n la lb⟩:=by
  rw[callOp_L,envC_borrow,C_bor,l51,lend_none,callL_some]
  have hnm:([.ptr (0,0) 0,B64 u]:List LV).flatMap (nms D)=[(0,0)]:=rfl
  rw[hnm,h.reach,callN_eq _ _ _ _ _ rfl]
  have hfm:([(0,0),(0,1),(0,2),(0,3),(0,4)]:List Nm).filterMap H=[PO,KA 2 n,bs la,KA 4 n,bs lb]:=by
    simp[h.g0,h.g1,h.g2,h.g3,h.g4]
  rw[hfm]
  have e0:PO.map (ren D (qbx five))=PO:=rfl
  have e1:(KA 2 n).map (ren D (qbx five))=KA 2 n:=by rw[KA,qbt,qbq,five_cee 2 (by decide)]; rfl
  have e3:(KA 4 n).map (ren D (qbx five))=KA 4 n:=by rw[KA,qbt,qbq,five_cee 4 (by decide)]; rfl
  have ha:([.ptr (0,0) 0,B64 u]:List LV).map (ren D (qbx five))=[.ptr (0,0) 0,B64 u]:=rfl
  have f0:PO.map (ren D (qc5 five b 0))=PO:=rfl
  have f1:(KA 2 n).map (ren D (qc5 five b 0))=KA 2 n:=by rw[KA,qbt,qbq,five_cer b 2 (by decide)]; rfl
  have f3:(KA 4 n).map (ren D (qc5 five b 0))=KA 4 n:=by rw[KA,qbt,qbq,five_cer b 4 (by decide)]; rfl
  rw[show ([(0,0),(0,1),(0,2),(0,3),(0,4)]:List Nm)=five from rfl,ha]
  rw[zG,zG,zG,zG,zG,zC,e0,e1,e3,qaK,qaK]
  rw[envC_cal,xfirst_F k n hn la lb hlb u,show ([]:List Nm).isEmpty=true from rfl,resK_sc,qdp]
  rw[zJ,show five=[(0,0),(0,1),(0,2),(0,3),(0,4)] from rfl]
  simp only[List.zipWith_cons_cons,List.zipWith_nil_left,zH,ren_Hf,zC,qaK]
  rw[←show five=[(0,0),(0,1),(0,2),(0,3),(0,4)] from rfl,f0,f1,f3]
  rfl
theorem c_with (k b g n:Nat) (l:List (BitVec 8)) (E:R→R) (hE:Way g n l E) (t:BitVec 128) (H:Heap) (c m x:Nm) (h:KG H c m (n+2) none l) (B:LV) (bb:List (BitVec 8)) (hbl:bb.length=16)
    (hs:snap H D B=some (.isl (bs bb) 16,[x])) (hx:x≠c∧x≠m) :
    qbD (envC C (k+80)) H b 52 [.fn (.func g) [.ptr c 0] [],Hf (lo t) (Xf.hi t),B]=some ⟨.sl (b,0) 0 16 (some 16) 1,[aB 16 (wt E t (fl bb))],[(c,some (CF (.sl m 0 (n+2) none 16) TB)),(m,some (bs l))]⟩:=by
  have hlend:lend H ((envC C (k+80)).borrow 52) 0 [.fn (.func g) [.ptr c 0] [],Hf (lo t) (Xf.hi t),B]=some ([.fn (.func g) [.ptr c 0] [],Hf (lo t) (Xf.hi t),.isl (bs bb) 16],[x]):=by
    rw[qdq,qdq,qdq,lend_nil,envC_borrow,C_bor,if_neg (show ¬ qcf 52 0=true by decide),if_neg (show ¬ qcf 52 (0+1)=true by decide),if_pos (show qcf 52 (0+1+1)=true by decide),hs,qde,qde,qde]
    rfl
  have hn:([.fn (.func g) [.ptr c 0] [],Hf (lo t) (Xf.hi t),.isl (bs bb) 16]:List LV).flatMap (nms D)=[c]:=by
    simp only[zV,zX,qbw,zQ,nms_fn1,nms_Hf]
  have hre:=reach_KG h
  have hl:([x]:List Nm).any (fun n=>([c,m]:List Nm).contains n)=false:=by simp[hx.1,hx.2]
  have ha:([.fn (.func g) [.ptr c 0] [],Hf (lo t) (Xf.hi t),.isl (bs bb) 16]:List LV).map (ren D (qbx [c,m]))=[.fn (.func g) [.ptr (0,0) 0] [],Hf (lo t) (Xf.hi t),.isl (bs bb) 16]:=by
    have e:ren 7 (qbx [c,m]) (.ptr c 0) = .ptr (0,0) 0:=by
      show (match (qbx [c,m] c) with | some n=>LV.ptr n 0 | none=>_)=_
      rw[toCallee_eq,idx0]; rfl
    simp only[zG,zC,ren_fn1,e,ren_Hf,qbO]
  have hp:plainRes (.sl (1,0) 0 16 (some 16) 1,[some (KO n),some (bs l)],[aB 16 (wt E t (fl bb))])=true:=by
    simp only[plainRes,zd,za,noImm_bs,noImm_aBs,KO,noImm_CF]; rfl
  rw[callOp_L,hlend,callL_some,hn,hre,callN_eq _ _ _ _ _ hl,ha,show ([c,m]:List Nm).filterMap H=[CF (.sl m 0 (n+2) none 16) TB,bs l] by simp[h.hc,h.hm]]
  rw[zG,zG,zC,qbt,qbq,toCallee_eq,idx1 _ _ _ h.ne,zH,qbK,qaK,envC_cal]
  rw[show CF (.sl (0,1) 0 (n+2) none 16) TB=KO n from rfl,with_F k g n l E hE t bb hbl,resK_any _ _ _ _ hp,qdp]
  simp only[KO,zG,zC,List.zipWith_cons_cons,List.zipWith_nil_left,zH,qbt,qbq,toCaller_0,toCaller_1,qaK,qa4,qbK,List.getElem?_cons_zero,List.getElem?_cons_succ,zK,zJ,zA,Nat.lt_one_iff]
end Aes
namespace Aes
open Go Go.LE Xf
set_option maxRecDepth 20000
theorem PH.cn {H:Heap} {n:Nat} {la lb:List (BitVec 8)} (h:PH H n la lb) (names:List Nm):PH (cN names H) n la lb :=
  ⟨by rw[qbX,h.g0,zH,PO_ren],by rw[qbX,h.g1,zH,KA_ren],by rw[qbX,h.g2,zH,qaK],by rw[qbX,h.g3,zH,KA_ren],by rw[qbX,h.g4,zH,qaK]⟩
theorem PH.up {H:Heap} {n:Nat} {la lb:List (BitVec 8)} (h:PH H n la lb) (m:Nm) (x:Option qaV) (hm:m.1≠0):PH (upd H m x) n la lb:=by
  have e:∀ j,upd H m x (0,j)=H (0,j):=fun j=>by
    rw[qap,if_neg (fun h=>hm (by rw[←h]))]
  exact ⟨by rw[e]; exact h.g0,by rw[e]; exact h.g1,by rw[e]; exact h.g2,by rw[e]; exact h.g3,by rw[e]; exact h.g4⟩
theorem tr_KGn (H:Heap) (v:LV) (news:List qaV) (c m:Nm) (len:Nat) (cap:Option Nat) (l:List (BitVec 8)) (h:KG H c m len cap l):trimO true H (some ⟨v,news,[(c,some (CF (.sl m 0 len cap 16) TB)),(m,some (bs l))]⟩)=some ⟨v,news,[]⟩:=by
  refine trimO_same _ _ _ _ fun q hm => ?_
  simp only[List.mem_cons,List.not_mem_nil,zl] at hm
  rcases hm with rfl | rfl
  · simp only[h.hc,sameO,same_CF]
  · simp only[h.hm,sameO,same_bs]
theorem cp_16 (H:Heap) (m x:Nm) (o len:Nat) (c c2:Option Nat) (L:List (BitVec 8)) (w:R) (hm:H m=some (bs L)) (hx:H x=some (aB 16 w)) (hl:o+16≤L.length) (h16:16≤len) :
    cpK 1 H (.sl m o len c 1) (.sl x 0 16 c2 1) (some 16)=some ⟨N 16,[],[(m,some (bs (L.take o++(List.range 16).map w++L.drop (o+16))))]⟩:=by
  have hmin:min 16 len=16:=by omega
  rw[aB_bs] at hx
  have hf:front H 1 (min 16 len) (.sl x 0 16 c2 1)=some (bs ((List.range 16).map w)):=by
    rw[hmin,front_bytes x 0 16 c2 _ hx (by rw[zzK,List.length_range]; exact Nat.le_refl _),zw,List.take_of_length_le (by rw[zzK,List.length_range]; exact Nat.le_refl _)]
  rw[cp_bytes 16 m o len c _ L _ (by omega) hf hm (by omega),hmin,zzK,List.length_range]
theorem cp_r (H:Heap) (m x:Nm) (o r:Nat) (c c2:Option Nat) (L S:List (BitVec 8)) (hm:H m=some (bs L)) (hx:H x=some (bs S)) (hl:o+r=L.length) (hS:r≤S.length) (h0:0 < r) :
    cpK 1 H (.sl m o r c 1) (.sl x 0 r c2 1) (some r)=some ⟨N r,[],[(m,some (bs (L.take o++S.take r)))]⟩:=by
  have hf:front H 1 (min r r) (.sl x 0 r c2 1)=some (bs (S.take r)):=by
    rw[Nat.min_self,front_bytes x 0 r c2 _ hx (by omega),zw]
  rw[cp_bytes r m o r c _ L _ (by omega) hf hm (by omega),Nat.min_self,zzL,Nat.min_eq_left hS,List.drop_of_length_le (by omega),zQ]
def runJ (g n:Nat) (la lb:List (BitVec 8)) (E:R→R) (t0:BitVec 128) (d:List (BitVec 8)) (tu:Bool) (w:Nat) (i:Nat) (st:St):Prop := ∃ (H:Heap),
  st=⟨[.undef,.undef,.undef,.fn (.func g) [.ptr (0,1) 0] [],Bo tu,.undef,.undef,.undef,.undef,.undef,.undef,.sl (1,0) 0 d.length none 1,.ptr (1,1) 0,N (d.length % 16),N (16*w),N (16*i),.undef,.undef,.undef,.undef,.undef,.undef,.undef,.undef,.undef,.undef,.undef,.undef,.undef,.undef,.undef,.undef,.undef,.undef,.undef,.undef,.undef,.undef,.undef,.undef,.undef,.undef,.undef,.undef,.undef,.undef,.undef,.undef,.undef,.undef,.undef,.undef,.undef,.undef,.undef,.undef,.undef,.undef,.undef,.undef,.undef,.undef,.undef,.undef,.undef,.undef,.undef,.undef,.undef,.undef,.undef,.undef,.undef,.undef,.undef,.undef,.undef,.undef,.undef,.undef,.undef,.undef,.undef,.undef,.undef,.undef,.undef,.undef,.undef,.undef,.undef,.undef,.undef,.undef,.undef,.undef,.undef,.undef],H,2,5⟩ ∧
  PH H n la lb∧H (1,0)=some (bs (outI E t0 d i))∧H (1,1)=some [B64 (lo (tws t0 i)),B64 (Xf.hi (tws t0 i))]
theorem run_round (k g n:Nat) (la lb:List (BitVec 8)) (E:R→R) (hE:Way g n la E) (t0:BitVec 128) (d:List (BitVec 8)) (tu:Bool) (w:Nat) (hd:16*w≤d.length) (hd2:d.length≤65536) (i:Nat) (hi:i < w) (st:St)
    (hJ:runJ g n la lb E t0 d tu w i st):∃ st1,ev (envC C (k+80)) (k+80) L44b0 st=some (.normal,st1)∧runJ g n la lb E t0 d tu w (i+1) (qcr L44k0 st1):=by
  obtain ⟨H,rfl,P,h1,h2⟩:=hJ
  have hol:=outI_length E t0 d i (by omega)
  have i0:16*i < 16*w:=by omega
  have i1:16*i≤d.length:=by omega
  have i2:16*i+16≤d.length:=by omega
  have i3:16*i+16 - 16*i=16:=by omega
  have i4:16*i≤16*i+16:=by omega
  have hdb:∀ k,F C (k+1) 53 [Hf (lo (tws t0 i)) (Xf.hi (tws t0 i))] []=some (Hf (lo (tws t0 (i+1))) (Xf.hi (tws t0 (i+1))),[],[]):=fun k=>Xf.dbl_F k (tws t0 i)
  have hsn:∀ H':Heap,H' (1,0)=some (bs (outI E t0 d i))→∀ c,snap H' D (.sl (1,0) (16*i) 16 c 1)=some (.isl (bs (blk d i)) 16,[(1,0)]):=fun H' h' c=>by
    rw[snap_bytes (1,0) (16*i) 16 c _ h' (by decide),outI_blk]
  simp (disch:=first|omega|decide|simp only[qaf,qad,qag,qae,qah,qac,qaa,qab,qai]) only[qbh,qat,qaX,qao,qan,qal,qak,qar,qay,qaJ,qaq,qaH,qaG,qa7,qa1,qaj,qaD,qa3,zM,zN,zO,zP,zG,zC,zV,zX,zI,zR,zQ,zK,zJ,Nat.reduceAdd,Nat.reduceSub,qaR,qct,qbv,qco,agg_Hf,nms_Hf,zzE,zw,zzJ,za,zd,zU,Nat.reduceLT,zD,zA,zB,Nat.le_refl,zT,zk,zB,zA,qbz,qaW,qbJ,Nat.reduceLT,Nat.reduceAdd,zT,ze,qb9,qdi,qcg,op_slcS,slcV_none,qcn,qaI,qaA,zk,qa9,qbo,qbE,qc1,qb7,nms_fn,qaE,zY,zW,zx,z0,qbQ,qba,za,zd,Nat.testBit,Nat.reduceShiftRight,Nat.reduceAnd,ze,zy,zU,zj,Nat.reduceSub,Nat.reduceLT,bne,qbg,qbG,qbp,qcP,qbY,zj,zU,qaU,qam,qam,qaU,L44b0,h2,i0,i3,nms_fn1,qaQ,agg_Hf]
  have hre:qbL H FUEL [] [(0,1),(1,0)]=[(0,1),(0,2),(1,0)]:=by
    simp only[FUEL,qaz,qax,qaB,zI,zR,zQ,zW,zY,zF,zm,zn,zf,Nat.reduceEqDiff,zZ,zl,zE,zb,zh,KA_nms,qaP,P.g1,P.g2,h1]
  have K3:KG (only [(0,1),(0,2),(1,0)] H) (0,1) (0,2) (n+2) none la:=⟨P.g1,P.g2,by decide⟩
  rw[hre,c_with k _ g n la E hE (tws t0 i) _ (0,1) (0,2) (1,0) K3 _ (blk d i) (blk_length d i (by omega)) (hsn (only [(0,1),(0,2),(1,0)] H) h1 none) ⟨by decide,by decide⟩,tr_KGn _ _ _ _ _ _ _ _ K3]
  simp (disch:=first|omega|decide|simp only[qaf,qad,qag,qae,qah,qac,qaa,qab,qai]) only[qar,qay,zM,zN,zO,zP,zC,zI,zR,Nat.reduceAdd,Nat.reduceSub,za,zd,zU,Nat.reduceLT,zD,zA,zT,zA,Nat.reduceLT,Nat.reduceAdd,zT,zg,ze,qch,op_copy,qaI,qaZ,qaA,qa9,qbo,touch_copy,zY,zW,zx,z6,z0,qbQ,qba,za,zd,Nat.testBit,Nat.reduceShiftRight,Nat.reduceAnd,Nat.reduceBEq,ze,zg,zy,zU,zj,Nat.reduceSub,Nat.reduceLT,bne,qbg,qbG,qbS,isCall_copy,zj,zU,qaU,qaU,qaQ]
  have i5:16≤d.length - 16*i:=by omega
  rw [cp_16 (only [(1, 0), (15, 0)] (upd H (15, 0) _)) (1, 0) (15, 0) (16 * i) (d.length - 16 * i) none (some 16) (outI E t0 d i) (wt E (tws t0 i) (fl (blk d i))) h1 rfl (by omega) i5,
    show (List.range 16).map (wt E (tws t0 i) (fl (blk d i)))=wtl E (tws t0 i) (blk d i) from rfl,outI_succ E t0 d i (by omega)]
  have hd1:=hdb (k+79)
  simp (disch:=first|omega|decide|simp only[qbU,nms_B32,qbR,nms_I,qbb,qci,qcM,qaO,nms_Hf,qaE,qaQ,qbe,qc6,qc8,qc3,zV,zX,zI,zQ,ren_B8,ren_B32,qcu,ren_I,ren_N,ren_Bo,ren_Un,qdj,ren_Hf,qbN,qc7,qc9,qcY,zG,zC,ren7_I,ren7_N,ren7_Bo,ren7_B8,ren7_B32,ren7_B64,nms7_I,nms7_N,nms7_Bo,nms7_B8,nms7_B32,nms7_B64,qcV,qb8,implies_true,l51,l53,qaf,qaP,qaK,qbw,qbO,qad,qag,qae,qah,qac,qaa,qab,qai]) only[qao,qan,qal,qak,qar,qbc,qay,qaJ,qaq,qaH,qaG,qa7,qa1,qaj,qaY,zM,zN,zO,zP,zG,zC,zI,zQ,zK,zJ,qda,Nat.reduceAdd,Nat.reduceSub,qap,isCell_B64,qaR,qct,qbv,qco,qbF,qbl,qdh,agg_Hf,qdr,calK_Hf,qbC,zzE,zzA,zzD,zw,zzG,zzJ,za,zd,zU,zF,Nat.reduceEqDiff,Nat.reduceLT,zZ,zu,zD,zE,zA,zB,Nat.le_refl,zT,zL,zb,zB,zA,qbz,Nat.reduceLT,Nat.reduceEqDiff,Nat.reduceAdd,zL,zT,qce,zg,ze,qaI,qaA,qa6,zY,zW,zx,z6,z0,qbQ,qba,za,zd,Nat.testBit,Nat.reduceShiftRight,Nat.reduceAnd,Nat.reduceBEq,ze,zg,zy,zU,zj,Nat.reduceSub,Nat.reduceLT,bne,zj,zU,qaU,qam,qam,qaU,h2,hd1,agg_Hf]
  refine ⟨_,rfl,?_⟩
  refine qaT [(1,0),(1,1)] rfl (by simp only[qav,FUEL,qaz,qax,qaB,qaE,qaQ,qbR,qci,qaO,zV,zX,zI,zR,zQ,zC,zG,zW,zY,zF,zm,zn,zf,Nat.reduceEqDiff,zS,zZ,zl,zzC,zD,zE,zb,zh,zq,zp,zo,ne_eq,zt,z9,qap,qaN,qaL,qaC,qbb,L44k0,nms_fn1,qbB,PO_nms,KA_nms,qaP,qaQ,P.g0,P.g1,P.g2,P.g3,P.g4,h2]) (by simp only[zC,zG,qaN,qaL,qaC,L44k0,zG,zC,ren_fn1]; rfl) ⟨_,rfl,?_,?_,?_⟩
  · exact PH.cn (((P.up (15,0) _ (by decide)).up (1,0) _ (by decide)).up (1,1) _ (by decide)) _
  · exact qau (1,0) rfl (by simp (disch:=first|omega|decide|simp only[qaf,qad,qag,qae,qah,qac,qaa,qab,qai]) only[qap,zF,Nat.reduceEqDiff,zS,zZ,zD,zE,zh]) (qaK _ _)
  · exact qau (1,1) rfl (by simp (disch:=first|omega|decide|simp only[qaf,qad,qag,qae,qah,qac,qaa,qab,qai]) only[qap,zF,Nat.reduceEqDiff,zZ,zu,zD,zE,zb]) rfl
end Aes
namespace Aes
open Go Go.LE Xf
set_option maxRecDepth 20000
theorem qbf {H:Heap} {m:Nm} {x:Option qaV} (h:H m=x):upd H m x=H:=by
  funext q
  rw[qap]
  by_cases e:q=m
  · rw[if_pos e,e,h]
  · rw[if_neg e]
theorem PH.same {H:Heap} {n:Nat} {la lb:List (BitVec 8)} (h:PH H n la lb):modN (mod5 n la lb) H=H:=by
  simp only[mod5,qa6,qaA,qbf h.g4,qbf h.g3,qbf h.g2,qbf h.g1,qbf h.g0]
theorem run_whole (k g n:Nat) (hn:n≤20) (la lb:List (BitVec 8)) (hlb:lb.length=16*(n+2)) (E:R→R) (hE:Way g n la E) (u:BitVec 64) (d:List (BitVec 8)) (h16:16≤d.length) (hd2:d.length≤65536) (tu:Bool) (hr:d.length % 16=0) :
    F C (k+5000) 44 [.ptr (0,0) 0,B64 u,.isl (bs d) d.length,.fn (.func g) [.ptr (0,1) 0] [],Bo tu] [PO,KA 2 n,bs la,KA 4 n,bs lb] =
    some (.sl (1,0) 0 d.length none 1,[some PO,some (KA 2 n),some (bs la),some (KA 4 n),some (bs lb)],[bs (qb3 E (tw0 n lb u) d tu)]):=by
  rw[qbT f44]
  have P0:PH (qb4 [PO,KA 2 n,bs la,KA 4 n,bs lb]) n la lb:=⟨rfl,rfl,rfl,rfl,rfl⟩
  generalize hI:qb4 [PO,KA 2 n,bs la,KA 4 n,bs lb]=H0 at P0
  have hcl:∀ b H,qbD (envC C (k+4999)) H b 50 [.isl (bs d) d.length]=some ⟨.sl (b,0) 0 d.length none 1,[bs d],[]⟩:=fun b H=>c_xclone (k+4994) b H _ d [] (snap_isl _ _) (by omega) (by omega)
  simp (disch:=first|omega|decide|simp only[qaf,qad,qag,qae,qah,qac,qaa,qab,qai]) only[qbk,qat,qao,qan,qal,qak,qar,qay,qaJ,qaH,qa7,qa1,qaj,zM,zN,zO,zP,zG,zC,zI,zR,qbd,z7,zK,zJ,Nat.reduceAdd,Nat.reduceSub,zA,zB,zB,zA,Nat.reduceAdd,qaI,qaZ,qaA,Nat.reduceSub,qam,qam,L44,hcl]
  rw[hI]
  have P1:=P0.up (4,0) (some (bs d)) (by decide)
  have hm:=P1.same
  rw[c_first (k+4919) n _ hn la lb hlb u _ P1]
  simp (disch:=first|omega|decide|simp only[qaf,qad,qag,qae,qah,qac,qaa,qab,qai]) only[qat,qao,qan,qal,qak,qar,qbc,qay,qaJ,qaq,qaH,qaG,qaj,qaD,zM,zN,zO,zP,zI,zQ,zK,zJ,Nat.reduceAdd,qap,isCell_B64,qcO,qbF,qbl,qdh,qdr,qbC,zzA,zzD,zzG,za,zd,zF,Nat.reduceEqDiff,zS,zu,zD,zE,zA,zB,Nat.le_refl,zB,zA,N_sub,N_rem,N_gtr,Nat.reduceEqDiff,Nat.reduceAdd,qcm,qbA,qb9,qaI,qaZ,qaA,qa6,za,zd,zy,qam,qam,hm]
  have e0:d.length - d.length % 16=16*(d.length / 16):=by omega
  rw[e0]
  generalize hG:upd (upd (upd H0 (4,0) _) (9,0) _) (9,0) _=G
  have PG:PH G n la lb:=by rw[←hG]; exact (P1.up _ _ (by decide)).up _ _ (by decide)
  have ga:G (4,0)=some (bs d):=by rw[←hG]; rfl
  have gb:G (9,0)=some [B64 (lo (tw0 n lb u)),B64 (Xf.hi (tw0 n lb u))]:=by rw[←hG]; rfl
  clear hG
  have d0:decide (0 < d.length % 16)=false:=decide_eq_false (by omega)
  rw[d0]
  simp (disch:=first|omega|decide|simp only[qaf,qad,qag,qae,qah,qac,qaa,qab,qai]) only[qbh,qat,qaX,qao,qan,qal,qak,qar,qaJ,qaH,qaj,qas,zM,zN,zK,zJ,qbH,Nat.reduceAdd,zA,zB,zB,zA,Nat.reduceAdd,qaI,qaA,qam,qam]
  generalize hL:qbW L44k0 _ _ _=r
  refine qby hL (runJ g n la lb E (tw0 n lb u) d tu (d.length / 16)) (d.length / 16) (by omega) (fun i st hi hJ=>run_round (k+4919) g n la lb E hE _ d tu (d.length / 16) (by omega) hd2 i hi st hJ) ?_ ?_ ?_
  · refine qaT [(4, 0), (9, 0)] rfl (by simp only [qav, FUEL, qaz, qax, qaB, qaE, qaQ, qbR, qci, qaO, zV, zX, zI, zR, zQ, zC, zG, zW, zY, zF, zm, zn, zf, Nat.reduceEqDiff, zS, zZ, zl, zzC, zD, zE, zb, zh, zq, zp, zo, ne_eq, zt, z9, qaN, qaL, qaC, qbb, L44k0, nms_fn1, qbB, PO_nms, KA_nms, qaP, qaQ, PG.g0, PG.g1, PG.g2, PG.g3, PG.g4, ga, gb]) (by simp only [zC, zG, qaN, qaL, qaC, L44k0, zG, zC, ren_fn1]; rfl) ⟨_, rfl, ?_, ?_, ?_⟩
    · exact PH.cn PG _
    · rw[outI_0]; exact qau (4,0) rfl (by simp (disch:=first|omega|decide|simp only[qaf,qad,qag,qae,qah,qac,qaa,qab,qai]) only[ga]) (qaK _ _)
    · exact qau (9,0) rfl (by simp (disch:=first|omega|decide|simp only[qaf,qad,qag,qae,qah,qac,qaa,qab,qai]) only[gb]; rfl) rfl
  · rintro st ⟨H, rfl, P, h1, h2⟩
    apply qbs
    simp (disch:=first|omega|decide|simp only[qaf,qad,qag,qae,qah,qac,qaa,qab,qai]) only[qa0,qat,qao,qan,qal,qak,qaM,qar,qay,qaq,qaH,qaG,qaj,qaF,qaD,qas,zM,zN,zO,zP,zK,zJ,Nat.reduceAdd,zA,zB,zL,zB,zA,qaW,Nat.reduceAdd,zi,zL,L44b0,zi]
    rfl
  · rintro st ⟨H, rfl, P, h1, h2⟩ rfl
    rw[outI_whole _ _ _ hr,unitP_whole _ _ _ false tu hr] at h1
    simp (disch:=first|omega|decide|simp only[qaf,qad,qag,qae,qah,qac,qaa,qab,qai]) only[qbI,qa0,qat,qao,qan,qal,qak,qar,qay,qaJ,qaq,qaH,qaG,qaj,qdx,qaF,qa8,qaD,qa3,qas,qbr,qcI,zM,zN,zO,zP,zK,zJ,zH,Nat.reduceAdd,zD,zA,zB,zT,zL,zB,zA,N_eql,qaW,Nat.reduceAdd,zi,zL,zT,qaI,qaA,zH,qam,qam,L44b0,zi,hr]
    rw[qdk 5 _ _ [(1,0)] (by simp only[qav,FUEL,qaz,qax,qaB,qaQ,zV,zX,zI,zR,zQ,zC,zG,zW,zY,zF,zm,zn,zf,Nat.reduceEqDiff,zS,zZ,zl,zzC,zD,zE,zb,zh,zq,zp,zo,ne_eq,zt,z9,qbB,PO_nms,KA_nms,qaP,qaQ,P.g0,P.g1,P.g2,P.g3,P.g4,h1])]
    simp (disch:=first|omega|decide|simp only[qaf,qad,qag,qae,qah,qac,qaa,qab,qai]) only[zG,zC,zH,zD,zA,idx_cons,canonMap_ne,zzB,zH,qaK,List.filterMap_cons,qbq,qbK,qbB,PO_ren,KA_ren,qaK,qbq,P.g0,P.g1,P.g2,P.g3,P.g4,h1]
end Aes
namespace Aes
open Go Go.LE Xf
set_option maxRecDepth 20000
theorem run_part_false (k g n:Nat) (hn:n≤20) (la lb:List (BitVec 8)) (hlb:lb.length=16*(n+2)) (E:R→R) (hE:Way g n la E) (u:BitVec 64) (d:List (BitVec 8)) (h16:16≤d.length) (hd2:d.length≤65536) (hr:d.length % 16≠0) :
    F C (k+5000) 44 [.ptr (0,0) 0,B64 u,.isl (bs d) d.length,.fn (.func g) [.ptr (0,1) 0] [],Bo false] [PO,KA 2 n,bs la,KA 4 n,bs lb] =
    some (.sl (1,0) 0 d.length none 1,[some PO,some (KA 2 n),some (bs la),some (KA 4 n),some (bs lb)],[bs (qb3 E (tw0 n lb u) d false)]):=by
  rw[qbT f44]
  have P0:PH (qb4 [PO,KA 2 n,bs la,KA 4 n,bs lb]) n la lb:=⟨rfl,rfl,rfl,rfl,rfl⟩
  generalize hI:qb4 [PO,KA 2 n,bs la,KA 4 n,bs lb]=H0 at P0
  have hcl:∀ b H,qbD (envC C (k+4999)) H b 50 [.isl (bs d) d.length]=some ⟨.sl (b,0) 0 d.length none 1,[bs d],[]⟩:=fun b H=>c_xclone (k+4994) b H _ d [] (snap_isl _ _) (by omega) (by omega)
  simp (disch:=first|omega|decide|simp only[qaf,qad,qag,qae,qah,qac,qaa,qab,qai]) only[qbk,qat,qao,qan,qal,qak,qar,qay,qaJ,qaH,qa7,qa1,qaj,zM,zN,zO,zP,zG,zC,zI,zR,qbd,z7,zK,zJ,Nat.reduceAdd,Nat.reduceSub,zA,zB,zB,zA,Nat.reduceAdd,qaI,qaZ,qaA,Nat.reduceSub,qam,qam,L44,hcl]
  rw[hI]
  have P1:=P0.up (4,0) (some (bs d)) (by decide)
  have hm:=P1.same
  rw[c_first (k+4919) n _ hn la lb hlb u _ P1]
  simp (disch:=first|omega|decide|simp only[qaf,qad,qag,qae,qah,qac,qaa,qab,qai]) only[qat,qao,qan,qal,qak,qar,qbc,qay,qaJ,qaq,qaH,qaG,qaj,qaD,zM,zN,zO,zP,zI,zQ,zK,zJ,Nat.reduceAdd,qap,isCell_B64,qcO,qbF,qbl,qdh,qdr,qbC,zzA,zzD,zzG,za,zd,zF,Nat.reduceEqDiff,zS,zu,zD,zE,zA,zB,Nat.le_refl,zB,zA,N_sub,N_rem,N_gtr,Nat.reduceEqDiff,Nat.reduceAdd,qcm,qbA,qb9,qaI,qaZ,qaA,qa6,za,zd,zy,qam,qam,hm]
  have e0:d.length - d.length % 16=16*(d.length / 16):=by omega
  rw[e0]
  generalize hG:upd (upd (upd H0 (4,0) _) (9,0) _) (9,0) _=G
  have PG:PH G n la lb:=by rw[←hG]; exact (P1.up _ _ (by decide)).up _ _ (by decide)
  have ga:G (4,0)=some (bs d):=by rw[←hG]; rfl
  have gb:G (9,0)=some [B64 (lo (tw0 n lb u)),B64 (Xf.hi (tw0 n lb u))]:=by rw[←hG]; rfl
  clear hG
  have d0:decide (0 < d.length % 16)=true:=decide_eq_true (by omega)
  obtain ⟨m,hm'⟩:∃ m,m=d.length / 16 - 1:=⟨_,rfl⟩
  have e1:16*(d.length / 16) - 16=16*m:=by omega
  have hm16:16*m+16+d.length % 16=d.length:=by omega
  have hr0:0 < d.length % 16:=by omega
  have hrl:d.length % 16 < 16:=Nat.mod_lt _ (by decide)
  rw[d0]
  simp (disch:=first|omega|decide|simp only[qaf,qad,qag,qae,qah,qac,qaa,qab,qai]) only[qat,qaX,qao,qan,qal,qak,qar,qay,qaJ,qaq,qaH,qaG,qaj,qa3,zM,zN,zO,zP,zK,zJ,qbH,Nat.reduceAdd,zA,zB,zB,zA,N_sub,Nat.reduceAdd,qaI,qaA,qam,qam,e1]
  generalize hL:qbW L44k0 _ _ _=r
  refine qby hL (runJ g n la lb E (tw0 n lb u) d false m) m (by omega) (fun i st hi hJ=>run_round (k+4919) g n la lb E hE _ d false m (by omega) hd2 i hi st hJ) ?_ ?_ ?_
  · refine qaT [(4, 0), (9, 0)] rfl (by simp only [qav, FUEL, qaz, qax, qaB, qaE, qaQ, qbR, qci, qaO, zV, zX, zI, zR, zQ, zC, zG, zW, zY, zF, zm, zn, zf, Nat.reduceEqDiff, zS, zZ, zl, zzC, zD, zE, zb, zh, zq, zp, zo, ne_eq, zt, z9, qaN, qaL, qaC, qbb, L44k0, nms_fn1, qbB, PO_nms, KA_nms, qaP, qaQ, PG.g0, PG.g1, PG.g2, PG.g3, PG.g4, ga, gb]) (by simp only [zC, zG, qaN, qaL, qaC, L44k0, zG, zC, ren_fn1]; rfl) ⟨_, rfl, ?_, ?_, ?_⟩
    · exact PH.cn PG _
    · rw[outI_0]; exact qau (4,0) rfl (by simp (disch:=first|omega|decide|simp only[qaf,qad,qag,qae,qah,qac,qaa,qab,qai]) only[ga]) (qaK _ _)
    · exact qau (9,0) rfl (by simp (disch:=first|omega|decide|simp only[qaf,qad,qag,qae,qah,qac,qaa,qab,qai]) only[gb]; rfl) rfl
  · rintro st ⟨H, rfl, P, h1, h2⟩
    apply qbs
    simp (disch:=first|omega|decide|simp only[qaf,qad,qag,qae,qah,qac,qaa,qab,qai]) only[qa0,qat,qao,qan,qal,qak,qaM,qar,qay,qaq,qaH,qaG,qaj,qaF,qaD,qas,zM,zN,zO,zP,zK,zJ,Nat.reduceAdd,zA,zB,zL,zB,zA,qaW,Nat.reduceAdd,zi,zL,L44b0,zi]
    rfl
  · rintro st ⟨H, rfl, P, h1, h2⟩ rfl
    clear hL ga gb PG
    have hdb:=Xf.dbl_F (k+4998) (tws (tw0 n lb u) m)
    rw[Nat.add_assoc] at hdb
    simp only[Nat.reduceAdd] at hdb
    have hdb2:F C (k+4999) 53 [Hf (lo (tws (tw0 n lb u) m)) (Xf.hi (tws (tw0 n lb u) m))] []=some (Hf (lo (tws (tw0 n lb u) (m+1))) (Xf.hi (tws (tw0 n lb u) (m+1))),[],[]):=hdb
    have hle:16*m≤16*m+16:=by omega
    have hle2:16*m+16≤d.length:=by omega
    have hle3:16*m≤d.length:=by omega
    have hs16:16*m+16 - 16*m=16:=by omega
    have hsr:d.length - (16*m+16)=d.length % 16:=by omega
    have hres:¬ d.length % 16=0:=hr
    simp (disch:=first|omega|decide|simp only[qbU,nms_B32,qbR,nms_I,qbb,qci,qcM,qaO,nms_Hf,qaE,qaQ,qbe,qc6,qc8,qc3,zV,zX,zI,zQ,ren_B8,ren_B32,qcu,ren_I,ren_N,ren_Bo,ren_Un,qdj,ren_Hf,qbN,qc7,qc9,qcY,zG,zC,ren7_I,ren7_N,ren7_Bo,ren7_B8,ren7_B32,ren7_B64,nms7_I,nms7_N,nms7_Bo,nms7_B8,nms7_B32,nms7_B64,qcV,qb8,implies_true,l51,l53,qaf,qaP,qaK,qbw,qbO,qad,qag,qae,qah,qac,qaa,qab,qai]) only[qbh,qa0,qat,qao,qan,qal,qak,qar,qbc,qay,qaJ,qaq,qaH,qaG,qa7,qa1,qaj,qaF,qa8,qaD,qas,zM,zN,zO,zP,zG,zC,zV,zX,zI,zR,zQ,zK,zJ,qda,Nat.reduceAdd,Nat.reduceSub,qap,isCell_B64,qaR,qct,qbv,qco,qcO,qbF,qbl,qdh,agg_Hf,qdr,nms_Hf,calK_Hf,qbC,zzE,zzA,zzD,zw,zzG,zzJ,za,zd,zU,zF,Nat.reduceEqDiff,Nat.reduceLT,zS,zu,zD,zE,zA,zB,Nat.le_refl,zT,zL,zk,zB,zA,qbz,N_eql,qaW,qbJ,Nat.reduceLT,Nat.reduceEqDiff,Nat.reduceAdd,zi,zL,zT,qce,zg,ze,qb9,qcg,op_slcS,slcV_none,qcn,qaI,qaZ,qaA,qa6,zk,qa9,qbo,qbE,qc1,qcl,qb7,qds,nms_fn,qaE,zY,zW,zx,z6,z0,qbQ,qba,za,zd,Nat.testBit,Nat.reduceShiftRight,Nat.reduceAnd,Nat.reduceBEq,ze,zg,zy,zU,zj,Nat.reduceSub,Nat.reduceLT,bne,qbg,qbG,qbS,qbp,qcP,qb0,qbY,zj,zU,qaU,qam,qam,qaU,L44b0,zi,hres,h2,hdb2,agg_Hf,nms_Hf,hs16,nms_fn1,qaQ]
    generalize hG2:upd (upd (upd (upd H (10,0) _) (11,0) _) (10,0) _) (11,0) _=G2
    have P2:PH G2 n la lb:=by rw[←hG2]; exact (((P.up _ _ (by decide)).up _ _ (by decide)).up _ _ (by decide)).up _ _ (by decide)
    have q1:G2 (1,0)=some (bs (outI E (tw0 n lb u) d m)):=by rw[←hG2]; exact h1
    have qb:G2 (11,0)=some [B64 (lo (tw2 (tw0 n lb u) m false)),B64 (Xf.hi (tw2 (tw0 n lb u) m false))]:=by rw[←hG2]; rfl
    clear hG2 h1 h2 P H
    have hol:=outI_length E (tw0 n lb u) d m (by omega)
    have hre:qbL G2 FUEL [] [(0,1),(1,0)]=[(0,1),(0,2),(1,0)]:=by
      simp only[FUEL,qaz,qax,qaB,zI,zR,zQ,zW,zY,zF,zm,zn,zf,Nat.reduceEqDiff,zZ,zl,zE,zb,zh,KA_nms,qaP,P2.g1,P2.g2,q1]
    have K3:KG (only [(0,1),(0,2),(1,0)] G2) (0,1) (0,2) (n+2) none la:=⟨P2.g1,P2.g2,by decide⟩
    have hsn:snap (only [(0,1),(0,2),(1,0)] G2) D (.sl (1,0) (16*m) 16 none 1)=some (.isl (bs (blk d m)) 16,[(1,0)]):=by
      rw[snap_bytes (H:=only [(0,1),(0,2),(1,0)] G2) (1,0) (16*m) 16 none (outI E (tw0 n lb u) d m) q1 (by decide),outI_blk]
    rw[hre,c_with (k+4919) _ g n la E hE (tws (tw0 n lb u) m) _ (0,1) (0,2) (1,0) K3 _ (blk d m) (blk_length d m (by omega)) hsn ⟨by decide,by decide⟩,tr_KGn _ _ _ _ _ _ _ _ K3]
    obtain ⟨sto,hsto⟩:∃ sto,sto=stolen E (tw0 n lb u) d false m:=⟨_,rfl⟩
    rw[show aB 16 (wt E (tws (tw0 n lb u) m) (fl (blk d m)))=bs sto by rw[aB_bs,hsto]; rfl]
    have hsl:sto.length=16:=by rw[hsto,stolen,qdm]
    have hr16:d.length % 16≤16:=by omega
    simp (disch:=first|omega|decide|simp only[qaf,qad,qag,qae,qah,qac,qaa,qab,qai]) only[qat,qao,qan,qal,qak,qar,qay,qaJ,qaq,qaH,qaG,qa7,qa1,qaj,zM,zN,zO,zP,zG,zC,zV,zX,zI,zQ,zK,zJ,Nat.reduceAdd,Nat.reduceSub,za,zd,zU,Nat.reduceLT,zD,zA,zB,zT,zk,zB,zA,qbz,qbJ,Nat.reduceLT,Nat.reduceAdd,zT,zg,qb9,qdi,qcg,op_slcS,slcV_none,qcn,qaI,qaZ,qaA,zk,qa9,qbo,qb7,nms_fn,zY,zW,z6,z0,qbQ,qba,za,zd,Nat.testBit,Nat.reduceShiftRight,Nat.reduceAnd,Nat.reduceBEq,zg,zy,zU,Nat.reduceSub,Nat.reduceLT,bne,qbg,qbG,qbY,zU,qaU,qam,qam,qaU,hsr,qaQ]
    obtain ⟨rst,hrst⟩:∃ rst,rst=d.drop (16*m+16):=⟨_,rfl⟩
    have hrsl:rst.length=d.length % 16:=by rw[hrst,zzH]; omega
    generalize hG3:upd G2 (22,0) _=G3
    have P3:PH G3 n la lb:=by rw[←hG3]; exact P2.up _ _ (by decide)
    have r1:G3 (1,0)=some (bs (outI E (tw0 n lb u) d m)):=by rw[←hG3]; exact q1
    have rb:G3 (11,0)=some [B64 (lo (tw2 (tw0 n lb u) m false)),B64 (Xf.hi (tw2 (tw0 n lb u) m false))]:=by rw[←hG3]; exact qb
    have rs:G3 (22,0)=some (bs sto):=by rw[←hG3]; rfl
    clear hG3 q1 qb P2 hre K3 hsn G2
    have hre:qbL G3 FUEL [] [(1,0)]=[(1,0)]:=by
      simp only[FUEL,qaz,qax,qaB,zI,zQ,zW,zf,zE,qaP,r1]
    have hsn:snap (only [(1,0)] G3) D (.sl (1,0) (16*m+16) (d.length % 16) none 1)=some (.isl (bs rst) rst.length,[(1,0)]):=by
      rw[snap_bytes (H:=only [(1,0)] G3) (1,0) (16*m+16) (d.length % 16) none (outI E (tw0 n lb u) d m) r1 hr,outI_drop16,←hrst,List.take_of_length_le (by omega),hrsl]
    rw[hre,c_xclone (k+4994) _ _ _ rst [(1,0)] hsn (by omega) (by omega),hrsl]
    have hfk:qcG (d.length % 16) 1 (16 - d.length % 16) (some (bs sto))=some (bs (sto.drop (d.length % 16))):=by
      rw[qcG,if_pos (by rw[qad]; omega),bs_drop,qcF,List.take_of_length_le (by rw[zzH]; omega)]
    have e16:d.length % 16+(16 - d.length % 16)=16:=by omega
    have htk:rst.take (d.length % 16)=rst:=List.take_of_length_le (by omega)
    obtain ⟨las,hlas⟩:∃ las,las=rst++sto.drop (d.length % 16):=⟨_,rfl⟩
    have hlas':las=lastB E (tw0 n lb u) d false m:=by rw[hlas,hrst,hsto]; rfl
    have hlasl:las.length=16:=by rw[hlas,zzI,zzH]; omega
    simp (disch:=first|omega|decide|simp only[qaf,qad,qag,qae,qah,qac,qaa,qab,qai]) only[qat,qao,qan,qal,qak,qar,qay,qaJ,qaq,qaH,qa7,qa1,qaj,zM,zN,zO,zP,zG,zC,zV,zX,zI,zR,zQ,zK,zJ,Nat.reduceAdd,Nat.reduceSub,qap,qaR,qct,qbv,qco,agg_Hf,nms_Hf,zzE,zw,zzJ,za,zd,zU,zF,Nat.reduceEqDiff,Nat.reduceLT,zS,zD,zE,zA,zB,Nat.le_refl,zT,zL,zk,zB,zA,qbJ,Nat.reduceLT,Nat.reduceEqDiff,Nat.reduceAdd,zL,zT,qce,zg,ze,qb9,qch,qcA,qcB,qcC,appX_none,appN_bytes,qdi,qcg,op_slcS,slcV_none,slcV_cap,qcn,qaI,qaZ,qaA,qa6,zk,qa9,qbo,qbE,qc1,qb7,nms_fn,qaE,zY,zW,zx,z6,z0,qbQ,qba,za,zd,Nat.testBit,Nat.reduceShiftRight,Nat.reduceAnd,Nat.reduceBEq,ze,zg,zy,zU,zj,Nat.reduceSub,Nat.reduceLT,bne,qbg,qbG,qbS,qbp,qcP,qdc,qbY,zj,zU,qcL,qaU,qam,qdo,qam,qaU,rb,rs,hfk,e16,htk,←hlas,qaQ,nms_fn1,zR,zI,agg_Hf]
    generalize hG4:upd (upd (upd G3 (28,0) _) (28,0) _) (32,0) _=G4
    have P4:PH G4 n la lb:=by rw[←hG4]; exact ((P3.up _ _ (by decide)).up _ _ (by decide)).up _ _ (by decide)
    have s1:G4 (1,0)=some (bs (outI E (tw0 n lb u) d m)):=by rw[←hG4]; exact r1
    have ss:G4 (22,0)=some (bs sto):=by rw[←hG4]; exact rs
    have sl:G4 (32,0)=some (bs las):=by rw[←hG4]; rfl
    clear hG4 r1 rb rs P3 hre hsn G3
    have hre:qbL G4 FUEL [] [(0,1),(32,0)]=[(0,1),(0,2),(32,0)]:=by
      simp only[FUEL,qaz,qax,qaB,zI,zR,zQ,zW,zY,zF,zm,zn,zf,Nat.reduceEqDiff,zZ,zl,zE,zh,KA_nms,qaP,P4.g1,P4.g2,sl]
    have K4:KG (only [(0,1),(0,2),(32,0)] G4) (0,1) (0,2) (n+2) none la:=⟨P4.g1,P4.g2,by decide⟩
    have hsn:snap (only [(0,1),(0,2),(32,0)] G4) D (.sl (32,0) 0 16 none 1)=some (.isl (bs las) 16,[(32,0)]):=by
      rw[snap_bytes (H:=only [(0,1),(0,2),(32,0)] G4) (32,0) 0 16 none las sl (by decide),zw,List.take_of_length_le (by omega)]
    rw[hre,c_with (k+4919) _ g n la E hE (tw2 (tw0 n lb u) m false) _ (0,1) (0,2) (32,0) K4 _ las hlasl hsn ⟨by decide,by decide⟩,tr_KGn _ _ _ _ _ _ _ _ K4]
    simp (disch:=first|omega|decide|simp only[qaf,qad,qag,qae,qah,qac,qaa,qab,qai]) only[qar,qay,zM,zN,zO,zP,zC,zI,zR,Nat.reduceAdd,Nat.reduceSub,za,zd,zU,Nat.reduceLT,zD,zA,zT,zA,Nat.reduceLT,Nat.reduceAdd,zT,zg,ze,qch,op_copy,qaI,qaZ,qaA,qa9,qbo,touch_copy,zY,zW,zx,z6,z0,qbQ,qba,za,zd,Nat.testBit,Nat.reduceShiftRight,Nat.reduceAnd,Nat.reduceBEq,ze,zg,zy,zU,zj,Nat.reduceSub,Nat.reduceLT,bne,qbg,qbG,qbS,isCall_copy,zj,zU,qaU,qaU,qaQ]
    have i5:16≤d.length - 16*m:=by omega
    rw [cp_16 (only [(1, 0), (40, 0)] (upd G4 (40, 0) _)) (1, 0) (40, 0) (16 * m) (d.length - 16 * m) none (some 16) (outI E (tw0 n lb u) d m) (wt E (tw2 (tw0 n lb u) m false) (fl las)) s1 rfl (by omega) i5,
      show (List.range 16).map (wt E (tw2 (tw0 n lb u) m false) (fl las))=wtl E (tw2 (tw0 n lb u) m false) las from rfl,outI_drop16,←hrst]
    have hdn:(outI E (tw0 n lb u) d m).take (16*m)=done E (tw0 n lb u) d m:=by
      rw[outI,List.take_append,qdn,Nat.sub_self,zzA,zQ,List.take_of_length_le (by rw[qdn]; exact Nat.le_refl _)]
    rw[hdn]
    obtain ⟨L2,hL2⟩:∃ L2,L2=done E (tw0 n lb u) d m++wtl E (tw2 (tw0 n lb u) m false) las++rst:=⟨_,rfl⟩
    have hL2l:L2.length=d.length:=by rw[hL2,zzI,zzI,qdn,qdm]; omega
    have hL2t:L2.take (16*m+16)=done E (tw0 n lb u) d m++wtl E (tw2 (tw0 n lb u) m false) las:=by
      rw[hL2,List.take_append_of_le_length (by rw[zzI,qdn,qdm]; exact Nat.le_refl _),List.take_of_length_le (by rw[zzI,qdn,qdm]; exact Nat.le_refl _)]
    rw[←hL2]
    simp (disch:=first|omega|decide|simp only[qaf,qad,qag,qae,qah,qac,qaa,qab,qai]) only[qat,qao,qan,qal,qak,qar,qay,qaJ,qaq,qaH,qaG,qaj,zM,zN,zO,zP,zG,zC,zI,zR,zK,zJ,Nat.reduceAdd,Nat.reduceSub,za,zd,zU,Nat.reduceLT,zD,zA,zB,zT,zL,zk,zB,zA,qbz,qbJ,Nat.reduceLT,Nat.reduceAdd,zL,zT,qce,zg,qb9,qch,op_copy,qdi,qcg,op_slcS,slcV_none,slcV_cap,qcn,qaI,qaA,qa6,Nat.sub_zero,zk,qa9,qbo,touch_copy,zY,zW,zx,z6,z0,qbQ,qba,za,zd,Nat.testBit,Nat.reduceShiftRight,Nat.reduceAnd,Nat.reduceBEq,zg,zy,zU,zj,Nat.reduceSub,Nat.reduceLT,bne,qbg,qbG,qbS,isCall_copy,zj,zU,qaU,qam,qam,qaU,hsr,qaQ]
    rw[cp_r (only [(1,0),(22,0)] _) (1,0) (22,0) (16*m+16) (d.length % 16) none (some 16) L2 sto rfl (by exact ss) (by omega) (by omega) hr0,hL2t]
    have hfin:done E (tw0 n lb u) d m++wtl E (tw2 (tw0 n lb u) m false) las++sto.take (d.length % 16)=qb3 E (tw0 n lb u) d false:=by
      rw[qb3,if_neg hr,←hm',hlas',hsto]
    rw[hfin]
    simp (disch:=first|omega|decide|simp only[qaf,qad,qag,qae,qah,qac,qaa,qab,qai]) only[qbI,qat,qao,qan,qal,qak,qar,qay,qaH,qaj,qbr,qcI,zM,zN,zO,zP,zG,zC,zK,zJ,zH,Nat.reduceAdd,Nat.reduceSub,za,zd,zU,Nat.reduceLT,zD,zA,zB,zT,zB,zA,Nat.reduceLT,Nat.reduceAdd,zT,qce,zg,qaI,qaA,qa6,zH,zY,zW,zx,z6,z0,qbQ,qba,za,zd,Nat.testBit,Nat.reduceShiftRight,Nat.reduceAnd,Nat.reduceBEq,zg,zy,zU,Nat.reduceSub,Nat.reduceLT,bne,zU,qaU,qam,qam,qaU]
    rw[qdk 5 _ _ [(1,0)] (by simp only[qav,FUEL,qaz,qax,qaB,qaQ,zV,zX,zI,zR,zQ,zC,zG,zW,zY,zF,zm,zn,zf,Nat.reduceEqDiff,zS,zZ,zl,zzC,zD,zE,zb,zh,zq,zp,zo,ne_eq,zt,z9,qap,qbB,PO_nms,KA_nms,qaP,qaQ,P4.g0,P4.g1,P4.g2,P4.g3,P4.g4])]
    simp (disch:=first|omega|decide|simp only[qaf,qad,qag,qae,qah,qac,qaa,qab,qai]) only[zG,zC,zH,qap,zF,Nat.reduceEqDiff,zS,false_and,zD,zE,zA,zh,idx_cons,canonMap_ne,zzB,zH,qaK,List.filterMap_cons,qbq,qbK,qbB,PO_ren,KA_ren,qaK,qbq,P4.g0,P4.g1,P4.g2,P4.g3,P4.g4]
end Aes
namespace Aes
open Go Go.LE Xf
set_option maxRecDepth 20000
theorem run_part_true (k g n:Nat) (hn:n≤20) (la lb:List (BitVec 8)) (hlb:lb.length=16*(n+2)) (E:R→R) (hE:Way g n la E) (u:BitVec 64) (d:List (BitVec 8)) (h16:16≤d.length) (hd2:d.length≤65536) (hr:d.length % 16≠0) :
    F C (k+5000) 44 [.ptr (0,0) 0,B64 u,.isl (bs d) d.length,.fn (.func g) [.ptr (0,1) 0] [],Bo true] [PO,KA 2 n,bs la,KA 4 n,bs lb] =
    some (.sl (1,0) 0 d.length none 1,[some PO,some (KA 2 n),some (bs la),some (KA 4 n),some (bs lb)],[bs (qb3 E (tw0 n lb u) d true)]):=by
  rw[qbT f44]
  have P0:PH (qb4 [PO,KA 2 n,bs la,KA 4 n,bs lb]) n la lb:=⟨rfl,rfl,rfl,rfl,rfl⟩
  generalize hI:qb4 [PO,KA 2 n,bs la,KA 4 n,bs lb]=H0 at P0
  have hcl:∀ b H,qbD (envC C (k+4999)) H b 50 [.isl (bs d) d.length]=some ⟨.sl (b,0) 0 d.length none 1,[bs d],[]⟩:=fun b H=>c_xclone (k+4994) b H _ d [] (snap_isl _ _) (by omega) (by omega)
  simp (disch:=first|omega|decide|simp only[qaf,qad,qag,qae,qah,qac,qaa,qab,qai]) only[qbk,qat,qao,qan,qal,qak,qar,qay,qaJ,qaH,qa7,qa1,qaj,zM,zN,zO,zP,zG,zC,zI,zR,qbd,z7,zK,zJ,Nat.reduceAdd,Nat.reduceSub,zA,zB,zB,zA,Nat.reduceAdd,qaI,qaZ,qaA,Nat.reduceSub,qam,qam,L44,hcl]
  rw[hI]
  have P1:=P0.up (4,0) (some (bs d)) (by decide)
  have hm:=P1.same
  rw[c_first (k+4919) n _ hn la lb hlb u _ P1]
  simp (disch:=first|omega|decide|simp only[qaf,qad,qag,qae,qah,qac,qaa,qab,qai]) only[qat,qao,qan,qal,qak,qar,qbc,qay,qaJ,qaq,qaH,qaG,qaj,qaD,zM,zN,zO,zP,zI,zQ,zK,zJ,Nat.reduceAdd,qap,isCell_B64,qcO,qbF,qbl,qdh,qdr,qbC,zzA,zzD,zzG,za,zd,zF,Nat.reduceEqDiff,zS,zu,zD,zE,zA,zB,Nat.le_refl,zB,zA,N_sub,N_rem,N_gtr,Nat.reduceEqDiff,Nat.reduceAdd,qcm,qbA,qb9,qaI,qaZ,qaA,qa6,za,zd,zy,qam,qam,hm]
  have e0:d.length - d.length % 16=16*(d.length / 16):=by omega
  rw[e0]
  generalize hG:upd (upd (upd H0 (4,0) _) (9,0) _) (9,0) _=G
  have PG:PH G n la lb:=by rw[←hG]; exact (P1.up _ _ (by decide)).up _ _ (by decide)
  have ga:G (4,0)=some (bs d):=by rw[←hG]; rfl
  have gb:G (9,0)=some [B64 (lo (tw0 n lb u)),B64 (Xf.hi (tw0 n lb u))]:=by rw[←hG]; rfl
  clear hG
  have d0:decide (0 < d.length % 16)=true:=decide_eq_true (by omega)
  obtain ⟨m,hm'⟩:∃ m,m=d.length / 16 - 1:=⟨_,rfl⟩
  have e1:16*(d.length / 16) - 16=16*m:=by omega
  have hm16:16*m+16+d.length % 16=d.length:=by omega
  have hr0:0 < d.length % 16:=by omega
  have hrl:d.length % 16 < 16:=Nat.mod_lt _ (by decide)
  rw[d0]
  simp (disch:=first|omega|decide|simp only[qaf,qad,qag,qae,qah,qac,qaa,qab,qai]) only[qat,qaX,qao,qan,qal,qak,qar,qay,qaJ,qaq,qaH,qaG,qaj,qa3,zM,zN,zO,zP,zK,zJ,qbH,Nat.reduceAdd,zA,zB,zB,zA,N_sub,Nat.reduceAdd,qaI,qaA,qam,qam,e1]
  generalize hL:qbW L44k0 _ _ _=r
  refine qby hL (runJ g n la lb E (tw0 n lb u) d true m) m (by omega) (fun i st hi hJ=>run_round (k+4919) g n la lb E hE _ d true m (by omega) hd2 i hi st hJ) ?_ ?_ ?_
  · refine qaT [(4, 0), (9, 0)] rfl (by simp only [qav, FUEL, qaz, qax, qaB, qaE, qaQ, qbR, qci, qaO, zV, zX, zI, zR, zQ, zC, zG, zW, zY, zF, zm, zn, zf, Nat.reduceEqDiff, zS, zZ, zl, zzC, zD, zE, zb, zh, zq, zp, zo, ne_eq, zt, z9, qaN, qaL, qaC, qbb, L44k0, nms_fn1, qbB, PO_nms, KA_nms, qaP, qaQ, PG.g0, PG.g1, PG.g2, PG.g3, PG.g4, ga, gb]) (by simp only [zC, zG, qaN, qaL, qaC, L44k0, zG, zC, ren_fn1]; rfl) ⟨_, rfl, ?_, ?_, ?_⟩
    · exact PH.cn PG _
    · rw[outI_0]; exact qau (4,0) rfl (by simp (disch:=first|omega|decide|simp only[qaf,qad,qag,qae,qah,qac,qaa,qab,qai]) only[ga]) (qaK _ _)
    · exact qau (9,0) rfl (by simp (disch:=first|omega|decide|simp only[qaf,qad,qag,qae,qah,qac,qaa,qab,qai]) only[gb]; rfl) rfl
  · rintro st ⟨H, rfl, P, h1, h2⟩
    apply qbs
    simp (disch:=first|omega|decide|simp only[qaf,qad,qag,qae,qah,qac,qaa,qab,qai]) only[qa0,qat,qao,qan,qal,qak,qaM,qar,qay,qaq,qaH,qaG,qaj,qaF,qaD,qas,zM,zN,zO,zP,zK,zJ,Nat.reduceAdd,zA,zB,zL,zB,zA,qaW,Nat.reduceAdd,zi,zL,L44b0,zi]
    rfl
  · rintro st ⟨H, rfl, P, h1, h2⟩ rfl
    clear hL ga gb PG
    have hdb:=Xf.dbl_F (k+4998) (tws (tw0 n lb u) m)
    rw[Nat.add_assoc] at hdb
    simp only[Nat.reduceAdd] at hdb
    have hdb2:F C (k+4999) 53 [Hf (lo (tws (tw0 n lb u) m)) (Xf.hi (tws (tw0 n lb u) m))] []=some (Hf (lo (tws (tw0 n lb u) (m+1))) (Xf.hi (tws (tw0 n lb u) (m+1))),[],[]):=hdb
    have hle:16*m≤16*m+16:=by omega
    have hle2:16*m+16≤d.length:=by omega
    have hle3:16*m≤d.length:=by omega
    have hs16:16*m+16 - 16*m=16:=by omega
    have hsr:d.length - (16*m+16)=d.length % 16:=by omega
    have hres:¬ d.length % 16=0:=hr
    simp (disch:=first|omega|decide|simp only[qbU,nms_B32,qbR,nms_I,qbb,qci,qcM,qaO,nms_Hf,qaE,qaQ,qbe,qc6,qc8,qc3,zV,zX,zI,zQ,ren_B8,ren_B32,qcu,ren_I,ren_N,ren_Bo,ren_Un,qdj,ren_Hf,qbN,qc7,qc9,qcY,zG,zC,ren7_I,ren7_N,ren7_Bo,ren7_B8,ren7_B32,ren7_B64,nms7_I,nms7_N,nms7_Bo,nms7_B8,nms7_B32,nms7_B64,qcV,qb8,implies_true,l51,l53,qaf,qaP,qaK,qbw,qbO,qad,qag,qae,qah,qac,qaa,qab,qai]) only[qbh,qa0,qat,qao,qan,qal,qak,qar,qbc,qay,qaJ,qaq,qaH,qaG,qa7,qa1,qaj,qaF,qa8,qaD,qa3,qas,zM,zN,zO,zP,zG,zC,zV,zX,zI,zR,zQ,zK,zJ,qda,Nat.reduceAdd,Nat.reduceSub,qap,isCell_B64,qaR,qct,qbv,qco,qcO,qbF,qbl,qdh,agg_Hf,qdr,nms_Hf,calK_Hf,qbC,zzE,zzA,zzD,zw,zzG,zzJ,za,zd,zU,zF,Nat.reduceEqDiff,Nat.reduceLT,zS,zu,zD,zE,zA,zB,Nat.le_refl,zT,zL,zk,zB,zA,qbz,N_eql,qaW,qbJ,Nat.reduceLT,Nat.reduceEqDiff,Nat.reduceAdd,zi,zL,zT,qce,zg,ze,qb9,qcg,op_slcS,slcV_none,qcn,qaI,qaZ,qaA,qa6,zk,qa9,qbo,qbE,qc1,qcl,qb7,qds,nms_fn,qaE,zY,zW,zx,z6,z0,qbQ,qba,za,zd,Nat.testBit,Nat.reduceShiftRight,Nat.reduceAnd,Nat.reduceBEq,ze,zg,zy,zU,zj,Nat.reduceSub,Nat.reduceLT,bne,qbg,qbG,qbS,qbp,qcP,qb0,qbY,zj,zU,qaU,qam,qam,qaU,L44b0,zi,hres,h2,hdb2,agg_Hf,nms_Hf,hs16,nms_fn1,qaQ]
    generalize hG2:upd (upd (upd (upd (upd (upd H (10,0) _) (11,0) _) (10,0) _) (11,0) _) (10,0) _) (11,0) _=G2
    have P2:PH G2 n la lb:=by rw[←hG2]; exact (((((P.up _ _ (by decide)).up _ _ (by decide)).up _ _ (by decide)).up _ _ (by decide)).up _ _ (by decide)).up _ _ (by decide)
    have q1:G2 (1,0)=some (bs (outI E (tw0 n lb u) d m)):=by rw[←hG2]; exact h1
    have qb:G2 (11,0)=some [B64 (lo (tw2 (tw0 n lb u) m true)),B64 (Xf.hi (tw2 (tw0 n lb u) m true))]:=by rw[←hG2]; rfl
    clear hG2 h1 h2 P H
    have hol:=outI_length E (tw0 n lb u) d m (by omega)
    have hre:qbL G2 FUEL [] [(0,1),(1,0)]=[(0,1),(0,2),(1,0)]:=by
      simp only[FUEL,qaz,qax,qaB,zI,zR,zQ,zW,zY,zF,zm,zn,zf,Nat.reduceEqDiff,zZ,zl,zE,zb,zh,KA_nms,qaP,P2.g1,P2.g2,q1]
    have K3:KG (only [(0,1),(0,2),(1,0)] G2) (0,1) (0,2) (n+2) none la:=⟨P2.g1,P2.g2,by decide⟩
    have hsn:snap (only [(0,1),(0,2),(1,0)] G2) D (.sl (1,0) (16*m) 16 none 1)=some (.isl (bs (blk d m)) 16,[(1,0)]):=by
      rw[snap_bytes (H:=only [(0,1),(0,2),(1,0)] G2) (1,0) (16*m) 16 none (outI E (tw0 n lb u) d m) q1 (by decide),outI_blk]
    rw[hre,c_with (k+4919) _ g n la E hE (tws (tw0 n lb u) (m+1)) _ (0,1) (0,2) (1,0) K3 _ (blk d m) (blk_length d m (by omega)) hsn ⟨by decide,by decide⟩,tr_KGn _ _ _ _ _ _ _ _ K3]
    obtain ⟨sto,hsto⟩:∃ sto,sto=stolen E (tw0 n lb u) d true m:=⟨_,rfl⟩
    rw[show aB 16 (wt E (tws (tw0 n lb u) (m+1)) (fl (blk d m)))=bs sto by rw[aB_bs,hsto]; rfl]
    have hsl:sto.length=16:=by rw[hsto,stolen,qdm]
    have hr16:d.length % 16≤16:=by omega
    simp (disch:=first|omega|decide|simp only[qaf,qad,qag,qae,qah,qac,qaa,qab,qai]) only[qat,qao,qan,qal,qak,qar,qay,qaJ,qaq,qaH,qaG,qa7,qa1,qaj,zM,zN,zO,zP,zG,zC,zV,zX,zI,zQ,zK,zJ,Nat.reduceAdd,Nat.reduceSub,za,zd,zU,Nat.reduceLT,zD,zA,zB,zT,zk,zB,zA,qbz,qbJ,Nat.reduceLT,Nat.reduceAdd,zT,zg,qb9,qdi,qcg,op_slcS,slcV_none,qcn,qaI,qaZ,qaA,zk,qa9,qbo,qb7,nms_fn,zY,zW,z6,z0,qbQ,qba,za,zd,Nat.testBit,Nat.reduceShiftRight,Nat.reduceAnd,Nat.reduceBEq,zg,zy,zU,Nat.reduceSub,Nat.reduceLT,bne,qbg,qbG,qbY,zU,qaU,qam,qam,qaU,hsr,qaQ]
    obtain ⟨rst,hrst⟩:∃ rst,rst=d.drop (16*m+16):=⟨_,rfl⟩
    have hrsl:rst.length=d.length % 16:=by rw[hrst,zzH]; omega
    generalize hG3:upd G2 (26,0) _=G3
    have P3:PH G3 n la lb:=by rw[←hG3]; exact P2.up _ _ (by decide)
    have r1:G3 (1,0)=some (bs (outI E (tw0 n lb u) d m)):=by rw[←hG3]; exact q1
    have rb:G3 (11,0)=some [B64 (lo (tw2 (tw0 n lb u) m true)),B64 (Xf.hi (tw2 (tw0 n lb u) m true))]:=by rw[←hG3]; exact qb
    have rs:G3 (26,0)=some (bs sto):=by rw[←hG3]; rfl
    clear hG3 q1 qb P2 hre K3 hsn G2
    have hre:qbL G3 FUEL [] [(1,0)]=[(1,0)]:=by
      simp only[FUEL,qaz,qax,qaB,zI,zQ,zW,zf,zE,qaP,r1]
    have hsn:snap (only [(1,0)] G3) D (.sl (1,0) (16*m+16) (d.length % 16) none 1)=some (.isl (bs rst) rst.length,[(1,0)]):=by
      rw[snap_bytes (H:=only [(1,0)] G3) (1,0) (16*m+16) (d.length % 16) none (outI E (tw0 n lb u) d m) r1 hr,outI_drop16,←hrst,List.take_of_length_le (by omega),hrsl]
    rw[hre,c_xclone (k+4994) _ _ _ rst [(1,0)] hsn (by omega) (by omega),hrsl]
    have hfk:qcG (d.length % 16) 1 (16 - d.length % 16) (some (bs sto))=some (bs (sto.drop (d.length % 16))):=by
      rw[qcG,if_pos (by rw[qad]; omega),bs_drop,qcF,List.take_of_length_le (by rw[zzH]; omega)]
    have e16:d.length % 16+(16 - d.length % 16)=16:=by omega
    have htk:rst.take (d.length % 16)=rst:=List.take_of_length_le (by omega)
    obtain ⟨las,hlas⟩:∃ las,las=rst++sto.drop (d.length % 16):=⟨_,rfl⟩
    have hlas':las=lastB E (tw0 n lb u) d true m:=by rw[hlas,hrst,hsto]; rfl
    have hlasl:las.length=16:=by rw[hlas,zzI,zzH]; omega
    simp (disch:=first|omega|decide|simp only[qaf,qad,qag,qae,qah,qac,qaa,qab,qai]) only[qat,qao,qan,qal,qak,qar,qay,qaJ,qaq,qaH,qa7,qa1,qaj,zM,zN,zO,zP,zG,zC,zV,zX,zI,zR,zQ,zK,zJ,Nat.reduceAdd,Nat.reduceSub,qap,qaR,qct,qbv,qco,agg_Hf,nms_Hf,zzE,zw,zzJ,za,zd,zU,zF,Nat.reduceEqDiff,Nat.reduceLT,zS,zD,zE,zA,zB,Nat.le_refl,zT,zL,zk,zB,zA,qbJ,Nat.reduceLT,Nat.reduceEqDiff,Nat.reduceAdd,zL,zT,qce,zg,ze,qb9,qch,qcA,qcB,qcC,appX_none,appN_bytes,qdi,qcg,op_slcS,slcV_none,slcV_cap,qcn,qaI,qaZ,qaA,qa6,zk,qa9,qbo,qbE,qc1,qb7,nms_fn,qaE,zY,zW,zx,z6,z0,qbQ,qba,za,zd,Nat.testBit,Nat.reduceShiftRight,Nat.reduceAnd,Nat.reduceBEq,ze,zg,zy,zU,zj,Nat.reduceSub,Nat.reduceLT,bne,qbg,qbG,qbS,qbp,qcP,qdc,qbY,zj,zU,qcL,qaU,qam,qdo,qam,qaU,rb,rs,hfk,e16,htk,←hlas,qaQ,nms_fn1,zR,zI,agg_Hf]
    generalize hG4:upd (upd (upd G3 (32,0) _) (32,0) _) (36,0) _=G4
    have P4:PH G4 n la lb:=by rw[←hG4]; exact ((P3.up _ _ (by decide)).up _ _ (by decide)).up _ _ (by decide)
    have s1:G4 (1,0)=some (bs (outI E (tw0 n lb u) d m)):=by rw[←hG4]; exact r1
    have ss:G4 (26,0)=some (bs sto):=by rw[←hG4]; exact rs
    have sl:G4 (36,0)=some (bs las):=by rw[←hG4]; rfl
    clear hG4 r1 rb rs P3 hre hsn G3
    have hre:qbL G4 FUEL [] [(0,1),(36,0)]=[(0,1),(0,2),(36,0)]:=by
      simp only[FUEL,qaz,qax,qaB,zI,zR,zQ,zW,zY,zF,zm,zn,zf,Nat.reduceEqDiff,zZ,zl,zE,zh,KA_nms,qaP,P4.g1,P4.g2,sl]
    have K4:KG (only [(0,1),(0,2),(36,0)] G4) (0,1) (0,2) (n+2) none la:=⟨P4.g1,P4.g2,by decide⟩
    have hsn:snap (only [(0,1),(0,2),(36,0)] G4) D (.sl (36,0) 0 16 none 1)=some (.isl (bs las) 16,[(36,0)]):=by
      rw[snap_bytes (H:=only [(0,1),(0,2),(36,0)] G4) (36,0) 0 16 none las sl (by decide),zw,List.take_of_length_le (by omega)]
    rw[hre,c_with (k+4919) _ g n la E hE (tw2 (tw0 n lb u) m true) _ (0,1) (0,2) (36,0) K4 _ las hlasl hsn ⟨by decide,by decide⟩,tr_KGn _ _ _ _ _ _ _ _ K4]
    simp (disch:=first|omega|decide|simp only[qaf,qad,qag,qae,qah,qac,qaa,qab,qai]) only[qar,qay,zM,zN,zO,zP,zC,zI,zR,Nat.reduceAdd,Nat.reduceSub,za,zd,zU,Nat.reduceLT,zD,zA,zT,zA,Nat.reduceLT,Nat.reduceAdd,zT,zg,ze,qch,op_copy,qaI,qaZ,qaA,qa9,qbo,touch_copy,zY,zW,zx,z6,z0,qbQ,qba,za,zd,Nat.testBit,Nat.reduceShiftRight,Nat.reduceAnd,Nat.reduceBEq,ze,zg,zy,zU,zj,Nat.reduceSub,Nat.reduceLT,bne,qbg,qbG,qbS,isCall_copy,zj,zU,qaU,qaU,qaQ]
    have i5:16≤d.length - 16*m:=by omega
    rw [cp_16 (only [(1, 0), (44, 0)] (upd G4 (44, 0) _)) (1, 0) (44, 0) (16 * m) (d.length - 16 * m) none (some 16) (outI E (tw0 n lb u) d m) (wt E (tw2 (tw0 n lb u) m true) (fl las)) s1 rfl (by omega) i5,
      show (List.range 16).map (wt E (tw2 (tw0 n lb u) m true) (fl las))=wtl E (tw2 (tw0 n lb u) m true) las from rfl,outI_drop16,←hrst]
    have hdn:(outI E (tw0 n lb u) d m).take (16*m)=done E (tw0 n lb u) d m:=by
      rw[outI,List.take_append,qdn,Nat.sub_self,zzA,zQ,List.take_of_length_le (by rw[qdn]; exact Nat.le_refl _)]
    rw[hdn]
    obtain ⟨L2,hL2⟩:∃ L2,L2=done E (tw0 n lb u) d m++wtl E (tw2 (tw0 n lb u) m true) las++rst:=⟨_,rfl⟩
    have hL2l:L2.length=d.length:=by rw[hL2,zzI,zzI,qdn,qdm]; omega
    have hL2t:L2.take (16*m+16)=done E (tw0 n lb u) d m++wtl E (tw2 (tw0 n lb u) m true) las:=by
      rw[hL2,List.take_append_of_le_length (by rw[zzI,qdn,qdm]; exact Nat.le_refl _),List.take_of_length_le (by rw[zzI,qdn,qdm]; exact Nat.le_refl _)]
    rw[←hL2]
    simp (disch:=first|omega|decide|simp only[qaf,qad,qag,qae,qah,qac,qaa,qab,qai]) only[qat,qao,qan,qal,qak,qar,qay,qaJ,qaq,qaH,qaG,qaj,zM,zN,zO,zP,zG,zC,zI,zR,zK,zJ,Nat.reduceAdd,Nat.reduceSub,za,zd,zU,Nat.reduceLT,zD,zA,zB,zT,zL,zk,zB,zA,qbz,qbJ,Nat.reduceLT,Nat.reduceAdd,zL,zT,qce,zg,qb9,qch,op_copy,qdi,qcg,op_slcS,slcV_none,slcV_cap,qcn,qaI,qaA,qa6,Nat.sub_zero,zk,qa9,qbo,touch_copy,zY,zW,zx,z6,z0,qbQ,qba,za,zd,Nat.testBit,Nat.reduceShiftRight,Nat.reduceAnd,Nat.reduceBEq,zg,zy,zU,zj,Nat.reduceSub,Nat.reduceLT,bne,qbg,qbG,qbS,isCall_copy,zj,zU,qaU,qam,qam,qaU,hsr,qaQ]
    rw[cp_r (only [(1,0),(26,0)] _) (1,0) (26,0) (16*m+16) (d.length % 16) none (some 16) L2 sto rfl (by exact ss) (by omega) (by omega) hr0,hL2t]
    have hfin:done E (tw0 n lb u) d m++wtl E (tw2 (tw0 n lb u) m true) las++sto.take (d.length % 16)=qb3 E (tw0 n lb u) d true:=by
      rw[qb3,if_neg hr,←hm',hlas',hsto]
    rw[hfin]
    simp (disch:=first|omega|decide|simp only[qaf,qad,qag,qae,qah,qac,qaa,qab,qai]) only[qbI,qat,qao,qan,qal,qak,qar,qay,qaH,qaj,qbr,qcI,zM,zN,zO,zP,zG,zC,zK,zJ,zH,Nat.reduceAdd,Nat.reduceSub,za,zd,zU,Nat.reduceLT,zD,zA,zB,zT,zB,zA,Nat.reduceLT,Nat.reduceAdd,zT,qce,zg,qaI,qaA,qa6,zH,zY,zW,zx,z6,z0,qbQ,qba,za,zd,Nat.testBit,Nat.reduceShiftRight,Nat.reduceAnd,Nat.reduceBEq,zg,zy,zU,Nat.reduceSub,Nat.reduceLT,bne,zU,qaU,qam,qam,qaU]
    rw[qdk 5 _ _ [(1,0)] (by simp only[qav,FUEL,qaz,qax,qaB,qaQ,zV,zX,zI,zR,zQ,zC,zG,zW,zY,zF,zm,zn,zf,Nat.reduceEqDiff,zS,zZ,zl,zzC,zD,zE,zb,zh,zq,zp,zo,ne_eq,zt,z9,qap,qbB,PO_nms,KA_nms,qaP,qaQ,P4.g0,P4.g1,P4.g2,P4.g3,P4.g4])]
    simp (disch:=first|omega|decide|simp only[qaf,qad,qag,qae,qah,qac,qaa,qab,qai]) only[zG,zC,zH,qap,zF,Nat.reduceEqDiff,zS,false_and,zD,zE,zA,zh,idx_cons,canonMap_ne,zzB,zH,qaK,List.filterMap_cons,qbq,qbK,qbB,PO_ren,KA_ren,qaK,qbq,P4.g0,P4.g1,P4.g2,P4.g3,P4.g4]
theorem run_F (k g n:Nat) (hn:n≤20) (la lb:List (BitVec 8)) (hlb:lb.length=16*(n+2)) (E:R→R) (hE:Way g n la E) (u:BitVec 64) (d:List (BitVec 8)) (h16:16≤d.length) (hd2:d.length≤65536) (tu:Bool) :
    F C (k+5000) 44 [.ptr (0,0) 0,B64 u,.isl (bs d) d.length,.fn (.func g) [.ptr (0,1) 0] [],Bo tu] [PO,KA 2 n,bs la,KA 4 n,bs lb] =
    some (.sl (1,0) 0 d.length none 1,[some PO,some (KA 2 n),some (bs la),some (KA 4 n),some (bs lb)],[bs (qb3 E (tw0 n lb u) d tu)]):=by
  by_cases hr:d.length % 16=0
  · exact run_whole k g n hn la lb hlb E hE u d h16 hd2 tu hr
  · cases tu
    · exact run_part_false k g n hn la lb hlb E hE u d h16 hd2 hr
    · exact run_part_true k g n hn la lb hlb E hE u d h16 hd2 hr
end Aes
namespace Aes
open Go Go.LE Xf
set_option maxRecDepth 20000
theorem call_gen (K b g:Nat) (H:Heap) (args args1 args':List LV) (ns lent:List Nm) (objs':List qaV) (res:CallRes) (hl:lend H (qcf g) 0 args=some (args1,lent)) (hr:qbL H FUEL [] (args1.flatMap (nms D))=ns)
    (hd:lent.any (fun n=>ns.contains n)=false) (ha:args1.map (ren D (qbx ns))=args') (ho:(ns.filterMap H).map (fun cs=>cs.map (ren D (qbx ns)))=objs') (hF:F C K g args' objs'=some res) (hp:plainRes res=true) :
    qbD (envC C K) H b g args=some (backTo ns b res):=by
  rw[callOp_L,envC_borrow,C_bor,hl,callL_some,hr,callN_eq _ _ _ _ _ hd,ha,ho,envC_cal,hF,resK_any _ _ _ _ hp]
structure XG (H:Heap) (p a ka b kb:Nm) (n:Nat) (la lb:List (BitVec 8)):Prop where
  hp:H p=some [.ptr a 0,.ptr b 0]
  ha:H a=some (CF (.sl ka 0 (n+2) none 16) TB)
  hka:H ka=some (bs la)
  hb:H b=some (CF (.sl kb 0 (n+2) none 16) TB)
  hkb:H kb=some (bs lb)
  nd:[p,a,ka,b,kb].Nodup
def modX (p a ka b kb:Nm) (n:Nat) (la lb:List (BitVec 8)):List (Nm × Option qaV) :=
  [(p,some [.ptr a 0,.ptr b 0]),(a,some (CF (.sl ka 0 (n+2) none 16) TB)),(ka,some (bs la)),(b,some (CF (.sl kb 0 (n+2) none 16) TB)),(kb,some (bs lb))]
theorem XG.same {H:Heap} {p a ka b kb:Nm} {n:Nat} {la lb:List (BitVec 8)} (h:XG H p a ka b kb n la lb):modN (modX p a ka b kb n la lb) H=H:=by
  simp only[modX,qa6,qaA,qbf h.hkb,qbf h.hb,qbf h.hka,qbf h.ha,qbf h.hp]
theorem XG.tr {H:Heap} {p a ka b kb:Nm} {n:Nat} {la lb:List (BitVec 8)} (h:XG H p a ka b kb n la lb) (v:LV) (news:List qaV):trimO true H (some ⟨v,news,modX p a ka b kb n la lb⟩)=some ⟨v,news,[]⟩:=by
  refine trimO_same _ _ _ _ fun q hm => ?_
  simp only[modX,List.mem_cons,List.not_mem_nil,zl] at hm
  rcases hm with rfl | rfl | rfl | rfl | rfl
  · simp only[h.hp,sameO]; simp[sameL,same1]
  · simp only[h.ha,sameO,same_CF]
  · simp only[h.hka,sameO,same_bs]
  · simp only[h.hb,sameO,same_CF]
  · simp only[h.hkb,sameO,same_bs]
theorem XG.ne {H:Heap} {p a ka b kb:Nm} {n:Nat} {la lb:List (BitVec 8)} (h:XG H p a ka b kb n la lb):(a≠p∧ka≠p∧b≠p∧kb≠p)∧(ka≠a∧b≠a∧kb≠a)∧(b≠ka∧kb≠ka)∧kb≠b:=by
  have:=h.nd
  simp only[List.nodup_cons,List.mem_cons,List.not_mem_nil,zl,not_or,List.nodup_nil,zt,zS] at this
  obtain ⟨⟨h1,h2,h3,h4⟩,⟨h5,h6,h7⟩,⟨h8,h9⟩,h10⟩:=this
  exact ⟨⟨fun e=>h1 e.symm,fun e=>h2 e.symm,fun e=>h3 e.symm,fun e=>h4 e.symm⟩,⟨fun e=>h5 e.symm,fun e=>h6 e.symm,fun e=>h7 e.symm⟩,⟨fun e=>h8 e.symm,fun e=>h9 e.symm⟩,fun e=>h10 e.symm⟩
theorem XG.reach {H:Heap} {p a ka b kb:Nm} {n:Nat} {la lb:List (BitVec 8)} (h:XG H p a ka b kb n la lb):qbL H FUEL [] [p]=[p,a,ka,b,kb]:=by
  obtain ⟨⟨h1,h2,h3,h4⟩,⟨h5,h6,h7⟩,⟨h8,h9⟩,h10⟩:=h.ne
  simp only[FUEL,qaz,zW,zf,zE,h.hp,qax,qaE,qbu,qaQ,qaP,zV,zX,zI,zR,zQ,zY,zm,h1,h2,h3,h4,h5,h6,h7,h8,h9,h10,z0,zn,or_self,h.ha,h.hka,h.hb,h.hkb,qaB]
theorem XG.reach2 {H:Heap} {p a ka b kb:Nm} {n:Nat} {la lb:List (BitVec 8)} (h:XG H p a ka b kb n la lb):Go.LE.qbL H FUEL [] [p,a]=[p,a,ka,b,kb]:=by
  obtain ⟨⟨h1,h2,h3,h4⟩,⟨h5,h6,h7⟩,⟨h8,h9⟩,h10⟩:=h.ne
  simp only[FUEL,qaz,zW,zf,zE,h.hp,qax,qaE,qbu,qaQ,qaP,zV,zX,zI,zR,zQ,zY,zm,h1,h2,h3,h4,h5,h6,h7,h8,h9,h10,z0,zn,or_self,h.ha,h.hka,h.hb,h.hkb,qaB,zx,z6,Bool.true_or,zD]
theorem XG.cee {H:Heap} {p a ka b kb:Nm} {n:Nat} {la lb:List (BitVec 8)} (h:XG H p a ka b kb n la lb):qbx [p,a,ka,b,kb] p=some (0,0)∧qbx [p,a,ka,b,kb] a=some (0,1)∧qbx [p,a,ka,b,kb] ka=some (0,2)∧qbx [p,a,ka,b,kb] b=some (0,3)∧qbx [p,a,ka,b,kb] kb=some (0,4):=by
  obtain ⟨⟨h1,h2,h3,h4⟩,⟨h5,h6,h7⟩,⟨h8,h9⟩,h10⟩:=h.ne
  refine ⟨?_,?_,?_,?_,?_⟩ <;> simp[qbx,idx,Ne.symm h1,Ne.symm h2,Ne.symm h3,Ne.symm h4,Ne.symm h5,Ne.symm h6,Ne.symm h7,Ne.symm h8,Ne.symm h9,Ne.symm h10]
theorem c_run (k g n base:Nat) (hn:n≤20) (H:Heap) (p a ka b kb:Nm) (la lb:List (BitVec 8)) (X:XG H p a ka b kb n la lb) (hlb:lb.length=16*(n+2)) (E:R→R) (hE:Way g n la E) (u:BitVec 64) (V:LV) (d:List (BitVec 8)) (lent:List Nm)
    (hs:snap H D V=some (.isl (bs d) d.length,lent)) (hx:∀ x ∈ lent,x ∉ [p,a,ka,b,kb]) (h16:16≤d.length) (hd2:d.length≤65536) (tu:Bool) :
    qbD (envC C (k+5000)) H base 44 [.ptr p 0,B64 u,V,.fn (.func g) [.ptr a 0] [],Bo tu]=some ⟨.sl (base,0) 0 d.length none 1,[bs (qb3 E (tw0 n lb u) d tu)],modX p a ka b kb n la lb⟩:=by
  obtain ⟨c0,c1,c2,c3,c4⟩:=X.cee
  have hl:lend H (qcf 44) 0 [.ptr p 0,B64 u,V,.fn (.func g) [.ptr a 0] [],Bo tu]=some ([.ptr p 0,B64 u,.isl (bs d) d.length,.fn (.func g) [.ptr a 0] [],Bo tu],lent):=by
    rw[qdq,qdq,qdq,qdq,qdq,lend_nil,if_neg (show ¬ qcf 44 0=true by decide),if_neg (show ¬ qcf 44 (0+1)=true by decide),if_pos (show qcf 44 (0+1+1)=true by decide),if_neg (show ¬ qcf 44 (0+1+1+1)=true by decide),if_neg (show ¬ qcf 44 (0+1+1+1+1)=true by decide),hs,qde,qde,qde,qde,qde]
    simp
  have hr:Go.LE.qbL H FUEL [] (([.ptr p 0,B64 u,.isl (bs d) d.length,.fn (.func g) [.ptr a 0] [],Bo tu]:List LV).flatMap (nms D))=[p,a,ka,b,kb]:=by
    have e:([.ptr p 0,B64 u,.isl (bs d) d.length,.fn (.func g) [.ptr a 0] [],Bo tu]:List LV).flatMap (nms D)=[p,a]:=by
      simp only[zV,zX,qbw,zQ,nms_fn1,qaE,qbR,qci,zI,zR]
    rw[e,X.reach2]
  have hd:lent.any (fun n=>[p,a,ka,b,kb].contains n)=false:=by
    rw[List.any_eq_false]; intro x h; have:=hx x h; simpa using this
  have ha:([.ptr p 0,B64 u,.isl (bs d) d.length,.fn (.func g) [.ptr a 0] [],Bo tu]:List LV).map (ren D (qbx [p,a,ka,b,kb]))=[.ptr (0,0) 0,B64 u,.isl (bs d) d.length,.fn (.func g) [.ptr (0,1) 0] [],Bo tu]:=by
    have e:ren 7 (qbx [p,a,ka,b,kb]) (.ptr a 0) = .ptr (0,1) 0:=by
      show (match (qbx [p,a,ka,b,kb] a) with | some n=>LV.ptr n 0 | none=>_)=_
      rw[c1]
    simp only[zG,zC,qb2,c0,qcE,ren_fn1,e,qcu,ren_Bo,qbO]
  have ho:([p,a,ka,b,kb].filterMap H).map (fun cs=>cs.map (ren D (qbx [p,a,ka,b,kb])))=[PO,KA 2 n,bs la,KA 4 n,bs lb]:=by
    simp only[List.filterMap_cons,zzB,X.hp,X.ha,X.hka,X.hb,X.hkb,zG,zC,qb2,c1,c3,qcE,qbt,qbq,c2,c4,qbK,qaK,PO,KA]
  have hp:plainRes (.sl (1,0) 0 d.length none 1,[some PO,some (KA 2 n),some (bs la),some (KA 4 n),some (bs lb)],[bs (qb3 E (tw0 n lb u) d tu)])=true:=by
    simp only[plainRes,zd,za,noImm_bs,KA,noImm_CF]; rfl
  rw[call_gen _ base 44 H _ _ _ _ _ _ _ hl hr hd ha ho (run_F k g n hn la lb hlb E hE u d h16 hd2 tu) hp,qdp]
  simp only[PO,KA,modX,List.zipWith_cons_cons,List.zipWith_nil_left,zH,zG,zC,qb2,qbq,qbt,qaK,toCaller_0,toCaller_1,List.getElem?_cons_zero,List.getElem?_cons_succ,qcE,qbK,zK,zJ,zA,Nat.lt_one_iff]
end Aes
namespace Aes
open Go Go.LE Xf
set_option maxRecDepth 20000
theorem qaw {H:Heap} {f:Nat} {seen:List Nm} {n:Nm} {todo:List Nm} {cs:qaV} {ns:List Nm} (hs:seen.contains n=false) (hH:H n=some cs) (hN:cs.flatMap (nms D)=ns):qbL H (f+1) seen (n::todo)=qbL H f (seen++[n]) (ns++todo):=by
  rw[qaz,hs,hH,qax,hN]; rfl
theorem qbi {H:Heap} {f:Nat} {seen:List Nm} {n:Nm} {todo:List Nm} (hs:seen.contains n=true):qbL H (f+1) seen (n::todo)=qbL H f seen todo:=by
  rw[qaz,hs]; rfl
theorem canon_of {H:Heap} {np:Nat} {ret:LV} {l ns names:List Nm} (hl:(List.range np).map (fun i=>(0,i))++[ret].flatMap (nms D)=l) (h:qbL H FUEL [] l=ns) (hf:ns.filter (fun n=>n.1 != 0)=names):qav H np [ret]=names:=by
  rw[qav,hl,h,hf]
theorem out_fin {np:Nat} {st:St} {ret:LV} {names:List Nm} {o:CallRes} (h:qav st.H np [ret]=names)
    (e:(ren D (qdg names) ret,(List.range np).map (fun i=>(st.H (0,i)).map fun cs=>cs.map (ren D (qdg names))),(names.filterMap st.H).map fun cs=>cs.map (ren D (qdg names)))=o):some (outOf np st ret)=some o:=by
  rw[qdk np st ret names h,e]
theorem dn (d:List (BitVec 8)) {n:Nat}:([.isl (bs d) n]:qaV).flatMap (nms D)=[]:=by
  rw[zV,qbw]; rfl
theorem callV_fn3 {E:Env} {H:Heap} {b:Nat} (g:FuncId) (x y z:LV):callV E H b [] (.fn (.func g) [] [x,y,z])=qbD E H b g [x,y,z]:=by simp[callV]
theorem call_gen0 (K b g:Nat) (hg:qcf g=fun _=>false) (H:Heap) (args args':List LV) (l ns:List Nm) (objs':List qaV) (res:CallRes) (hn:args.flatMap (nms D)=l) (hr:qbL H FUEL [] l=ns)
    (ha:args.map (ren D (qbx ns))=args') (ho:(ns.filterMap H).map (fun cs=>cs.map (ren D (qbx ns)))=objs') (hF:F C K g args' objs'=some res) :
    qbD (envC C K) H b g args=some (backTo ns b res):=by
  rw[callOp_L,envC_borrow,C_bor,hg,lend_none,callL_some,hn,hr,callN_eq _ _ _ _ _ rfl,ha,ho,envC_cal,hF]; rfl
theorem op_fn {E:Env} {tm:List LV} {H:Heap} {b:Nat} (f:Fn) (xs ys:List LX):opRes E tm H b (.fn f xs ys)=some ⟨.fn f (xs.map (evX E.gl tm)) (ys.map (evX E.gl tm)),[],[]⟩:=rfl
theorem range_6:List.range 6=[0,1,2,3,4,5]:=rfl
theorem range_8:List.range 8=[0,1,2,3,4,5,6,7]:=rfl
theorem range_9:List.range 9=[0,1,2,3,4,5,6,7,8]:=rfl
theorem fn3_nms (g:FuncId) (a b c:Nm):nms D (.fn (.func g) [] [.ptr a 0,.ptr b 0,.ptr c 0])=[a,b,c]:=rfl
theorem clo43I_F (k n:Nat) (hn:n≤20) (la lb:List (BitVec 8)) (hla:la.length=16*(n+2)) (hlb:lb.length=16*(n+2)) (u:BitVec 64) (d:List (BitVec 8)) (h16:16≤d.length) (hd2:d.length≤65536) :
    F C (k+5001) 43 [.ptr (0,0) 0,.ptr (0,6) 0,.ptr (0,7) 0] [[.ptr (0,1) 0],[.ptr (0,2) 0,.ptr (0,4) 0],CF (.sl (0,3) 0 (n+2) none 16) TB,bs la,CF (.sl (0,5) 0 (n+2) none 16) TB,bs lb,[B64 u],[.isl (bs d) d.length]]=some (.sl (1,0) 0 d.length none 1,[some ([.ptr (0,1) 0]),some ([.ptr (0,2) 0,.ptr (0,4) 0]),some (CF (.sl (0,3) 0 (n+2) none 16) TB),some (bs la),some (CF (.sl (0,5) 0 (n+2) none 16) TB),some (bs lb),some ([B64 u]),some ([.isl (bs d) d.length])],[bs (qb3 (enc (kf la) n) (tw0 n lb u) d false)]):=by
  rw[qbT f43]
  generalize hG:qb4 [[.ptr (0,1) 0],[.ptr (0,2) 0,.ptr (0,4) 0],CF (.sl (0,3) 0 (n+2) none 16) TB,bs la,CF (.sl (0,5) 0 (n+2) none 16) TB,bs lb,[B64 u],[.isl (bs d) d.length]]=G
  have x00:G (0,0)=some ([.ptr (0,1) 0]):=by rw[←hG]; rfl
  have x01:G (0,1)=some ([.ptr (0,2) 0,.ptr (0,4) 0]):=by rw[←hG]; rfl
  have x02:G (0,2)=some (CF (.sl (0,3) 0 (n+2) none 16) TB):=by rw[←hG]; rfl
  have x03:G (0,3)=some (bs la):=by rw[←hG]; rfl
  have x04:G (0,4)=some (CF (.sl (0,5) 0 (n+2) none 16) TB):=by rw[←hG]; rfl
  have x05:G (0,5)=some (bs lb):=by rw[←hG]; rfl
  have x06:G (0,6)=some ([B64 u]):=by rw[←hG]; rfl
  have x07:G (0,7)=some ([.isl (bs d) d.length]):=by rw[←hG]; rfl
  have X:XG G (0,1) (0,2) (0,3) (0,4) (0,5) n la lb:=⟨x01,x02,x03,x04,x05,by decide⟩
  have X':XG (only [(0,1),(0,2),(0,3),(0,4),(0,5)] G) (0,1) (0,2) (0,3) (0,4) (0,5) n la lb:=⟨x01,x02,x03,x04,x05,by decide⟩
  have hre:qbL G FUEL [] [(0,1),(0,2)]=[(0,1),(0,2),(0,3),(0,4),(0,5)]:=(qaw rfl x01 rfl).trans ((qaw rfl x02 (qbu _ _)).trans ((qaw rfl x03 (qaP _)).trans ((qaw rfl x04 (qbu _ _)).trans ((qaw rfl x05 (qaP _)).trans ((qbi rfl).trans (qaB _ _ _))))))
  have hc:∀ b,_:=fun b=>c_run k 17 n b hn (only [(0,1),(0,2),(0,3),(0,4),(0,5)] G) (0,1) (0,2) (0,3) (0,4) (0,5) la lb X' hlb (enc (kf la) n) (way_enc n hn la hla) u (.isl (bs d) d.length) d [] (snap_isl _ _) (by decide) h16 hd2 false
  have ht:∀ v news,_:=fun v news=>X'.tr v news
  simp (disch:=first|omega|decide|simp only[qaf,qad,qag,qae,qah,qac,qaa,qab,qai]) only[qbk,qbI,qat,qao,qan,qal,qak,qar,qay,qaJ,qaq,qaH,qa7,qa1,qaj,qbr,qcI,qbR,qci,zM,zN,zO,zP,zG,zC,zV,zX,zI,zR,zQ,qbd,z7,zK,zJ,zH,Nat.reduceAdd,Nat.reduceSub,qaR,qct,qbn,qbV,op_fa,qcy,zzE,zzA,zw,zzJ,za,zd,zU,Nat.reduceLeDiff,Nat.reduceLT,zD,zA,zB,Nat.le_refl,zT,zB,zA,Nat.reduceLT,Nat.reduceLeDiff,Nat.reduceAdd,zT,zg,ze,op_chk,qcq,qaI,qaZ,qaA,zH,qbw,qa9,qbo,qbE,qca,qb7,nms_fn,qaE,zY,zW,zx,z6,z0,qbQ,qba,za,zd,Nat.testBit,Nat.reduceShiftRight,Nat.reduceAnd,Nat.reduceBEq,ze,zg,zy,zU,zj,Nat.reduceSub,Nat.reduceLT,bne,qbg,qbG,qbp,qbZ,qbY,zj,zU,qaU,qam,qam,qaU,L43,hG,op_fn,x00,x01,x06,x07,nms_fn1,qbw,hre,hc,ht,zI,zR]
  generalize hQ:upd G (11,0) (some (bs (qb3 (enc (kf la) n) (tw0 n lb u) d false)))=Q
  have y00:Q (0,0)=some ([.ptr (0,1) 0]):=by rw[←hQ]; exact x00
  have y01:Q (0,1)=some ([.ptr (0,2) 0,.ptr (0,4) 0]):=by rw[←hQ]; exact x01
  have y02:Q (0,2)=some (CF (.sl (0,3) 0 (n+2) none 16) TB):=by rw[←hQ]; exact x02
  have y03:Q (0,3)=some (bs la):=by rw[←hQ]; exact x03
  have y04:Q (0,4)=some (CF (.sl (0,5) 0 (n+2) none 16) TB):=by rw[←hQ]; exact x04
  have y05:Q (0,5)=some (bs lb):=by rw[←hQ]; exact x05
  have y06:Q (0,6)=some ([B64 u]):=by rw[←hQ]; exact x06
  have y07:Q (0,7)=some ([.isl (bs d) d.length]):=by rw[←hQ]; exact x07
  have yn:Q (11,0)=some (bs (qb3 (enc (kf la) n) (tw0 n lb u) d false)):=by rw[←hQ]; rfl
  have hch:qbL Q FUEL [] [(0,0),(0,1),(0,2),(0,3),(0,4),(0,5),(0,6),(0,7),(11,0)]=[(0,0),(0,1),(0,2),(0,3),(0,4),(0,5),(0,6),(0,7),(11,0)]:=(qaw rfl y00 rfl).trans ((qaw rfl y01 rfl).trans ((qaw rfl y02 (qbu _ _)).trans ((qaw rfl y03 (qaP _)).trans ((qaw rfl y04 (qbu _ _)).trans ((qaw rfl y05 (qaP _)).trans ((qbi rfl).trans ((qbi rfl).trans ((qbi rfl).trans ((qbi rfl).trans ((qbi rfl).trans ((qaw rfl y06 rfl).trans ((qaw rfl y07 (dn _)).trans ((qaw rfl yn (qaP _)).trans (qaB _ _ _))))))))))))))
  have hcn:qav Q 8 [.sl (11,0) 0 d.length none 1]=[(11,0)]:=canon_of rfl hch rfl
  refine out_fin hcn ?_
  simp (disch:=first|omega|decide|simp only[qaf,qad,qag,qae,qah,qac,qaa,qab,qai]) only[qcu,zG,zC,zH,zD,zA,idx_cons,qcK,canonMap_ne,zzB,zH,qaK,qbO,List.filterMap_cons,qb2,qbq,qcE,qbK,range_8,qbt,qaK,qbO,qbq,qb2,qcu,y00,y01,y02,y03,y04,y05,y06,y07,yn]
theorem clo43S_F (k n:Nat) (hn:n≤20) (la lb:List (BitVec 8)) (hla:la.length=16*(n+2)) (hlb:lb.length=16*(n+2)) (u:BitVec 64) (d:List (BitVec 8)) (L:List (BitVec 8)) (off:Nat) (c:Option Nat) (hL:(L.drop off).take d.length=d) (h16:16≤d.length) (hd2:d.length≤65536) :
    F C (k+5001) 43 [.ptr (0,0) 0,.ptr (0,6) 0,.ptr (0,7) 0] [[.ptr (0,1) 0],[.ptr (0,2) 0,.ptr (0,4) 0],CF (.sl (0,3) 0 (n+2) none 16) TB,bs la,CF (.sl (0,5) 0 (n+2) none 16) TB,bs lb,[B64 u],[.sl (0,8) off d.length c 1],bs L]=some (.sl (1,0) 0 d.length none 1,[some ([.ptr (0,1) 0]),some ([.ptr (0,2) 0,.ptr (0,4) 0]),some (CF (.sl (0,3) 0 (n+2) none 16) TB),some (bs la),some (CF (.sl (0,5) 0 (n+2) none 16) TB),some (bs lb),some ([B64 u]),some ([.sl (0,8) off d.length c 1]),some (bs L)],[bs (qb3 (enc (kf la) n) (tw0 n lb u) d false)]):=by
  rw[qbT f43]
  generalize hG:qb4 [[.ptr (0,1) 0],[.ptr (0,2) 0,.ptr (0,4) 0],CF (.sl (0,3) 0 (n+2) none 16) TB,bs la,CF (.sl (0,5) 0 (n+2) none 16) TB,bs lb,[B64 u],[.sl (0,8) off d.length c 1],bs L]=G
  have x00:G (0,0)=some ([.ptr (0,1) 0]):=by rw[←hG]; rfl
  have x01:G (0,1)=some ([.ptr (0,2) 0,.ptr (0,4) 0]):=by rw[←hG]; rfl
  have x02:G (0,2)=some (CF (.sl (0,3) 0 (n+2) none 16) TB):=by rw[←hG]; rfl
  have x03:G (0,3)=some (bs la):=by rw[←hG]; rfl
  have x04:G (0,4)=some (CF (.sl (0,5) 0 (n+2) none 16) TB):=by rw[←hG]; rfl
  have x05:G (0,5)=some (bs lb):=by rw[←hG]; rfl
  have x06:G (0,6)=some ([B64 u]):=by rw[←hG]; rfl
  have x07:G (0,7)=some ([.sl (0,8) off d.length c 1]):=by rw[←hG]; rfl
  have x08:G (0,8)=some (bs L):=by rw[←hG]; rfl
  have X:XG G (0,1) (0,2) (0,3) (0,4) (0,5) n la lb:=⟨x01,x02,x03,x04,x05,by decide⟩
  have X':XG (only [(0,1),(0,2),(0,3),(0,4),(0,5),(0,8)] G) (0,1) (0,2) (0,3) (0,4) (0,5) n la lb:=⟨x01,x02,x03,x04,x05,by decide⟩
  have hre:qbL G FUEL [] [(0,1),(0,8),(0,2)]=[(0,1),(0,2),(0,3),(0,4),(0,5),(0,8)]:=(qaw rfl x01 rfl).trans ((qaw rfl x02 (qbu _ _)).trans ((qaw rfl x03 (qaP _)).trans ((qaw rfl x04 (qbu _ _)).trans ((qaw rfl x05 (qaP _)).trans ((qaw rfl x08 (qaP _)).trans ((qbi rfl).trans (qaB _ _ _)))))))
  have hc:∀ b,_:=fun b=>c_run k 17 n b hn (only [(0,1),(0,2),(0,3),(0,4),(0,5),(0,8)] G) (0,1) (0,2) (0,3) (0,4) (0,5) la lb X' hlb (enc (kf la) n) (way_enc n hn la hla) u (.sl (0,8) off d.length c 1) d [(0,8)] (by rw[snap_bytes (H:=only [(0,1),(0,2),(0,3),(0,4),(0,5),(0,8)] G) (0,8) off d.length c L x08 (by omega),hL]) (by decide) h16 hd2 false
  have ht:∀ v news,_:=fun v news=>X'.tr v news
  simp (disch:=first|omega|decide|simp only[qaf,qad,qag,qae,qah,qac,qaa,qab,qai]) only[qbk,qbI,qat,qao,qan,qal,qak,qar,qay,qaJ,qaq,qaH,qa7,qa1,qaj,qbr,qcI,qbR,qci,zM,zN,zO,zP,zG,zC,zV,zX,zI,zR,zQ,qbd,z7,zK,zJ,zH,Nat.reduceAdd,Nat.reduceSub,qaR,qct,qbn,qbV,op_fa,qcy,zzE,zzA,zw,zzJ,za,zd,zU,Nat.reduceLeDiff,Nat.reduceLT,zD,zA,zB,Nat.le_refl,zT,zB,zA,Nat.reduceLT,Nat.reduceLeDiff,Nat.reduceAdd,zT,zg,ze,op_chk,qcq,qaI,qaZ,qaA,zH,qa9,qbo,qbE,qca,qb7,nms_fn,qaE,zY,zW,zx,z6,z0,qbQ,qba,za,zd,Nat.testBit,Nat.reduceShiftRight,Nat.reduceAnd,Nat.reduceBEq,ze,zg,zy,zU,zj,Nat.reduceSub,Nat.reduceLT,bne,qbg,qbG,qbp,qbZ,qbY,zj,zU,qaU,qam,qam,qaU,L43,hG,op_fn,x00,x01,x06,x07,nms_fn1,qaQ,hre,hc,ht,zI,zR]
  generalize hQ:upd G (11,0) (some (bs (qb3 (enc (kf la) n) (tw0 n lb u) d false)))=Q
  have y00:Q (0,0)=some ([.ptr (0,1) 0]):=by rw[←hQ]; exact x00
  have y01:Q (0,1)=some ([.ptr (0,2) 0,.ptr (0,4) 0]):=by rw[←hQ]; exact x01
  have y02:Q (0,2)=some (CF (.sl (0,3) 0 (n+2) none 16) TB):=by rw[←hQ]; exact x02
  have y03:Q (0,3)=some (bs la):=by rw[←hQ]; exact x03
  have y04:Q (0,4)=some (CF (.sl (0,5) 0 (n+2) none 16) TB):=by rw[←hQ]; exact x04
  have y05:Q (0,5)=some (bs lb):=by rw[←hQ]; exact x05
  have y06:Q (0,6)=some ([B64 u]):=by rw[←hQ]; exact x06
  have y07:Q (0,7)=some ([.sl (0,8) off d.length c 1]):=by rw[←hQ]; exact x07
  have y08:Q (0,8)=some (bs L):=by rw[←hQ]; exact x08
  have yn:Q (11,0)=some (bs (qb3 (enc (kf la) n) (tw0 n lb u) d false)):=by rw[←hQ]; rfl
  have hch:qbL Q FUEL [] [(0,0),(0,1),(0,2),(0,3),(0,4),(0,5),(0,6),(0,7),(0,8),(11,0)]=[(0,0),(0,1),(0,2),(0,3),(0,4),(0,5),(0,6),(0,7),(0,8),(11,0)]:=(qaw rfl y00 rfl).trans ((qaw rfl y01 rfl).trans ((qaw rfl y02 (qbu _ _)).trans ((qaw rfl y03 (qaP _)).trans ((qaw rfl y04 (qbu _ _)).trans ((qaw rfl y05 (qaP _)).trans ((qbi rfl).trans ((qbi rfl).trans ((qbi rfl).trans ((qbi rfl).trans ((qbi rfl).trans ((qaw rfl y06 rfl).trans ((qaw rfl y07 rfl).trans ((qaw rfl y08 (qaP _)).trans ((qbi rfl).trans ((qaw rfl yn (qaP _)).trans (qaB _ _ _))))))))))))))))
  have hcn:qav Q 9 [.sl (11,0) 0 d.length none 1]=[(11,0)]:=canon_of rfl hch rfl
  refine out_fin hcn ?_
  simp (disch:=first|omega|decide|simp only[qaf,qad,qag,qae,qah,qac,qaa,qab,qai]) only[qcu,zG,zC,zH,zD,zA,idx_cons,qcK,canonMap_ne,zzB,zH,qaK,List.filterMap_cons,qb2,qbq,qcE,qbK,range_9,qbt,qaK,qbq,qb2,qcu,y00,y01,y02,y03,y04,y05,y06,y07,y08,yn]
theorem clo46S_F (k n:Nat) (hn:n≤20) (la lb:List (BitVec 8)) (hla:la.length=16*(n+2)) (hlb:lb.length=16*(n+2)) (u:BitVec 64) (d:List (BitVec 8)) (L:List (BitVec 8)) (off:Nat) (c:Option Nat) (hL:(L.drop off).take d.length=d) (h16:16≤d.length) (hd2:d.length≤65536) :
    F C (k+5001) 46 [.ptr (0,0) 0,.ptr (0,6) 0,.ptr (0,7) 0] [[.ptr (0,1) 0],[.ptr (0,2) 0,.ptr (0,4) 0],CF (.sl (0,3) 0 (n+2) none 16) TB,bs la,CF (.sl (0,5) 0 (n+2) none 16) TB,bs lb,[B64 u],[.sl (0,8) off d.length c 1],bs L]=some (.sl (1,0) 0 d.length none 1,[some ([.ptr (0,1) 0]),some ([.ptr (0,2) 0,.ptr (0,4) 0]),some (CF (.sl (0,3) 0 (n+2) none 16) TB),some (bs la),some (CF (.sl (0,5) 0 (n+2) none 16) TB),some (bs lb),some ([B64 u]),some ([.sl (0,8) off d.length c 1]),some (bs L)],[bs (qb3 (dec (kf la) n) (tw0 n lb u) d true)]):=by
  rw[qbT f46]
  generalize hG:qb4 [[.ptr (0,1) 0],[.ptr (0,2) 0,.ptr (0,4) 0],CF (.sl (0,3) 0 (n+2) none 16) TB,bs la,CF (.sl (0,5) 0 (n+2) none 16) TB,bs lb,[B64 u],[.sl (0,8) off d.length c 1],bs L]=G
  have x00:G (0,0)=some ([.ptr (0,1) 0]):=by rw[←hG]; rfl
  have x01:G (0,1)=some ([.ptr (0,2) 0,.ptr (0,4) 0]):=by rw[←hG]; rfl
  have x02:G (0,2)=some (CF (.sl (0,3) 0 (n+2) none 16) TB):=by rw[←hG]; rfl
  have x03:G (0,3)=some (bs la):=by rw[←hG]; rfl
  have x04:G (0,4)=some (CF (.sl (0,5) 0 (n+2) none 16) TB):=by rw[←hG]; rfl
  have x05:G (0,5)=some (bs lb):=by rw[←hG]; rfl
  have x06:G (0,6)=some ([B64 u]):=by rw[←hG]; rfl
  have x07:G (0,7)=some ([.sl (0,8) off d.length c 1]):=by rw[←hG]; rfl
  have x08:G (0,8)=some (bs L):=by rw[←hG]; rfl
  have X:XG G (0,1) (0,2) (0,3) (0,4) (0,5) n la lb:=⟨x01,x02,x03,x04,x05,by decide⟩
  have X':XG (only [(0,1),(0,2),(0,3),(0,4),(0,5),(0,8)] G) (0,1) (0,2) (0,3) (0,4) (0,5) n la lb:=⟨x01,x02,x03,x04,x05,by decide⟩
  have hre:qbL G FUEL [] [(0,1),(0,8),(0,2)]=[(0,1),(0,2),(0,3),(0,4),(0,5),(0,8)]:=(qaw rfl x01 rfl).trans ((qaw rfl x02 (qbu _ _)).trans ((qaw rfl x03 (qaP _)).trans ((qaw rfl x04 (qbu _ _)).trans ((qaw rfl x05 (qaP _)).trans ((qaw rfl x08 (qaP _)).trans ((qbi rfl).trans (qaB _ _ _)))))))
  have hc:∀ b,_:=fun b=>c_run k 19 n b hn (only [(0,1),(0,2),(0,3),(0,4),(0,5),(0,8)] G) (0,1) (0,2) (0,3) (0,4) (0,5) la lb X' hlb (dec (kf la) n) (way_dec n hn la hla) u (.sl (0,8) off d.length c 1) d [(0,8)] (by rw[snap_bytes (H:=only [(0,1),(0,2),(0,3),(0,4),(0,5),(0,8)] G) (0,8) off d.length c L x08 (by omega),hL]) (by decide) h16 hd2 true
  have ht:∀ v news,_:=fun v news=>X'.tr v news
  simp (disch:=first|omega|decide|simp only[qaf,qad,qag,qae,qah,qac,qaa,qab,qai]) only[qbk,qbI,qat,qao,qan,qal,qak,qar,qay,qaJ,qaq,qaH,qa7,qa1,qaj,qbr,qcI,qbR,qci,zM,zN,zO,zP,zG,zC,zV,zX,zI,zR,zQ,qbd,z7,zK,zJ,zH,Nat.reduceAdd,Nat.reduceSub,qaR,qct,qbn,qbV,op_fa,qcy,zzE,zzA,zw,zzJ,za,zd,zU,Nat.reduceLeDiff,Nat.reduceLT,zD,zA,zB,Nat.le_refl,zT,zB,zA,Nat.reduceLT,Nat.reduceLeDiff,Nat.reduceAdd,zT,zg,ze,op_chk,qcq,qaI,qaZ,qaA,zH,qa9,qbo,qbE,qca,qb7,nms_fn,qaE,zY,zW,zx,z6,z0,qbQ,qba,za,zd,Nat.testBit,Nat.reduceShiftRight,Nat.reduceAnd,Nat.reduceBEq,ze,zg,zy,zU,zj,Nat.reduceSub,Nat.reduceLT,bne,qbg,qbG,qbp,qbZ,qbY,zj,zU,qaU,qam,qam,qaU,L46,hG,op_fn,x00,x01,x06,x07,nms_fn1,qaQ,hre,hc,ht,zI,zR]
  generalize hQ:upd G (11,0) (some (bs (qb3 (dec (kf la) n) (tw0 n lb u) d true)))=Q
  have y00:Q (0,0)=some ([.ptr (0,1) 0]):=by rw[←hQ]; exact x00
  have y01:Q (0,1)=some ([.ptr (0,2) 0,.ptr (0,4) 0]):=by rw[←hQ]; exact x01
  have y02:Q (0,2)=some (CF (.sl (0,3) 0 (n+2) none 16) TB):=by rw[←hQ]; exact x02
  have y03:Q (0,3)=some (bs la):=by rw[←hQ]; exact x03
  have y04:Q (0,4)=some (CF (.sl (0,5) 0 (n+2) none 16) TB):=by rw[←hQ]; exact x04
  have y05:Q (0,5)=some (bs lb):=by rw[←hQ]; exact x05
  have y06:Q (0,6)=some ([B64 u]):=by rw[←hQ]; exact x06
  have y07:Q (0,7)=some ([.sl (0,8) off d.length c 1]):=by rw[←hQ]; exact x07
  have y08:Q (0,8)=some (bs L):=by rw[←hQ]; exact x08
  have yn:Q (11,0)=some (bs (qb3 (dec (kf la) n) (tw0 n lb u) d true)):=by rw[←hQ]; rfl
  have hch:qbL Q FUEL [] [(0,0),(0,1),(0,2),(0,3),(0,4),(0,5),(0,6),(0,7),(0,8),(11,0)]=[(0,0),(0,1),(0,2),(0,3),(0,4),(0,5),(0,6),(0,7),(0,8),(11,0)]:=(qaw rfl y00 rfl).trans ((qaw rfl y01 rfl).trans ((qaw rfl y02 (qbu _ _)).trans ((qaw rfl y03 (qaP _)).trans ((qaw rfl y04 (qbu _ _)).trans ((qaw rfl y05 (qaP _)).trans ((qbi rfl).trans ((qbi rfl).trans ((qbi rfl).trans ((qbi rfl).trans ((qbi rfl).trans ((qaw rfl y06 rfl).trans ((qaw rfl y07 rfl).trans ((qaw rfl y08 (qaP _)).trans ((qbi rfl).trans ((qaw rfl yn (qaP _)).trans (qaB _ _ _))))))))))))))))
  have hcn:qav Q 9 [.sl (11,0) 0 d.length none 1]=[(11,0)]:=canon_of rfl hch rfl
  refine out_fin hcn ?_
  simp (disch:=first|omega|decide|simp only[qaf,qad,qag,qae,qah,qac,qaa,qab,qai]) only[qcu,zG,zC,zH,zD,zA,idx_cons,qcK,canonMap_ne,zzB,zH,qaK,List.filterMap_cons,qb2,qbq,qcE,qbK,range_9,qbt,qaK,qbq,qb2,qcu,y00,y01,y02,y03,y04,y05,y06,y07,y08,yn]
end Aes
