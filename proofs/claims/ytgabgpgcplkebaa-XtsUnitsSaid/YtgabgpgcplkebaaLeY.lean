/- New's first loop: the key's words. -/
import Derived.Test.YtgabgpgcplkebaaLeX
set_option linter.unusedVariables false
set_option linter.unusedSimpArgs false
namespace Aes
open Go Go.LE
def w3J (n c:Nat) (key:List (BitVec 8)) (i:Nat) (st:St):Prop := ∃ (H:Heap),st=⟨[.isl (bs key) (4*n),.undef,.undef,.undef,.ptr (1,0) 0,.sl (1,1) 0 i (some c) 4,N (4*i),.undef,.undef,.undef,.undef,.undef,.undef,.undef,.undef,.undef,.undef,.undef,.undef,.undef,.undef,.undef,.undef,.undef,.undef,.undef,.undef,.undef,.undef,.undef,.undef,.undef,.undef,.undef,.undef,.undef,.undef,.undef,.undef,.undef,.undef,.undef,.undef,.undef,.undef,.undef,.undef,.undef,.undef,.undef,.undef,.undef,.undef,.undef,.undef,.undef,.undef,.undef,.undef,.undef,.undef,.undef,.undef,.undef,.undef,.undef,.undef,.undef,.undef,.undef,.undef,.undef,.undef,.undef,.undef,.undef,.undef,.undef,.undef,.undef,.undef,.undef,.undef,.undef,.undef,.undef,.undef,.undef,.undef,.undef,.undef,.undef,.undef,.undef,.undef,.undef,Un,Un,Un,Un,.undef,.undef,.undef,.undef,.undef,.undef,.undef,.undef,.undef,.undef,.undef,.undef,.undef,.undef,.undef,.undef,.undef,.undef,.undef,.undef,.undef,.undef,.undef,.undef,.undef,.undef,.undef,.undef,.undef,.undef,.undef,.undef,.undef,.undef,.undef,.undef,.undef,.undef,.undef,.undef,.undef,.undef,.undef,.undef,.undef,.undef,.undef,.undef,.undef,.undef,.undef,.undef],H,2,0⟩ ∧
  H (1,0)=some (CF Nil TB)∧H (1,1)=some (bs (key.take (4*i)++List.replicate (4*c - 4*i) 0#8))
theorem key4 (key:List (BitVec 8)) (i:Nat) (h:4*(i+1)≤key.length):ext4 (key.take (4*i)) (fun j=>key.getD (4*i+j) 0#8)=key.take (4*(i+1)):=by
  rw[show 4*(i+1)=4*i+4 by omega,List.take_add,ext4]
  congr 1
  apply List.ext_getElem
  · simp only[zK,zJ,zzL,zzH]; omega
  · intro j h1 h2
    simp only[zK,zJ] at h1
    have:j=0∨j=1∨j=2∨j=3:=by omega
    rcases this with rfl | rfl | rfl | rfl <;> simp only[List.getElem_cons_zero,List.getElem_cons_succ,List.getElem_take,List.getElem_drop,List.getD_eq_getElem?_getD] <;> rw[List.getElem?_eq_getElem (by omega),Option.getD_some]
theorem cellAt_w (H:Heap) (key:List (BitVec 8)) (i:Nat) (h:4*(i+1)≤key.length):cellAt H 4 (.ipt (List.take 4 (List.drop (4*i) (bs key))))=some (aB 4 fun j=>key.getD (4*i+j) 0#8):=by
  rw[bs_drop,qcF]
  have hl:((key.drop (4*i)).take 4).length=4:=by rw[zzL,zzH]; omega
  have e:bs ((key.drop (4*i)).take 4)=aB 4 fun j=>key.getD (4*i+j) 0#8:=by
    rw[bs_aB _ 4 hl]
    apply aB_ext
    intro j hj
    simp[List.getD_eq_getElem?_getD,List.getElem?_drop,hj]
  rw[e]
  rw[cellAt,if_pos (by rw[qcj]; exact Nat.le_refl 4),List.take_of_length_le (by rw[qcj]; exact Nat.le_refl 4)]
theorem fr_w (w:R):qcG 0 4 1 (some (aB 4 w))=some (aB 4 w):=rfl
theorem k3_round (k n c:Nat) (hc:n≤c) (hc2:c < 1048576) (key:List (BitVec 8)) (hk:key.length=4*n) (i:Nat) (hi:i < n) (st:St) (hJ:w3J n c key i st) :
    ∃ st1,ev (envC C k) k L12b3 st=some (.normal,st1)∧w3J n c key (i+1) (qcr L12k3 st1):=by
  obtain ⟨H,rfl,h0,h1⟩:=hJ
  have hlt:4*i < 4*n:=by omega
  have e4:4*i+4=4*(i+1):=by omega
  have hle:4*(i+1)≤4*n:=by omega
  have e5:4*(i+1) - 4*i=4:=by omega
  have e6:4*c - 4*i - 4=4*c - 4*(i+1):=by omega
  have hap:∀ (b:Nat) (x:Option qaV),appX b 4 4 1 (upd H (14,0) x) [] (aB 4 fun j=>key.getD (4*i+j) 0#8) (.sl (1,1) 0 i (some c) 4)=some ⟨.sl (1,1) 0 (i+1) (some c) 4,[],[((1,1),some (bs (key.take (4*(i+1))++List.replicate (4*c - 4*(i+1)) 0#8)))]⟩:=by
    intro b x
    rw[app4_room b i c _ (upd H (14,0) x) (1,1) _ _ h1 (by rw[zzL]; omega) (by omega) (by omega) (by omega),key4 key i (by omega),e6]
  simp (disch:=first|omega|decide|simp only[qaf,qad,qag,qae,qah,qac,qaa,qab,qai]) only[qbh,qat,qaX,qao,qan,qal,qak,qar,qay,qaJ,qaq,qaH,qaG,qaj,qaY,qaD,qa3,zM,zN,zO,zP,zG,zC,zI,zQ,zK,zJ,Nat.reduceAdd,qap,qa5,qbv,qco,qb6,qcZ,qcR,qbC,zzA,zzD,zzG,zu,zD,zA,zB,Nat.le_refl,zT,qcj,zk,zB,zA,qbz,qaW,qbJ,Nat.reduceAdd,zT,qcm,qbA,qcT,qch,qcA,qcB,qcC,qcg,op_slcS,slcV_isl,qcn,op_arrp,arrpV_isl,qdd,qcX,qaI,qaZ,qaA,qa6,zk,qcL,qam,qam,L12b3,hlt,e4,e5,cellAt_w H key i (by omega),fr_w,hap]
  apply Exists.intro
  apply And.intro
  · rfl
  · refine qaT [(1, 0), (1, 1)] rfl (by simp only [qav, FUEL, qaz, qax, qaB, qaE, qaQ, qcM, qaO, zV, zX, zI, zR, zQ, zz, zC, zW, zY, zF, zm, zn, zf, Nat.reduceEqDiff, zS, zZ, zl, zD, zE, zb, zh, zq, zp, zo, ne_eq, zt, qap, qaN, qaL, qaC, qbb, qbj, L12k3, qbu, qbj, qaP, qbw, h0, h1]) (by simp only [zC, zG, qaN, qaL, qaC, L12k3, zG, zC, qbO]; rfl) ⟨_, rfl, ?_, ?_⟩
    · exact qau (1,0) rfl (by simp (disch:=first|omega|decide|simp only[qaf,qad,qag,qae,qah,qac,qaa,qab,qai]) only[qap,zF,Nat.reduceEqDiff,zS,zZ,zE,zh,h0]) (by rw[qbt,qcD])
    · exact qau (1,1) rfl (by simp (disch:=first|omega|decide|simp only[qaf,qad,qag,qae,qah,qac,qaa,qab,qai]) only[qap,zF,Nat.reduceEqDiff,zu,zD,zE,zb,h1]) (qaK _ _)
end Aes
namespace Aes
open Go Go.LE
theorem wcell (ws:List (BitVec 8)) (z i o:Nat) (ho:o=i*4) (h:4*(i+1)≤ws.length):cellK o 4 (some (bs (ws++List.replicate z 0#8)))=some (aB 4 (wd ws i)):=by
  subst ho
  rw[bs_cells _ _ 4 (by rw[zzI]; omega),bs_aB _ 4 (by rw[zzL,zzH,zzI]; omega)]
  congr 1
  apply aB_ext
  intro j hj
  have h1:i*4+j < ws.length:=by omega
  simp only[wd,List.getD_eq_getElem?_getD,List.getElem?_take,List.getElem?_drop,hj,zD]
  rw[List.getElem?_append_left h1,Nat.mul_comm]
def w2J (n c:Nat) (key:List (BitVec 8)) (m:Nat) (st:St):Prop := ∃ (H:Heap) (a b d e:LV),Pl [a,b,d,e] ∧
  st=⟨[.undef,.undef,.undef,.undef,.ptr (1,0) 0,.sl (1,1) 0 (n+m) (some c) 4,.undef,N n,N (n+6),N (n+m),B8 (KS n key m).2,.undef,.undef,.undef,.undef,.undef,.undef,.undef,.undef,.undef,.undef,.undef,.undef,.undef,.undef,.undef,.undef,.undef,.undef,.undef,.undef,.undef,.undef,.undef,.undef,.undef,.undef,.undef,.undef,.undef,.undef,.undef,.undef,.undef,.undef,.undef,.undef,.undef,.undef,.undef,.undef,.undef,.undef,.undef,.undef,.undef,.undef,.undef,.undef,.undef,.undef,.undef,.undef,.undef,.undef,.undef,.undef,.undef,.undef,.undef,.undef,.undef,.undef,.undef,.undef,.undef,.undef,.undef,.undef,.undef,.undef,.undef,.undef,.undef,.undef,.undef,.undef,.undef,.undef,.undef,.undef,.undef,.undef,.undef,.undef,.undef,a,b,d,e,.undef,.undef,.undef,.undef,.undef,.undef,.undef,.undef,.undef,.undef,.undef,.undef,.undef,.undef,.undef,.undef,.undef,.undef,.undef,.undef,.undef,.undef,.undef,.undef,.undef,.undef,.undef,.undef,.undef,.undef,.undef,.undef,.undef,.undef,.undef,.undef,.undef,.undef,.undef,.undef,.undef,.undef,.undef,.undef,.undef,.undef,.undef,.undef,.undef,.undef,.undef,.undef],H,2,0⟩ ∧
  H (1,0)=some (CF Nil TB)∧H (1,1)=some (bs ((KS n key m).1++List.replicate (4*c - 4*(n+m)) 0#8))
theorem c_boxed (k b:Nat) (H:Heap) (fN:Nm) (w:R) (h:H fN=some (CF Nil TB)):qbD (envC C (k+1)) H b 29 [.ptr fN 0,.agg (aB 4 w)]=some ⟨.agg (aB 4 fun j=>BX (w j).toNat),[],[(fN,some (CF Nil TB))]⟩ :=
  call0 _ b 29 l29 H fN _ _ h _ (Pl.pa 4 w Pl.e) _ (fun π=>qbN 4 _ π) (boxed_F k w)
theorem c_plus (k b:Nat) (H:Heap) (x y:R):qbD (envC C (k+1)) H b 30 [.agg (aB 4 x),.agg (aB 4 y)]=some ⟨.agg (aB 4 fun j=>x j ^^^ y j),[],[]⟩:=by
  rw[qda l30 (by simp only[zV,zX,qbe,zQ]) (by simp only[zG,zC,qbN]),plus_F,aB_calK]
theorem k2_roundC (k n c:Nat) (hn:n=4∨n=8) (hc:4*n+28≤c) (hc2:c < 1048576) (key:List (BitVec 8)) (hk:key.length=4*n) (m:Nat) (hm:m < 3*n+28) (h4:(n+m) % n≠0) (h8:¬ n=8) (st:St) (hJ:w2J n c key m st) :
    ∃ st1,ev (envC C (k+1)) (k+1) L12b2 st=some (.normal,st1)∧w2J n c key (m+1) (qcr L12k2 st1):=by
  obtain ⟨H,a,b,d,e,hp,rfl,h0,h1⟩:=hJ
  have hl:=KS_length n key hk m
  have hlt:n+m < 4*(n+6+1):=by omega
  have i1:(n+m - 1)*4+4≤(KS n key m).1.length:=by omega
  have hw:=wcell (KS n key m).1 (4*c - 4*(n+m)) (n+m - 1) ((n+m - 1)*4) rfl (by omega)
  have hw2:=wcell (KS n key m).1 (4*c - 4*(n+m)) m (m*4) rfl (by omega)
  have e1:n+m - n=m:=by omega
  have hpos:0 < n:=by omega
  have hi1:n+m - 1 < n+m:=by omega
  have hi2:m < n+m:=by omega
  simp (disch:=first|omega|decide|simp only[qaf,qad,qag,qae,qah,qac,qaa,qab,qai]) only[qbh,qat,qaX,qao,qan,qal,qak,qbm,guardK_false,qar,qbc,qay,qaJ,qaq,qcd,qaH,qcx,qaG,qa7,qa1,qaj,qaY,qaD,qa3,qas,zM,zN,zO,zP,zG,zC,zV,zX,zI,zR,zQ,zK,zJ,Nat.reduceAdd,Nat.reduceSub,qap,qa5,qaR,qbv,qco,qcO,qbF,qbl,qdh,qb6,qcZ,qcR,qbC,zzA,zzD,zzG,za,zd,zU,zF,Nat.reduceEqDiff,Nat.reduceLT,zS,zu,zD,zE,zA,zB,Nat.le_refl,zT,zL,zb,qcj,qcb,qbe,qae,zB,zA,qbz,N_sub,N_mul,N_rem,N_eql,qaW,qbJ,Nat.reduceLT,Nat.reduceEqDiff,Nat.reduceAdd,zL,zT,qce,zg,ze,qch,qcA,qcB,qcC,op_iaS,qdf,qdd,qcX,qaI,qaZ,qaA,qa6,qa9,qbo,qbE,qc1,qb7,qds,nms_fn,qaE,zY,zW,zx,z6,z0,qbQ,qba,za,zd,Nat.testBit,Nat.reduceShiftRight,Nat.reduceAnd,Nat.reduceBEq,ze,zg,zy,zU,zj,Nat.reduceSub,Nat.reduceLT,bne,qbg,qbG,qbS,qbp,qcP,qdc,qbY,zj,zU,qcL,qaU,qam,qdo,qam,L12b2,h1,hlt,hw,hw2,e1,h4,h8,c_plus,qaQ,zR,zI,fr_w]
  generalize hG:upd (upd (upd H (12,0) _) (12,0) _) (37,0) _=G
  have g0:G (1,0)=some (CF Nil TB):=by rw[←hG]; exact h0
  have g1:G (1,1)=some (bs ((KS n key m).1++List.replicate (4*c - 4*(n+m)) 0#8)):=by rw[←hG]; exact h1
  have hx:KS n key (m+1)=(ext4 (KS n key m).1 (fun j=>wd (KS n key m).1 (n+m - 1) j ^^^ wd (KS n key m).1 m j),(KS n key m).2):=by
    have hn:nwd n (KS n key m).2 (n+m) (KS n key m).1=fun j=>wd (KS n key m).1 (n+m - 1) j ^^^ wd (KS n key m).1 m j:=by
      funext j
      simp only[nwd,tw,if_neg h4,if_neg (fun h:n=8∧(n+m) % 8=4=>h8 h.1),e1]
    rw[KS,kstep,if_neg h4,hn]
  have e6:4*c - 4*(n+m) - 4=4*c - 4*(n+(m+1)):=by omega
  have hap:∀ b,appX b 4 4 1 (only [(1,1),(37,0)] G) [] (aB 4 fun j=>wd (KS n key m).1 (n+m - 1) j ^^^ wd (KS n key m).1 m j) (.sl (1,1) 0 (n+m) (some c) 4)=some ⟨.sl (1,1) 0 (n+m+1) (some c) 4,[],[((1,1),some (bs ((KS n key (m+1)).1++List.replicate (4*c - 4*(n+(m+1))) 0#8)))]⟩:=by
    intro b
    rw[app4_room b (n+m) c _ (only [(1,1),(37,0)] G) (1,1) _ _ g1 hl (by omega) (by omega) (by omega),hx,e6]
  simp (disch:=first|omega|decide|simp only[qaf,qad,qag,qae,qah,qac,qaa,qab,qai]) only[qao,qan,qal,qak,qar,qay,qaJ,qaq,qaH,qaG,qaj,qaY,zM,zN,zO,zP,zG,zC,zK,zJ,Nat.reduceAdd,Nat.reduceSub,za,zd,zU,Nat.reduceLT,zD,zA,zB,zT,zL,zB,zA,qbz,Nat.reduceLT,Nat.reduceAdd,zL,zT,qce,zg,ze,qaI,qaA,qa6,zY,zW,zx,z6,z0,qbQ,qba,za,zd,Nat.testBit,Nat.reduceShiftRight,Nat.reduceAnd,Nat.reduceBEq,ze,zg,zy,zU,zj,Nat.reduceSub,Nat.reduceLT,bne,zj,zU,qaU,qam,qam,qaU,hap]
  have hx2:(KS n key (m+1)).2=(KS n key m).2:=by rw[hx]
  refine ⟨_,rfl,?_⟩
  refine qaT [(1,0),(1,1)] rfl (by simp only[qav,FUEL,qaz,qax,qaB,qaE,qaQ,qbU,qcM,qaO,zV,zX,zI,zR,zQ,zz,zC,zW,zY,zF,zm,zn,zf,zZ,zl,zD,zE,zb,zh,zq,zp,zo,ne_eq,zt,qap,qaN,qaL,qaC,qbb,qbj,L12k2,qbu,qbj,qaP,g0,g1]) rfl ⟨_,Un,Un,Un,Un,⟨rfl,fun _=>rfl⟩,by rw[hx2]; rfl,?_,?_⟩
  · exact qau (1,0) rfl (by simp (disch:=first|omega|decide|simp only[qaf,qad,qag,qae,qah,qac,qaa,qab,qai]) only[qap,zF,zZ,zE,zh,g0]) (by rw[qbt,qcD])
  · exact qau (1,1) rfl (by simp (disch:=first|omega|decide|simp only[qaf,qad,qag,qae,qah,qac,qaa,qab,qai]) only[qap,zD,g1]) (qaK _ _)
end Aes
namespace Aes
open Go Go.LE
theorem Pl4 {a b d e:LV} (h:Pl [a,b,d,e]):(nms D a=[]∧nms D b=[]∧nms D d=[]∧nms D e=[])∧(∀ π,ren D π a=a∧ren D π b=b∧ren D π d=d∧ren D π e=e):=by
  obtain ⟨h1,h2⟩:=h
  simp only[zV,zX,List.append_eq_nil_iff,zQ] at h1
  refine ⟨h1,fun π => ?_⟩
  have:=h2 π
  simp only[zG,zC,List.cons.injEq,zS] at this
  exact this
theorem k2_roundA (k n c:Nat) (hn:n=4∨n=8) (hc:4*n+28≤c) (hc2:c < 1048576) (key:List (BitVec 8)) (hk:key.length=4*n) (m:Nat) (hm:m < 3*n+28) (h4:(n+m) % n=0) (st:St) (hJ:w2J n c key m st) :
    ∃ st1,ev (envC C (k+1)) (k+1) L12b2 st=some (.normal,st1)∧w2J n c key (m+1) (qcr L12k2 st1):=by
  obtain ⟨H,a,b,d,e,hp,rfl,h0,h1⟩:=hJ
  have hl:=KS_length n key hk m
  have hlt:n+m < 4*(n+6+1):=by omega
  have hw:=wcell (KS n key m).1 (4*c - 4*(n+m)) (n+m - 1) ((n+m - 1)*4) rfl (by omega)
  have hw2:=wcell (KS n key m).1 (4*c - 4*(n+m)) m (m*4) rfl (by omega)
  have e1:n+m - n=m:=by omega
  have hpos:0 < n:=by omega
  have hi1:n+m - 1 < n+m:=by omega
  have hi2:m < n+m:=by omega
  simp (disch:=first|omega|decide|simp only[qaf,qad,qag,qae,qah,qac,qaa,qab,qai]) only[qbh,qat,qaX,qao,qan,qal,qak,qar,qbc,qay,qaJ,qaq,qaH,qaG,qa7,qa1,qaj,qaD,qa3,zM,zN,zO,zP,zG,zC,zI,zR,zQ,zK,zJ,Nat.reduceAdd,qap,qa5,qb5,qaR,qbn,qbv,qbV,qco,qcO,qbF,qbl,qdh,op_iaA,iaV_lt,qb6,qcZ,qcR,aggR_some,op_build,qbC,zzE,zzA,zzD,zw,zzG,Nat.reduceLeDiff,zu,zD,zA,zB,Nat.le_refl,zT,qcj,aB_cell,qae,zk,zB,zA,qbz,N_sub,N_mul,N_rem,N_eql,qaW,qbJ,Nat.reduceLeDiff,Nat.reduceAdd,zT,op_iaS,qdf,qaI,qaZ,qaA,qa6,zk,qam,qam,L12b2,h1,hlt,hw,h4,zR,zI]
  have hlit:∀ g:R,[B8 (g 1),B8 (g 2),B8 (g 3),B8 (g 0)]=aB 4 fun j=>g ((j+1) % 4):=fun g=>rfl
  generalize hG:upd (upd H (12,0) _) (12,0) _=G
  have g0:G (1,0)=some (CF Nil TB):=by rw[←hG]; exact h0
  have g1:G (1,1)=some (bs ((KS n key m).1++List.replicate (4*c - 4*(n+m)) 0#8)):=by rw[←hG]; exact h1
  have g2:G (12,0)=some (aB 4 (wd (KS n key m).1 (n+m - 1))):=by rw[←hG]; rfl
  rw[hlit (wd (KS n key m).1 (n+m - 1)),c_boxed k _ G (1,0) _ g0]
  simp (disch:=first|omega|decide|simp only[qaf,qad,qag,qae,qah,qac,qaa,qab,qai]) only[qat,qao,qan,qal,qak,qar,qbc,qay,qaJ,qaq,qaH,qaG,qa7,qa1,qaj,qaY,zM,zN,zO,zP,zG,zC,zV,zX,zI,zR,zQ,zK,zJ,B8_xor,B8_nat,Nat.reduceAdd,Nat.reduceSub,qap,qa5,qb5,qaR,qbn,qbv,qbV,qco,qbF,qbl,op_fa,qcy,op_iaA,iaV_lt,qb6,qcZ,qcR,qbC,zzA,zzD,zzG,za,zd,zU,zF,Nat.reduceEqDiff,Nat.reduceLT,zS,zZ,zu,zD,zE,zA,zB,Nat.le_refl,zT,zb,Nat.reduceMod,qcj,aB_cell,qcb,aB_st,qcz,qbe,zk,zB,zA,B8_nat,N_sub,qbJ,Nat.reduceLT,Nat.reduceEqDiff,Nat.reduceAdd,Nat.reduceMod,zT,qce,zg,ze,op_chk,qcq,qch,qcA,qcB,qcC,op_iaS,qdf,qdd,qcX,qaI,qaZ,qaA,qa6,zk,qa9,qbo,qbE,qc1,qb7,qds,nms_fn,qaE,zY,zW,zx,z6,z0,qbQ,qba,za,zd,Nat.testBit,Nat.reduceShiftRight,Nat.reduceAnd,Nat.reduceBEq,ze,zg,zy,zU,zj,Nat.reduceSub,Nat.reduceLT,bne,qbg,qbG,qbS,qbp,qcP,qdc,qbY,zj,zU,qcL,qaU,qam,qdo,qam,qaU,g0,g1,g2,CT_2,hw2,e1,c_plus,qaQ,zR,zI,fr_w]
  have hfn:(fun j=>set1 (fun j=>BX (wd (KS n key m).1 (n+m - 1) ((j+1) % 4)).toNat) 0 (BX (wd (KS n key m).1 (n+m - 1) 1).toNat ^^^ (KS n key m).2) j ^^^ wd (KS n key m).1 m j)=nwd n (KS n key m).2 (n+m) (KS n key m).1:=by
    funext j
    simp only[nwd,tw,if_pos h4,set1,e1]
    by_cases hj:j=0
    · subst hj; rw[if_pos rfl,if_pos rfl]
    · rw[if_neg hj,if_neg hj,BitVec.xor_zero]
  rw[hfn]
  have hx:KS n key (m+1)=(ext4 (KS n key m).1 (nwd n (KS n key m).2 (n+m) (KS n key m).1),T2 (KS n key m).2):=by
    rw[KS,kstep,if_pos h4]
  have e6:4*c - 4*(n+m) - 4=4*c - 4*(n+(m+1)):=by omega
  have hap:∀ (b:Nat) (H':Heap),H' (1,1)=some (bs ((KS n key m).1++List.replicate (4*c - 4*(n+m)) 0#8))→appX b 4 4 1 H' [] (aB 4 (nwd n (KS n key m).2 (n+m) (KS n key m).1)) (.sl (1,1) 0 (n+m) (some c) 4)=some ⟨.sl (1,1) 0 (n+m+1) (some c) 4,[],[((1,1),some (bs ((KS n key (m+1)).1++List.replicate (4*c - 4*(n+(m+1))) 0#8)))]⟩:=by
    intro b H' h'
    rw[app4_room b (n+m) c _ H' (1,1) _ _ h' hl (by omega) (by omega) (by omega),hx,e6]
  generalize hG2:only [(1,1),(53,0)] _=G2
  have g1':G2 (1,1)=some (bs ((KS n key m).1++List.replicate (4*c - 4*(n+m)) 0#8)):=by rw[←hG2]; exact g1
  rw[hap _ G2 g1']
  clear hG2
  simp (disch:=first|omega|decide|simp only[qaf,qad,qag,qae,qah,qac,qaa,qab,qai]) only[qao,qan,qal,qak,qar,qay,qaJ,qaq,qaH,qaG,qaj,qaY,zM,zN,zO,zP,zG,zC,zK,zJ,Nat.reduceAdd,Nat.reduceSub,za,zd,zU,Nat.reduceLT,zD,zA,zB,zT,zL,zB,zA,qbz,Nat.reduceLT,Nat.reduceAdd,zL,zT,qce,zg,ze,qaI,qaA,qa6,zY,zW,zx,z6,z0,qbQ,qba,za,zd,Nat.testBit,Nat.reduceShiftRight,Nat.reduceAnd,Nat.reduceBEq,ze,zg,zy,zU,zj,Nat.reduceSub,Nat.reduceLT,bne,zj,zU,qaU,qam,qam,qaU]
  have hx2:(KS n key (m+1)).2=T2 (KS n key m).2:=by rw[hx]
  obtain ⟨⟨na,nb,nd,ne⟩,hr⟩:=Pl4 hp
  refine ⟨_,rfl,?_⟩
  refine qaT [(1,0),(1,1)] rfl (by simp only[qav,FUEL,qaz,qax,qaB,qaE,qaQ,qbU,qaO,zV,zX,zI,zR,zQ,zz,zC,zW,zY,zF,zm,zn,zf,Nat.reduceEqDiff,zS,zZ,zl,zD,zE,zb,zh,zq,zp,zo,ne_eq,zt,qap,qaN,qaL,qaC,qbb,qbj,L12k2,qbu,qbj,qaP,g0,g1,na,nb,nd,ne]) (by simp only[zC,zG,qaN,qaL,qaC,L12k2,zG,zC,hr]; rfl) ⟨_,a,b,d,e,hp,by rw[hx2]; rfl,?_,?_⟩
  · exact qau (1,0) rfl (by simp (disch:=first|omega|decide|simp only[qaf,qad,qag,qae,qah,qac,qaa,qab,qai]) only[qap,zF,Nat.reduceEqDiff,zS,zZ,zD,zE,zh,g0]) (by rw[qbt,qcD])
  · exact qau (1,1) rfl (by simp (disch:=first|omega|decide|simp only[qaf,qad,qag,qae,qah,qac,qaa,qab,qai]) only[qap,zF,Nat.reduceEqDiff,zZ,zu,zD,zE,zb,g1]) (qaK _ _)
end Aes
namespace Aes
open Go Go.LE
theorem k2_roundB (k c:Nat) (hc:60≤c) (hc2:c < 1048576) (key:List (BitVec 8)) (hk:key.length=4*8) (m:Nat) (hm:m < 3*8+28) (h4:(8+m) % 8≠0) (h8:(8+m) % 8=4) (st:St) (hJ:w2J 8 c key m st) :
    ∃ st1,ev (envC C (k+1)) (k+1) L12b2 st=some (.normal,st1)∧w2J 8 c key (m+1) (qcr L12k2 st1):=by
  obtain ⟨H,a,b,d,e,hp,rfl,h0,h1⟩:=hJ
  have hl:=KS_length 8 key hk m
  have hlt:8+m < 4*(8+6+1):=by omega
  have i1:(8+m - 1)*4+4≤(KS 8 key m).1.length:=by omega
  have hw:=wcell (KS 8 key m).1 (4*c - 4*(8+m)) (8+m - 1) ((8+m - 1)*4) rfl (by omega)
  have hw2:=wcell (KS 8 key m).1 (4*c - 4*(8+m)) m (m*4) rfl (by omega)
  have e1:8+m - 8=m:=by omega
  have hi1:8+m - 1 < 8+m:=by omega
  have hi2:m < 8+m:=by omega
  simp (disch:=first|omega|decide|simp only[qaf,qad,qag,qae,qah,qac,qaa,qab,qai]) only[qbh,qat,qaX,qao,qan,qal,qak,qbm,guardK_true,qar,qbc,qay,qaJ,qaq,qdv,qaH,qcx,qaG,qa7,qa1,qaj,qaD,qa3,qas,zM,zN,zO,zP,zG,zC,zI,zQ,zK,zJ,Nat.reduceAdd,qap,qa5,qaR,qbv,qco,qcO,qbF,qbl,qdh,qbC,zzA,zzD,zzG,Nat.reduceEqDiff,zu,zD,zA,zB,Nat.le_refl,zT,zL,qcj,qcb,qae,zB,zA,qbz,N_sub,N_mul,N_rem,N_eql,qaW,qbJ,Nat.reduceEqDiff,Nat.reduceMul,Nat.reduceAdd,zL,zT,op_iaS,qdf,qaI,qaZ,qaA,qa6,qam,qam,L12b2,h1,hlt,hw,h8,zI]
  generalize hG:upd (upd H (12,0) _) (12,0) _=G
  have g0:G (1,0)=some (CF Nil TB):=by rw[←hG]; exact h0
  have g1:G (1,1)=some (bs ((KS 8 key m).1++List.replicate (4*c - 4*(8+m)) 0#8)):=by rw[←hG]; exact h1
  have g2:G (12,0)=some (aB 4 (wd (KS 8 key m).1 (8+m - 1))):=by rw[←hG]; rfl
  rw[c_boxed k _ G (1,0) _ g0]
  simp (disch:=first|omega|decide|simp only[qaf,qad,qag,qae,qah,qac,qaa,qab,qai]) only[qao,qan,qal,qak,qar,qbc,qay,qaJ,qaq,qaH,qaG,qa7,qa1,qaj,qaY,zM,zN,zO,zP,zG,zC,zV,zX,zI,zR,zQ,zK,zJ,Nat.reduceAdd,Nat.reduceSub,qap,qa5,qaR,qbv,qco,qbF,qbl,qb6,qcZ,qcR,qbC,zzA,zzD,zzG,za,zd,zU,zF,Nat.reduceEqDiff,Nat.reduceLT,zS,zZ,zu,zD,zE,zA,zB,Nat.le_refl,zT,zb,qcj,qcb,qcz,qbe,zB,zA,N_sub,qbJ,Nat.reduceLT,Nat.reduceEqDiff,Nat.reduceAdd,zT,qce,zg,ze,qch,qcA,qcB,qcC,op_iaS,qdf,qdd,qcX,qaI,qaZ,qaA,qa6,qa9,qbo,qbE,qc1,qb7,qds,nms_fn,qaE,zY,zW,zx,z6,z0,qbQ,qba,za,zd,Nat.testBit,Nat.reduceShiftRight,Nat.reduceAnd,Nat.reduceBEq,ze,zg,zy,zU,zj,Nat.reduceSub,Nat.reduceLT,bne,qbg,qbG,qbS,qbp,qcP,qdc,qbY,zj,zU,qcL,qaU,qam,qdo,qam,qaU,g1,g2,hw2,e1,c_plus,qaQ,zR,zI,fr_w]
  have hfn:(fun j=>BX (wd (KS 8 key m).1 (8+m - 1) j).toNat ^^^ wd (KS 8 key m).1 m j)=nwd 8 (KS 8 key m).2 (8+m) (KS 8 key m).1:=by
    funext j
    simp only[nwd,tw,if_neg h4,if_pos (⟨trivial,h8⟩:True∧(8+m) % 8=4),e1]
  rw[hfn]
  have hx:KS 8 key (m+1)=(ext4 (KS 8 key m).1 (nwd 8 (KS 8 key m).2 (8+m) (KS 8 key m).1),(KS 8 key m).2):=by
    rw[KS,kstep,if_neg h4]
  have e6:4*c - 4*(8+m) - 4=4*c - 4*(8+(m+1)):=by omega
  have hap:∀ (b:Nat) (H':Heap),H' (1,1)=some (bs ((KS 8 key m).1++List.replicate (4*c - 4*(8+m)) 0#8))→appX b 4 4 1 H' [] (aB 4 (nwd 8 (KS 8 key m).2 (8+m) (KS 8 key m).1)) (.sl (1,1) 0 (8+m) (some c) 4)=some ⟨.sl (1,1) 0 (8+m+1) (some c) 4,[],[((1,1),some (bs ((KS 8 key (m+1)).1++List.replicate (4*c - 4*(8+(m+1))) 0#8)))]⟩:=by
    intro b H' h'
    rw[app4_room b (8+m) c _ H' (1,1) _ _ h' hl (by omega) (by omega) (by omega),hx,e6]
  generalize hG2:only [(1,1),(41,0)] _=G2
  have g1':G2 (1,1)=some (bs ((KS 8 key m).1++List.replicate (4*c - 4*(8+m)) 0#8)):=by rw[←hG2]; exact g1
  rw[hap _ G2 g1']
  clear hG2
  simp (disch:=first|omega|decide|simp only[qaf,qad,qag,qae,qah,qac,qaa,qab,qai]) only[qao,qan,qal,qak,qar,qay,qaJ,qaq,qaH,qaG,qaj,qaY,zM,zN,zO,zP,zG,zC,zK,zJ,Nat.reduceAdd,Nat.reduceSub,za,zd,zU,Nat.reduceLT,zD,zA,zB,zT,zL,zB,zA,qbz,Nat.reduceLT,Nat.reduceAdd,zL,zT,qce,zg,ze,qaI,qaA,qa6,zY,zW,zx,z6,z0,qbQ,qba,za,zd,Nat.testBit,Nat.reduceShiftRight,Nat.reduceAnd,Nat.reduceBEq,ze,zg,zy,zU,zj,Nat.reduceSub,Nat.reduceLT,bne,zj,zU,qaU,qam,qam,qaU]
  have hx2:(KS 8 key (m+1)).2=(KS 8 key m).2:=by rw[hx]
  refine ⟨_,rfl,?_⟩
  refine qaT [(1,0),(1,1)] rfl (by simp only[qav,FUEL,qaz,qax,qaB,qaE,qaQ,qbU,qci,qaO,zV,zX,zI,zR,zQ,zz,zC,zW,zY,zF,zm,zn,zf,Nat.reduceEqDiff,zS,zZ,zl,zD,zE,zb,zh,zq,zp,zo,ne_eq,zt,qap,qaN,qaL,qaC,qbb,qbj,L12k2,qbu,qbj,qaP,g0,g1]) rfl ⟨_,N (8+m),N 8,N ((8+m) % 8),Bo true,⟨rfl,fun _=>rfl⟩,by rw[hx2,h8]; rfl,?_,?_⟩
  · exact qau (1,0) rfl (by simp (disch:=first|omega|decide|simp only[qaf,qad,qag,qae,qah,qac,qaa,qab,qai]) only[qap,zF,Nat.reduceEqDiff,zS,zZ,zD,zE,zh,g0]) (by rw[qbt,qcD])
  · exact qau (1,1) rfl (by simp (disch:=first|omega|decide|simp only[qaf,qad,qag,qae,qah,qac,qaa,qab,qai]) only[qap,zF,Nat.reduceEqDiff,zZ,zu,zD,zE,zb,g1]) (qaK _ _)
end Aes
namespace Aes
open Go Go.LE
theorem k2_roundD (k c:Nat) (hc:60≤c) (hc2:c < 1048576) (key:List (BitVec 8)) (hk:key.length=4*8) (m:Nat) (hm:m < 3*8+28) (h4:(8+m) % 8≠0) (h8:(8+m) % 8≠4) (st:St) (hJ:w2J 8 c key m st) :
    ∃ st1,ev (envC C (k+1)) (k+1) L12b2 st=some (.normal,st1)∧w2J 8 c key (m+1) (qcr L12k2 st1):=by
  obtain ⟨H,a,b,d,e,hp,rfl,h0,h1⟩:=hJ
  have hl:=KS_length 8 key hk m
  have hlt:8+m < 4*(8+6+1):=by omega
  have i1:(8+m - 1)*4+4≤(KS 8 key m).1.length:=by omega
  have hw:=wcell (KS 8 key m).1 (4*c - 4*(8+m)) (8+m - 1) ((8+m - 1)*4) rfl (by omega)
  have hw2:=wcell (KS 8 key m).1 (4*c - 4*(8+m)) m (m*4) rfl (by omega)
  have e1:8+m - 8=m:=by omega
  have hi1:8+m - 1 < 8+m:=by omega
  have hi2:m < 8+m:=by omega
  simp (disch:=first|omega|decide|simp only[qaf,qad,qag,qae,qah,qac,qaa,qab,qai]) only[qbh,qat,qaX,qao,qan,qal,qak,qbm,guardK_true,qar,qbc,qay,qaJ,qaq,qdv,qaH,qcx,qaG,qa7,qa1,qaj,qaY,qaD,qa3,qas,zM,zN,zO,zP,zG,zC,zV,zX,zI,zR,zQ,zK,zJ,Nat.reduceAdd,Nat.reduceSub,qap,qa5,qaR,qbv,qco,qcO,qbF,qbl,qdh,qb6,qcZ,qcR,qbC,zzA,zzD,zzG,za,zd,zU,zF,Nat.reduceEqDiff,Nat.reduceLT,zS,zu,zD,zE,zA,zB,Nat.le_refl,zT,zL,zb,qcj,qcb,qbe,qae,zB,zA,qbz,N_sub,N_mul,N_rem,N_eql,qaW,qbJ,Nat.reduceLT,Nat.reduceEqDiff,Nat.reduceMul,Nat.reduceAdd,zL,zT,qce,zg,ze,qch,qcA,qcB,qcC,op_iaS,qdf,qdd,qcX,qaI,qaZ,qaA,qa6,qa9,qbo,qbE,qc1,qb7,qds,nms_fn,qaE,zY,zW,zx,z6,z0,qbQ,qba,za,zd,Nat.testBit,Nat.reduceShiftRight,Nat.reduceAnd,Nat.reduceBEq,ze,zg,zy,zU,zj,Nat.reduceSub,Nat.reduceLT,bne,qbg,qbG,qbS,qbp,qcP,qdc,qbY,zj,zU,qcL,qaU,qam,qdo,qam,L12b2,h1,hlt,hw,hw2,e1,h4,h8,c_plus,qaQ,zR,zI,fr_w]
  generalize hG:upd (upd (upd H (12,0) _) (12,0) _) (37,0) _=G
  have g0:G (1,0)=some (CF Nil TB):=by rw[←hG]; exact h0
  have g1:G (1,1)=some (bs ((KS 8 key m).1++List.replicate (4*c - 4*(8+m)) 0#8)):=by rw[←hG]; exact h1
  have hx:KS 8 key (m+1)=(ext4 (KS 8 key m).1 (fun j=>wd (KS 8 key m).1 (8+m - 1) j ^^^ wd (KS 8 key m).1 m j),(KS 8 key m).2):=by
    have hn:nwd 8 (KS 8 key m).2 (8+m) (KS 8 key m).1=fun j=>wd (KS 8 key m).1 (8+m - 1) j ^^^ wd (KS 8 key m).1 m j:=by
      funext j
      simp only[nwd,tw,if_neg h4,h8,zZ,zE,e1]
    rw[KS,kstep,if_neg h4,hn]
  have e6:4*c - 4*(8+m) - 4=4*c - 4*(8+(m+1)):=by omega
  have hap:∀ b,appX b 4 4 1 (only [(1,1),(37,0)] G) [] (aB 4 fun j=>wd (KS 8 key m).1 (8+m - 1) j ^^^ wd (KS 8 key m).1 m j) (.sl (1,1) 0 (8+m) (some c) 4)=some ⟨.sl (1,1) 0 (8+m+1) (some c) 4,[],[((1,1),some (bs ((KS 8 key (m+1)).1++List.replicate (4*c - 4*(8+(m+1))) 0#8)))]⟩:=by
    intro b
    rw[app4_room b (8+m) c _ (only [(1,1),(37,0)] G) (1,1) _ _ g1 hl (by omega) (by omega) (by omega),hx,e6]
  simp (disch:=first|omega|decide|simp only[qaf,qad,qag,qae,qah,qac,qaa,qab,qai]) only[qao,qan,qal,qak,qar,qay,qaJ,qaq,qaH,qaG,qaj,qaY,zM,zN,zO,zP,zG,zC,zK,zJ,Nat.reduceAdd,Nat.reduceSub,za,zd,zU,Nat.reduceLT,zD,zA,zB,zT,zL,zB,zA,qbz,Nat.reduceLT,Nat.reduceAdd,zL,zT,qce,zg,ze,qaI,qaA,qa6,zY,zW,zx,z6,z0,qbQ,qba,za,zd,Nat.testBit,Nat.reduceShiftRight,Nat.reduceAnd,Nat.reduceBEq,ze,zg,zy,zU,zj,Nat.reduceSub,Nat.reduceLT,bne,zj,zU,qaU,qam,qam,qaU,hap]
  have hx2:(KS 8 key (m+1)).2=(KS 8 key m).2:=by rw[hx]
  refine ⟨_,rfl,?_⟩
  refine qaT [(1,0),(1,1)] rfl (by simp only[qav,FUEL,qaz,qax,qaB,qaE,qaQ,qbU,qci,qaO,zV,zX,zI,zR,zQ,zz,zC,zW,zY,zF,zm,zn,zf,zZ,zl,zD,zE,zb,zh,zq,zp,zo,ne_eq,zt,qap,qaN,qaL,qaC,qbb,qbj,L12k2,qbu,qbj,qaP,g0,g1]) rfl ⟨_,N (8+m),N 8,N ((8+m) % 8),Bo false,⟨rfl,fun _=>rfl⟩,by rw[hx2]; rfl,?_,?_⟩
  · exact qau (1,0) rfl (by simp (disch:=first|omega|decide|simp only[qaf,qad,qag,qae,qah,qac,qaa,qab,qai]) only[qap,zF,zZ,zE,zh,g0]) (by rw[qbt,qcD])
  · exact qau (1,1) rfl (by simp (disch:=first|omega|decide|simp only[qaf,qad,qag,qae,qah,qac,qaa,qab,qai]) only[qap,zD,g1]) (qaK _ _)
end Aes
namespace Aes
open Go Go.LE
theorem k2_round (k n c:Nat) (hn:n=4∨n=8) (hc:4*n+28≤c) (hc2:c < 1048576) (key:List (BitVec 8)) (hk:key.length=4*n) (m:Nat) (hm:m < 3*n+28) (st:St) (hJ:w2J n c key m st) :
    ∃ st1,ev (envC C (k+1)) (k+1) L12b2 st=some (.normal,st1)∧w2J n c key (m+1) (qcr L12k2 st1):=by
  by_cases h4:(n+m) % n=0
  · exact k2_roundA k n c hn hc hc2 key hk m hm h4 st hJ
  · rcases hn with rfl | rfl
    · exact k2_roundC k 4 c (.inl rfl) hc hc2 key hk m hm h4 (by decide) st hJ
    · by_cases h8 : (8 + m) % 8 = 4
      · exact k2_roundB k c (by omega) hc2 key hk m hm h4 h8 st hJ
      · exact k2_roundD k c (by omega) hc2 key hk m hm h4 h8 st hJ
end Aes
namespace Aes
open Go Go.LE
def blkA (L:List (BitVec 8)) (i a:Nat):R:=fun j=>if j < 4*a then kf L i j else 0#8
theorem blkA_succ (L:List (BitVec 8)) (i a:Nat) (ha:a < 4):(fun j=>if 4*a≤j∧j < 4*a+4 then wd L (4*i+a) (j - 4*a) else blkA L i a j)=blkA L i (a+1):=by
  funext j
  simp only[blkA]
  by_cases h:4*a≤j∧j < 4*a+4
  · rw [if_pos h, if_pos (by omega), wd, kf]
    rw[show 4*(4*i+a)+(j - 4*a)=i*16+j by omega]
  · rw [if_neg h]
    by_cases h2:j < 4*a
    · rw[if_pos h2,if_pos (by omega)]
    · rw[if_neg h2,if_neg (by omega)]
theorem cp_w (H:Heap) (m m2:Nm) (a:Nat) (ha:a < 4) (c1 c2:Option Nat) (w g:R) (h1:H m=some (aB 16 g)) (h2:H m2=some (aB 4 w)) :
    cpK 1 H (.sl m (4*a) (16 - 4*a) c1 1) (.sl m2 0 4 c2 1) (some 4)=some ⟨N 4,[],[(m,some (aB 16 fun j=>if 4*a≤j∧j < 4*a+4 then w (j - 4*a) else g j))]⟩:=by
  have hm:min 4 (16 - 4*a)=4:=by omega
  rw[aB_bs] at h1
  rw[aB4_bs] at h2
  have hf:front H 1 (min 4 (16 - 4*a)) (.sl m2 0 4 c2 1)=some (bs [w 0,w 1,w 2,w 3]):=by
    rw[hm,front_bytes m2 0 4 c2 _ h2 (Nat.le_refl 4)]; rfl
  rw[cp_bytes 4 m _ _ c1 _ _ _ (by omega) hf h1 (by rw[zzK,List.length_range]; omega),hm]
  congr 4
  rw[aB_bs]
  congr 2
  have:a=0∨a=1∨a=2∨a=3:=by omega
  rcases this with rfl | rfl | rfl | rfl <;> rfl
def w0JZ (n c i:Nat) (L keys:List (BitVec 8)) (a:Nat) (st:St):Prop := ∃ (H:Heap),st=⟨[.undef,.undef,.undef,.undef,.ptr (1,0) 0,.sl (1,1) 0 (4*(n+7)) (some c) 4,.undef,.undef,.undef,.undef,.undef,.undef,.undef,.ptr (1,2) 0,.undef,.undef,.undef,.undef,.undef,.undef,.undef,.undef,.undef,.undef,.undef,.undef,.undef,.undef,.undef,.undef,.undef,.undef,.undef,.undef,.undef,.undef,.undef,.undef,.undef,.undef,.undef,.undef,.undef,.undef,.undef,.undef,.undef,.undef,.undef,.undef,.undef,.undef,.undef,.undef,.undef,.undef,.undef,.undef,.undef,.undef,.undef,.undef,.undef,.undef,.undef,.undef,.undef,.undef,.undef,.undef,.undef,.undef,.undef,.undef,.undef,.undef,.undef,.undef,.undef,.undef,.undef,.undef,.undef,.undef,.undef,.undef,.undef,.undef,.undef,.undef,.undef,.undef,.undef,.undef,.undef,.undef,.undef,.undef,.undef,.undef,.undef,.undef,.undef,.undef,.undef,.undef,.undef,.undef,.undef,.undef,.undef,.undef,.undef,.undef,.undef,.undef,N (n+7),N i,.undef,.undef,.undef,.undef,.undef,.undef,.undef,.undef,.undef,.sl (1,1) (4*i*4) 4 (some (c - 4*i)) 4,N 4,N a,.undef,.undef,.undef,.undef,.undef,.undef,.undef,.undef,.undef,.undef,.undef,.undef,.undef,.undef,.undef,.undef,.undef,.undef,.undef,.undef,.undef,.undef],H,2,0⟩ ∧
  H (1,0)=some (CF Nil TB)∧H (1,1)=some (bs (L++List.replicate (4*c - 16*(n+7)) 0#8))∧H (1,2)=some (aB 16 (blkA L i a))
theorem k0_roundZ (k n c i:Nat) (hi:i < n+7) (L keys:List (BitVec 8)) (hL:L.length=16*(n+7)) (hc:4*(n+7)≤c) (a:Nat) (ha:a < 4) (st:St) (hJ:w0JZ n c i L keys a st) :
    ∃ st1,ev (envC C k) k L12b0 st=some (.normal,st1)∧w0JZ n c i L keys (a+1) (qcr L12k0 st1):=by
  obtain ⟨H,rfl,h0,h1,h2⟩:=hJ
  have hw:=wcell L (4*c - 16*(n+7)) (4*i+a) (4*i*4+a*4) (by omega) (by omega)
  have hlt:4*a≤16:=by omega
  simp (disch:=first|omega|decide|simp only[qaf,qad,qag,qae,qah,qac,qaa,qab,qai]) only[qbh,qat,qaX,qao,qan,qal,qak,qar,qbc,qay,qaJ,qaq,qaH,qaG,qaj,qaD,qa3,zM,zN,zO,zP,zI,zR,zQ,zK,zJ,Nat.reduceAdd,qap,qa5,qaR,qbv,qco,qcO,qbF,qbl,qdh,qbC,zzA,zzD,zzG,zu,zD,zA,zB,Nat.le_refl,zT,qcj,qae,zk,zB,zA,N_mul,qaW,qbJ,Nat.reduceAdd,zT,qch,op_copy,qdi,qcg,op_iaS,qdf,op_slcAV,slcAV_ptr,qaI,qaZ,qaA,qa6,Nat.sub_zero,zk,qa9,qbo,touch_copy,zj,qbg,qbG,qbS,isCall_copy,zj,qam,qam,L12b0,h1,ha,hw,qaQ]
  rw[cp_w _ (1,2) (6,0) a ha _ _ (wd L (4*i+a)) (blkA L i a) (by exact h2) rfl]
  simp (disch:=first|omega|decide|simp only[qaf,qad,qag,qae,qah,qac,qaa,qab,qai]) only[qao,qan,qal,qak,qar,qay,qaJ,qaq,qaH,qaG,qaj,qaY,zM,zN,zO,zP,zG,zC,zK,zJ,Nat.reduceAdd,Nat.reduceSub,za,zd,zU,Nat.reduceLT,zD,zA,zB,zT,zB,zA,qbz,Nat.reduceLT,Nat.reduceAdd,zT,qce,zg,qaI,qaA,qa6,zY,zW,zx,z6,z0,qbQ,qba,za,zd,Nat.testBit,Nat.reduceShiftRight,Nat.reduceAnd,Nat.reduceBEq,zg,zy,zU,Nat.reduceSub,Nat.reduceLT,bne,zU,qaU,qam,qam,qaU]
  rw[blkA_succ L i a ha]
  refine ⟨_,rfl,?_⟩
  refine qaT [(1,0),(1,1),(1,2)] rfl (by simp only[qav,FUEL,qaz,qax,qaB,qaE,qaQ,qaO,zV,zX,zI,zR,zQ,zz,zC,zW,zY,zF,zm,zn,zf,Nat.reduceEqDiff,zS,zZ,zl,zzC,zD,zE,zb,zq,zp,zo,ne_eq,zt,qap,qaN,qaL,qaC,qbb,qbj,L12k0,qbP,qbu,qaQ,qbj,qaP,h0,h1,h2]) rfl ⟨_,rfl,?_,?_,?_⟩
  · exact qau (1,0) rfl (by simp (disch:=first|omega|decide|simp only[qaf,qad,qag,qae,qah,qac,qaa,qab,qai]) only[qap,zF,Nat.reduceEqDiff,zS,zZ,zE,h0]) (by rw[qbt]; rfl)
  · exact qau (1,1) rfl (by simp (disch:=first|omega|decide|simp only[qaf,qad,qag,qae,qah,qac,qaa,qab,qai]) only[qap,zF,Nat.reduceEqDiff,zZ,zu,zE,zb,h1]) (qaK _ _)
  · exact qau (1,2) rfl (by simp (disch:=first|omega|decide|simp only[qaf,qad,qag,qae,qah,qac,qaa,qab,qai]) only[qap,zF,Nat.reduceEqDiff,zu,zD,zE]) (qa4 _ _ _)
def w0JS (n c i:Nat) (L keys:List (BitVec 8)) (a:Nat) (st:St):Prop := ∃ (H:Heap),st=⟨[.undef,.undef,.undef,.undef,.ptr (1,0) 0,.sl (1,2) 0 (4*(n+7)) (some c) 4,.undef,.undef,.undef,.undef,.undef,.undef,.undef,.ptr (1,3) 0,.undef,.undef,.undef,.undef,.undef,.undef,.undef,.undef,.undef,.undef,.undef,.undef,.undef,.undef,.undef,.undef,.undef,.undef,.undef,.undef,.undef,.undef,.undef,.undef,.undef,.undef,.undef,.undef,.undef,.undef,.undef,.undef,.undef,.undef,.undef,.undef,.undef,.undef,.undef,.undef,.undef,.undef,.undef,.undef,.undef,.undef,.undef,.undef,.undef,.undef,.undef,.undef,.undef,.undef,.undef,.undef,.undef,.undef,.undef,.undef,.undef,.undef,.undef,.undef,.undef,.undef,.undef,.undef,.undef,.undef,.undef,.undef,.undef,.undef,.undef,.undef,.undef,.undef,.undef,.undef,.undef,.undef,.undef,.undef,.undef,.undef,.undef,.undef,.undef,.undef,.undef,.undef,.undef,.undef,.undef,.undef,.undef,.undef,.undef,.undef,.undef,.undef,N (n+7),N i,.undef,.undef,.undef,.undef,.undef,.undef,.undef,.undef,.undef,.sl (1,2) (4*i*4) 4 (some (c - 4*i)) 4,N 4,N a,.undef,.undef,.undef,.undef,.undef,.undef,.undef,.undef,.undef,.undef,.undef,.undef,.undef,.undef,.undef,.undef,.undef,.undef,.undef,.undef,.undef,.undef],H,2,0⟩ ∧
  H (1,0)=some (CF (.sl (1,1) 0 i none 16) TB)∧H (1,1)=some (bs keys)∧H (1,2)=some (bs (L++List.replicate (4*c - 16*(n+7)) 0#8))∧H (1,3)=some (aB 16 (blkA L i a))
theorem k0_roundS (k n c i:Nat) (hi:i < n+7) (L keys:List (BitVec 8)) (hL:L.length=16*(n+7)) (hc:4*(n+7)≤c) (a:Nat) (ha:a < 4) (st:St) (hJ:w0JS n c i L keys a st) :
    ∃ st1,ev (envC C k) k L12b0 st=some (.normal,st1)∧w0JS n c i L keys (a+1) (qcr L12k0 st1):=by
  obtain ⟨H,rfl,h0,hk,h1,h2⟩:=hJ
  have hw:=wcell L (4*c - 16*(n+7)) (4*i+a) (4*i*4+a*4) (by omega) (by omega)
  have hlt:4*a≤16:=by omega
  simp (disch:=first|omega|decide|simp only[qaf,qad,qag,qae,qah,qac,qaa,qab,qai]) only[qbh,qat,qaX,qao,qan,qal,qak,qar,qbc,qay,qaJ,qaq,qaH,qaG,qaj,qaD,qa3,zM,zN,zO,zP,zI,zR,zQ,zK,zJ,Nat.reduceAdd,qap,qa5,qaR,qbv,qco,qcO,qbF,qbl,qdh,qbC,zzA,zzD,zzG,zu,zD,zA,zB,Nat.le_refl,zT,qcj,qae,zk,zB,zA,N_mul,qaW,qbJ,Nat.reduceAdd,zT,qch,op_copy,qdi,qcg,op_iaS,qdf,op_slcAV,slcAV_ptr,qaI,qaZ,qaA,qa6,Nat.sub_zero,zk,qa9,qbo,touch_copy,zj,qbg,qbG,qbS,isCall_copy,zj,qam,qam,L12b0,h1,ha,hw,qaQ]
  rw[cp_w _ (1,3) (6,0) a ha _ _ (wd L (4*i+a)) (blkA L i a) (by exact h2) rfl]
  simp (disch:=first|omega|decide|simp only[qaf,qad,qag,qae,qah,qac,qaa,qab,qai]) only[qao,qan,qal,qak,qar,qay,qaJ,qaq,qaH,qaG,qaj,qaY,zM,zN,zO,zP,zG,zC,zK,zJ,Nat.reduceAdd,Nat.reduceSub,za,zd,zU,Nat.reduceLT,zD,zA,zB,zT,zB,zA,qbz,Nat.reduceLT,Nat.reduceAdd,zT,qce,zg,qaI,qaA,qa6,zY,zW,zx,z6,z0,qbQ,qba,za,zd,Nat.testBit,Nat.reduceShiftRight,Nat.reduceAnd,Nat.reduceBEq,zg,zy,zU,Nat.reduceSub,Nat.reduceLT,bne,zU,qaU,qam,qam,qaU]
  rw[blkA_succ L i a ha]
  refine ⟨_,rfl,?_⟩
  refine qaT [(1,0),(1,1),(1,2),(1,3)] rfl (by simp only[qav,FUEL,qaz,qax,qaB,qaE,qaQ,qaO,zV,zX,zI,zR,zQ,zz,zC,zW,zY,zF,zm,zn,zf,Nat.reduceEqDiff,zS,zZ,zl,zzC,zD,zE,zb,zq,zp,zo,ne_eq,zt,qap,qaN,qaL,qaC,qbb,L12k0,qbP,qbu,qaQ,qaP,h0,hk,h1,h2]) rfl ⟨_,rfl,?_,?_,?_,?_⟩
  · exact qau (1,0) rfl (by simp (disch:=first|omega|decide|simp only[qaf,qad,qag,qae,qah,qac,qaa,qab,qai]) only[qap,zF,Nat.reduceEqDiff,zS,zZ,zE,h0]) (by rw[qbt]; rfl)
  · exact qau (1,1) rfl (by simp (disch:=first|omega|decide|simp only[qaf,qad,qag,qae,qah,qac,qaa,qab,qai]) only[qap,zF,Nat.reduceEqDiff,zZ,zu,zE,zb,hk]) (qaK _ _)
  · exact qau (1,2) rfl (by simp (disch:=first|omega|decide|simp only[qaf,qad,qag,qae,qah,qac,qaa,qab,qai]) only[qap,zF,Nat.reduceEqDiff,zZ,zu,zE,h1]) (qaK _ _)
  · exact qau (1,3) rfl (by simp (disch:=first|omega|decide|simp only[qaf,qad,qag,qae,qah,qac,qaa,qab,qai]) only[qap,zF,Nat.reduceEqDiff,zu,zD,zE]) (qa4 _ _ _)
end Aes
namespace Aes
open Go Go.LE
set_option maxRecDepth 20000
def w1J (n c:Nat) (L:List (BitVec 8)) (i:Nat) (st:St):Prop := ∃ (H:Heap),
  (i=0∧st=⟨[.undef,.undef,.undef,.undef,.ptr (1,0) 0,.sl (1,1) 0 (4*(n+7)) (some c) 4,.undef,.undef,.undef,.undef,.undef,.undef,.undef,.undef,.undef,.undef,.undef,.undef,.undef,.undef,.undef,.undef,.undef,.undef,.undef,.undef,.undef,.undef,.undef,.undef,.undef,.undef,.undef,.undef,.undef,.undef,.undef,.undef,.undef,.undef,.undef,.undef,.undef,.undef,.undef,.undef,.undef,.undef,.undef,.undef,.undef,.undef,.undef,.undef,.undef,.undef,.undef,.undef,.undef,.undef,.undef,.undef,.undef,.undef,.undef,.undef,.undef,.undef,.undef,.undef,.undef,.undef,.undef,.undef,.undef,.undef,.undef,.undef,.undef,.undef,.undef,.undef,.undef,.undef,.undef,.undef,.undef,.undef,.undef,.undef,.undef,.undef,.undef,.undef,.undef,.undef,.undef,.undef,.undef,.undef,.undef,.undef,.undef,.undef,.undef,.undef,.undef,.undef,.undef,.undef,.undef,.undef,.undef,.undef,.undef,.undef,N (n+7),N 0,.undef,.undef,.undef,.undef,.undef,.undef,.undef,.undef,.undef,.undef,.undef,.undef,.undef,.undef,.undef,.undef,.undef,.undef,.undef,.undef,.undef,.undef,.undef,.undef,.undef,.undef,.undef,.undef,.undef,.undef,.undef,.undef,.undef,.undef],H,2,0⟩∧H (1,0)=some (CF Nil TB)∧H (1,1)=some (bs (L++List.replicate (4*c - 16*(n+7)) 0#8))) ∨
  (0 < i∧st=⟨[.undef,.undef,.undef,.undef,.ptr (1,0) 0,.sl (1,2) 0 (4*(n+7)) (some c) 4,.undef,.undef,.undef,.undef,.undef,.undef,.undef,.undef,.undef,.undef,.undef,.undef,.undef,.undef,.undef,.undef,.undef,.undef,.undef,.undef,.undef,.undef,.undef,.undef,.undef,.undef,.undef,.undef,.undef,.undef,.undef,.undef,.undef,.undef,.undef,.undef,.undef,.undef,.undef,.undef,.undef,.undef,.undef,.undef,.undef,.undef,.undef,.undef,.undef,.undef,.undef,.undef,.undef,.undef,.undef,.undef,.undef,.undef,.undef,.undef,.undef,.undef,.undef,.undef,.undef,.undef,.undef,.undef,.undef,.undef,.undef,.undef,.undef,.undef,.undef,.undef,.undef,.undef,.undef,.undef,.undef,.undef,.undef,.undef,.undef,.undef,.undef,.undef,.undef,.undef,.undef,.undef,.undef,.undef,.undef,.undef,.undef,.undef,.undef,.undef,.undef,.undef,.undef,.undef,.undef,.undef,.undef,.undef,.undef,.undef,N (n+7),N i,.undef,.undef,.undef,.undef,.undef,.undef,.undef,.undef,.undef,.undef,.undef,.undef,.undef,.undef,.undef,.undef,.undef,.undef,.undef,.undef,.undef,.undef,.undef,.undef,.undef,.undef,.undef,.undef,.undef,.undef,.undef,.undef,.undef,.undef],H,2,0⟩∧H (1,0)=some (CF (.sl (1,1) 0 i none 16) TB)∧H (1,1)=some (bs (L.take (16*i)))∧H (1,2)=some (bs (L++List.replicate (4*c - 16*(n+7)) 0#8)))
theorem w1J.of_z {n c:Nat} {L:List (BitVec 8)} {st:St} (h:w1J n c L 0 st):∃ (H:Heap),st=⟨[.undef,.undef,.undef,.undef,.ptr (1,0) 0,.sl (1,1) 0 (4*(n+7)) (some c) 4,.undef,.undef,.undef,.undef,.undef,.undef,.undef,.undef,.undef,.undef,.undef,.undef,.undef,.undef,.undef,.undef,.undef,.undef,.undef,.undef,.undef,.undef,.undef,.undef,.undef,.undef,.undef,.undef,.undef,.undef,.undef,.undef,.undef,.undef,.undef,.undef,.undef,.undef,.undef,.undef,.undef,.undef,.undef,.undef,.undef,.undef,.undef,.undef,.undef,.undef,.undef,.undef,.undef,.undef,.undef,.undef,.undef,.undef,.undef,.undef,.undef,.undef,.undef,.undef,.undef,.undef,.undef,.undef,.undef,.undef,.undef,.undef,.undef,.undef,.undef,.undef,.undef,.undef,.undef,.undef,.undef,.undef,.undef,.undef,.undef,.undef,.undef,.undef,.undef,.undef,.undef,.undef,.undef,.undef,.undef,.undef,.undef,.undef,.undef,.undef,.undef,.undef,.undef,.undef,.undef,.undef,.undef,.undef,.undef,.undef,N (n+7),N 0,.undef,.undef,.undef,.undef,.undef,.undef,.undef,.undef,.undef,.undef,.undef,.undef,.undef,.undef,.undef,.undef,.undef,.undef,.undef,.undef,.undef,.undef,.undef,.undef,.undef,.undef,.undef,.undef,.undef,.undef,.undef,.undef,.undef,.undef],H,2,0⟩∧H (1,0)=some (CF Nil TB)∧H (1,1)=some (bs (L++List.replicate (4*c - 16*(n+7)) 0#8)):=by
  obtain ⟨H,⟨_,h⟩ | ⟨h,_⟩⟩:=h
  · exact ⟨H,h⟩
  · exact absurd h (by omega)
theorem w1J.of_s {n c i:Nat} {L:List (BitVec 8)} {st:St} (h:w1J n c L i st) (hi:0 < i):∃ (H:Heap),st=⟨[.undef,.undef,.undef,.undef,.ptr (1,0) 0,.sl (1,2) 0 (4*(n+7)) (some c) 4,.undef,.undef,.undef,.undef,.undef,.undef,.undef,.undef,.undef,.undef,.undef,.undef,.undef,.undef,.undef,.undef,.undef,.undef,.undef,.undef,.undef,.undef,.undef,.undef,.undef,.undef,.undef,.undef,.undef,.undef,.undef,.undef,.undef,.undef,.undef,.undef,.undef,.undef,.undef,.undef,.undef,.undef,.undef,.undef,.undef,.undef,.undef,.undef,.undef,.undef,.undef,.undef,.undef,.undef,.undef,.undef,.undef,.undef,.undef,.undef,.undef,.undef,.undef,.undef,.undef,.undef,.undef,.undef,.undef,.undef,.undef,.undef,.undef,.undef,.undef,.undef,.undef,.undef,.undef,.undef,.undef,.undef,.undef,.undef,.undef,.undef,.undef,.undef,.undef,.undef,.undef,.undef,.undef,.undef,.undef,.undef,.undef,.undef,.undef,.undef,.undef,.undef,.undef,.undef,.undef,.undef,.undef,.undef,.undef,.undef,N (n+7),N i,.undef,.undef,.undef,.undef,.undef,.undef,.undef,.undef,.undef,.undef,.undef,.undef,.undef,.undef,.undef,.undef,.undef,.undef,.undef,.undef,.undef,.undef,.undef,.undef,.undef,.undef,.undef,.undef,.undef,.undef,.undef,.undef,.undef,.undef],H,2,0⟩∧H (1,0)=some (CF (.sl (1,1) 0 i none 16) TB)∧H (1,1)=some (bs (L.take (16*i)))∧H (1,2)=some (bs (L++List.replicate (4*c - 16*(n+7)) 0#8)):=by
  obtain ⟨H,⟨h,_⟩ | ⟨_,h⟩⟩:=h
  · exact absurd h (by omega)
  · exact ⟨H,h⟩
theorem CF_st0 (r x:LV) (f:R) (m:Nm) (h:isCell x=true):stK 1 0 m (some [x]) (some (CF r f))=some ⟨Un,[],[(m,some (CF x f))]⟩:=by
  have e:qbC (CF r f) 0 [x]=CF x f:=by
    simp only[qbC,CF,zzA,zI,zK,zJ,zA,zzD,zw,zR]
  rw[stK_some,if_pos ⟨rfl,by rw[CF_length]; omega,by rw[za,h]; rfl⟩,e]
theorem fill16 (w f:R):aB 16 w++List.drop 16 (aB 16 f)=aB 16 w:=by rw[List.drop_of_length_le (by rw[qcj]; exact Nat.le_refl 16),zQ]
theorem frontK_16 (w:R):qcG 0 16 1 (some (aB 16 w))=some (aB 16 w):=rfl
theorem k1_roundZ (k n c:Nat) (hn:n≤8) (L:List (BitVec 8)) (hL:L.length=16*(n+7)) (hc:4*(n+7)≤c) (hc2:c < 1048576) (st:St) (hJ:w1J n c L 0 st) :
    ∃ st1,ev (envC C (k+5)) (k+5) L12b1 st=some (.normal,st1)∧w1J n c L (0+1) (qcr L12k1 st1):=by
  obtain ⟨H,rfl,h0,h1⟩:=hJ.of_z
  have hlt:0 < n+7:=by omega
  have e1:4*(0+1)≤4*(n+7):=by omega
  have e2:4*(0+1) - 4*0=4:=by omega
  have e4:4*0≤4*(0+1):=by omega
  simp (disch:=first|omega|decide|simp only[qaf,qad,qag,qae,qah,qac,qaa,qab,qai]) only[qbh,qat,qaX,qao,qan,qal,qak,qar,qbc,qay,qaJ,qaq,qaH,qaG,qaj,qaD,qa3,zM,zN,zO,zP,zC,zK,zJ,qbH,Nat.reduceAdd,qap,qa5,qcO,qbF,qbl,qb6,aggR_some,op_build,zD,zA,zB,zT,qcU,qcz,zk,zB,zA,qbz,N_mul,qaW,qbJ,Nat.reduceMul,Nat.reduceAdd,zT,qcm,qbA,qb9,qcg,op_slcS,slcV_cap,qcn,qaI,qaZ,qaA,qa6,Nat.sub_zero,zk,qam,qam,L12b1,hlt,e2]
  generalize hL2:qbW L12k0 _ _ _=r
  refine qby hL2 (w0JZ n c 0 L []) 4 (by omega) (fun a st ha hJ=>k0_roundZ _ n c 0 hlt L _ hL hc a ha st hJ) ?_ ?_ ?_
  · refine qaT [(1, 0), (1, 1), (6, 0)] rfl (by simp only [qav, FUEL, qaz, qax, qaB, qaE, qaQ, qaO, zV, zX, zI, zR, zQ, zz, zC, zW, zY, zF, zm, zn, zf, Nat.reduceEqDiff, zS, zZ, zl, zzC, zD, zE, zb, zh, zq, zp, zo, ne_eq, zt, qap, qaN, qaL, qaC, qbb, qbj, L12k0, qbP, qbu, qaQ, qbj, qaP, h0, h1]) rfl ⟨_, rfl, ?_, ?_, ?_⟩
    · exact qau (1,0) rfl (by simp (disch:=first|omega|decide|simp only[qaf,qad,qag,qae,qah,qac,qaa,qab,qai]) only[qap,zF,Nat.reduceEqDiff,zS,zE,h0]) (by rw[qbt]; rfl)
    · exact qau (1,1) rfl (by simp (disch:=first|omega|decide|simp only[qaf,qad,qag,qae,qah,qac,qaa,qab,qai]) only[qap,zF,Nat.reduceEqDiff,zu,zE,zb,h1]) (qaK _ _)
    · refine (qau (6, 0) rfl (by simp (disch := first | omega | decide | simp only [qaf, qad, qag, qae, qah, qac, qaa, qab, qai]) only [qap, zD]) (qa4 16 (fun _ => 0#8) _)).trans (congrArg some ?_)
      exact aB_ext _ fun j _=>by rw[blkA,if_neg (by omega)]
  · rintro st ⟨H, rfl, h0, h1, h2⟩
    apply qbs
    simp (disch:=first|omega|decide|simp only[qaf,qad,qag,qae,qah,qac,qaa,qab,qai]) only[qa0,qat,qao,qan,qal,qak,qar,qay,qaq,qaG,qaj,qaF,qaD,qas,zM,zN,zO,zP,zK,zJ,Nat.reduceAdd,zA,zB,zL,zB,zA,qaW,Nat.reduceMul,Nat.reduceAdd,zi,zL,qaI,qaA,Nat.sub_zero,qam,L12b0]
    rfl
  · rintro st ⟨H, rfl, h0, h1, h2⟩ rfl
    have hb:aB 16 (blkA L 0 4)=aB 16 (kf L 0):=aB_ext _ fun j hj=>by rw[blkA,if_pos (by omega)]
    rw[hb] at h2
    simp (disch:=first|omega|decide|simp only[qaf,qad,qag,qae,qah,qac,qaa,qab,qai]) only[qa0,qat,qao,qan,qal,qak,qar,qbc,qay,qaJ,qaq,qaH,qaG,qaj,qaF,qaY,qa8,qaD,qas,zM,zN,zO,zP,zG,zC,zI,zR,zK,zJ,Nat.reduceAdd,Nat.reduceSub,qap,qa5,qaR,qbn,qbv,qbV,qco,qbF,qbl,op_fa,qcy,qb6,qcZ,qcR,qbC,zzA,za,zd,zU,zF,Nat.reduceEqDiff,Nat.reduceLT,zS,zu,zD,zE,zA,zB,Nat.le_refl,zT,zL,qcj,qcb,zB,zA,qbz,qaW,Nat.reduceLT,Nat.reduceEqDiff,Nat.reduceMul,Nat.reduceAdd,zi,zL,zT,qce,zg,ze,op_chk,qcq,qch,qbj,cellsOf_sl,qcA,qcB,qcC,appX_nil,qdd,qcX,qaI,qaZ,qaA,qa6,Nat.sub_zero,qa9,qbo,qbE,qca,qc1,qcl,qaE,zY,zW,zx,z6,z0,qbQ,qba,za,zd,Nat.testBit,Nat.reduceShiftRight,Nat.reduceAnd,Nat.reduceBEq,ze,zg,zy,zU,zj,Nat.reduceSub,Nat.reduceLT,bne,qbg,qbG,qbS,qbp,qbZ,qcP,qb0,qdc,zj,zU,qcL,qaU,qam,qdo,qam,qaU,L12b0,h0,h2,qaQ,qbj,CF_k,CF_st0,fill16,frontK_16]
    refine ⟨_,rfl,?_⟩
    refine qaT [(1,0),(10,0),(1,1)] rfl (by simp only[qav,FUEL,qaz,qax,qaB,qaE,qaQ,qaO,zV,zX,zI,zR,zQ,zz,zC,zW,zY,zF,zm,zn,zf,Nat.reduceEqDiff,zS,zZ,zl,zD,zE,zb,zq,zp,zo,ne_eq,zt,qap,qaN,qaL,qaC,qbb,L12k1,qbP,qbu,qaQ,qaP,h0,h1]) rfl ⟨_,.inr ⟨by omega,rfl,?_,?_,?_⟩⟩
    · refine (qcW _ _ 0 (1, 0) _ rfl (by simp (disch := first | omega | decide | simp only [qaf, qad, qag, qae, qah, qac, qaa, qab, qai]) only [qap, zF, Nat.reduceEqDiff, zS, zD, zE, h0]; rfl)).trans ?_
      rw[qbt]; rfl
    · refine (qcW _ _ 1 (10, 0) _ rfl (by simp (disch := first | omega | decide | simp only [qaf, qad, qag, qae, qah, qac, qaa, qab, qai]) only [qap, zF, Nat.reduceEqDiff, zS, zD, zE]; rfl)).trans ?_
      rw[qa4,aB_bs,←take16 L 0 (by omega)]; rfl
    · exact qau (1,1) rfl (by simp (disch:=first|omega|decide|simp only[qaf,qad,qag,qae,qah,qac,qaa,qab,qai]) only[qap,zF,Nat.reduceEqDiff,zZ,zu,zE,zb,h1]) (qaK _ _)
theorem k1_roundS (k n c i:Nat) (hn:n≤8) (h0i:0 < i) (hi:i < n+7) (L:List (BitVec 8)) (hL:L.length=16*(n+7)) (hc:4*(n+7)≤c) (hc2:c < 1048576) (st:St) (hJ:w1J n c L i st) :
    ∃ st1,ev (envC C (k+5)) (k+5) L12b1 st=some (.normal,st1)∧w1J n c L (i+1) (qcr L12k1 st1):=by
  obtain ⟨H,rfl,h0,hk,h1⟩:=hJ.of_s h0i
  have hlt:i < n+7:=by omega
  have e1:4*(i+1)≤4*(n+7):=by omega
  have e2:4*(i+1) - 4*i=4:=by omega
  have e4:4*i≤4*(i+1):=by omega
  simp (disch:=first|omega|decide|simp only[qaf,qad,qag,qae,qah,qac,qaa,qab,qai]) only[qbh,qat,qaX,qao,qan,qal,qak,qar,qbc,qay,qaJ,qaq,qaH,qaG,qaj,qaD,qa3,zM,zN,zO,zP,zC,zK,zJ,qbH,Nat.reduceAdd,qap,qa5,qcO,qbF,qbl,qb6,aggR_some,op_build,zD,zA,zB,zT,qcU,qcz,zB,zA,qbz,N_mul,qaW,qbJ,Nat.reduceAdd,zT,qcm,qbA,qb9,qcg,op_slcS,slcV_cap,qcn,qaI,qaZ,qaA,qa6,qam,qam,L12b1,hlt,e2]
  generalize hL2:qbW L12k0 _ _ _=r
  refine qby hL2 (w0JS n c i L (L.take (16*i))) 4 (by omega) (fun a st ha hJ=>k0_roundS _ n c i hlt L _ hL hc a ha st hJ) ?_ ?_ ?_
  · refine qaT [(1, 0), (1, 1), (1, 2), (6, 0)] rfl (by simp only [qav, FUEL, qaz, qax, qaB, qaE, qaQ, qaO, zV, zX, zI, zR, zQ, zz, zC, zW, zY, zF, zm, zn, zf, Nat.reduceEqDiff, zS, zZ, zl, zzC, zD, zE, zb, zh, zq, zp, zo, ne_eq, zt, qap, qaN, qaL, qaC, qbb, L12k0, qbP, qbu, qaQ, qaP, h0, hk, h1]) rfl ⟨_, rfl, ?_, ?_, ?_, ?_⟩
    · exact qau (1,0) rfl (by simp (disch:=first|omega|decide|simp only[qaf,qad,qag,qae,qah,qac,qaa,qab,qai]) only[qap,zF,Nat.reduceEqDiff,zS,zE,h0]) (by rw[qbt]; rfl)
    · exact qau (1,1) rfl (by simp (disch:=first|omega|decide|simp only[qaf,qad,qag,qae,qah,qac,qaa,qab,qai]) only[qap,zF,Nat.reduceEqDiff,zu,zE,zb,hk]) (qaK _ _)
    · exact qau (1,2) rfl (by simp (disch:=first|omega|decide|simp only[qaf,qad,qag,qae,qah,qac,qaa,qab,qai]) only[qap,zF,Nat.reduceEqDiff,zu,zE,h1]) (qaK _ _)
    · refine (qau (6, 0) rfl (by simp (disch := first | omega | decide | simp only [qaf, qad, qag, qae, qah, qac, qaa, qab, qai]) only [qap, zD]) (qa4 16 (fun _ => 0#8) _)).trans (congrArg some ?_)
      exact aB_ext _ fun j _=>by rw[blkA,if_neg (by omega)]
  · rintro st ⟨H, rfl, h0, hk, h1, h2⟩
    apply qbs
    simp (disch:=first|omega|decide|simp only[qaf,qad,qag,qae,qah,qac,qaa,qab,qai]) only[qa0,qat,qao,qan,qal,qak,qar,qay,qaq,qaG,qaj,qaF,qaD,qas,zM,zN,zO,zP,zK,zJ,Nat.reduceAdd,zA,zB,zL,zB,zA,qaW,Nat.reduceAdd,zi,zL,qaI,qaA,qam,L12b0]
    rfl
  · rintro st ⟨H, rfl, h0, hk, h1, h2⟩ rfl
    have hb:aB 16 (blkA L i 4)=aB 16 (kf L i):=aB_ext _ fun j hj=>by rw[blkA,if_pos (by omega)]
    rw[hb] at h2
    have hap:∀ (b:Nat),appN b 16 1 0 i (1,1) (aB 16 (kf L i)) (some (bs (L.take (16*i))))=some ⟨.sl (b,0) 0 (i+1) none 16,[bs (L.take (16*(i+1)))],[((1,1),none)]⟩:=by
      intro b
      rw[appN,qad,if_pos (by rw[zzL]; omega),zw,aB_bs,qcF,bs_append,List.take_of_length_le (by rw[zzL]; omega),take16 L i (by omega)]
    simp (disch:=first|omega|decide|simp only[qaf,qad,qag,qae,qah,qac,qaa,qab,qai]) only[qa0,qat,qao,qan,qal,qak,qar,qbc,qay,qaJ,qaq,qaH,qaG,qaj,qaF,qaY,qa8,qaD,qas,zM,zN,zO,zP,zG,zC,zI,zR,zK,zJ,Nat.reduceAdd,Nat.reduceSub,qap,qa5,qaR,qbn,qbv,qbV,qco,qbF,qbl,op_fa,qcy,qb6,qcZ,qcR,qbC,zzA,za,zd,zU,zF,Nat.reduceEqDiff,Nat.reduceLT,zS,zZ,zu,zD,zE,zA,zB,Nat.le_refl,zT,zL,zb,zh,qcj,qcb,zB,zA,qbz,qaW,Nat.reduceLT,Nat.reduceEqDiff,Nat.reduceAdd,zi,zL,zT,qce,zg,ze,op_chk,qcq,qch,cellsOf_sl,qcA,qcB,qcC,appX_none,qdd,qcX,qaI,qaZ,qaA,qa6,qa9,qbo,qbE,qca,qc1,qcl,qaE,zY,zW,zx,z6,z0,qbQ,qba,za,zd,Nat.testBit,Nat.reduceShiftRight,Nat.reduceAnd,Nat.reduceBEq,ze,zg,zy,zU,zj,Nat.reduceSub,Nat.reduceLT,bne,qbg,qbG,qbS,qbp,qbZ,qcP,qb0,qdc,zj,zU,qcL,qaU,qam,qdo,qam,qaU,L12b0,h0,hk,h2,qaQ,CF_k,CF_st0,fill16,frontK_16,hap]
    refine ⟨_,rfl,?_⟩
    refine qaT [(1,0),(10,0),(1,2)] rfl (by simp only[qav,FUEL,qaz,qax,qaB,qaE,qaQ,qaO,zV,zX,zI,zR,zQ,zz,zC,zW,zY,zF,zm,zn,zf,Nat.reduceEqDiff,zS,zZ,zl,zD,zE,zb,zh,zq,zp,zo,ne_eq,zt,qap,qaN,qaL,qaC,qbb,L12k1,qbu,qaQ,qaP,h0,h1]) rfl ⟨_,.inr ⟨by omega,rfl,?_,?_,?_⟩⟩
    · refine (qcW _ _ 0 (1, 0) _ rfl (by simp (disch := first | omega | decide | simp only [qaf, qad, qag, qae, qah, qac, qaa, qab, qai]) only [qap, zF, Nat.reduceEqDiff, zS, zZ, zD, zE, zh, h0]; rfl)).trans ?_
      rw[qbt]; rfl
    · refine (qcW _ _ 1 (10, 0) _ rfl (by simp (disch := first | omega | decide | simp only [qaf, qad, qag, qae, qah, qac, qaa, qab, qai]) only [qap, zF, Nat.reduceEqDiff, zS, zu, zD, zE, zh]; rfl)).trans ?_
      rw[qaK]
    · exact qau (1,2) rfl (by simp (disch:=first|omega|decide|simp only[qaf,qad,qag,qae,qah,qac,qaa,qab,qai]) only[qap,zF,Nat.reduceEqDiff,zZ,zu,zE,h1]) (qaK _ _)
theorem k1_round (k n c i:Nat) (hn:n≤8) (hi:i < n+7) (L:List (BitVec 8)) (hL:L.length=16*(n+7)) (hc:4*(n+7)≤c) (hc2:c < 1048576) (st:St) (hJ:w1J n c L i st) :
    ∃ st1,ev (envC C (k+5)) (k+5) L12b1 st=some (.normal,st1)∧w1J n c L (i+1) (qcr L12k1 st1):=by
  by_cases h0:0 < i
  · exact k1_roundS k n c i hn h0 hi L hL hc hc2 st hJ
  · obtain rfl : i = 0 := by omega
    exact k1_roundZ k n c hn L hL hc hc2 st hJ
end Aes
namespace Aes
open Go Go.LE
set_option maxRecDepth 20000
theorem nms7_ptr (m:Nm) (o:Nat):nms 7 (.ptr m o)=[m]:=rfl
theorem c_tables (k b:Nat) (H:Heap) (fN:Nm) (h:H fN=some (CF Nil fun _=>0#8)):qbD (envC C (k+301)) H b 28 [.ptr fN 0]=some ⟨.tup [],[],[(fN,some (CF Nil TB))]⟩ :=
  call0 _ b 28 l28 H fN _ _ h [] Pl.e _ (fun _=>rfl) (tables_F k)
theorem new_4 (k:Nat) (key:List (BitVec 8)) (hk:key.length=16):F C (k+400) 12 [.isl (bs key) key.length] []=some (.tup [.ptr (1,0) 0,N 0],[],[CF (.sl (1,1) 0 (4+7) none 16) TB,bs (W 4 key)]):=by
  rw[qbT f12]
  simp (disch:=first|omega|decide|simp only[qaf,qad,qag,qae,qah,qac,qaa,qab,qai]) only[qbk,qbh,qat,qao,qan,qal,qak,qbm,qaM,guardK_false,qar,qay,qaJ,qaq,qcd,qaH,qcx,qaG,qa7,qa1,qaj,qaD,qas,zM,zN,zO,zP,zG,zC,zI,zR,qbd,z7,zK,zJ,Nat.reduceAdd,Nat.reduceSub,qdt,qa5,op_box,qcH,qb6,aggR_some,op_build,zA,zB,zT,qcU,zB,zA,N_neq,decide_not,Nat.reduceAdd,zT,ze,qcm,qbA,qcT,ze,Nat.reduceSub,L12,hk]
  rw[c_tables (k+98) _ _ (13,0) rfl]
  simp (disch:=first|omega|decide|simp only[qaf,qad,qag,qae,qah,qac,qaa,qab,qai]) only[qat,qaX,qao,qan,qal,qak,qar,qay,qaJ,qaq,qaH,qaG,qaj,zM,zN,zO,zP,zK,zJ,qbH,Nat.reduceAdd,zA,zB,zB,zA,qbz,qbJ,Nat.reduceMul,Nat.reduceAdd,qcm,qbA,qcT,op_mkslice,qaI,qaZ,qaA,qa6,qam,qam,mk4]
  generalize hL:qbW L12k3 _ _ _=r
  refine qby hL (w3J 4 44 key) 4 (by omega) (fun i st hi hJ=>k3_round _ 4 44 (by decide) (by decide) key hk i hi st hJ) ?_ ?_ ?_
  · refine qaT [(13, 0), (20, 0)] rfl (by simp only [qav, FUEL, qaz, qax, qaB, qaE, qaQ, qcM, qaO, zV, zX, zI, zR, zQ, zz, zC, zW, zY, zF, zm, zn, zf, Nat.reduceEqDiff, zS, zl, zD, zE, zq, zp, zo, ne_eq, zt, qap, qaN, qaL, qaC, qa2, qbb, qbj, L12k3, qbu, qbj, qaP, qbw]) (by simp only [zC, zG, qaN, qaL, qaC, L12k3, zG, zC, qbO]; rfl) ⟨_, rfl, ?_, ?_⟩
    · exact qau (13,0) rfl (by simp (disch:=first|omega|decide|simp only[qaf,qad,qag,qae,qah,qac,qaa,qab,qai]) only[qap,zF,Nat.reduceEqDiff,zS,zD,zE,qa2]) (by rw[qbt,qcD])
    · exact qau (20,0) rfl (by simp (disch:=first|omega|decide|simp only[qaf,qad,qag,qae,qah,qac,qaa,qab,qai]) only[qap,zF,Nat.reduceEqDiff,zS,zD,zE,qa2]; rfl) (qaK _ _)
  · rintro st ⟨H, rfl, h0, h1⟩
    apply qbs
    simp (disch:=first|omega|decide|simp only[qaf,qad,qag,qae,qah,qac,qaa,qab,qai]) only[qa0,qat,qao,qan,qal,qak,qaM,qar,qay,qaq,qaH,qaG,qaj,qaF,qaD,qas,zM,zN,zO,zP,zK,zJ,Nat.reduceAdd,zA,zB,zL,zB,zA,qaW,Nat.reduceMul,Nat.reduceAdd,zi,zL,qcm,qbA,qcT,L12b3]
    rfl
  · rintro st ⟨H, rfl, h0, h1⟩ rfl
    simp (disch:=first|omega|decide|simp only[qaf,qad,qag,qae,qah,qac,qaa,qab,qai]) only[qa0,qat,qaX,qao,qan,qal,qak,qar,qay,qaJ,qaq,qaH,qaG,qaj,qaF,qa8,qaD,qas,zM,zN,zO,zP,zK,zJ,qbH,Nat.reduceAdd,zD,zA,zB,zL,zB,zA,qbz,qaW,Nat.reduceMul,Nat.reduceAdd,zi,zL,qcm,qbA,qb9,qcT,qaI,qaA,qam,L12b3]
    generalize hL:qbW L12k2 _ _ _=r
    refine qby hL (w2J 4 44 key) 40 (by omega) (fun i st hi hJ=>k2_round _ 4 44 (.inl rfl) (by decide) (by decide) key hk i hi st hJ) ?_ ?_ ?_
    · refine qaT [(1, 0), (1, 1)] rfl (by simp only [qav, FUEL, qaz, qax, qaB, qaE, qaQ, qbU, qcM, qaO, zV, zX, zI, zR, zQ, zz, zC, zW, zY, zF, zm, zn, zf, zZ, zl, zD, zE, zb, zq, zp, zo, ne_eq, zt, qaN, qaL, qaC, qbb, qbj, L12k2, qbu, qbj, qaP, h0, h1]) rfl ⟨_, Un, Un, Un, Un, ⟨rfl, fun _ => rfl⟩, rfl, ?_, ?_⟩
      · exact qau (1,0) rfl (by simp (disch:=first|omega|decide|simp only[qaf,qad,qag,qae,qah,qac,qaa,qab,qai]) only[h0]) (by rw[qbt,qcD])
      · exact qau (1,1) rfl (by simp (disch:=first|omega|decide|simp only[qaf,qad,qag,qae,qah,qac,qaa,qab,qai]) only[zB,h1]; rw[KS,List.take_of_length_le (by omega)]) (qaK _ _)
    · rintro st ⟨H, a, b, d, e, hp, rfl, h0, h1⟩
      apply qbs
      simp (disch:=first|omega|decide|simp only[qaf,qad,qag,qae,qah,qac,qaa,qab,qai]) only[qa0,qat,qao,qan,qal,qak,qaM,qar,qay,qaJ,qaq,qaH,qaG,qaj,qaF,qaD,qas,zM,zN,zO,zP,zK,zJ,Nat.reduceAdd,zA,zB,zL,zB,zA,qbz,N_mul,qaW,Nat.reduceMul,Nat.reduceAdd,zi,zL,L12b2]
      rfl
    · rintro st ⟨H, a, b, d, e, hp, rfl, h0, h1⟩ rfl
      simp (disch:=first|omega|decide|simp only[qaf,qad,qag,qae,qah,qac,qaa,qab,qai]) only[qa0,qat,qaX,qao,qan,qal,qak,qar,qay,qaJ,qaq,qaH,qaG,qaj,qaF,qa8,qaD,qas,zM,zN,zO,zP,zK,zJ,qbH,Nat.reduceAdd,zD,zA,zB,zL,zB,zA,qbz,N_mul,qaW,Nat.reduceMul,Nat.reduceAdd,zi,zL,qaI,qaA,qam,L12b2]
      clear hL
      generalize hL:qbW L12k1 _ _ _=r
      have hlen:(KS 4 key 40).1.length=16*(4+7):=KS_length 4 key hk 40
      refine qby hL (w1J 4 44 (KS 4 key 40).1) 11 (by omega) (fun i st hi hJ=>k1_round (k+394) 4 44 i (by decide) hi _ hlen (by decide) (by decide) st hJ) ?_ ?_ ?_
      · refine qaT [(1, 0), (1, 1)] rfl (by simp only [qav, FUEL, qaz, qax, qaB, qaE, qaQ, qaO, zV, zX, zI, zR, zQ, zz, zC, zW, zY, zF, zm, zn, zf, zZ, zl, zD, zE, zb, zq, zp, zo, ne_eq, zt, Nat.reduceAdd, qaN, qaL, qaC, qbb, qbj, L12k1, qbu, qbj, qaP, h0, h1]) rfl ⟨_, .inl ⟨rfl, rfl, ?_, ?_⟩⟩
        · exact qau (1,0) rfl (by simp (disch:=first|omega|decide|simp only[qaf,qad,qag,qae,qah,qac,qaa,qab,qai]) only[h0]) (by rw[qbt,qcD])
        · exact qau (1,1) rfl (by simp (disch:=first|omega|decide|simp only[qaf,qad,qag,qae,qah,qac,qaa,qab,qai]) only[Nat.reduceAdd,h1]) (qaK _ _)
      · intro st hJ
        obtain ⟨H,rfl,h0,hk,h1⟩:=hJ.of_s (by decide)
        apply qbs
        simp (disch:=first|omega|decide|simp only[qaf,qad,qag,qae,qah,qac,qaa,qab,qai]) only[qa0,qat,qao,qan,qal,qak,qaM,qar,qay,qaq,qaG,qaj,qaF,qaD,qas,zM,zN,zO,zP,zK,zJ,Nat.reduceAdd,zA,zB,zL,qcU,zB,zA,qaW,Nat.reduceMul,Nat.reduceAdd,zi,zL,L12b1]
        rfl
      · intro st hJ hr
        obtain ⟨H,rfl,h0,hk,h1⟩:=hJ.of_s (by decide)
        subst hr
        simp (disch:=first|omega|decide|simp only[qaf,qad,qag,qae,qah,qac,qaa,qab,qai]) only[qbI,qa0,qat,qao,qan,qal,qak,qar,qay,qaJ,qaq,qaH,qaG,qaj,qaF,qa8,qaD,qas,qbr,zM,zN,zO,zP,zK,zJ,zH,Nat.reduceAdd,zD,zA,zB,zL,qc4,qcU,zB,zA,qaW,Nat.reduceMul,Nat.reduceAdd,zi,zL,qaI,qaA,zH,qam,L12b1]
        rw[List.take_of_length_le (by rw[hlen]; decide)] at hk
        rw[qdk 0 _ _ [(1,0),(1,1)] (by simp only[qav,FUEL,qaz,qax,qaB,qaQ,zV,zX,zI,zR,zQ,zz,zC,zW,zY,zF,zm,zn,zf,zZ,zl,zD,zE,zb,zq,zp,zo,ne_eq,zt,qbu,qaP,qcV,nms7_ptr,nms7_N,h0,hk])]
        simp (disch:=first|omega|decide|simp only[qaf,qad,qag,qae,qah,qac,qaa,qab,qai]) only[zG,zC,zH,Nat.reduceAdd,zF,zZ,zD,zE,zA,zh,idx_cons,canonMap_ne,zzB,zH,qaK,List.filterMap_cons,zz,qbq,qbK,qbt,qaK,h0,hk,qb8]
        rfl
theorem new_8 (k:Nat) (key:List (BitVec 8)) (hk:key.length=32):F C (k+400) 12 [.isl (bs key) key.length] []=some (.tup [.ptr (1,0) 0,N 0],[],[CF (.sl (1,1) 0 (8+7) none 16) TB,bs (W 8 key)]):=by
  rw[qbT f12]
  simp (disch:=first|omega|decide|simp only[qaf,qad,qag,qae,qah,qac,qaa,qab,qai]) only[qbk,qbh,qat,qao,qan,qal,qak,qbm,qaM,guardK_true,qar,qay,qaJ,qaq,qdv,qaH,qcx,qaG,qa7,qa1,qaj,qaD,qas,zM,zN,zO,zP,zG,zC,zI,zR,qbd,z7,zK,zJ,Nat.reduceAdd,Nat.reduceSub,qdt,qa5,op_box,qcH,qb6,aggR_some,op_build,Nat.reduceEqDiff,zA,zB,zT,zL,qcU,zB,zA,N_neq,decide_not,Nat.reduceEqDiff,Nat.reduceAdd,zL,zT,zg,ze,qcm,qbA,qcT,ze,zg,Nat.reduceSub,L12,hk]
  rw[c_tables (k+98) _ _ (13,0) rfl]
  simp (disch:=first|omega|decide|simp only[qaf,qad,qag,qae,qah,qac,qaa,qab,qai]) only[qat,qaX,qao,qan,qal,qak,qar,qay,qaJ,qaq,qaH,qaG,qaj,zM,zN,zO,zP,zK,zJ,qbH,Nat.reduceAdd,zA,zB,zB,zA,qbz,qbJ,Nat.reduceMul,Nat.reduceAdd,qcm,qbA,qcT,op_mkslice,qaI,qaZ,qaA,qa6,qam,qam,mk4]
  generalize hL:qbW L12k3 _ _ _=r
  refine qby hL (w3J 8 60 key) 8 (by omega) (fun i st hi hJ=>k3_round _ 8 60 (by decide) (by decide) key hk i hi st hJ) ?_ ?_ ?_
  · refine qaT [(13, 0), (20, 0)] rfl (by simp only [qav, FUEL, qaz, qax, qaB, qaE, qaQ, qcM, qaO, zV, zX, zI, zR, zQ, zz, zC, zW, zY, zF, zm, zn, zf, Nat.reduceEqDiff, zS, zl, zD, zE, zq, zp, zo, ne_eq, zt, qap, qaN, qaL, qaC, qa2, qbb, qbj, L12k3, qbu, qbj, qaP, qbw]) (by simp only [zC, zG, qaN, qaL, qaC, L12k3, zG, zC, qbO]; rfl) ⟨_, rfl, ?_, ?_⟩
    · exact qau (13,0) rfl (by simp (disch:=first|omega|decide|simp only[qaf,qad,qag,qae,qah,qac,qaa,qab,qai]) only[qap,zF,Nat.reduceEqDiff,zS,zD,zE,qa2]) (by rw[qbt,qcD])
    · exact qau (20,0) rfl (by simp (disch:=first|omega|decide|simp only[qaf,qad,qag,qae,qah,qac,qaa,qab,qai]) only[qap,zF,Nat.reduceEqDiff,zS,zD,zE,qa2]; rfl) (qaK _ _)
  · rintro st ⟨H, rfl, h0, h1⟩
    apply qbs
    simp (disch:=first|omega|decide|simp only[qaf,qad,qag,qae,qah,qac,qaa,qab,qai]) only[qa0,qat,qao,qan,qal,qak,qaM,qar,qay,qaq,qaH,qaG,qaj,qaF,qaD,qas,zM,zN,zO,zP,zK,zJ,Nat.reduceAdd,zA,zB,zL,zB,zA,qaW,Nat.reduceMul,Nat.reduceAdd,zi,zL,qcm,qbA,qcT,L12b3]
    rfl
  · rintro st ⟨H, rfl, h0, h1⟩ rfl
    simp (disch:=first|omega|decide|simp only[qaf,qad,qag,qae,qah,qac,qaa,qab,qai]) only[qa0,qat,qaX,qao,qan,qal,qak,qar,qay,qaJ,qaq,qaH,qaG,qaj,qaF,qa8,qaD,qas,zM,zN,zO,zP,zK,zJ,qbH,Nat.reduceAdd,zD,zA,zB,zL,zB,zA,qbz,qaW,Nat.reduceMul,Nat.reduceAdd,zi,zL,qcm,qbA,qb9,qcT,qaI,qaA,qam,L12b3]
    generalize hL:qbW L12k2 _ _ _=r
    refine qby hL (w2J 8 60 key) 52 (by omega) (fun i st hi hJ=>k2_round _ 8 60 (.inr rfl) (by decide) (by decide) key hk i hi st hJ) ?_ ?_ ?_
    · refine qaT [(1, 0), (1, 1)] rfl (by simp only [qav, FUEL, qaz, qax, qaB, qaE, qaQ, qbU, qcM, qaO, zV, zX, zI, zR, zQ, zz, zC, zW, zY, zF, zm, zn, zf, zZ, zl, zD, zE, zb, zq, zp, zo, ne_eq, zt, qaN, qaL, qaC, qbb, qbj, L12k2, qbu, qbj, qaP, h0, h1]) rfl ⟨_, Un, Un, Un, Un, ⟨rfl, fun _ => rfl⟩, rfl, ?_, ?_⟩
      · exact qau (1,0) rfl (by simp (disch:=first|omega|decide|simp only[qaf,qad,qag,qae,qah,qac,qaa,qab,qai]) only[h0]) (by rw[qbt,qcD])
      · exact qau (1,1) rfl (by simp (disch:=first|omega|decide|simp only[qaf,qad,qag,qae,qah,qac,qaa,qab,qai]) only[zB,h1]; rw[KS,List.take_of_length_le (by omega)]) (qaK _ _)
    · rintro st ⟨H, a, b, d, e, hp, rfl, h0, h1⟩
      apply qbs
      simp (disch:=first|omega|decide|simp only[qaf,qad,qag,qae,qah,qac,qaa,qab,qai]) only[qa0,qat,qao,qan,qal,qak,qaM,qar,qay,qaJ,qaq,qaH,qaG,qaj,qaF,qaD,qas,zM,zN,zO,zP,zK,zJ,Nat.reduceAdd,zA,zB,zL,zB,zA,qbz,N_mul,qaW,Nat.reduceMul,Nat.reduceAdd,zi,zL,L12b2]
      rfl
    · rintro st ⟨H, a, b, d, e, hp, rfl, h0, h1⟩ rfl
      simp (disch:=first|omega|decide|simp only[qaf,qad,qag,qae,qah,qac,qaa,qab,qai]) only[qa0,qat,qaX,qao,qan,qal,qak,qar,qay,qaJ,qaq,qaH,qaG,qaj,qaF,qa8,qaD,qas,zM,zN,zO,zP,zK,zJ,qbH,Nat.reduceAdd,zD,zA,zB,zL,zB,zA,qbz,N_mul,qaW,Nat.reduceMul,Nat.reduceAdd,zi,zL,qaI,qaA,qam,L12b2]
      clear hL
      generalize hL:qbW L12k1 _ _ _=r
      have hlen:(KS 8 key 52).1.length=16*(8+7):=KS_length 8 key hk 52
      refine qby hL (w1J 8 60 (KS 8 key 52).1) 15 (by omega) (fun i st hi hJ=>k1_round (k+394) 8 60 i (by decide) hi _ hlen (by decide) (by decide) st hJ) ?_ ?_ ?_
      · refine qaT [(1, 0), (1, 1)] rfl (by simp only [qav, FUEL, qaz, qax, qaB, qaE, qaQ, qaO, zV, zX, zI, zR, zQ, zz, zC, zW, zY, zF, zm, zn, zf, zZ, zl, zD, zE, zb, zq, zp, zo, ne_eq, zt, Nat.reduceAdd, qaN, qaL, qaC, qbb, qbj, L12k1, qbu, qbj, qaP, h0, h1]) rfl ⟨_, .inl ⟨rfl, rfl, ?_, ?_⟩⟩
        · exact qau (1,0) rfl (by simp (disch:=first|omega|decide|simp only[qaf,qad,qag,qae,qah,qac,qaa,qab,qai]) only[h0]) (by rw[qbt,qcD])
        · exact qau (1,1) rfl (by simp (disch:=first|omega|decide|simp only[qaf,qad,qag,qae,qah,qac,qaa,qab,qai]) only[Nat.reduceAdd,h1]) (qaK _ _)
      · intro st hJ
        obtain ⟨H,rfl,h0,hk,h1⟩:=hJ.of_s (by decide)
        apply qbs
        simp (disch:=first|omega|decide|simp only[qaf,qad,qag,qae,qah,qac,qaa,qab,qai]) only[qa0,qat,qao,qan,qal,qak,qaM,qar,qay,qaq,qaG,qaj,qaF,qaD,qas,zM,zN,zO,zP,zK,zJ,Nat.reduceAdd,zA,zB,zL,qcU,zB,zA,qaW,Nat.reduceMul,Nat.reduceAdd,zi,zL,L12b1]
        rfl
      · intro st hJ hr
        obtain ⟨H,rfl,h0,hk,h1⟩:=hJ.of_s (by decide)
        subst hr
        simp (disch:=first|omega|decide|simp only[qaf,qad,qag,qae,qah,qac,qaa,qab,qai]) only[qbI,qa0,qat,qao,qan,qal,qak,qar,qay,qaJ,qaq,qaH,qaG,qaj,qaF,qa8,qaD,qas,qbr,zM,zN,zO,zP,zK,zJ,zH,Nat.reduceAdd,zD,zA,zB,zL,qc4,qcU,zB,zA,qaW,Nat.reduceMul,Nat.reduceAdd,zi,zL,qaI,qaA,zH,qam,L12b1]
        rw[List.take_of_length_le (by rw[hlen]; decide)] at hk
        rw[qdk 0 _ _ [(1,0),(1,1)] (by simp only[qav,FUEL,qaz,qax,qaB,qaQ,zV,zX,zI,zR,zQ,zz,zC,zW,zY,zF,zm,zn,zf,zZ,zl,zD,zE,zb,zq,zp,zo,ne_eq,zt,qbu,qaP,qcV,nms7_ptr,nms7_N,h0,hk])]
        simp (disch:=first|omega|decide|simp only[qaf,qad,qag,qae,qah,qac,qaa,qab,qai]) only[zG,zC,zH,Nat.reduceAdd,zF,zZ,zD,zE,zA,zh,idx_cons,canonMap_ne,zzB,zH,qaK,List.filterMap_cons,zz,qbq,qbK,qbt,qaK,h0,hk,qb8]
        rfl
theorem new_F (k n:Nat) (hn:n=4∨n=8) (key:List (BitVec 8)) (hk:key.length=4*n):F C (k+400) 12 [.isl (bs key) key.length] []=some (.tup [.ptr (1,0) 0,N 0],[],[CF (.sl (1,1) 0 (n+7) none 16) TB,bs (W n key)]):=by
  rcases hn with rfl | rfl
  · exact new_4 k key hk
  · exact new_8 k key hk
end Aes
