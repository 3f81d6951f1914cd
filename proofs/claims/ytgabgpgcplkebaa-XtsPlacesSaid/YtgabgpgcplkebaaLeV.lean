/- Calls on a cipher in the caller's memory; its functions, evaluated. -/
import Derived.Test.YtgabgpgcplkebaaLeU
set_option linter.unusedVariables false
set_option linter.unusedSimpArgs false
namespace Aes
open Go Go.LE
structure KG (H:Heap) (c m:Nm) (len:Nat) (cap:Option Nat) (l:List (BitVec 8)):Prop where
  hc:H c=some (CF (.sl m 0 len cap 16) TB)
  hm:H m=some (bs l)
  ne:c≠m
theorem callK (k b g:Nat) (hg:qcf g=fun _=>false) (H:Heap) (c m:Nm) (len:Nat) (cap:Option Nat) (l:List (BitVec 8)) (h:KG H c m len cap l) (ps:List LV) (hp:Pl ps) (r:LV) (hr:∀ π,ren D π r=r)
    (hw:F C k g (.ptr (0,0) 0::ps) [CF (.sl (0,1) 0 len cap 16) TB,bs l]=some (r,[some (CF (.sl (0,1) 0 len cap 16) TB),some (bs l)],[])) :
    qbD (envC C k) H b g (.ptr c 0::ps)=some ⟨r,[],[(c,some (CF (.sl m 0 len cap 16) TB)),(m,some (bs l))]⟩:=by
  have hc:([c]:List Nm).contains m=false:=by simp; exact fun e=>h.ne e.symm
  have hre:qbL H FUEL [] [c]=[c,m]:=by
    simp only[FUEL,qaz,zW,zf,zE,h.hc,qax,qbu,qaQ,zI,zR,hc,h.hm,qaP,qaB]
  rw[callOp_L,envC_borrow,C_bor,hg,lend_none,callL_some]
  have hn:(LV.ptr c 0::ps).flatMap (nms D)=[c]:=by rw[zV,qaE,hp.n]; rfl
  rw[hn,hre,callN_eq _ _ _ _ _ rfl,show ([c,m]:List Nm).filterMap H=[CF (.sl m 0 len cap 16) TB,bs l] by simp[h.hc,h.hm]]
  have ha:(LV.ptr c 0::ps).map (ren D (qbx [c,m])) = .ptr (0,0) 0::ps:=by
    simp only[zG,qb2,toCallee_eq,idx0,zH,qcE,hp.r]
  rw[ha,zG,zG,zC,qbt,qbq,toCallee_eq,idx1 _ _ _ h.ne,zH,qbK,qaK,envC_cal,hw,show ([]:List Nm).isEmpty=true from rfl,resK_sc,qdp,hr]
  simp only[List.zipWith_cons_cons,List.zipWith_nil_left,zH,qbt,qbq,toCaller_0,qaK,zC,qbK,List.getElem?_cons_zero,List.getElem?_cons_succ]
theorem made_F (k:Nat) (len:Nat) (hl:0 < len) (h2:len < 4611686018427387904) (cap:Option Nat) (f:R) (l:List (BitVec 8)) :
    F C (k+1) 31 [.ptr (0,0) 0] [CF (.sl (0,1) 0 len cap 16) f,bs l]=some (Bo true,[some (CF (.sl (0,1) 0 len cap 16) f),some (bs l)],[]):=by
  rw[qbT f31]
  simp (disch:=first|omega|decide|simp only[qaf,qad,qag,qae,qah,qac,qaa,qab,qai]) only[qbk,qbI,qat,qao,qan,qal,qak,qbm,qaM,guardK_true,qar,qay,qaJ,qaq,qdv,qaH,qcx,qaG,qaj,qbr,qcI,zM,zN,zO,zP,zI,zR,qbd,z7,zK,zJ,zH,Nat.reduceAdd,Nat.reduceSub,qaR,qbn,qbV,op_fa,qcy,zA,zB,zT,zB,zA,N_gtr,Nat.reduceAdd,zT,op_chk,qcq,nep_ptr,qcm,qbA,qb9,zH,qck,List.getElem?_cons_zero,L31,CF_k,hl]
  rw[qdk 2 _ _ [] (by simp only[qav,FUEL,qaz,qax,qaB,qaQ,qci,zV,zX,zI,zR,zQ,zC,zG,zW,zY,zF,zm,zn,zf,zZ,zl,zzC,zD,zE,zb,zq,zp,zo,ne_eq,z9,qck,qcc,List.getElem?_cons_zero,List.getElem?_cons_succ,qbu,qaP])]
  simp (disch:=first|omega|decide|simp only[qaf,qad,qag,qae,qah,qac,qaa,qab,qai]) only[ren_Bo,zG,zC,zH,qcK,zzB,zH,qaK,qck,qcc,List.getElem?_cons_zero,List.getElem?_cons_succ,qbq,qbK,qbt]
theorem plus_F (k:Nat) (a b:R):F C (k+1) 30 [.agg (aB 4 a),.agg (aB 4 b)] []=some (.agg (aB 4 fun j=>a j ^^^ b j),[],[]):=by
  rw[qbT f30]
  simp (disch:=first|omega|decide|simp only[qaf,qad,qag,qae,qah,qac,qaa,qab,qai]) only[qbk,qbI,qat,qao,qan,qal,qak,qaM,qar,qbc,qay,qaJ,qaq,qaG,qaj,qbr,zM,zN,zO,zP,zG,zC,zI,zR,zQ,qbd,z7,zK,zJ,B8_xor,zH,Nat.reduceAdd,Nat.reduceSub,qap,qdt,qcN,qa5,qb5,isCell_B8,qaR,qct,qbn,qbV,qcO,op_box,qcH,qbF,qbl,qdh,op_iaA,iaV_lt,qb6,qcZ,qcR,aggR_some,op_build,qbC,zzE,zzA,zzD,zw,zzG,zzJ,za,zd,zU,zF,Nat.reduceEqDiff,Nat.reduceLeDiff,zS,zu,zD,zE,zA,zB,Nat.le_refl,qdl,qdu,aB_cell,zk,zB,zA,qbJ,Nat.reduceLeDiff,Nat.reduceEqDiff,Nat.reduceAdd,zH,zk,qa2,L30]
  rfl
end Aes
namespace Aes
open Go Go.LE
def upto (i:Nat) (f g:R):R:=fun j=>if j < i then f j else g j
theorem upto_succ (i:Nat) (f g:R) (x:BitVec 8) (hx:x=f i):set1 (upto i f g) i x=upto (i+1) f g:=by
  subst hx
  funext j
  simp only[set1,upto]
  by_cases h:j=i
  · subst h; rw[if_pos rfl,if_pos (by omega)]
  · rw [if_neg h]
    by_cases h2:j < i
    · rw[if_pos h2,if_pos (by omega)]
    · rw[if_neg h2,if_neg (by omega)]
theorem upto_zero (f g:R):upto 0 f g=g:=by funext j; simp[upto]
theorem upto_at (i:Nat) (f g:R):upto i f g i=g i:=by simp[upto]
theorem upto_all (n:Nat) (f g:R):aB n (upto n f g)=aB n f:=aB_ext n fun j h=>by simp[upto,h]
def aJ (a b:R) (i:Nat) (st:St):Prop := ∃ (H:Heap),st=⟨[.undef,.undef,.ptr (1,0) 0,.ptr (1,1) 0,.ptr (1,2) 0,.undef,N i,.undef,.undef,.undef,.undef,.undef,.undef,.undef,.undef,.undef,.undef,.undef,.undef],H,2,0⟩∧H (1,0)=some (aB 16 (upto i (add a b) a))∧H (1,1)=some (aB 16 b)∧H (1,2)=some (aB 16 fun _=>0#8)
theorem add_F (k:Nat) (a b:R):F C (k+30) 34 [.agg (aB 16 a),.agg (aB 16 b)] []=some (.agg (aB 16 (add a b)),[],[]):=by
  rw[qbT f34]
  simp (disch:=first|omega|decide|simp only[qaf,qad,qag,qae,qah,qac,qaa,qab,qai]) only[qbk,qat,qaX,qao,qan,qal,qak,qaM,qar,qay,qaJ,qaH,qaj,zM,zN,zO,zP,zI,zR,qbd,z7,zK,zJ,qbH,Nat.reduceAdd,Nat.reduceSub,qdt,qa5,qcO,op_box,qcH,zA,zB,qcU,zB,zA,Nat.reduceAdd,L34]
  generalize hL:qbW L34k0 _ _ _=r
  refine qby hL (aJ a b) 16 (by omega) ?_ ?_ ?_ ?_
  · rintro i st hi ⟨H, rfl, h0, h1, h2⟩
    have hs:=upto_succ i (add a b) a (a i ^^^ b i) rfl
    apply Exists.intro
    apply And.intro
    · simp (disch := first | omega | decide | simp only [qaf, qad, qag, qae, qah, qac, qaa, qab, qai]) only [qbh, qat, qaX, qao, qan, qal, qak, qaM, qar, qbc, qay, qaJ, qaq, qaH, qaG, qaj, qaY, qaD, qa3, qbU, zM, zN, zO, zP, zQ, zK, zJ, B8_xor, Nat.reduceAdd, Nat.reduceSub, qb5, qaR, qbn, qbV, qbF, qbl, op_iaA, iaV_lt, za, zd, zU, Nat.reduceLT, zD, zA, zB, zT, aB_cell, aB_st, zk, zB, zA, qbz, qaW, qbJ, Nat.reduceLT, Nat.reduceAdd, zT, qce, zg, ze, zk, qa9, qbo, ordK_pure, ordK_mod, qbE, qca, qcl, qaE, zY, zW, zx, z6, z0, qbQ, qba, za, zd, Nat.testBit, Nat.reduceShiftRight, Nat.reduceAnd, Nat.reduceBEq, ze, zg, zy, zU, zj, Nat.reduceSub, Nat.reduceLT, bne, qbg, qbG, qbS, qbp, qbZ, qb0, zj, zU, L34b0, h0, h1, hi, upto_at, hs]
      rfl
    · refine qaT [(1, 0), (1, 1), (1, 2)] rfl (by simp only [qav, FUEL, qaz, qax, qaB, qaE, qaO, zV, zX, zI, zR, zQ, zz, zC, zW, zY, zF, zm, zn, zf, Nat.reduceEqDiff, zZ, zl, zD, zE, zb, zq, zp, zo, ne_eq, zt, qap, qaN, qaL, qaC, qbb, L34k0, qbP, h0, h1, h2]) rfl ⟨_, rfl, ?_, ?_, ?_⟩
      · exact qau (1,0) rfl (by simp (disch:=first|omega|decide|simp only[qaf,qad,qag,qae,qah,qac,qaa,qab,qai]) only[qap,zD,h0]) (qa4 _ _ _)
      · exact qau (1,1) rfl (by simp (disch:=first|omega|decide|simp only[qaf,qad,qag,qae,qah,qac,qaa,qab,qai]) only[qap,zF,zZ,zE,zb,h1]) (qa4 _ _ _)
      · exact qau (1,2) rfl (by simp (disch:=first|omega|decide|simp only[qaf,qad,qag,qae,qah,qac,qaa,qab,qai]) only[qap,zF,Nat.reduceEqDiff,zZ,zE,h2]) (qa4 _ _ _)
  · refine qaT [(2, 0), (3, 0), (4, 0)] rfl (by simp only [qav, FUEL, qaz, qax, qaB, qaE, qaO, zV, zX, zI, zR, zQ, zz, zC, zW, zY, zF, zm, zn, zf, Nat.reduceEqDiff, zS, zl, zD, zE, zq, zp, zo, ne_eq, zt, qap, qaN, qaL, qaC, qa2, qbb, L34k0, qbP]) rfl ⟨_, rfl, ?_, ?_, ?_⟩
    · rw[upto_zero]; exact qau (2,0) rfl (by simp (disch:=first|omega|decide|simp only[qaf,qad,qag,qae,qah,qac,qaa,qab,qai]) only[qap,zF,Nat.reduceEqDiff,zS,zD,zE,qa2]) (qa4 _ _ _)
    · exact qau (3,0) rfl (by simp (disch:=first|omega|decide|simp only[qaf,qad,qag,qae,qah,qac,qaa,qab,qai]) only[qap,zF,Nat.reduceEqDiff,zS,zD,zE,qa2]) (qa4 _ _ _)
    · exact qau (4,0) rfl (by simp (disch:=first|omega|decide|simp only[qaf,qad,qag,qae,qah,qac,qaa,qab,qai]) only[qap,zF,Nat.reduceEqDiff,zS,zD,zE,qa2]) (qa4 _ _ _)
  · rintro st ⟨H, rfl, h0, h1, h2⟩
    apply qbs
    simp (disch:=first|omega|decide|simp only[qaf,qad,qag,qae,qah,qac,qaa,qab,qai]) only[qa0,qat,qao,qan,qal,qak,qaM,qar,qay,qaJ,qaq,qaG,qaj,qaF,qaD,qas,zM,zN,zO,zP,zK,zJ,Nat.reduceAdd,zA,zB,zL,zB,zA,qaW,Nat.reduceAdd,zi,zL,L34b0]
    rfl
  · rintro st ⟨H, rfl, h0, h1, h2⟩ rfl
    simp (disch:=first|omega|decide|simp only[qaf,qad,qag,qae,qah,qac,qaa,qab,qai]) only[qbI,qa0,qat,qao,qan,qal,qak,qaM,qar,qbc,qay,qaJ,qaq,qaG,qaj,qaF,qa8,qaD,qas,qbr,zM,zN,zO,zP,zK,zJ,zH,Nat.reduceAdd,qap,qcN,qa5,qaR,qbv,qco,qbF,qbl,zD,zA,zB,zL,qdl,qdu,qcb,qcz,aB_outOf,zB,zA,qaW,Nat.reduceAdd,zi,zL,zH,L34b0,h0,h2,upto_all]
theorem TB_bx (x:BitVec 8):TB x.toNat=BX x.toNat:=if_pos x.isLt
theorem TB_ub (x:BitVec 8):TB (256+x.toNat)=UB x.toNat:=by
  have:=x.isLt
  rw[TB,if_neg (by omega),if_pos (by omega),zzM]
theorem TB_off (k:Nat) (x:BitVec 8):BitVec.ofNat 8 (256*k+x.toNat)=x:=by
  have:=x.isLt
  apply BitVec.eq_of_toNat_eq; simp only[BitVec.toNat_ofNat]; omega
theorem TB_2 (x:BitVec 8):TB (512+x.toNat)=T2 x:=by
  have:=x.isLt
  rw[TB,if_neg (by omega),if_neg (by omega),if_pos (by omega)]; exact congrArg T2 (TB_off 2 x)
theorem TB_9 (x:BitVec 8):TB (768+x.toNat)=T9 x:=by
  have:=x.isLt
  rw[TB,if_neg (by omega),if_neg (by omega),if_neg (by omega),if_pos (by omega)]; exact congrArg T9 (TB_off 3 x)
theorem TB_11 (x:BitVec 8):TB (1024+x.toNat)=T11 x:=by
  have:=x.isLt
  rw[TB,if_neg (by omega),if_neg (by omega),if_neg (by omega),if_neg (by omega),if_pos (by omega)]; exact congrArg T11 (TB_off 4 x)
theorem TB_13 (x:BitVec 8):TB (1280+x.toNat)=T13 x:=by
  have:=x.isLt
  rw[TB,if_neg (by omega),if_neg (by omega),if_neg (by omega),if_neg (by omega),if_neg (by omega),if_pos (by omega)]; exact congrArg T13 (TB_off 5 x)
theorem TB_14 (x:BitVec 8):TB (1536+x.toNat)=T14 x:=by
  have:=x.isLt
  rw[TB,if_neg (by omega),if_neg (by omega),if_neg (by omega),if_neg (by omega),if_neg (by omega),if_neg (by omega)]; exact congrArg T14 (TB_off 6 x)
theorem CT_bx (r:LV) (x:BitVec 8):cellK (1+x.toNat) 1 (some (CF r TB))=some [B8 (BX x.toNat)]:=by
  have:=x.isLt
  rw[CF_at' r TB _ x.toNat (by omega) (by omega),TB_bx]
theorem CT_ub (r:LV) (x:BitVec 8):cellK (257+x.toNat) 1 (some (CF r TB))=some [B8 (UB x.toNat)]:=by
  have:=x.isLt
  rw[CF_at' r TB _ (256+x.toNat) (by omega) (by omega),TB_ub]
theorem CT_2 (r:LV) (x:BitVec 8):cellK (513+x.toNat) 1 (some (CF r TB))=some [B8 (T2 x)]:=by
  have:=x.isLt
  rw[CF_at' r TB _ (512+x.toNat) (by omega) (by omega),TB_2]
theorem CT_9 (r:LV) (x:BitVec 8):cellK (769+x.toNat) 1 (some (CF r TB))=some [B8 (T9 x)]:=by
  have:=x.isLt
  rw[CF_at' r TB _ (768+x.toNat) (by omega) (by omega),TB_9]
theorem CT_11 (r:LV) (x:BitVec 8):cellK (1025+x.toNat) 1 (some (CF r TB))=some [B8 (T11 x)]:=by
  have:=x.isLt
  rw[CF_at' r TB _ (1024+x.toNat) (by omega) (by omega),TB_11]
theorem CT_13 (r:LV) (x:BitVec 8):cellK (1281+x.toNat) 1 (some (CF r TB))=some [B8 (T13 x)]:=by
  have:=x.isLt
  rw[CF_at' r TB _ (1280+x.toNat) (by omega) (by omega),TB_13]
theorem CT_14 (r:LV) (x:BitVec 8):cellK (1537+x.toNat) 1 (some (CF r TB))=some [B8 (T14 x)]:=by
  have:=x.isLt
  rw[CF_at' r TB _ (1536+x.toNat) (by omega) (by omega),TB_14]
def rJ (len:Nat) (cap:Option Nat) (l:List (BitVec 8)) (s:R) (i:Nat) (st:St):Prop := ∃ (H:Heap),st=⟨[.ptr (0,0) 0,.undef,.undef,.ptr (1,0) 0,.ptr (1,1) 0,.ptr (1,2) 0,.undef,.undef,N i,.undef,.undef,.undef,.undef,.undef,.undef,.undef,.undef,.undef,.undef,.undef,.undef,.undef,.undef,.undef,.undef,.undef,.undef,.undef],H,2,2⟩ ∧
  H (0,0)=some (CF (.sl (0,1) 0 len cap 16) TB)∧H (0,1)=some (bs l)∧H (1,0)=some (aB 16 s)∧H (1,1)=some (aB 16 fun _=>0#8)∧H (1,2)=some (aB 16 (upto i (rnd s) fun _=>0#8))
theorem round_F (k len:Nat) (cap:Option Nat) (l:List (BitVec 8)) (s:R):F C (k+30) 36 [.ptr (0,0) 0,.agg (aB 16 s)] [CF (.sl (0,1) 0 len cap 16) TB,bs l] =
    some (.agg (aB 16 (rnd s)),[some (CF (.sl (0,1) 0 len cap 16) TB),some (bs l)],[]):=by
  rw[qbT f36]
  simp (disch:=first|omega|decide|simp only[qaf,qad,qag,qae,qah,qac,qaa,qab,qai]) only[qbk,qat,qaX,qao,qan,qal,qak,qaM,qar,qbc,qay,qaJ,qaH,qaj,zM,zN,zO,zP,zC,zI,zR,qbd,z7,zK,zJ,qbH,Nat.reduceAdd,Nat.reduceSub,qap,qdt,qcN,qa5,qcO,op_box,qcH,qbF,qbl,qb6,aggR_some,op_build,zF,Nat.reduceEqDiff,zS,zD,zE,zA,zB,qcU,qcz,zB,zA,Nat.reduceEqDiff,Nat.reduceAdd,qa2,L36]
  generalize hL:qbW L36k0 _ _ _=r
  refine qby hL (rJ len cap l s) 16 (by omega) ?_ ?_ ?_ ?_
  · rintro i st hi ⟨H, rfl, h0, h1, h2, h3, h4⟩
    have hm:(i+4*(i % 4)) % 16 < 16:=by omega
    have hs:=upto_succ i (rnd s) (fun _=>0#8) (BX (s ((i+4*(i % 4)) % 16)).toNat) rfl
    apply Exists.intro
    apply And.intro
    · simp (disch := first | omega | decide | simp only [qaf, qad, qag, qae, qah, qac, qaa, qab, qai]) only [qbh, qat, qaX, qao, qan, qal, qak, qaM, qar, qbc, qay, qaJ, qaq, qaH, qaG, qaj, qaY, qaD, qa3, qbU, zM, zN, zO, zP, zQ, zK, zJ, B8_nat, Nat.reduceAdd, Nat.reduceSub, qb5, qaR, qbn, qbV, qbF, qbl, op_fa, qcy, op_iaA, iaV_lt, za, zd, zU, Nat.reduceLT, zD, zA, zB, zT, aB_cell, aB_st, zk, zB, zA, B8_nat, qbz, N_mul, N_rem, qaW, qbJ, Nat.reduceLT, Nat.reduceAdd, zT, qce, zg, ze, op_chk, qcq, zk, qa9, qbo, ordK_pure, ordK_mod, qbE, qca, qcl, qaE, zY, zW, zx, z6, z0, qbQ, qba, za, zd, Nat.testBit, Nat.reduceShiftRight, Nat.reduceAnd, Nat.reduceBEq, ze, zg, zy, zU, zj, Nat.reduceSub, Nat.reduceLT, bne, qbg, qbG, qbS, qbp, qbZ, qb0, zj, zU, L36b0, h0, h2, h4, hi, CT_bx, hs]
      rfl
    · refine qaT [(1, 0), (1, 1), (1, 2)] rfl (by simp only [qav, FUEL, qaz, qax, qaB, qaE, qaQ, qaO, zV, zX, zI, zR, zQ, zC, zG, zW, zY, zF, zm, zn, zf, Nat.reduceEqDiff, zS, zZ, zl, zzC, zD, zE, zb, zh, zq, zp, zo, ne_eq, zt, z9, qap, qaN, qaL, qaC, qcc, qbb, L36k0, qbP, qbu, qaP, h0, h1, h2, h3, h4]) rfl ⟨_, rfl, ?_, ?_, ?_, ?_, ?_⟩
      · rw[qbX]; simp (disch:=first|omega|decide|simp only[qaf,qad,qag,qae,qah,qac,qaa,qab,qai]) only[zH,qap,zF,Nat.reduceEqDiff,zu,zE,zh,qcK,zH,qbq,qbK,h0,qbt]
      · rw[qbX]; simp (disch:=first|omega|decide|simp only[qaf,qad,qag,qae,qah,qac,qaa,qab,qai]) only[zH,qap,zF,Nat.reduceEqDiff,zu,zE,zh,zH,qaK,h1]
      · exact qau (1,0) rfl (by simp (disch:=first|omega|decide|simp only[qaf,qad,qag,qae,qah,qac,qaa,qab,qai]) only[qap,zF,Nat.reduceEqDiff,zZ,zE,h2]) (qa4 _ _ _)
      · exact qau (1,1) rfl (by simp (disch:=first|omega|decide|simp only[qaf,qad,qag,qae,qah,qac,qaa,qab,qai]) only[qap,zF,Nat.reduceEqDiff,zZ,zE,h3]) (qa4 _ _ _)
      · exact qau (1,2) rfl (by simp (disch:=first|omega|decide|simp only[qaf,qad,qag,qae,qah,qac,qaa,qab,qai]) only[qap,zD]) (qa4 _ _ _)
  · refine qaT [(2, 0), (3, 0), (5, 0)] rfl (by simp only [qav, FUEL, qaz, qax, qaB, qaE, qaQ, qaO, zV, zX, zI, zR, zQ, zC, zG, zW, zY, zF, zm, zn, zf, Nat.reduceEqDiff, zS, zZ, zl, zzC, zD, zE, zb, zh, zq, zp, zo, ne_eq, zt, z9, qap, qaN, qaL, qaC, qck, qa2, qcc, List.getElem?_cons_zero, List.getElem?_cons_succ, qbb, L36k0, qbP, qbu, qaP]) rfl ⟨_, rfl, ?_, ?_, ?_, ?_, ?_⟩
    · rw[qbX]; simp (disch:=first|omega|decide|simp only[qaf,qad,qag,qae,qah,qac,qaa,qab,qai]) only[zH,qap,zF,Nat.reduceEqDiff,zS,zE,qcK,zH,qck,List.getElem?_cons_zero,qbq,qbK,qbt]
    · rw[qbX]; simp (disch:=first|omega|decide|simp only[qaf,qad,qag,qae,qah,qac,qaa,qab,qai]) only[zH,qap,zF,Nat.reduceEqDiff,zu,zE,zb,zH,qaK,qck,List.getElem?_cons_zero,List.getElem?_cons_succ]
    · exact qau (2,0) rfl (by simp (disch:=first|omega|decide|simp only[qaf,qad,qag,qae,qah,qac,qaa,qab,qai]) only[qap,zF,Nat.reduceEqDiff,zS,zD,zE,qa2]) (qa4 _ _ _)
    · exact qau (3,0) rfl (by simp (disch:=first|omega|decide|simp only[qaf,qad,qag,qae,qah,qac,qaa,qab,qai]) only[qap,zF,Nat.reduceEqDiff,zS,zD,zE,qa2]) (qa4 _ _ _)
    · rw[upto_zero]; exact qau (5,0) rfl (by simp (disch:=first|omega|decide|simp only[qaf,qad,qag,qae,qah,qac,qaa,qab,qai]) only[qap,zF,Nat.reduceEqDiff,zS,zD,zE,qa2]) (qa4 _ _ _)
  · rintro st ⟨H, rfl, h0, h1, h2, h3, h4⟩
    apply qbs
    simp (disch:=first|omega|decide|simp only[qaf,qad,qag,qae,qah,qac,qaa,qab,qai]) only[qa0,qat,qao,qan,qal,qak,qaM,qar,qay,qaJ,qaq,qaG,qaj,qaF,qaD,qas,zM,zN,zO,zP,zK,zJ,Nat.reduceAdd,zA,zB,zL,zB,zA,qaW,Nat.reduceAdd,zi,zL,L36b0]
    rfl
  · rintro st ⟨H, rfl, h0, h1, h2, h3, h4⟩ rfl
    simp (disch:=first|omega|decide|simp only[qaf,qad,qag,qae,qah,qac,qaa,qab,qai]) only[qbI,qa0,qat,qao,qan,qal,qak,qaM,qar,qbc,qay,qaJ,qaq,qaG,qaj,qaF,qa8,qaD,qas,qbr,zM,zN,zO,zP,zK,zJ,zH,Nat.reduceAdd,qap,qcN,qa5,qaR,qbv,qco,qbF,qbl,zD,zA,zB,zL,qdl,qdu,qcb,qcz,zB,zA,qaW,Nat.reduceAdd,zi,zL,zH,L36b0,h3,h4,upto_all]
    rw[qdk 2 _ _ [] (by simp only[qav,FUEL,qaz,qax,qaB,qaQ,zV,zX,zI,zR,zQ,zC,zG,zW,zY,zF,zm,zn,zf,zS,zZ,zl,zzC,zD,zE,zb,zh,zq,zp,zo,ne_eq,z9,qap,qcc,qbu,qaP,qbe,h0,h1])]
    simp (disch:=first|omega|decide|simp only[qaf,qad,qag,qae,qah,qac,qaa,qab,qai]) only[zG,zC,zH,qap,zF,false_and,zE,zh,qcK,zzB,zH,qaK,qcc,qbq,qbK,qbt,qbN,h0,h1]
def urT (i:Nat) (s:R):R:=fun j=>if j < 16∧(j+12*(j % 4)) % 16 < i then unrnd s j else 0#8
theorem urT_succ (i:Nat) (hi:i < 16) (s:R):set1 (urT i s) ((i+4*(i % 4)) % 16) (UB (s i).toNat)=urT (i+1) s:=by
  funext j
  simp only[set1,urT]
  by_cases h:j=(i+4*(i % 4)) % 16
  · have e : (j + 12 * (j % 4)) % 16 = i := by omega
    rw[if_pos h,if_pos (by omega),unrnd,e]
  · rw [if_neg h]
    by_cases h2:j < 16∧(j+12*(j % 4)) % 16 < i
    · rw[if_pos h2,if_pos (by omega)]
    · rw[if_neg h2,if_neg (by omega)]
theorem urT_zero (s:R):urT 0 s=fun _=>0#8:=by funext j; simp[urT]
theorem urT_all (s:R):aB 16 (urT 16 s)=aB 16 (unrnd s):=aB_ext 16 fun j h=>by rw[urT,if_pos (by omega)]
def uJ (len:Nat) (cap:Option Nat) (l:List (BitVec 8)) (s:R) (i:Nat) (st:St):Prop := ∃ (H:Heap),st=⟨[.ptr (0,0) 0,.undef,.undef,.undef,.ptr (1,0) 0,.ptr (1,1) 0,.undef,.undef,.undef,.agg (aB 16 s),N i,.undef,.undef,.undef,.undef,.undef,.undef,.undef,.undef,.undef,.undef,.undef,.undef,.undef,.undef,.undef,.undef,.undef,.undef],H,2,2⟩ ∧
  H (0,0)=some (CF (.sl (0,1) 0 len cap 16) TB)∧H (0,1)=some (bs l)∧H (1,0)=some (aB 16 fun _=>0#8)∧H (1,1)=some (aB 16 (urT i s))
theorem unround_F (k len:Nat) (cap:Option Nat) (l:List (BitVec 8)) (s:R):F C (k+30) 40 [.ptr (0,0) 0,.agg (aB 16 s)] [CF (.sl (0,1) 0 len cap 16) TB,bs l] =
    some (.agg (aB 16 (unrnd s)),[some (CF (.sl (0,1) 0 len cap 16) TB),some (bs l)],[]):=by
  rw[qbT f40]
  simp (disch:=first|omega|decide|simp only[qaf,qad,qag,qae,qah,qac,qaa,qab,qai]) only[qbk,qat,qaX,qao,qan,qal,qak,qaM,qar,qbc,qay,qaJ,qaH,qaj,zM,zN,zO,zP,zC,zI,zR,qbd,z7,zK,zJ,qbH,Nat.reduceAdd,Nat.reduceSub,qap,qdt,qcN,qa5,qaR,qbv,qco,qcO,op_box,qcH,qbF,qbl,qb6,aggR_some,op_build,zF,Nat.reduceEqDiff,zS,zD,zE,zA,zB,qcU,qcb,qcz,zB,zA,Nat.reduceEqDiff,Nat.reduceAdd,qa2,L40]
  generalize hL:qbW L40k0 _ _ _=r
  refine qby hL (uJ len cap l s) 16 (by omega) ?_ ?_ ?_ ?_
  · rintro i st hi ⟨H, rfl, h0, h1, h2, h3⟩
    have hm:(i+4*(i % 4)) % 16 < 16:=by omega
    have hm2:(i+i % 4*4) % 16=(i+4*(i % 4)) % 16:=by omega
    have hs:=urT_succ i hi s
    apply Exists.intro
    apply And.intro
    · simp (disch := first | omega | decide | simp only [qaf, qad, qag, qae, qah, qac, qaa, qab, qai]) only [qbh, qat, qaX, qao, qan, qal, qak, qaM, qar, qbc, qay, qaJ, qaq, qaH, qaG, qaj, qaY, qaD, qa3, zM, zN, zO, zP, zK, zJ, B8_nat, Nat.reduceAdd, qcN, qb5, qaR, qbn, qbV, qbF, qbl, op_fa, qcy, op_iaA, iaV_lt, zA, zB, zT, op_ix1, aB_st, aB_ix1, zk, zB, zA, B8_nat, qbz, N_mul, N_rem, qaW, qbJ, Nat.reduceAdd, zT, op_chk, qcq, zk, L40b0, h0, h3, hi, CT_ub, hs]
      rfl
    · refine qaT [(1, 0), (1, 1)] rfl (by simp only [qav, FUEL, qaz, qax, qaB, qaE, qaQ, qaO, zV, zX, zI, zR, zQ, zC, zG, zW, zY, zF, zm, zn, zf, zS, zZ, zl, zzC, zD, zE, zb, zh, zq, zp, zo, ne_eq, zt, z9, qap, qaN, qaL, qaC, qcc, qbb, L40k0, qbP, qbe, qbu, qaP, h0, h1, h2, h3]) (by simp only [zC, zG, qaN, qaL, qaC, L40k0, zG, zC, qbN]; rfl) ⟨_, rfl, ?_, ?_, ?_, ?_⟩
      · rw[qbX]; simp (disch:=first|omega|decide|simp only[qaf,qad,qag,qae,qah,qac,qaa,qab,qai]) only[zH,qap,zF,zu,zE,zh,qcK,zH,qbq,qbK,h0,qbt]
      · rw[qbX]; simp (disch:=first|omega|decide|simp only[qaf,qad,qag,qae,qah,qac,qaa,qab,qai]) only[zH,qap,zF,zS,zE,zh,zH,qaK,h1]
      · exact qau (1,0) rfl (by simp (disch:=first|omega|decide|simp only[qaf,qad,qag,qae,qah,qac,qaa,qab,qai]) only[qap,zF,zZ,zE,zh,h2]) (qa4 _ _ _)
      · exact qau (1,1) rfl (by simp (disch:=first|omega|decide|simp only[qaf,qad,qag,qae,qah,qac,qaa,qab,qai]) only[qap,zD,h3]) (qa4 _ _ _)
  · refine qaT [(3, 0), (5, 0)] rfl (by simp only [qav, FUEL, qaz, qax, qaB, qaE, qaQ, qaO, zV, zX, zI, zR, zQ, zC, zG, zW, zY, zF, zm, zn, zf, Nat.reduceEqDiff, zS, zZ, zl, zzC, zD, zE, zb, zh, zq, zp, zo, ne_eq, zt, z9, qap, qaN, qaL, qaC, qck, qa2, qcc, List.getElem?_cons_zero, List.getElem?_cons_succ, qbb, L40k0, qbP, qbe, qbu, qaP]) (by simp only [zC, zG, qaN, qaL, qaC, L40k0, zG, zC, qbN]; rfl) ⟨_, rfl, ?_, ?_, ?_, ?_⟩
    · rw[qbX]; simp (disch:=first|omega|decide|simp only[qaf,qad,qag,qae,qah,qac,qaa,qab,qai]) only[zH,qap,zF,Nat.reduceEqDiff,zS,zE,qcK,zH,qck,List.getElem?_cons_zero,qbq,qbK,qbt]
    · rw[qbX]; simp (disch:=first|omega|decide|simp only[qaf,qad,qag,qae,qah,qac,qaa,qab,qai]) only[zH,qap,zF,Nat.reduceEqDiff,zu,zE,zb,zH,qaK,qck,List.getElem?_cons_zero,List.getElem?_cons_succ]
    · exact qau (3,0) rfl (by simp (disch:=first|omega|decide|simp only[qaf,qad,qag,qae,qah,qac,qaa,qab,qai]) only[qap,zF,Nat.reduceEqDiff,zS,zD,zE,qa2]) (qa4 _ _ _)
    · rw[urT_zero]; exact qau (5,0) rfl (by simp (disch:=first|omega|decide|simp only[qaf,qad,qag,qae,qah,qac,qaa,qab,qai]) only[qap,zF,Nat.reduceEqDiff,zS,zD,zE,qa2]) (qa4 _ _ _)
  · rintro st ⟨H, rfl, h0, h1, h2, h3⟩
    apply qbs
    simp (disch:=first|omega|decide|simp only[qaf,qad,qag,qae,qah,qac,qaa,qab,qai]) only[qa0,qat,qao,qan,qal,qak,qaM,qar,qay,qaJ,qaq,qaG,qaj,qaF,qaD,qas,zM,zN,zO,zP,zK,zJ,Nat.reduceAdd,zA,zB,zL,zB,zA,qaW,Nat.reduceAdd,zi,zL,L40b0]
    rfl
  · rintro st ⟨H, rfl, h0, h1, h2, h3⟩ rfl
    simp (disch:=first|omega|decide|simp only[qaf,qad,qag,qae,qah,qac,qaa,qab,qai]) only[qbI,qa0,qat,qao,qan,qal,qak,qaM,qar,qbc,qay,qaJ,qaq,qaG,qaj,qaF,qa8,qaD,qas,qbr,zM,zN,zO,zP,zK,zJ,zH,Nat.reduceAdd,qap,qcN,qa5,qaR,qbv,qco,qbF,qbl,zD,zA,zB,zL,qdl,qdu,qcb,qcz,zB,zA,qaW,Nat.reduceAdd,zi,zL,zH,L40b0,h2,h3,urT_all]
    rw[qdk 2 _ _ [] (by simp only[qav,FUEL,qaz,qax,qaB,qaQ,zV,zX,zI,zR,zQ,zC,zG,zW,zY,zF,zm,zn,zf,zS,zZ,zl,zzC,zD,zE,zb,zh,zq,zp,zo,ne_eq,z9,qap,qcc,qbu,qaP,qbe,h0,h1])]
    simp (disch:=first|omega|decide|simp only[qaf,qad,qag,qae,qah,qac,qaa,qab,qai]) only[zG,zC,zH,qap,zF,false_and,zE,zh,qcK,zzB,zH,qaK,qcc,qbq,qbK,qbt,qbN,h0,h1]
end Aes
namespace Aes
open Go Go.LE
theorem upto_ge (i j:Nat) (f g:R) (h:i≤j):upto i f g j=g j:=if_neg (by omega)
theorem at4_col (s:R) (c r k:Nat) (hr:r < 4):at4 s (4*c+r) k=s (4*c+(r+k) % 4):=by
  rw[at4]; congr 1; omega
theorem at4_col0 (s:R) (c k:Nat) (hk:k < 4):at4 s (4*c) k=s (4*c+k):=by
  rw[at4]; congr 1; omega
theorem upto4 (c:Nat) (f g:R) (v0 v1 v2 v3:BitVec 8) (h0:v0=f (4*c)) (h1:v1=f (4*c+1)) (h2:v2=f (4*c+2)) (h3:v3=f (4*c+3)) :
    set1 (set1 (set1 (set1 (upto (4*c) f g) (4*c) v0) (4*c+1) v1) (4*c+2) v2) (4*c+3) v3=upto (4*(c+1)) f g:=by
  rw[upto_succ _ _ _ _ h0,upto_succ _ _ _ _ h1,upto_succ _ _ _ _ h2,upto_succ _ _ _ _ h3]; rfl
theorem xc (a b c:BitVec 8):a ^^^ (b ^^^ c)=b ^^^ (a ^^^ c):=by rw[←BitVec.xor_assoc,BitVec.xor_comm a b,BitVec.xor_assoc]
def mJ (len:Nat) (cap:Option Nat) (l:List (BitVec 8)) (s:R) (i:Nat) (st:St):Prop := ∃ (H:Heap),st=⟨[.ptr (0,0) 0,.undef,.undef,.ptr (1,0) 0,.ptr (1,1) 0,N (4*i),.undef,.undef,.undef,.undef,.undef,.undef,.undef,.undef,.undef,.undef,.undef,.undef,.undef,.undef,.undef,.undef,.undef,.undef,.undef,.undef,.undef,.undef,.undef,.undef,.undef,.undef,.undef,.undef,.undef,.undef,.undef,.undef,.undef,.undef,.undef,.undef,.undef,.undef,.undef,.undef,.undef,.undef,.undef,.undef,.undef,.undef,.undef,.undef,.undef,.undef,.undef,.undef,.undef,.undef,.undef,.undef,.undef,.undef,.undef,.undef,.undef,.undef,.undef,.undef,.undef,.undef,.undef,.undef,.undef,.undef,.undef,.undef,.undef,.undef,.undef,.undef,.undef,.undef,.undef,.undef,.undef,.undef,.undef,.undef,.undef,.undef,.undef,.undef,.undef,.undef,.undef],H,2,2⟩ ∧
  H (0,0)=some (CF (.sl (0,1) 0 len cap 16) TB)∧H (0,1)=some (bs l)∧H (1,0)=some (aB 16 (upto (4*i) (mix s) s))∧H (1,1)=some (aB 16 fun _=>0#8)
theorem mix_F (k len:Nat) (cap:Option Nat) (l:List (BitVec 8)) (s:R):F C (k+30) 35 [.ptr (0,0) 0,.agg (aB 16 s)] [CF (.sl (0,1) 0 len cap 16) TB,bs l] =
    some (.agg (aB 16 (mix s)),[some (CF (.sl (0,1) 0 len cap 16) TB),some (bs l)],[]):=by
  rw[qbT f35]
  simp (disch:=first|omega|decide|simp only[qaf,qad,qag,qae,qah,qac,qaa,qab,qai]) only[qbk,qat,qaX,qao,qan,qal,qak,qaM,qar,qay,qaJ,qaH,qaj,zM,zN,zO,zP,zI,zR,qbd,z7,zK,zJ,qbH,Nat.reduceAdd,Nat.reduceSub,qdt,qa5,qcO,op_box,qcH,zA,zB,qcU,zB,zA,Nat.reduceAdd,L35]
  generalize hL:qbW L35k0 _ _ _=r
  refine qby hL (mJ len cap l s) 4 (by omega) ?_ ?_ ?_ ?_
  · rintro i st hi ⟨H, rfl, h0, h1, h2, h3⟩
    have hm:4*i < 16:=by omega
    have e4:4*i+4=4*(i+1):=by omega
    have v0:s (4*i) ^^^ (s (4*i) ^^^ s (4*i+1) ^^^ s (4*i+2) ^^^ s (4*i+3)) ^^^ T2 (s (4*i) ^^^ s (4*i+1))=mix s (4*i):=by
      simp only[mix,at4_col0 s i _ (show 0 < 4 by decide),at4_col0 s i _ (show 1 < 4 by decide),at4_col0 s i _ (show 2 < 4 by decide),at4_col0 s i _ (show 3 < 4 by decide),zB,T2_lin]
      simp only[BitVec.xor_assoc,BitVec.xor_comm,xc,GF.xor_self_cancel]
    have v1:s (4*i+1) ^^^ (s (4*i) ^^^ s (4*i+1) ^^^ s (4*i+2) ^^^ s (4*i+3)) ^^^ T2 (s (4*i+1) ^^^ s (4*i+2))=mix s (4*i+1):=by
      simp only[mix,at4_col s i 1 _ (by decide),Nat.reduceAdd,Nat.reduceMod,zB,T2_lin]
      simp only[BitVec.xor_assoc,BitVec.xor_comm,xc,GF.xor_self_cancel]
    have v2:s (4*i+2) ^^^ (s (4*i) ^^^ s (4*i+1) ^^^ s (4*i+2) ^^^ s (4*i+3)) ^^^ T2 (s (4*i+2) ^^^ s (4*i+3))=mix s (4*i+2):=by
      simp only[mix,at4_col s i 2 _ (by decide),Nat.reduceAdd,Nat.reduceMod,zB,T2_lin]
      simp only[BitVec.xor_assoc,BitVec.xor_comm,xc,GF.xor_self_cancel]
    have v3:s (4*i+3) ^^^ (s (4*i) ^^^ s (4*i+1) ^^^ s (4*i+2) ^^^ s (4*i+3)) ^^^ T2 (s (4*i+3) ^^^ s (4*i))=mix s (4*i+3):=by
      simp only[mix,at4_col s i 3 _ (by decide),Nat.reduceAdd,Nat.reduceMod,zB,T2_lin]
      simp only[BitVec.xor_assoc,BitVec.xor_comm,xc,BitVec.xor_self,BitVec.xor_zero]
    have hs:=upto4 i (mix s) s _ _ _ _ rfl rfl rfl rfl
    apply Exists.intro
    apply And.intro
    · simp (disch := first | omega | decide | simp only [qaf, qad, qag, qae, qah, qac, qaa, qab, qai]) only [qbh, qat, qaX, qao, qan, qal, qak, qaM, qar, qbc, qay, qaJ, qaq, qaH, qaG, qaj, qaY, qaD, qa3, qbU, zM, zN, zO, zP, zQ, zK, zJ, B8_xor, B8_nat, Nat.reduceAdd, Nat.reduceSub, qap, qb5, qaR, qbn, qbV, qbF, qbl, op_fa, qcy, op_iaA, iaV_lt, za, zd, zU, Nat.reduceLT, zD, zA, zB, zT, aB_cell, aB_st, zk, zB, zA, B8_nat, qbz, qaW, qbJ, Nat.reduceLT, Nat.reduceAdd, zT, qce, zg, ze, op_chk, qcq, zk, qa9, qbo, ordK_pure, ordK_mod, qbE, qca, qcl, qaE, zY, zW, zx, z6, z0, qbQ, qba, za, zd, Nat.testBit, Nat.reduceShiftRight, Nat.reduceAnd, Nat.reduceBEq, ze, zg, zy, zU, zj, Nat.reduceSub, Nat.reduceLT, bne, qbg, qbG, qbS, qbp, qbZ, qb0, zj, zU, L35b0, h0, h2, hm, upto_ge, CT_2, v0, v1, v2, v3, hs, e4]
      rfl
    · refine qaT [(1, 0), (1, 1)] rfl (by simp only [qav, FUEL, qaz, qax, qaB, qaE, qaQ, qaO, zV, zX, zI, zR, zQ, zC, zG, zW, zY, zF, zm, zn, zf, zS, zZ, zl, zzC, zD, zE, zb, zh, zq, zp, zo, ne_eq, zt, z9, qap, qaN, qaL, qaC, qcc, qbb, L35k0, qbP, qbu, qaP, h0, h1, h2, h3]) rfl ⟨_, rfl, ?_, ?_, ?_, ?_⟩
      · rw[qbX]; simp (disch:=first|omega|decide|simp only[qaf,qad,qag,qae,qah,qac,qaa,qab,qai]) only[zH,qap,zF,zS,zE,zh,qcK,zH,qbq,qbK,h0,qbt]
      · rw[qbX]; simp (disch:=first|omega|decide|simp only[qaf,qad,qag,qae,qah,qac,qaa,qab,qai]) only[zH,qap,zF,zu,zE,zb,zh,zH,qaK,h1]
      · exact qau (1,0) rfl (by simp (disch:=first|omega|decide|simp only[qaf,qad,qag,qae,qah,qac,qaa,qab,qai]) only[qap,zD,h2]) (qa4 _ _ _)
      · exact qau (1,1) rfl (by simp (disch:=first|omega|decide|simp only[qaf,qad,qag,qae,qah,qac,qaa,qab,qai]) only[qap,zF,zZ,zE,zb,h3]) (qa4 _ _ _)
  · refine qaT [(2, 0), (3, 0)] rfl (by simp only [qav, FUEL, qaz, qax, qaB, qaE, qaQ, qaO, zV, zX, zI, zR, zQ, zC, zG, zW, zY, zF, zm, zn, zf, Nat.reduceEqDiff, zS, zZ, zl, zzC, zD, zE, zb, zh, zq, zp, zo, ne_eq, zt, z9, qap, qaN, qaL, qaC, qck, qa2, qcc, List.getElem?_cons_zero, List.getElem?_cons_succ, qbb, L35k0, qbP, qbu, qaP]) rfl ⟨_, rfl, ?_, ?_, ?_, ?_⟩
    · rw[qbX]; simp (disch:=first|omega|decide|simp only[qaf,qad,qag,qae,qah,qac,qaa,qab,qai]) only[zH,qap,zF,Nat.reduceEqDiff,zS,zE,qcK,zH,qck,List.getElem?_cons_zero,qbq,qbK,qbt]
    · rw[qbX]; simp (disch:=first|omega|decide|simp only[qaf,qad,qag,qae,qah,qac,qaa,qab,qai]) only[zH,qap,zF,Nat.reduceEqDiff,zu,zE,zb,zH,qaK,qck,List.getElem?_cons_zero,List.getElem?_cons_succ]
    · rw[Nat.mul_zero,upto_zero]; exact qau (2,0) rfl (by simp (disch:=first|omega|decide|simp only[qaf,qad,qag,qae,qah,qac,qaa,qab,qai]) only[qap,zF,Nat.reduceEqDiff,zS,zD,zE,qa2]) (qa4 _ _ _)
    · exact qau (3,0) rfl (by simp (disch:=first|omega|decide|simp only[qaf,qad,qag,qae,qah,qac,qaa,qab,qai]) only[qap,zF,Nat.reduceEqDiff,zS,zD,zE,qa2]) (qa4 _ _ _)
  · rintro st ⟨H, rfl, h0, h1, h2, h3⟩
    apply qbs
    simp (disch:=first|omega|decide|simp only[qaf,qad,qag,qae,qah,qac,qaa,qab,qai]) only[qa0,qat,qao,qan,qal,qak,qaM,qar,qay,qaJ,qaq,qaH,qaG,qaj,qaF,qaD,qas,zM,zN,zO,zP,zK,zJ,Nat.reduceAdd,zA,zB,zL,zB,zA,qaW,Nat.reduceMul,Nat.reduceAdd,zi,zL,L35b0]
    rfl
  · rintro st ⟨H, rfl, h0, h1, h2, h3⟩ rfl
    simp (disch:=first|omega|decide|simp only[qaf,qad,qag,qae,qah,qac,qaa,qab,qai]) only[qbI,qa0,qat,qao,qan,qal,qak,qaM,qar,qbc,qay,qaJ,qaq,qaH,qaG,qaj,qaF,qa8,qaD,qas,qbr,zM,zN,zO,zP,zK,zJ,zH,Nat.reduceAdd,qap,qcN,qa5,qaR,qbv,qco,qbF,qbl,zD,zA,zB,zL,qdl,qdu,qcb,qcz,zB,zA,qaW,Nat.reduceMul,Nat.reduceAdd,zi,zL,zH,L35b0,h2,h3,upto_all]
    rw[qdk 2 _ _ [] (by simp only[qav,FUEL,qaz,qax,qaB,qaQ,zV,zX,zI,zR,zQ,zC,zG,zW,zY,zF,zm,zn,zf,zS,zZ,zl,zzC,zD,zE,zb,zh,zq,zp,zo,ne_eq,z9,qap,qcc,qbu,qaP,qbe,h0,h1])]
    simp (disch:=first|omega|decide|simp only[qaf,qad,qag,qae,qah,qac,qaa,qab,qai]) only[zG,zC,zH,qap,zF,false_and,zE,zh,qcK,zzB,zH,qaK,qcc,qbq,qbK,qbt,qbN,h0,h1]
def umJ (len:Nat) (cap:Option Nat) (l:List (BitVec 8)) (s:R) (i:Nat) (st:St):Prop := ∃ (H:Heap),st=⟨[.undef,.undef,.undef,.ptr (1,0) 0,.ptr (1,1) 0,.ptr (0,0) 1537,.ptr (0,0) 1025,.ptr (0,0) 1281,.ptr (0,0) 769,N (4*i),.undef,.undef,.undef,.undef,.undef,.undef,.undef,.undef,.undef,.undef,.undef,.undef,.undef,.undef,.undef,.undef,.undef,.undef,.undef,.undef,.undef,.undef,.undef,.undef,.undef,.undef,.undef,.undef,.undef,.undef,.undef,.undef,.undef,.undef,.undef,.undef,.undef,.undef,.undef,.undef,.undef,.undef,.undef,.undef,.undef,.undef,.undef,.undef,.undef,.undef,.undef,.undef,.undef,.undef,.undef,.undef,.undef,.undef,.undef,.undef,.undef,.undef,.undef,.undef,.undef,.undef,.undef,.undef,.undef,.undef,.undef,.undef,.undef,.undef,.undef,.undef,.undef,.undef,.undef,.undef,.undef,.undef,.undef,.undef,.undef,.undef,.undef,.undef,.undef,.undef,.undef,.undef,.undef,.undef,.undef,.undef,.undef,.undef,.undef,.undef,.undef,.undef,.undef,.undef,.undef,.undef,.undef,.undef,.undef,.undef,.undef,.undef,.undef,.undef,.undef,.undef,.undef,.undef,.undef,.undef,.undef,.undef,.undef,.undef,.undef,.undef,.undef,.undef,.undef,.undef,.undef,.undef,.undef,.undef,.undef,.undef,.undef,.undef,.undef],H,2,2⟩ ∧
  H (0,0)=some (CF (.sl (0,1) 0 len cap 16) TB)∧H (0,1)=some (bs l)∧H (1,0)=some (aB 16 (upto (4*i) (unmix s) s))∧H (1,1)=some (aB 16 fun _=>0#8)
set_option maxRecDepth 20000 in
set_option maxHeartbeats 1000000 in
theorem unmix_F (k len:Nat) (cap:Option Nat) (l:List (BitVec 8)) (s:R):F C (k+30) 41 [.ptr (0,0) 0,.agg (aB 16 s)] [CF (.sl (0,1) 0 len cap 16) TB,bs l] =
    some (.agg (aB 16 (unmix s)),[some (CF (.sl (0,1) 0 len cap 16) TB),some (bs l)],[]):=by
  rw[qbT f41]
  simp (disch:=first|omega|decide|simp only[qaf,qad,qag,qae,qah,qac,qaa,qab,qai]) only[qbk,qat,qaX,qao,qan,qal,qak,qaM,qar,qay,qaJ,qaq,qaH,qaj,zM,zN,zO,zP,zI,zR,qbd,z7,zK,zJ,qbH,Nat.reduceAdd,Nat.reduceSub,qdt,qa5,qcO,op_box,qcH,op_fa,qcy,zA,zB,qcU,zB,zA,Nat.reduceAdd,op_chk,qcq,L41]
  generalize hL:qbW L41k0 _ _ _=r
  refine qby hL (umJ len cap l s) 4 (by omega) ?_ ?_ ?_ ?_
  · rintro i st hi ⟨H, rfl, h0, h1, h2, h3⟩
    have hm:4*i < 16:=by omega
    have e4:4*i+4=4*(i+1):=by omega
    have v0:T14 (s (4*i)) ^^^ T11 (s (4*i+1)) ^^^ T13 (s (4*i+2)) ^^^ T9 (s (4*i+3))=unmix s (4*i):=by
      simp only[unmix,at4_col0 s i _ (show 0 < 4 by decide),at4_col0 s i _ (show 1 < 4 by decide),at4_col0 s i _ (show 2 < 4 by decide),at4_col0 s i _ (show 3 < 4 by decide),zB]
    have v1:T9 (s (4*i)) ^^^ T14 (s (4*i+1)) ^^^ T11 (s (4*i+2)) ^^^ T13 (s (4*i+3))=unmix s (4*i+1):=by
      simp only[unmix,at4_col s i 1 _ (by decide),Nat.reduceAdd,Nat.reduceMod,zB]
      simp only[BitVec.xor_comm,xc]
    have v2:T13 (s (4*i)) ^^^ T9 (s (4*i+1)) ^^^ T14 (s (4*i+2)) ^^^ T11 (s (4*i+3))=unmix s (4*i+2):=by
      simp only[unmix,at4_col s i 2 _ (by decide),Nat.reduceAdd,Nat.reduceMod,zB]
      simp only[BitVec.xor_comm,xc]
    have v3:T11 (s (4*i)) ^^^ T13 (s (4*i+1)) ^^^ T9 (s (4*i+2)) ^^^ T14 (s (4*i+3))=unmix s (4*i+3):=by
      simp only[unmix,at4_col s i 3 _ (by decide),Nat.reduceAdd,Nat.reduceMod,zB]
      simp only[BitVec.xor_comm,xc]
    have hs:=upto4 i (unmix s) s _ _ _ _ rfl rfl rfl rfl
    apply Exists.intro
    apply And.intro
    · simp (disch := first | omega | decide | simp only [qaf, qad, qag, qae, qah, qac, qaa, qab, qai]) only [qbh, qat, qaX, qao, qan, qal, qak, qaM, qar, qbc, qay, qaJ, qaq, qaH, qaG, qaj, qaY, qaD, qa3, qbU, zM, zN, zO, zP, zQ, zK, zJ, B8_xor, B8_nat, Nat.reduceAdd, Nat.reduceSub, qap, qb5, qaR, qbn, qbV, qbF, qbl, op_iaA, iaV_lt, za, zd, zU, zF, Nat.reduceLT, zS, zD, zE, zA, zB, zT, zh, aB_cell, aB_st, zk, zB, zA, B8_nat, qbz, qaW, qbJ, Nat.reduceLT, Nat.reduceAdd, zT, qce, zg, ze, op_chk, qcq, zk, qa9, qbo, ordK_pure, ordK_mod, qbE, qca, qcl, qaE, zY, zW, zx, z6, z0, qbQ, qba, za, zd, Nat.testBit, Nat.reduceShiftRight, Nat.reduceAnd, Nat.reduceBEq, ze, zg, zy, zU, zj, Nat.reduceSub, Nat.reduceLT, bne, qbg, qbG, qbS, qbp, qbZ, qb0, zj, zU, L41b0, h0, h2, hm, upto_ge, CT_9, CT_11, CT_13, CT_14, v0, v1, v2, v3, hs, e4]
      rfl
    · refine qaT [(1, 0), (1, 1)] rfl (by simp only [qav, FUEL, qaz, qax, qaB, qaE, qaQ, qaO, zV, zX, zI, zR, zQ, zC, zG, zW, zY, zF, zm, zn, zf, zS, zZ, zl, zzC, zD, zE, zb, zh, zq, zp, zo, ne_eq, zt, z9, qap, qaN, qaL, qaC, qcc, qbb, L41k0, qbP, qbu, qaP, h0, h1, h2, h3]) rfl ⟨_, rfl, ?_, ?_, ?_, ?_⟩
      · rw[qbX]; simp (disch:=first|omega|decide|simp only[qaf,qad,qag,qae,qah,qac,qaa,qab,qai]) only[zH,qap,zF,zS,zE,zh,qcK,zH,qbq,qbK,h0,qbt]
      · rw[qbX]; simp (disch:=first|omega|decide|simp only[qaf,qad,qag,qae,qah,qac,qaa,qab,qai]) only[zH,qap,zF,zu,zE,zb,zh,zH,qaK,h1]
      · exact qau (1,0) rfl (by simp (disch:=first|omega|decide|simp only[qaf,qad,qag,qae,qah,qac,qaa,qab,qai]) only[qap,zD,h2]) (qa4 _ _ _)
      · exact qau (1,1) rfl (by simp (disch:=first|omega|decide|simp only[qaf,qad,qag,qae,qah,qac,qaa,qab,qai]) only[qap,zF,zZ,zE,zb,h3]) (qa4 _ _ _)
  · refine qaT [(2, 0), (3, 0)] rfl (by simp only [qav, FUEL, qaz, qax, qaB, qaE, qaQ, qaO, zV, zX, zI, zR, zQ, zC, zG, zW, zY, zF, zm, zn, zf, Nat.reduceEqDiff, zS, zZ, zl, zzC, zD, zE, zb, zh, zq, zp, zo, ne_eq, zt, z9, qap, qaN, qaL, qaC, qck, qa2, qcc, List.getElem?_cons_zero, List.getElem?_cons_succ, qbb, L41k0, qbP, qbu, qaP]) rfl ⟨_, rfl, ?_, ?_, ?_, ?_⟩
    · rw[qbX]; simp (disch:=first|omega|decide|simp only[qaf,qad,qag,qae,qah,qac,qaa,qab,qai]) only[zH,qap,zF,Nat.reduceEqDiff,zS,zE,qcK,zH,qck,List.getElem?_cons_zero,qbq,qbK,qbt]
    · rw[qbX]; simp (disch:=first|omega|decide|simp only[qaf,qad,qag,qae,qah,qac,qaa,qab,qai]) only[zH,qap,zF,Nat.reduceEqDiff,zu,zE,zb,zH,qaK,qck,List.getElem?_cons_zero,List.getElem?_cons_succ]
    · rw[Nat.mul_zero,upto_zero]; exact qau (2,0) rfl (by simp (disch:=first|omega|decide|simp only[qaf,qad,qag,qae,qah,qac,qaa,qab,qai]) only[qap,zF,Nat.reduceEqDiff,zS,zD,zE,qa2]) (qa4 _ _ _)
    · exact qau (3,0) rfl (by simp (disch:=first|omega|decide|simp only[qaf,qad,qag,qae,qah,qac,qaa,qab,qai]) only[qap,zF,Nat.reduceEqDiff,zS,zD,zE,qa2]) (qa4 _ _ _)
  · rintro st ⟨H, rfl, h0, h1, h2, h3⟩
    apply qbs
    simp (disch:=first|omega|decide|simp only[qaf,qad,qag,qae,qah,qac,qaa,qab,qai]) only[qa0,qat,qao,qan,qal,qak,qaM,qar,qay,qaJ,qaq,qaH,qaG,qaj,qaF,qaD,qas,zM,zN,zO,zP,zK,zJ,Nat.reduceAdd,zA,zB,zL,zB,zA,qaW,Nat.reduceMul,Nat.reduceAdd,zi,zL,L41b0]
    rfl
  · rintro st ⟨H, rfl, h0, h1, h2, h3⟩ rfl
    simp (disch:=first|omega|decide|simp only[qaf,qad,qag,qae,qah,qac,qaa,qab,qai]) only[qbI,qa0,qat,qao,qan,qal,qak,qaM,qar,qbc,qay,qaJ,qaq,qaH,qaG,qaj,qaF,qa8,qaD,qas,qbr,zM,zN,zO,zP,zK,zJ,zH,Nat.reduceAdd,qap,qcN,qa5,qaR,qbv,qco,qbF,qbl,zD,zA,zB,zL,qdl,qdu,qcb,qcz,zB,zA,qaW,Nat.reduceMul,Nat.reduceAdd,zi,zL,zH,L41b0,h2,h3,upto_all]
    rw[qdk 2 _ _ [] (by simp only[qav,FUEL,qaz,qax,qaB,qaQ,zV,zX,zI,zR,zQ,zC,zG,zW,zY,zF,zm,zn,zf,zS,zZ,zl,zzC,zD,zE,zb,zh,zq,zp,zo,ne_eq,z9,qap,qcc,qbu,qaP,qbe,h0,h1])]
    simp (disch:=first|omega|decide|simp only[qaf,qad,qag,qae,qah,qac,qaa,qab,qai]) only[zG,zC,zH,qap,zF,false_and,zE,zh,qcK,zzB,zH,qaK,qcc,qbq,qbK,qbt,qbN,h0,h1]
end Aes
namespace Aes
open Go Go.LE
def raJ (a b:R) (i:Nat) (st:St):Prop := ∃ (H:Heap),st=⟨[.undef,.undef,.ptr (1,0) 0,.ptr (1,1) 0,.ptr (1,2) 0,N i,.undef,.undef,.undef,.undef,.undef,.undef,.undef,.undef,.undef,.undef,.undef,.undef,.undef,.undef],H,2,0⟩∧H (1,0)=some (aB 16 (upto i (add a b) a))∧H (1,1)=some (aB 16 b)∧H (1,2)=some (aB 16 fun _=>0#8)
theorem radd_F (k:Nat) (a b:R):F C (k+30) 37 [.agg (aB 16 a),.agg (aB 16 b)] []=some (.agg (aB 16 (add a b)),[],[]):=by
  rw[qbT f37]
  simp (disch:=first|omega|decide|simp only[qaf,qad,qag,qae,qah,qac,qaa,qab,qai]) only[qbk,qat,qaX,qao,qan,qal,qak,qaM,qar,qay,qaJ,qaH,qaj,zM,zN,zO,zP,zI,zR,qbd,z7,zK,zJ,qbH,Nat.reduceAdd,Nat.reduceSub,qdt,qa5,qcO,op_box,qcH,zA,zB,qcU,zB,zA,Nat.reduceAdd,L37]
  generalize hL:qbW L37k0 _ _ _=r
  refine qby hL (raJ a b) 16 (by omega) ?_ ?_ ?_ ?_
  · rintro i st hi ⟨H, rfl, h0, h1, h2⟩
    have hs:=upto_succ i (add a b) a (a i ^^^ b i) rfl
    apply Exists.intro
    apply And.intro
    · simp (disch := first | omega | decide | simp only [qaf, qad, qag, qae, qah, qac, qaa, qab, qai]) only [qbh, qat, qaX, qao, qan, qal, qak, qaM, qar, qbc, qay, qaJ, qaq, qaH, qaG, qaj, qaY, qaD, qa3, qbU, zM, zN, zO, zP, zQ, zK, zJ, B8_xor, Nat.reduceAdd, Nat.reduceSub, qb5, qaR, qbn, qbV, qbF, qbl, op_iaA, iaV_lt, za, zd, zU, Nat.reduceLT, zD, zA, zB, zT, aB_cell, aB_st, zk, zB, zA, qbz, qaW, qbJ, Nat.reduceLT, Nat.reduceAdd, zT, qce, zg, ze, zk, qa9, qbo, ordK_pure, ordK_mod, qbE, qca, qcl, qaE, zY, zW, zx, z6, z0, qbQ, qba, za, zd, Nat.testBit, Nat.reduceShiftRight, Nat.reduceAnd, Nat.reduceBEq, ze, zg, zy, zU, zj, Nat.reduceSub, Nat.reduceLT, bne, qbg, qbG, qbS, qbp, qbZ, qb0, zj, zU, L37b0, h0, h1, hi, upto_at, hs]
      rfl
    · refine qaT [(1, 0), (1, 1), (1, 2)] rfl (by simp only [qav, FUEL, qaz, qax, qaB, qaE, qaO, zV, zX, zI, zR, zQ, zz, zC, zW, zY, zF, zm, zn, zf, Nat.reduceEqDiff, zZ, zl, zD, zE, zb, zq, zp, zo, ne_eq, zt, qap, qaN, qaL, qaC, qbb, L37k0, qbP, h0, h1, h2]) rfl ⟨_, rfl, ?_, ?_, ?_⟩
      · exact qau (1,0) rfl (by simp (disch:=first|omega|decide|simp only[qaf,qad,qag,qae,qah,qac,qaa,qab,qai]) only[qap,zD,h0]) (qa4 _ _ _)
      · exact qau (1,1) rfl (by simp (disch:=first|omega|decide|simp only[qaf,qad,qag,qae,qah,qac,qaa,qab,qai]) only[qap,zF,zZ,zE,zb,h1]) (qa4 _ _ _)
      · exact qau (1,2) rfl (by simp (disch:=first|omega|decide|simp only[qaf,qad,qag,qae,qah,qac,qaa,qab,qai]) only[qap,zF,Nat.reduceEqDiff,zZ,zE,h2]) (qa4 _ _ _)
  · refine qaT [(2, 0), (3, 0), (4, 0)] rfl (by simp only [qav, FUEL, qaz, qax, qaB, qaE, qaO, zV, zX, zI, zR, zQ, zz, zC, zW, zY, zF, zm, zn, zf, Nat.reduceEqDiff, zS, zl, zD, zE, zq, zp, zo, ne_eq, zt, qap, qaN, qaL, qaC, qa2, qbb, L37k0, qbP]) rfl ⟨_, rfl, ?_, ?_, ?_⟩
    · rw[upto_zero]; exact qau (2,0) rfl (by simp (disch:=first|omega|decide|simp only[qaf,qad,qag,qae,qah,qac,qaa,qab,qai]) only[qap,zF,Nat.reduceEqDiff,zS,zD,zE,qa2]) (qa4 _ _ _)
    · exact qau (3,0) rfl (by simp (disch:=first|omega|decide|simp only[qaf,qad,qag,qae,qah,qac,qaa,qab,qai]) only[qap,zF,Nat.reduceEqDiff,zS,zD,zE,qa2]) (qa4 _ _ _)
    · exact qau (4,0) rfl (by simp (disch:=first|omega|decide|simp only[qaf,qad,qag,qae,qah,qac,qaa,qab,qai]) only[qap,zF,Nat.reduceEqDiff,zS,zD,zE,qa2]) (qa4 _ _ _)
  · rintro st ⟨H, rfl, h0, h1, h2⟩
    apply qbs
    simp (disch:=first|omega|decide|simp only[qaf,qad,qag,qae,qah,qac,qaa,qab,qai]) only[qa0,qat,qao,qan,qal,qak,qaM,qar,qay,qaJ,qaq,qaH,qaG,qaj,qaF,qaD,qas,zM,zN,zO,zP,zK,zJ,Nat.reduceAdd,zA,zB,zL,zB,zA,qaW,Nat.reduceAdd,zi,zL,L37b0]
    rfl
  · rintro st ⟨H, rfl, h0, h1, h2⟩ rfl
    simp (disch:=first|omega|decide|simp only[qaf,qad,qag,qae,qah,qac,qaa,qab,qai]) only[qbI,qa0,qat,qao,qan,qal,qak,qaM,qar,qbc,qay,qaJ,qaq,qaH,qaG,qaj,qaF,qa8,qaD,qas,qbr,zM,zN,zO,zP,zK,zJ,zH,Nat.reduceAdd,qap,qcN,qa5,qaR,qbv,qco,qbF,qbl,zD,zA,zB,zL,qdl,qdu,qcb,qcz,aB_outOf,zB,zA,qaW,Nat.reduceAdd,zi,zL,zH,L37b0,h0,h2,upto_all]
def shf (s:R):R:=fun j=>s ((j+4*(j % 4)) % 16)
theorem shf_ix:∀ c i:Fin 4,(4*c.val+i.val+4*((4*c.val+i.val) % 4)) % 16=4*((c.val+i.val) % 4)+i.val:=by decide
def shO (s:R) (c:Nat) (st:St):Prop := ∃ (H:Heap),st=⟨[.undef,.ptr (1,0) 0,.ptr (1,1) 0,.ptr (1,2) 0,N c,.undef,.undef,.undef,.undef,.undef,.undef,.undef,.undef,.undef,.undef,.undef,.undef,.undef,.undef,.undef,.undef,.undef,.undef,.undef,.undef,.undef,.undef,.undef,.undef],H,2,0⟩ ∧
  H (1,0)=some (aB 16 s)∧H (1,1)=some (aB 16 fun _=>0#8)∧H (1,2)=some (aB 16 (upto (4*c) (shf s) fun _=>0#8))
def shI (s:R) (c r:Nat) (st:St):Prop := ∃ (H:Heap),st=⟨[.undef,.ptr (1,0) 0,.ptr (1,1) 0,.ptr (1,2) 0,N c,N r,.undef,.undef,.undef,.undef,.undef,.undef,.undef,.undef,.undef,.undef,.undef,.undef,.undef,.undef,.undef,.undef,.undef,.undef,.undef,.undef,.undef,.undef,.undef],H,2,0⟩ ∧
  H (1,0)=some (aB 16 s)∧H (1,1)=some (aB 16 fun _=>0#8)∧H (1,2)=some (aB 16 (upto (4*c+r) (shf s) fun _=>0#8))
theorem shift_F (k:Nat) (s:R):F C (k+30) 38 [.agg (aB 16 s)] []=some (.agg (aB 16 (shf s)),[],[]):=by
  rw[qbT f38]
  simp (disch:=first|omega|decide|simp only[qaf,qad,qag,qae,qah,qac,qaa,qab,qai]) only[qbk,qat,qaX,qao,qan,qal,qak,qaM,qar,qay,qaJ,qaH,qaj,zM,zN,zO,zI,zR,qbd,z7,zK,zJ,qbH,Nat.reduceAdd,Nat.reduceSub,qdt,qa5,qcO,op_box,qcH,zA,zB,qcU,zB,zA,Nat.reduceAdd,L38]
  generalize hL:qbW L38k1 _ _ _=r
  refine qby hL (shO s) 4 (by omega) ?_ ?_ ?_ ?_
  · rintro c st hc ⟨H, rfl, h0, h1, h2⟩
    simp (disch:=first|omega|decide|simp only[qaf,qad,qag,qae,qah,qac,qaa,qab,qai]) only[qbh,qat,qaX,qao,qan,qal,qak,qaM,qar,qay,qaJ,qaq,qaH,qaG,qaj,qaD,qa3,zM,zN,zO,zP,zK,zJ,qbH,Nat.reduceAdd,zA,zB,zT,zB,zA,qaW,Nat.reduceAdd,zT,L38b1,hc]
    generalize hL2:qbW L38k0 _ _ _=r2
    refine qby hL2 (shI s c) 4 (by omega) ?_ ?_ ?_ ?_
    · rintro i st hi ⟨H, rfl, h0, h1, h2⟩
      have hm:4*((c+i) % 4)+i < 16:=by omega
      have hm2:4*c+i < 16:=by omega
      have e:shf s (4*c+i)=s (4*((c+i) % 4)+i):=congrArg s (shf_ix ⟨c,hc⟩ ⟨i,hi⟩)
      have hs:=upto_succ (4*c+i) (shf s) (fun _=>0#8) (s (4*((c+i) % 4)+i)) e.symm
      have e2:4*c+i+1=4*c+(i+1):=rfl
      rw[e2] at hs
      apply Exists.intro
      apply And.intro
      · simp (disch := first | omega | decide | simp only [qaf, qad, qag, qae, qah, qac, qaa, qab, qai]) only [qbh, qat, qaX, qao, qan, qal, qak, qaM, qar, qbc, qay, qaJ, qaq, qaH, qaG, qaj, qaY, qaD, qa3, zM, zN, zO, zP, zK, zJ, Nat.reduceAdd, qcN, qb5, qaR, qbn, qbV, qbF, qbl, op_iaA, iaV_lt, zA, zB, zT, aB_cell, aB_st, zk, zB, zA, qbz, N_mul, N_rem, qaW, qbJ, Nat.reduceAdd, zT, zk, L38b0, h0, h2, hi, hs]
        rfl
      · refine qaT [(1, 0), (1, 1), (1, 2)] rfl (by simp only [qav, FUEL, qaz, qax, qaB, qaE, qaO, zV, zX, zI, zR, zQ, zz, zC, zW, zY, zF, zm, zn, zf, Nat.reduceEqDiff, zZ, zl, zD, zE, zb, zq, zp, zo, ne_eq, zt, qap, qaN, qaL, qaC, qbb, L38k0, qbP, h0, h1, h2]) rfl ⟨_, rfl, ?_, ?_, ?_⟩
        · exact qau (1,0) rfl (by simp (disch:=first|omega|decide|simp only[qaf,qad,qag,qae,qah,qac,qaa,qab,qai]) only[qap,zF,Nat.reduceEqDiff,zZ,zE,h0]) (qa4 _ _ _)
        · exact qau (1,1) rfl (by simp (disch:=first|omega|decide|simp only[qaf,qad,qag,qae,qah,qac,qaa,qab,qai]) only[qap,zF,Nat.reduceEqDiff,zZ,zE,h1]) (qa4 _ _ _)
        · exact qau (1,2) rfl (by simp (disch:=first|omega|decide|simp only[qaf,qad,qag,qae,qah,qac,qaa,qab,qai]) only[qap,zD,h2]) (qa4 _ _ _)
    · refine qaT [(1, 0), (1, 1), (1, 2)] rfl (by simp only [qav, FUEL, qaz, qax, qaB, qaE, qaO, zV, zX, zI, zR, zQ, zz, zC, zW, zY, zF, zm, zn, zf, Nat.reduceEqDiff, zZ, zl, zD, zE, zb, zq, zp, zo, ne_eq, zt, qaN, qaL, qaC, qbb, L38k0, qbP, h0, h1, h2]) rfl ⟨_, rfl, ?_, ?_, ?_⟩
      · exact qau (1,0) rfl (by simp (disch:=first|omega|decide|simp only[qaf,qad,qag,qae,qah,qac,qaa,qab,qai]) only[h0]) (qa4 _ _ _)
      · exact qau (1,1) rfl (by simp (disch:=first|omega|decide|simp only[qaf,qad,qag,qae,qah,qac,qaa,qab,qai]) only[h1]) (qa4 _ _ _)
      · exact qau (1,2) rfl (by simp (disch:=first|omega|decide|simp only[qaf,qad,qag,qae,qah,qac,qaa,qab,qai]) only[zB,h2,zB]) (qa4 _ _ _)
    · rintro st ⟨H, rfl, h0, h1, h2⟩
      apply qbs
      simp (disch:=first|omega|decide|simp only[qaf,qad,qag,qae,qah,qac,qaa,qab,qai]) only[qa0,qat,qao,qan,qal,qak,qaM,qar,qay,qaJ,qaq,qaH,qaG,qaj,qaF,qaD,qas,zM,zN,zO,zP,zK,zJ,Nat.reduceAdd,zA,zB,zL,zB,zA,qaW,Nat.reduceAdd,zi,zL,L38b0]
      rfl
    · rintro st ⟨H, rfl, h0, h1, h2⟩ rfl
      have e4:4*c+4=4*(c+1):=by omega
      rw[e4] at h2
      apply Exists.intro
      apply And.intro
      · simp (disch := first | omega | decide | simp only [qaf, qad, qag, qae, qah, qac, qaa, qab, qai]) only [qa0, qat, qao, qan, qal, qak, qaM, qar, qay, qaJ, qaq, qaH, qaG, qaj, qaF, qaY, qa8, qaD, qas, zM, zN, zO, zP, zK, zJ, Nat.reduceAdd, zD, zA, zB, zL, zB, zA, qbz, qaW, Nat.reduceAdd, zi, zL, L38b0]
        rfl
      · refine qaT [(1, 0), (1, 1), (1, 2)] rfl (by simp only [qav, FUEL, qaz, qax, qaB, qaE, qaO, zV, zX, zI, zR, zQ, zz, zC, zW, zY, zF, zm, zn, zf, Nat.reduceEqDiff, zZ, zl, zD, zE, zb, zq, zp, zo, ne_eq, zt, qaN, qaL, qaC, qbb, L38k1, qbP, h0, h1, h2]) rfl ⟨_, rfl, ?_, ?_, ?_⟩
        · exact qau (1,0) rfl (by simp (disch:=first|omega|decide|simp only[qaf,qad,qag,qae,qah,qac,qaa,qab,qai]) only[h0]) (qa4 _ _ _)
        · exact qau (1,1) rfl (by simp (disch:=first|omega|decide|simp only[qaf,qad,qag,qae,qah,qac,qaa,qab,qai]) only[h1]) (qa4 _ _ _)
        · exact qau (1,2) rfl (by simp (disch:=first|omega|decide|simp only[qaf,qad,qag,qae,qah,qac,qaa,qab,qai]) only[h2]) (qa4 _ _ _)
  · refine qaT [(2, 0), (3, 0), (4, 0)] rfl (by simp only [qav, FUEL, qaz, qax, qaB, qaE, qaO, zV, zX, zI, zR, zQ, zz, zC, zW, zY, zF, zm, zn, zf, Nat.reduceEqDiff, zS, zl, zD, zE, zq, zp, zo, ne_eq, zt, qap, qaN, qaL, qaC, qa2, qbb, L38k1, qbP]) rfl ⟨_, rfl, ?_, ?_, ?_⟩
    · exact qau (2,0) rfl (by simp (disch:=first|omega|decide|simp only[qaf,qad,qag,qae,qah,qac,qaa,qab,qai]) only[qap,zF,Nat.reduceEqDiff,zS,zD,zE,qa2]) (qa4 _ _ _)
    · exact qau (3,0) rfl (by simp (disch:=first|omega|decide|simp only[qaf,qad,qag,qae,qah,qac,qaa,qab,qai]) only[qap,zF,Nat.reduceEqDiff,zS,zD,zE,qa2]) (qa4 _ _ _)
    · rw[Nat.mul_zero,upto_zero]; exact qau (4,0) rfl (by simp (disch:=first|omega|decide|simp only[qaf,qad,qag,qae,qah,qac,qaa,qab,qai]) only[qap,zF,Nat.reduceEqDiff,zS,zD,zE,qa2]) (qa4 _ _ _)
  · rintro st ⟨H, rfl, h0, h1, h2⟩
    apply qbs
    simp (disch:=first|omega|decide|simp only[qaf,qad,qag,qae,qah,qac,qaa,qab,qai]) only[qa0,qat,qao,qan,qal,qak,qaM,qar,qay,qaJ,qaq,qaH,qaG,qaj,qaF,qaD,qas,zM,zN,zO,zP,zK,zJ,Nat.reduceAdd,zA,zB,zL,zB,zA,qaW,Nat.reduceAdd,zi,zL,L38b1]
    rfl
  · rintro st ⟨H, rfl, h0, h1, h2⟩ rfl
    simp (disch:=first|omega|decide|simp only[qaf,qad,qag,qae,qah,qac,qaa,qab,qai]) only[qbI,qa0,qat,qao,qan,qal,qak,qaM,qar,qbc,qay,qaJ,qaq,qaH,qaG,qaj,qaF,qa8,qaD,qas,qbr,zM,zN,zO,zP,zK,zJ,zH,Nat.reduceAdd,qap,qcN,qa5,qaR,qbv,qco,qbF,qbl,zD,zA,zB,zL,qdl,qdu,qcb,qcz,aB_outOf,zB,zA,qaW,Nat.reduceMul,Nat.reduceAdd,zi,zL,zH,L38b1,h1,h2,upto_all]
end Aes
namespace Aes
open Go Go.LE
def term (f s:R) (j k:Nat):BitVec 8:=mul (f ((k+4 - j % 4) % 4)) (s (4*(j / 4)+k))
def part (f s:R) (j:Nat):Nat→BitVec 8
  | 0=>0#8
  | k+1=>part f s j k ^^^ term f s j k
def mixg (f s:R):R:=fun j=>part f s j 4
def mxT (f s:R) (p k:Nat):R:=fun j=>if j < p then mixg f s j else if j=p then part f s j k else 0#8
theorem mxT_zero (f s:R) (p:Nat):mxT f s p 0=upto p (mixg f s) fun _=>0#8:=by
  funext j; simp only[mxT,upto,part,ite_self]
theorem mxT_four (f s:R) (p:Nat):mxT f s p 4=upto (p+1) (mixg f s) fun _=>0#8:=by
  funext j
  simp only[mxT,upto]
  by_cases h:j < p
  · rw[if_pos h,if_pos (by omega)]
  · rw [if_neg h]
    by_cases h2:j=p
    · rw[if_pos h2,if_pos (by omega)]; rfl
    · rw[if_neg h2,if_neg (by omega)]
theorem mxT_at (f s:R) (p k:Nat):mxT f s p k p=part f s p k:=by simp[mxT]
theorem mxT_succ (f s:R) (c r k:Nat) (hr:r < 4) (hk:k < 4):set1 (mxT f s (4*c+r) k) (4*c+r) (part f s (4*c+r) k ^^^ mul (f ((k+4 - r) % 4)) (s (4*c+k)))=mxT f s (4*c+r) (k+1):=by
  have e1:(4*c+r) % 4=r:=by omega
  have e2:(4*c+r) / 4=c:=by omega
  funext j
  simp only[set1,mxT]
  by_cases h:j=4*c+r
  · subst h; rw[if_pos rfl,if_neg (by omega),if_pos rfl,part,term,e1,e2]
  · rw [if_neg h]
    by_cases h2:j < 4*c+r
    · rw[if_pos h2,if_pos h2]
    · rw[if_neg h2,if_neg h2,if_neg h,if_neg h]
def x2J (f s:R) (c:Nat) (st:St):Prop := ∃ (H:Heap),st=⟨[.undef,.undef,.ptr (1,0) 0,.ptr (1,1) 0,.ptr (1,2) 0,.ptr (1,3) 0,N c,.undef,.undef,.undef,.undef,.undef,.undef,.undef,.undef,.undef,.undef,.undef,.undef,.undef,.undef,.undef,.undef,.undef,.undef,.undef,.undef,.undef,.undef,.undef,.undef,.undef,.undef,.undef,.undef,.undef,.undef,.undef,.undef,.undef,.undef,.undef,.undef,.undef,.undef,.undef,.undef,.undef],H,2,0⟩ ∧
  H (1,0)=some (aB 16 s)∧H (1,1)=some (aB 4 f)∧H (1,2)=some (aB 16 fun _=>0#8)∧H (1,3)=some (aB 16 (upto (4*c) (mixg f s) fun _=>0#8))
def x1J (f s:R) (c r:Nat) (st:St):Prop := ∃ (H:Heap),st=⟨[.undef,.undef,.ptr (1,0) 0,.ptr (1,1) 0,.ptr (1,2) 0,.ptr (1,3) 0,N c,N r,.undef,.undef,.undef,.undef,.undef,.undef,.undef,.undef,.undef,.undef,.undef,.undef,.undef,.undef,.undef,.undef,.undef,.undef,.undef,.undef,.undef,.undef,.undef,.undef,.undef,.undef,.undef,.undef,.undef,.undef,.undef,.undef,.undef,.undef,.undef,.undef,.undef,.undef,.undef,.undef],H,2,0⟩ ∧
  H (1,0)=some (aB 16 s)∧H (1,1)=some (aB 4 f)∧H (1,2)=some (aB 16 fun _=>0#8)∧H (1,3)=some (aB 16 (upto (4*c+r) (mixg f s) fun _=>0#8))
def x0J (f s:R) (c r k:Nat) (st:St):Prop := ∃ (H:Heap),st=⟨[.undef,.undef,.ptr (1,0) 0,.ptr (1,1) 0,.ptr (1,2) 0,.ptr (1,3) 0,N c,N r,N k,.undef,.undef,.undef,.undef,.undef,.undef,.undef,.undef,.undef,.undef,.undef,.undef,.undef,.undef,.undef,.undef,.undef,.undef,.undef,.undef,.undef,.undef,.undef,.undef,.undef,.undef,.undef,.undef,.undef,.undef,.undef,.undef,.undef,.undef,.undef,.undef,.undef,.undef,.undef],H,2,0⟩ ∧
  H (1,0)=some (aB 16 s)∧H (1,1)=some (aB 4 f)∧H (1,2)=some (aB 16 fun _=>0#8)∧H (1,3)=some (aB 16 (mxT f s (4*c+r) k))
theorem rmix_F (k:Nat) (s f:R):F C (k+30) 39 [.agg (aB 16 s),.agg (aB 4 f)] []=some (.agg (aB 16 (mixg f s)),[],[]):=by
  rw[qbT f39]
  simp (disch:=first|omega|decide|simp only[qaf,qad,qag,qae,qah,qac,qaa,qab,qai]) only[qbk,qat,qaX,qao,qan,qal,qak,qaM,qar,qay,qaJ,qaH,qaj,zM,zN,zO,zP,zI,zR,qbd,z7,zK,zJ,qbH,Nat.reduceAdd,Nat.reduceSub,qdt,qa5,qcO,op_box,qcH,zA,zB,qcU,zB,zA,Nat.reduceAdd,L39]
  generalize hL:qbW L39k2 _ _ _=r
  refine qby hL (x2J f s) 4 (by omega) ?_ ?_ ?_ ?_
  · rintro c st hc ⟨H, rfl, h0, h1, h2, h3⟩
    simp (disch:=first|omega|decide|simp only[qaf,qad,qag,qae,qah,qac,qaa,qab,qai]) only[qbh,qat,qaX,qao,qan,qal,qak,qaM,qar,qay,qaJ,qaq,qaH,qaG,qaj,qaD,qa3,zM,zN,zO,zP,zK,zJ,qbH,Nat.reduceAdd,zA,zB,zT,zB,zA,qaW,Nat.reduceAdd,zT,L39b2,hc]
    generalize hL1:qbW L39k1 _ _ _=r1
    refine qby hL1 (x1J f s c) 4 (by omega) ?_ ?_ ?_ ?_
    · rintro r st hr ⟨H, rfl, h0, h1, h2, h3⟩
      simp (disch:=first|omega|decide|simp only[qaf,qad,qag,qae,qah,qac,qaa,qab,qai]) only[qbh,qat,qaX,qao,qan,qal,qak,qaM,qar,qay,qaJ,qaq,qaH,qaG,qaj,qaD,qa3,zM,zN,zO,zP,zK,zJ,qbH,Nat.reduceAdd,zA,zB,zT,zB,zA,qaW,Nat.reduceAdd,zT,L39b1,hr]
      generalize hL2:qbW L39k0 _ _ _=r2
      refine qby hL2 (x0J f s c r) 4 (by omega) ?_ ?_ ?_ ?_
      · rintro i st hi ⟨H, rfl, h0, h1, h2, h3⟩
        have hm:4*c+r < 16:=by omega
        have hm2:4*c+i < 16:=by omega
        have hm3:(i+4 - r) % 4 < 4:=by omega
        have hs:=mxT_succ f s c r i hr hi
        apply Exists.intro
        apply And.intro
        · simp (disch := first | omega | decide | simp only [qbU, nms_B32, qbR, nms_I, qbb, qci, qcM, qaO, nms_Hf, qaE, qaQ, qbe, qc6, qc8, qc3, zV, zX, zI, zQ, ren_B8, ren_B32, qcu, ren_I, ren_N, ren_Bo, ren_Un, qdj, ren_Hf, qbN, qc7, qc9, qcY, zG, zC, ren7_I, ren7_N, ren7_Bo, ren7_B8, ren7_B32, ren7_B64, nms7_I, nms7_N, nms7_Bo, nms7_B8, nms7_B32, nms7_B64, qcV, qb8, implies_true, l33, qaf, qaP, qaK, qbw, qbO, qad, qag, qae, qah, qac, qaa, qab, qai]) only [qbh, qat, qaX, qao, qan, qal, qak, qaM, qar, qbc, qay, qaJ, qaq, qaH, qaG, qa7, qa1, qaj, qaY, qaD, qa3, qbU, zM, zN, zO, zP, zG, zC, zV, zX, zQ, zK, zJ, B8_xor, qda, calK_B8, Nat.reduceAdd, Nat.reduceSub, qb5, qaR, qbn, qbV, qbF, qbl, op_iaA, iaV_lt, za, zd, zU, Nat.reduceLT, zD, zA, zB, zT, aB_cell, aB_st, zk, zB, zA, qbz, N_sub, N_mul, N_rem, qaW, qbJ, Nat.reduceLT, Nat.reduceAdd, zT, qce, zg, ze, zk, qa9, qbo, ordK_pure, ordK_mod, qbE, qca, qcl, qb7, qds, nms_fn, qaE, zY, zW, zx, z6, z0, qbQ, qba, za, zd, Nat.testBit, Nat.reduceShiftRight, Nat.reduceAnd, Nat.reduceBEq, ze, zg, zy, zU, zj, Nat.reduceSub, Nat.reduceLT, bne, qbg, qbG, qbS, qbp, qbZ, qb0, qbY, zj, zU, L39b0, h0, h1, h3, hi, mxT_at, rmulF, hs]
          rfl
        · refine qaT [(1, 0), (1, 1), (1, 2), (1, 3)] rfl (by simp only [qav, FUEL, qaz, qax, qaB, qaE, qaO, zV, zX, zI, zR, zQ, zz, zC, zW, zY, zF, zm, zn, zf, Nat.reduceEqDiff, zZ, zl, zD, zE, zb, zq, zp, zo, ne_eq, zt, qap, qaN, qaL, qaC, qbb, L39k0, qbP, h0, h1, h2, h3]) rfl ⟨_, rfl, ?_, ?_, ?_, ?_⟩
          · exact qau (1,0) rfl (by simp (disch:=first|omega|decide|simp only[qaf,qad,qag,qae,qah,qac,qaa,qab,qai]) only[qap,zF,Nat.reduceEqDiff,zZ,zE,h0]) (qa4 _ _ _)
          · exact qau (1,1) rfl (by simp (disch:=first|omega|decide|simp only[qaf,qad,qag,qae,qah,qac,qaa,qab,qai]) only[qap,zF,Nat.reduceEqDiff,zZ,zE,h1]) (qa4 _ _ _)
          · exact qau (1,2) rfl (by simp (disch:=first|omega|decide|simp only[qaf,qad,qag,qae,qah,qac,qaa,qab,qai]) only[qap,zF,Nat.reduceEqDiff,zZ,zE,h2]) (qa4 _ _ _)
          · exact qau (1,3) rfl (by simp (disch:=first|omega|decide|simp only[qaf,qad,qag,qae,qah,qac,qaa,qab,qai]) only[qap,zD]) (qa4 _ _ _)
      · refine qaT [(1, 0), (1, 1), (1, 2), (1, 3)] rfl (by simp only [qav, FUEL, qaz, qax, qaB, qaE, qaO, zV, zX, zI, zR, zQ, zz, zC, zW, zY, zF, zm, zn, zf, Nat.reduceEqDiff, zZ, zl, zD, zE, zb, zq, zp, zo, ne_eq, zt, qaN, qaL, qaC, qbb, L39k0, qbP, h0, h1, h2, h3]) rfl ⟨_, rfl, ?_, ?_, ?_, ?_⟩
        · exact qau (1,0) rfl (by simp (disch:=first|omega|decide|simp only[qaf,qad,qag,qae,qah,qac,qaa,qab,qai]) only[h0]) (qa4 _ _ _)
        · exact qau (1,1) rfl (by simp (disch:=first|omega|decide|simp only[qaf,qad,qag,qae,qah,qac,qaa,qab,qai]) only[h1]) (qa4 _ _ _)
        · exact qau (1,2) rfl (by simp (disch:=first|omega|decide|simp only[qaf,qad,qag,qae,qah,qac,qaa,qab,qai]) only[h2]) (qa4 _ _ _)
        · rw[mxT_zero]; exact qau (1,3) rfl (by simp (disch:=first|omega|decide|simp only[qaf,qad,qag,qae,qah,qac,qaa,qab,qai]) only[h3]) (qa4 _ _ _)
      · rintro st ⟨H, rfl, h0, h1, h2, h3⟩
        apply qbs
        simp (disch:=first|omega|decide|simp only[qaf,qad,qag,qae,qah,qac,qaa,qab,qai]) only[qa0,qat,qao,qan,qal,qak,qaM,qar,qay,qaJ,qaq,qaH,qaG,qaj,qaF,qaD,qas,zM,zN,zO,zP,zK,zJ,Nat.reduceAdd,zA,zB,zL,zB,zA,qaW,Nat.reduceAdd,zi,zL,L39b0]
        rfl
      · rintro st ⟨H, rfl, h0, h1, h2, h3⟩ rfl
        rw[mxT_four] at h3
        apply Exists.intro
        apply And.intro
        · simp (disch := first | omega | decide | simp only [qaf, qad, qag, qae, qah, qac, qaa, qab, qai]) only [qa0, qat, qao, qan, qal, qak, qaM, qar, qay, qaJ, qaq, qaH, qaG, qaj, qaF, qaY, qa8, qaD, qas, zM, zN, zO, zP, zK, zJ, Nat.reduceAdd, zD, zA, zB, zL, zB, zA, qbz, qaW, Nat.reduceAdd, zi, zL, L39b0]
          rfl
        · refine qaT [(1, 0), (1, 1), (1, 2), (1, 3)] rfl (by simp only [qav, FUEL, qaz, qax, qaB, qaE, qaO, zV, zX, zI, zR, zQ, zz, zC, zW, zY, zF, zm, zn, zf, Nat.reduceEqDiff, zZ, zl, zD, zE, zb, zq, zp, zo, ne_eq, zt, qaN, qaL, qaC, qbb, L39k1, qbP, h0, h1, h2, h3]) rfl ⟨_, rfl, ?_, ?_, ?_, ?_⟩
          · exact qau (1,0) rfl (by simp (disch:=first|omega|decide|simp only[qaf,qad,qag,qae,qah,qac,qaa,qab,qai]) only[h0]) (qa4 _ _ _)
          · exact qau (1,1) rfl (by simp (disch:=first|omega|decide|simp only[qaf,qad,qag,qae,qah,qac,qaa,qab,qai]) only[h1]) (qa4 _ _ _)
          · exact qau (1,2) rfl (by simp (disch:=first|omega|decide|simp only[qaf,qad,qag,qae,qah,qac,qaa,qab,qai]) only[h2]) (qa4 _ _ _)
          · exact qau (1,3) rfl h3 (qa4 _ _ _)
    · refine qaT [(1, 0), (1, 1), (1, 2), (1, 3)] rfl (by simp only [qav, FUEL, qaz, qax, qaB, qaE, qaO, zV, zX, zI, zR, zQ, zz, zC, zW, zY, zF, zm, zn, zf, Nat.reduceEqDiff, zZ, zl, zD, zE, zb, zq, zp, zo, ne_eq, zt, qaN, qaL, qaC, qbb, L39k1, qbP, h0, h1, h2, h3]) rfl ⟨_, rfl, ?_, ?_, ?_, ?_⟩
      · exact qau (1,0) rfl (by simp (disch:=first|omega|decide|simp only[qaf,qad,qag,qae,qah,qac,qaa,qab,qai]) only[h0]) (qa4 _ _ _)
      · exact qau (1,1) rfl (by simp (disch:=first|omega|decide|simp only[qaf,qad,qag,qae,qah,qac,qaa,qab,qai]) only[h1]) (qa4 _ _ _)
      · exact qau (1,2) rfl (by simp (disch:=first|omega|decide|simp only[qaf,qad,qag,qae,qah,qac,qaa,qab,qai]) only[h2]) (qa4 _ _ _)
      · exact qau (1,3) rfl h3 (qa4 _ _ _)
    · rintro st ⟨H, rfl, h0, h1, h2, h3⟩
      apply qbs
      simp (disch:=first|omega|decide|simp only[qaf,qad,qag,qae,qah,qac,qaa,qab,qai]) only[qa0,qat,qao,qan,qal,qak,qaM,qar,qay,qaJ,qaq,qaH,qaG,qaj,qaF,qaD,qas,zM,zN,zO,zP,zK,zJ,Nat.reduceAdd,zA,zB,zL,zB,zA,qaW,Nat.reduceAdd,zi,zL,L39b1]
      rfl
    · rintro st ⟨H, rfl, h0, h1, h2, h3⟩ rfl
      apply Exists.intro
      apply And.intro
      · simp (disch := first | omega | decide | simp only [qaf, qad, qag, qae, qah, qac, qaa, qab, qai]) only [qa0, qat, qao, qan, qal, qak, qaM, qar, qay, qaJ, qaq, qaH, qaG, qaj, qaF, qaY, qa8, qaD, qas, zM, zN, zO, zP, zK, zJ, Nat.reduceAdd, zD, zA, zB, zL, zB, zA, qbz, qaW, Nat.reduceAdd, zi, zL, L39b1]
        rfl
      · refine qaT [(1, 0), (1, 1), (1, 2), (1, 3)] rfl (by simp only [qav, FUEL, qaz, qax, qaB, qaE, qaO, zV, zX, zI, zR, zQ, zz, zC, zW, zY, zF, zm, zn, zf, Nat.reduceEqDiff, zZ, zl, zD, zE, zb, zq, zp, zo, ne_eq, zt, qaN, qaL, qaC, qbb, L39k2, qbP, h0, h1, h2, h3]) rfl ⟨_, rfl, ?_, ?_, ?_, ?_⟩
        · exact qau (1,0) rfl (by simp (disch:=first|omega|decide|simp only[qaf,qad,qag,qae,qah,qac,qaa,qab,qai]) only[h0]) (qa4 _ _ _)
        · exact qau (1,1) rfl (by simp (disch:=first|omega|decide|simp only[qaf,qad,qag,qae,qah,qac,qaa,qab,qai]) only[h1]) (qa4 _ _ _)
        · exact qau (1,2) rfl (by simp (disch:=first|omega|decide|simp only[qaf,qad,qag,qae,qah,qac,qaa,qab,qai]) only[h2]) (qa4 _ _ _)
        · exact qau (1,3) rfl h3 (qa4 _ _ _)
  · refine qaT [(2, 0), (3, 0), (4, 0), (5, 0)] rfl (by simp only [qav, FUEL, qaz, qax, qaB, qaE, qaO, zV, zX, zI, zR, zQ, zz, zC, zW, zY, zF, zm, zn, zf, Nat.reduceEqDiff, zS, zl, zD, zE, zq, zp, zo, ne_eq, zt, qap, qaN, qaL, qaC, qa2, qbb, L39k2, qbP]) rfl ⟨_, rfl, ?_, ?_, ?_, ?_⟩
    · exact qau (2,0) rfl (by simp (disch:=first|omega|decide|simp only[qaf,qad,qag,qae,qah,qac,qaa,qab,qai]) only[qap,zF,Nat.reduceEqDiff,zS,zD,zE,qa2]) (qa4 _ _ _)
    · exact qau (3,0) rfl (by simp (disch:=first|omega|decide|simp only[qaf,qad,qag,qae,qah,qac,qaa,qab,qai]) only[qap,zF,Nat.reduceEqDiff,zS,zD,zE,qa2]) (qa4 _ _ _)
    · exact qau (4,0) rfl (by simp (disch:=first|omega|decide|simp only[qaf,qad,qag,qae,qah,qac,qaa,qab,qai]) only[qap,zF,Nat.reduceEqDiff,zS,zD,zE,qa2]) (qa4 _ _ _)
    · rw[Nat.mul_zero,upto_zero]; exact qau (5,0) rfl (by simp (disch:=first|omega|decide|simp only[qaf,qad,qag,qae,qah,qac,qaa,qab,qai]) only[qap,zF,Nat.reduceEqDiff,zS,zD,zE,qa2]) (qa4 _ _ _)
  · rintro st ⟨H, rfl, h0, h1, h2, h3⟩
    apply qbs
    simp (disch:=first|omega|decide|simp only[qaf,qad,qag,qae,qah,qac,qaa,qab,qai]) only[qa0,qat,qao,qan,qal,qak,qaM,qar,qay,qaJ,qaq,qaH,qaG,qaj,qaF,qaD,qas,zM,zN,zO,zP,zK,zJ,Nat.reduceAdd,zA,zB,zL,zB,zA,qaW,Nat.reduceAdd,zi,zL,L39b2]
    rfl
  · rintro st ⟨H, rfl, h0, h1, h2, h3⟩ rfl
    simp (disch:=first|omega|decide|simp only[qaf,qad,qag,qae,qah,qac,qaa,qab,qai]) only[qbI,qa0,qat,qao,qan,qal,qak,qaM,qar,qbc,qay,qaJ,qaq,qaH,qaG,qaj,qaF,qa8,qaD,qas,qbr,zM,zN,zO,zP,zK,zJ,zH,Nat.reduceAdd,qap,qcN,qa5,qaR,qbv,qco,qbF,qbl,zD,zA,zB,zL,qdl,qdu,qcb,qcz,aB_outOf,zB,zA,qaW,Nat.reduceMul,Nat.reduceAdd,zi,zL,zH,L39b2,h2,h3,upto_all]
def fM:R:=fun j=>[2#8,3#8,1#8,1#8].getD j 0#8
def fU:R:=fun j=>[14#8,11#8,13#8,9#8].getD j 0#8
theorem mixg_M (s:R) (j:Nat):mixg fM s j=mix s j:=by
  have h:j % 4=0∨j % 4=1∨j % 4=2∨j % 4=3:=by omega
  simp only[mixg,part,term,mix,at4,BitVec.zero_xor,zB,zA]
  have e0:(j+1) % 4=(j % 4+1) % 4:=by omega
  have e1:(j+2) % 4=(j % 4+2) % 4:=by omega
  have e2:(j+3) % 4=(j % 4+3) % 4:=by omega
  rw[e0,e1,e2]
  rcases h with h | h | h | h <;> rw[h] <;> simp only[fM,Nat.reduceAdd,Nat.reduceSub,Nat.reduceMod,zO,zP,mul_T2,mul_1,lin3,zB] <;> simp only[BitVec.xor_assoc,BitVec.xor_comm,xc]
theorem mixg_U (s:R) (j:Nat):mixg fU s j=unmix s j:=by
  have h:j % 4=0∨j % 4=1∨j % 4=2∨j % 4=3:=by omega
  simp only[mixg,part,term,unmix,at4,BitVec.zero_xor,zB,zA]
  have e0:(j+1) % 4=(j % 4+1) % 4:=by omega
  have e1:(j+2) % 4=(j % 4+2) % 4:=by omega
  have e2:(j+3) % 4=(j % 4+3) % 4:=by omega
  rw[e0,e1,e2]
  rcases h with h | h | h | h <;> rw[h] <;> simp only[fU,Nat.reduceAdd,Nat.reduceSub,Nat.reduceMod,zO,zP,lin9,lin11,lin13,lin14,T9,T11,T13,T14,zB] <;> simp only[BitVec.xor_assoc,BitVec.xor_comm,xc]
end Aes
namespace Aes
open Go Go.LE
def encl (K:Nat→R) (s:R):Nat→R
  | 0=>add s (K 0)
  | i+1=>add (mix (rnd (encl K s i))) (K (i+1))
def enc (K:Nat→R) (n:Nat) (s:R):R:=add (rnd (encl K s n)) (K (n+1))
def decl (K:Nat→R) (n:Nat) (s:R):Nat→R
  | 0=>unrnd (add s (K (n+1)))
  | i+1=>unrnd (unmix (add (decl K n s i) (K (n - i))))
def dec (K:Nat→R) (n:Nat) (s:R):R:=add (decl K n s n) (K 0)
def kf (l:List (BitVec 8)) (i:Nat):R:=fun j=>l.getD (i*16+j) 0#8
theorem kcell (l:List (BitVec 8)) (o:Nat) (h:o+16≤l.length):cellK o 16 (some (bs l))=some (aB 16 fun j=>l.getD (o+j) 0#8):=by
  rw[bs_cells l o 16 h,bs_aB _ 16 (by rw[zzL,zzH]; omega)]
  congr 1
  apply aB_ext
  intro i hi
  simp[List.getD_eq_getElem?_getD,List.getElem?_drop,hi]
theorem kcell' (l:List (BitVec 8)) (i:Nat) (o:Nat) (ho:o=i*16) (h:o+16≤l.length):cellK o 16 (some (bs l))=some (aB 16 (kf l i)):=by
  subst ho; exact kcell l _ h
def KO (n:Nat):qaV:=CF (.sl (0,1) 0 (n+2) none 16) TB
theorem KG_0 (H:Heap) (n:Nat) (l:List (BitVec 8)) (h0:H (0,0)=some (KO n)) (h1:H (0,1)=some (bs l)):KG H (0,0) (0,1) (n+2) none l:=⟨h0,h1,by decide⟩
theorem agg_r (s:R):∀ π,ren D π (.agg (aB 16 s)) = .agg (aB 16 s):=fun π=>qbN 16 s π
theorem c_made (k n b:Nat) (hn:n≤20) (l:List (BitVec 8)) (H:Heap) (h0:H (0,0)=some (KO n)) (h1:H (0,1)=some (bs l)) :
    qbD (envC C (k+1)) H b 31 [.ptr (0,0) 0]=some ⟨Bo true,[],[((0,0),some (KO n)),((0,1),some (bs l))]⟩ :=
  callK _ b 31 l31 H _ _ _ none l (KG_0 H n l h0 h1) [] Pl.e _ (fun _=>rfl) (made_F k (n+2) (by omega) (by omega) none TB l)
theorem c_round (k n b:Nat) (l:List (BitVec 8)) (H:Heap) (h0:H (0,0)=some (KO n)) (h1:H (0,1)=some (bs l)) (s:R) :
    qbD (envC C (k+30)) H b 36 [.ptr (0,0) 0,.agg (aB 16 s)]=some ⟨.agg (aB 16 (rnd s)),[],[((0,0),some (KO n)),((0,1),some (bs l))]⟩ :=
  callK _ b 36 l36 H _ _ _ none l (KG_0 H n l h0 h1) _ (Pl.pa 16 s Pl.e) _ (agg_r _) (round_F k (n+2) none l s)
theorem c_mix (k n b:Nat) (l:List (BitVec 8)) (H:Heap) (h0:H (0,0)=some (KO n)) (h1:H (0,1)=some (bs l)) (s:R) :
    qbD (envC C (k+30)) H b 35 [.ptr (0,0) 0,.agg (aB 16 s)]=some ⟨.agg (aB 16 (mix s)),[],[((0,0),some (KO n)),((0,1),some (bs l))]⟩ :=
  callK _ b 35 l35 H _ _ _ none l (KG_0 H n l h0 h1) _ (Pl.pa 16 s Pl.e) _ (agg_r _) (mix_F k (n+2) none l s)
theorem c_unround (k n b:Nat) (l:List (BitVec 8)) (H:Heap) (h0:H (0,0)=some (KO n)) (h1:H (0,1)=some (bs l)) (s:R) :
    qbD (envC C (k+30)) H b 40 [.ptr (0,0) 0,.agg (aB 16 s)]=some ⟨.agg (aB 16 (unrnd s)),[],[((0,0),some (KO n)),((0,1),some (bs l))]⟩ :=
  callK _ b 40 l40 H _ _ _ none l (KG_0 H n l h0 h1) _ (Pl.pa 16 s Pl.e) _ (agg_r _) (unround_F k (n+2) none l s)
theorem c_unmix (k n b:Nat) (l:List (BitVec 8)) (H:Heap) (h0:H (0,0)=some (KO n)) (h1:H (0,1)=some (bs l)) (s:R) :
    qbD (envC C (k+30)) H b 41 [.ptr (0,0) 0,.agg (aB 16 s)]=some ⟨.agg (aB 16 (unmix s)),[],[((0,0),some (KO n)),((0,1),some (bs l))]⟩ :=
  callK _ b 41 l41 H _ _ _ none l (KG_0 H n l h0 h1) _ (Pl.pa 16 s Pl.e) _ (agg_r _) (unmix_F k (n+2) none l s)
theorem c_add (k b:Nat) (H:Heap) (s t:R):qbD (envC C (k+30)) H b 34 [.agg (aB 16 s),.agg (aB 16 t)]=some ⟨.agg (aB 16 (add s t)),[],[]⟩:=by
  rw[qda l34 (by simp only[zV,zX,qbe,zQ]) (by simp only[zG,zC,qbN]),add_F,aB_calK]
theorem KO_k (n:Nat):cellK 0 1 (some (KO n))=some [.sl (0,1) 0 (n+2) none 16]:=CF_k _ _
theorem KO_nms (n:Nat):(KO n).flatMap (nms D)=[(0,1)]:=by rw[KO,qbu]; rfl
theorem KO_ren (n:Nat) (names:List Nm):(KO n).map (ren D (qdg names))=KO n:=by
  rw[KO,qbt,qbq,qcK]; rfl
theorem reach_KO (H:Heap) (n:Nat) (l:List (BitVec 8)) (h0:H (0,0)=some (KO n)) (h1:H (0,1)=some (bs l)):qbL H FUEL [] [(0,0)]=[(0,0),(0,1)]:=by
  simp only[FUEL,qaz,qax,qaB,zI,zR,zQ,zW,zY,zF,zm,zn,zf,zZ,zl,zE,zb,KO_nms,qaP,h0,h1]
theorem same_cells {cs:qaV} (h:∀ x ∈ cs,same1 x x=true):sameL cs cs=true:=by
  induction cs with
  | nil=>rfl
  | cons x xs ih=>simp only[sameL,h x (by simp),ih fun y hy=>h y (by simp[hy]),zy]
theorem same_B8 (x:BitVec 8):same1 (B8 x) (B8 x)=true:=by simp[same1,B8]
theorem same_bs (l:List (BitVec 8)):sameL (bs l) (bs l)=true:=same_cells fun x hx=>by
  simp only[bs,List.mem_map] at hx
  obtain ⟨y,_,rfl⟩:=hx; exact same_B8 y
theorem same_KO (n:Nat):sameL (KO n) (KO n)=true:=same_cells fun x hx=>by
  simp only[KO,CF,List.mem_cons] at hx
  rcases hx with rfl | hx
  · simp[same1]
  · rw [aB_bs] at hx
    simp only[bs,List.mem_map] at hx
    obtain ⟨y,_,rfl⟩:=hx; exact same_B8 y
theorem tr_KO (H:Heap) (v:LV) (n:Nat) (l:List (BitVec 8)) (h0:H (0,0)=some (KO n)) (h1:H (0,1)=some (bs l)):trimO true H (some ⟨v,[],[((0,0),some (KO n)),((0,1),some (bs l))]⟩)=some ⟨v,[],[]⟩:=by
  refine trimO_same _ _ _ _ fun m hm => ?_
  simp only[List.mem_cons,List.not_mem_nil,zl] at hm
  rcases hm with rfl | rfl
  · simp only[h0,sameO,same_KO]
  · simp only[h1,sameO,same_bs]
def dJ (n:Nat) (l:List (BitVec 8)) (s:R) (i:Nat) (st:St):Prop := ∃ (H:Heap),st=⟨[.ptr (0,0) 0,.undef,.undef,.ptr (1,0) 0,.ptr (1,1) 0,.undef,N (n - i),.undef,.undef,.undef,.undef,.undef,.undef,.undef,.undef,.undef,.undef,.undef,.undef,.undef,.undef,.undef,.undef,.undef,.undef,.undef,.undef,.undef,.undef,.undef,.undef,.undef,.undef,.undef,.undef,.undef,.undef,.undef,.undef,.undef,.undef,.undef,.undef,.undef,.undef,.undef,.undef,.undef,.undef,.undef,.undef,.undef,.undef,.undef,.undef],H,2,2⟩ ∧
  H (0,0)=some (KO n)∧H (0,1)=some (bs l)∧H (1,0)=some (aB 16 (decl (kf l) n s i))∧H (1,1)=some (aB 16 fun _=>0#8)
theorem dec_F (k n:Nat) (hn:n≤20) (l:List (BitVec 8)) (hl:l.length=16*(n+2)) (s:R):F C (k+60) 19 [.ptr (0,0) 0,.agg (aB 16 s)] [KO n,bs l] =
    some (.agg (aB 16 (dec (kf l) n s)),[some (KO n),some (bs l)],[]):=by
  rw[qbT f19]
  have e1:n+2 - 1=n+1:=rfl
  have e2:n+1 - 1=n:=rfl
  have hmade:∀ (b:Nat) (H:Heap),H (0,0)=some (KO n)→H (0,1)=some (bs l)→qbD (envC C (k+59)) H b 31 [.ptr (0,0) 0]=some ⟨Bo true,[],[((0,0),some (KO n)),((0,1),some (bs l))]⟩:=fun b H=>c_made (k+58) n b hn l H
  have hunr:∀ (b:Nat) (H:Heap) (s:R),H (0,0)=some (KO n)→H (0,1)=some (bs l)→qbD (envC C (k+59)) H b 40 [.ptr (0,0) 0,.agg (aB 16 s)]=some ⟨.agg (aB 16 (unrnd s)),[],[((0,0),some (KO n)),((0,1),some (bs l))]⟩:=fun b H s h0 h1=>c_unround (k+29) n b l H h0 h1 s
  have humix:∀ (b:Nat) (H:Heap) (s:R),H (0,0)=some (KO n)→H (0,1)=some (bs l)→qbD (envC C (k+59)) H b 41 [.ptr (0,0) 0,.agg (aB 16 s)]=some ⟨.agg (aB 16 (unmix s)),[],[((0,0),some (KO n)),((0,1),some (bs l))]⟩:=fun b H s h0 h1=>c_unmix (k+29) n b l H h0 h1 s
  have hadd:∀ (b:Nat) (H:Heap) (s t:R),qbD (envC C (k+59)) H b 34 [.agg (aB 16 s),.agg (aB 16 t)]=some ⟨.agg (aB 16 (add s t)),[],[]⟩:=fun b H s t=>c_add (k+29) b H s t
  simp (disch:=first|omega|decide|simp only[qaf,qad,qag,qae,qah,qac,qaa,qab,qai]) only[qbk,qat,qao,qan,qal,qak,qaM,qar,qay,qaJ,qaH,qa7,qa1,qaj,zM,zN,zO,zP,zG,zC,zI,zR,qbd,z7,zK,zJ,Nat.reduceAdd,Nat.reduceSub,qdt,qa5,qcO,op_box,qcH,zA,zB,qcU,zB,zA,Nat.reduceAdd,Nat.reduceSub,L19]
  rw[hmade _ _ rfl rfl]
  simp (disch:=first|omega|decide|simp only[qaf,qad,qag,qae,qah,qac,qaa,qab,qai]) only[qbh,qat,qao,qan,qal,qak,qar,qay,qaJ,qaq,qaH,qaG,op_un,qa7,qa1,qaj,qaD,qas,zM,zN,zO,zP,zG,zC,zV,zX,zI,zQ,zK,zJ,Bo_not,Nat.reduceAdd,Nat.reduceSub,qap,qaR,qbn,qbv,qbV,qco,op_fa,qcy,za,zd,zU,zF,Nat.reduceEqDiff,Nat.reduceLT,zS,zZ,zu,zD,zE,zA,zB,zT,zb,zh,qcb,qbe,zB,zA,N_sub,qbJ,Nat.reduceLT,Nat.reduceEqDiff,Nat.reduceAdd,zT,zg,ze,op_chk,qcq,qcm,qbA,qb9,op_iaS,qdf,qaI,qaA,qa6,qck,qa2,List.getElem?_cons_zero,List.getElem?_cons_succ,qa9,qbo,qbE,qca,qc1,qb7,qds,nms_fn,qaE,zY,zW,zx,z6,z0,qbQ,qba,za,zd,Nat.testBit,Nat.reduceShiftRight,Nat.reduceAnd,Nat.reduceBEq,ze,zg,zy,zU,zj,Nat.reduceSub,Nat.reduceLT,bne,qbg,qbG,qbp,qbZ,qcP,qbY,zj,zU,qaU,qam,qaU,qam,KO_k,e1,kcell' l (n+1) ((n+1)*16) rfl,hadd]
  rw[reach_KO _ n l rfl rfl,hunr _ _ _ rfl rfl,tr_KO _ _ n l rfl rfl]
  simp (disch:=first|omega|decide|simp only[qaf,qad,qag,qae,qah,qac,qaa,qab,qai]) only[qat,qaX,qao,qan,qal,qak,qar,qbc,qay,qaJ,qaq,qaH,qaG,qaj,zM,zN,zO,zP,zG,zC,zQ,zK,zJ,qbH,Nat.reduceAdd,Nat.reduceSub,qap,qa5,qbF,qbl,za,zd,zU,zF,Nat.reduceEqDiff,Nat.reduceLT,zS,zu,zD,zE,zA,zB,zT,zh,qcz,qbe,zB,zA,N_sub,Nat.reduceLT,Nat.reduceEqDiff,Nat.reduceAdd,zT,qce,zg,ze,qaI,qaA,qa6,qa2,qa9,qbo,qbE,qcl,qaE,zY,zW,zx,z6,z0,qbQ,qba,za,zd,Nat.testBit,Nat.reduceShiftRight,Nat.reduceAnd,Nat.reduceBEq,ze,zg,zy,zU,zj,Nat.reduceSub,Nat.reduceLT,bne,qbg,qbG,qbS,qb0,zj,zU,qaU,qam,qaU,qam,e2]
  generalize hL:qbW L19k0 _ _ _=r
  refine qby hL (dJ n l s) n (by omega) ?_ ?_ ?_ ?_
  · rintro i st hi ⟨H, rfl, h0, h1, h2, h3⟩
    have hgt:0 < n - i:=by omega
    have e3:n - i - 1=n - (i+1):=by omega
    simp (disch:=first|omega|decide|simp only[qaf,qad,qag,qae,qah,qac,qaa,qab,qai]) only[qbh,qat,qaX,qao,qan,qal,qak,qar,qay,qaJ,qaq,qaH,qaG,qa7,qa1,qaj,qaD,qa3,zM,zN,zO,zP,zG,zC,zV,zX,zI,zQ,zK,zJ,Nat.reduceAdd,Nat.reduceSub,qaR,qbn,qbv,qbV,qco,op_fa,qcy,za,zd,zU,Nat.reduceLT,zD,zA,zB,zT,qcb,qbe,zB,zA,N_gtr,qbJ,Nat.reduceLT,Nat.reduceAdd,zT,zg,ze,op_chk,qcq,op_iaS,qdf,qaI,qaA,qa9,qbo,qbE,qca,qc1,qb7,qds,nms_fn,qaE,zY,zW,zx,z6,z0,qbQ,qba,za,zd,Nat.testBit,Nat.reduceShiftRight,Nat.reduceAnd,Nat.reduceBEq,ze,zg,zy,zU,zj,Nat.reduceSub,Nat.reduceLT,bne,qbg,qbG,qbp,qbZ,qcP,qbY,zj,zU,qaU,qam,qaU,qam,L19b0,h0,h1,h2,hgt,KO_k,kcell' l (n - i) ((n - i)*16) rfl,hadd]
    rw[reach_KO _ n l h0 h1,humix _ (only [(0,0),(0,1)] H) _ h0 h1,tr_KO (only [(0,0),(0,1)] H) _ n l h0 h1]
    simp (disch:=first|omega|decide|simp only[qaf,qad,qag,qae,qah,qac,qaa,qab,qai]) only[qar,qay,qaJ,qa7,qa1,zM,zN,zO,zP,zG,zC,zV,zX,zI,zQ,Nat.reduceAdd,Nat.reduceSub,za,zd,zU,Nat.reduceLT,zD,zT,qbe,Nat.reduceLT,Nat.reduceAdd,zT,zg,ze,qaI,qaA,qa9,qbo,qb7,nms_fn,qaE,zY,zW,zx,z6,z0,qbQ,qba,za,zd,Nat.testBit,Nat.reduceShiftRight,Nat.reduceAnd,Nat.reduceBEq,ze,zg,zy,zU,Nat.reduceSub,Nat.reduceLT,bne,qbg,qbG,qbY,zU,qaU,qaU]
    rw[reach_KO _ n l h0 h1,hunr _ (only [(0,0),(0,1)] H) _ h0 h1,tr_KO (only [(0,0),(0,1)] H) _ n l h0 h1]
    apply Exists.intro
    apply And.intro
    · simp (disch := first | omega | decide | simp only [qaf, qad, qag, qae, qah, qac, qaa, qab, qai]) only [qao, qan, qal, qak, qar, qbc, qay, qaJ, qaq, qaH, qaG, qaj, qaY, zM, zN, zO, zP, zG, zC, zQ, zK, zJ, Nat.reduceAdd, Nat.reduceSub, qa5, qbF, qbl, za, zd, zU, Nat.reduceLT, zD, zA, zB, zT, qcz, qbe, zB, zA, N_sub, Nat.reduceLT, Nat.reduceAdd, zT, qce, zg, ze, qaI, qaA, qa6, qa9, qbo, qbE, qcl, qaE, zY, zW, zx, z6, z0, qbQ, qba, za, zd, Nat.testBit, Nat.reduceShiftRight, Nat.reduceAnd, Nat.reduceBEq, ze, zg, zy, zU, zj, Nat.reduceSub, Nat.reduceLT, bne, qbg, qbG, qbS, qb0, zj, zU, qaU, qam, qaU, qam, h2, e3]
      rfl
    · refine qaT [(1, 0), (1, 1)] rfl (by simp only [qav, FUEL, qaz, qax, qaB, qaE, qaO, zV, zX, zI, zR, zQ, zC, zG, zW, zY, zF, zm, zn, zf, zS, zZ, zl, zzC, zD, zE, zb, zh, zq, zp, zo, ne_eq, zt, z9, qap, qaN, qaL, qaC, qcc, qbb, L19k0, qbP, KO_nms, qaP, h0, h1, h2, h3]) rfl ⟨_, rfl, ?_, ?_, ?_, ?_⟩
      · rw[qbX]; simp (disch:=first|omega|decide|simp only[qaf,qad,qag,qae,qah,qac,qaa,qab,qai]) only[zH,qap,zF,zS,zE,zh,zH,h0,KO_ren]
      · rw[qbX]; simp (disch:=first|omega|decide|simp only[qaf,qad,qag,qae,qah,qac,qaa,qab,qai]) only[zH,qap,zF,zu,zE,zb,zh,zH,qaK,h1]
      · exact qau (1,0) rfl (by simp (disch:=first|omega|decide|simp only[qaf,qad,qag,qae,qah,qac,qaa,qab,qai]) only[qap,zD,h2]; rfl) (qa4 _ _ _)
      · exact qau (1,1) rfl (by simp (disch:=first|omega|decide|simp only[qaf,qad,qag,qae,qah,qac,qaa,qab,qai]) only[qap,zF,zZ,zE,zb,h3]) (qa4 _ _ _)
  · refine qaT [(2, 0), (3, 0)] rfl (by simp only [qav, FUEL, qaz, qax, qaB, qaE, qaO, zV, zX, zI, zR, zQ, zC, zG, zW, zY, zF, zm, zn, zf, Nat.reduceEqDiff, zS, zZ, zl, zzC, zD, zE, zb, zh, zq, zp, zo, ne_eq, zt, z9, qap, qaN, qaL, qaC, qck, qa2, qcc, List.getElem?_cons_zero, List.getElem?_cons_succ, qbb, L19k0, qbP, KO_nms, qaP]) rfl ⟨_, rfl, ?_, ?_, ?_, ?_⟩
    · rw[qbX]; simp (disch:=first|omega|decide|simp only[qaf,qad,qag,qae,qah,qac,qaa,qab,qai]) only[zH,qap,zF,Nat.reduceEqDiff,zS,zZ,zD,zE,zh,zH,qck,List.getElem?_cons_zero,KO_ren]
    · rw[qbX]; simp (disch:=first|omega|decide|simp only[qaf,qad,qag,qae,qah,qac,qaa,qab,qai]) only[zH,qap,zF,Nat.reduceEqDiff,zZ,zu,zD,zE,zb,zH,qaK,qck,List.getElem?_cons_zero,List.getElem?_cons_succ]
    · exact qau (2,0) rfl (by simp (disch:=first|omega|decide|simp only[qaf,qad,qag,qae,qah,qac,qaa,qab,qai]) only[qap,zF,Nat.reduceEqDiff,zS,zu,zD,zE,zh,qa2]; rfl) (qa4 _ _ _)
    · exact qau (3,0) rfl (by simp (disch:=first|omega|decide|simp only[qaf,qad,qag,qae,qah,qac,qaa,qab,qai]) only[qap,zF,Nat.reduceEqDiff,zS,zu,zD,zE,zh,qa2]) (qa4 _ _ _)
  · rintro st ⟨H, rfl, h0, h1, h2, h3⟩
    apply qbs
    simp (disch:=first|omega|decide|simp only[qaf,qad,qag,qae,qah,qac,qaa,qab,qai]) only[qa0,qat,qao,qan,qal,qak,qaM,qar,qay,qaJ,qaq,qaH,qaG,qaj,qaF,qaD,qas,zM,zN,zO,zP,zK,zJ,Nat.reduceAdd,zA,zB,zL,zB,zA,N_gtr,Nat.reduceAdd,zi,zL,L19b0,Nat.sub_self,zi]
    rfl
  · rintro st ⟨H, rfl, h0, h1, h2, h3⟩ rfl
    simp (disch:=first|omega|decide|simp only[qaf,qad,qag,qae,qah,qac,qaa,qab,qai]) only[qbI,qa0,qat,qao,qan,qal,qak,qar,qbc,qay,qaJ,qaq,qaH,qaG,qa7,qa1,qaj,qaF,qa8,qaD,qas,qbr,zM,zN,zO,zP,zG,zC,zV,zX,zQ,zK,zJ,zH,Nat.reduceAdd,Nat.reduceSub,qap,qa5,qaR,qbn,qbv,qbV,qco,qbF,qbl,op_fa,qcy,za,zd,zU,Nat.reduceLT,zD,zA,zB,zT,zL,qdl,qdu,qcb,qcz,qbe,zB,zA,N_gtr,qbJ,Nat.reduceLT,Nat.reduceMul,Nat.reduceAdd,zi,zL,zT,qce,zg,ze,op_chk,qcq,op_iaS,qdf,qaI,qaA,qa6,zH,qa9,qbo,qbE,qca,qc1,qcl,qb7,qds,nms_fn,qaE,zY,zW,zx,z6,z0,qbQ,qba,za,zd,Nat.testBit,Nat.reduceShiftRight,Nat.reduceAnd,Nat.reduceBEq,ze,zg,zy,zU,zj,Nat.reduceSub,Nat.reduceLT,bne,qbg,qbG,qbS,qbp,qbZ,qcP,qb0,qbY,zj,zU,qaU,qam,qaU,qam,L19b0,Nat.sub_self,zi,h0,h1,h2,h3,KO_k,kcell' l 0 0 rfl,hadd]
    rw[qdk 2 _ _ [] (by simp only[qav,FUEL,qaz,qax,qaB,zV,zX,zI,zR,zQ,zC,zG,zW,zY,zF,zm,zn,zf,zS,zZ,zl,zzC,zD,zE,zb,zh,zq,zp,zo,ne_eq,z9,qap,qcc,KO_nms,qaP,qbe,h0,h1])]
    simp (disch:=first|omega|decide|simp only[qaf,qad,qag,qae,qah,qac,qaa,qab,qai]) only[zG,zC,zH,qap,zF,false_and,zE,zh,zzB,zH,qaK,qcc,KO_ren,qbN,h0,h1]
    rfl
end Aes
namespace Aes
open Go Go.LE
def eJ (n:Nat) (l:List (BitVec 8)) (s:R) (i:Nat) (st:St):Prop := ∃ (H:Heap),st=⟨[.ptr (0,0) 0,.undef,.undef,.ptr (1,0) 0,.ptr (1,1) 0,N (n+1),.undef,.undef,.undef,.undef,.undef,.undef,.undef,.undef,.undef,.undef,.undef,.undef,.undef,.undef,.undef,.undef,.undef,.undef,.undef,.undef,.undef,.undef,.undef,.undef,.undef,.sl (0,1) 16 n none 16,N n,N i,.undef,.undef,.undef,.undef,.undef,.undef,.undef,.undef,.undef,.undef,.undef,.undef,.undef,.undef,.undef,.undef,.undef,.undef,.undef,.undef,.undef,.undef],H,2,2⟩ ∧
  H (0,0)=some (KO n)∧H (0,1)=some (bs l)∧H (1,0)=some (aB 16 (encl (kf l) s i))∧H (1,1)=some (aB 16 fun _=>0#8)
theorem enc_F (k n:Nat) (hn:n≤20) (l:List (BitVec 8)) (hl:l.length=16*(n+2)) (s:R):F C (k+60) 17 [.ptr (0,0) 0,.agg (aB 16 s)] [KO n,bs l] =
    some (.agg (aB 16 (enc (kf l) n s)),[some (KO n),some (bs l)],[]):=by
  rw[qbT f17]
  have e1:n+2 - 1=n+1:=rfl
  have e2:n+1 - 1=n:=rfl
  have hmade:∀ (b:Nat) (H:Heap),H (0,0)=some (KO n)→H (0,1)=some (bs l)→qbD (envC C (k+59)) H b 31 [.ptr (0,0) 0]=some ⟨Bo true,[],[((0,0),some (KO n)),((0,1),some (bs l))]⟩:=fun b H=>c_made (k+58) n b hn l H
  have hround:∀ (b:Nat) (H:Heap) (s:R),H (0,0)=some (KO n)→H (0,1)=some (bs l)→qbD (envC C (k+59)) H b 36 [.ptr (0,0) 0,.agg (aB 16 s)]=some ⟨.agg (aB 16 (rnd s)),[],[((0,0),some (KO n)),((0,1),some (bs l))]⟩:=fun b H s h0 h1=>c_round (k+29) n b l H h0 h1 s
  have hmix:∀ (b:Nat) (H:Heap) (s:R),H (0,0)=some (KO n)→H (0,1)=some (bs l)→qbD (envC C (k+59)) H b 35 [.ptr (0,0) 0,.agg (aB 16 s)]=some ⟨.agg (aB 16 (mix s)),[],[((0,0),some (KO n)),((0,1),some (bs l))]⟩:=fun b H s h0 h1=>c_mix (k+29) n b l H h0 h1 s
  have hadd:∀ (b:Nat) (H:Heap) (s t:R),qbD (envC C (k+59)) H b 34 [.agg (aB 16 s),.agg (aB 16 t)]=some ⟨.agg (aB 16 (add s t)),[],[]⟩:=fun b H s t=>c_add (k+29) b H s t
  simp (disch:=first|omega|decide|simp only[qaf,qad,qag,qae,qah,qac,qaa,qab,qai]) only[qbk,qat,qao,qan,qal,qak,qaM,qar,qay,qaJ,qaH,qa7,qa1,qaj,zM,zN,zO,zP,zG,zC,zI,zR,qbd,z7,zK,zJ,Nat.reduceAdd,Nat.reduceSub,qdt,qa5,qcO,op_box,qcH,zA,zB,qcU,zB,zA,Nat.reduceAdd,Nat.reduceSub,L17]
  rw[hmade _ _ rfl rfl]
  simp (disch:=first|omega|decide|simp only[qaf,qad,qag,qae,qah,qac,qaa,qab,qai]) only[qbh,qat,qaX,qao,qan,qal,qak,qar,qbc,qay,qaJ,qaq,qaH,qaG,op_un,qa7,qa1,qaj,qaD,qas,zM,zN,zO,zP,zG,zC,zV,zX,zQ,zK,zJ,Bo_not,qbH,Nat.reduceAdd,Nat.reduceSub,qap,qa5,qaR,qbn,qbv,qbV,qco,qbF,qbl,op_fa,qcy,za,zd,zU,zF,Nat.reduceEqDiff,Nat.reduceLT,zS,zZ,zu,zD,zE,zA,zB,zT,zb,zh,qcb,qcz,qbe,zB,zA,N_sub,qbJ,Nat.reduceLT,Nat.reduceEqDiff,Nat.reduceMul,Nat.reduceAdd,zT,qce,zg,ze,op_chk,qcq,qcm,qbA,qb9,qcg,op_slcS,slcV_none,qcn,op_iaS,qdf,qaI,qaA,qa6,qck,qa2,List.getElem?_cons_zero,List.getElem?_cons_succ,qa9,qbo,qbE,qca,qc1,qcl,qb7,qds,nms_fn,qaE,zY,zW,zx,z6,z0,qbQ,qba,za,zd,Nat.testBit,Nat.reduceShiftRight,Nat.reduceAnd,Nat.reduceBEq,ze,zg,zy,zU,zj,Nat.reduceSub,Nat.reduceLT,bne,qbg,qbG,qbS,qbp,qbZ,qcP,qb0,qbY,zj,zU,qaU,qam,qaU,qam,KO_k,e1,e2,kcell' l 0 0 rfl,hadd]
  generalize hL:qbW L17k0 _ _ _=r
  refine qby hL (eJ n l s) n (by omega) ?_ ?_ ?_ ?_
  · rintro i st hi ⟨H, rfl, h0, h1, h2, h3⟩
    have hk:16+i*16=(i+1)*16:=by omega
    simp (disch:=first|omega|decide|simp only[qaf,qad,qag,qae,qah,qac,qaa,qab,qai]) only[qbh,qat,qaX,qao,qan,qal,qak,qar,qbc,qay,qaJ,qaq,qaH,qaG,qa7,qa1,qaj,qaD,qa3,zM,zN,zO,zP,zG,zC,zV,zX,zI,zQ,zK,zJ,Nat.reduceAdd,Nat.reduceSub,qap,qa5,qaR,qbv,qco,qcO,qbF,qbl,za,zd,zU,zF,Nat.reduceEqDiff,Nat.reduceLT,zS,zD,zE,zA,zB,zT,qcU,qcb,qcz,qbe,zB,zA,qaW,qbJ,Nat.reduceLT,Nat.reduceEqDiff,Nat.reduceAdd,zT,ze,op_iaS,qdf,qaI,qaZ,qaA,qa6,qa9,qbo,qbE,qc1,qb7,nms_fn,qaE,zY,zW,zx,z0,qbQ,qba,za,zd,Nat.testBit,Nat.reduceShiftRight,Nat.reduceAnd,ze,zy,zU,zj,Nat.reduceSub,Nat.reduceLT,bne,qbg,qbG,qbp,qcP,qbY,zj,zU,qaU,qam,qaU,qam,L17b0,h1,h2,hi,kcell' l (i+1) (16+i*16) hk]
    generalize hG:upd (upd H (5,0) _) (5,0) (some (aB 16 (kf l (i+1))))=G
    have g0:G (0,0)=some (KO n):=by rw[←hG]; exact h0
    have g1:G (0,1)=some (bs l):=by rw[←hG]; exact h1
    have g2:G (1,0)=some (aB 16 (encl (kf l) s i)):=by rw[←hG]; exact h2
    have g3:G (1,1)=some (aB 16 fun _=>0#8):=by rw[←hG]; exact h3
    have g5:G (5,0)=some (aB 16 (kf l (i+1))):=by rw[←hG]; rfl
    rw[reach_KO _ n l g0 g1,hround _ (only [(0,0),(0,1)] G) _ g0 g1,tr_KO (only [(0,0),(0,1)] G) _ n l g0 g1]
    simp (disch:=first|omega|decide|simp only[qaf,qad,qag,qae,qah,qac,qaa,qab,qai]) only[qar,qay,qaJ,qa7,qa1,zM,zN,zO,zP,zG,zC,zV,zX,zI,zQ,Nat.reduceAdd,Nat.reduceSub,za,zd,zU,Nat.reduceLT,zD,zT,qbe,Nat.reduceLT,Nat.reduceAdd,zT,zg,ze,qaI,qaA,qa9,qbo,qb7,nms_fn,qaE,zY,zW,zx,z6,z0,qbQ,qba,za,zd,Nat.testBit,Nat.reduceShiftRight,Nat.reduceAnd,Nat.reduceBEq,ze,zg,zy,zU,Nat.reduceSub,Nat.reduceLT,bne,qbg,qbG,qbY,zU,qaU,qaU]
    rw[reach_KO _ n l g0 g1,hmix _ (only [(0,0),(0,1)] G) _ g0 g1,tr_KO (only [(0,0),(0,1)] G) _ n l g0 g1]
    apply Exists.intro
    apply And.intro
    · simp (disch := first | omega | decide | simp only [qaf, qad, qag, qae, qah, qac, qaa, qab, qai]) only [qao, qan, qal, qak, qar, qbc, qay, qaJ, qaq, qaH, qaG, qa7, qa1, qaj, qaY, zM, zN, zO, zP, zG, zC, zV, zX, zQ, zK, zJ, Nat.reduceAdd, Nat.reduceSub, qa5, qaR, qbv, qco, qbF, qbl, za, zd, zU, Nat.reduceLT, zD, zA, zB, zT, qcb, qcz, qbe, zB, zA, qbz, Nat.reduceLT, Nat.reduceAdd, zT, qce, zg, ze, qaI, qaA, qa6, qa9, qbo, qbE, qc1, qcl, qb7, qds, nms_fn, qaE, zY, zW, zx, z6, z0, qbQ, qba, za, zd, Nat.testBit, Nat.reduceShiftRight, Nat.reduceAnd, Nat.reduceBEq, ze, zg, zy, zU, zj, Nat.reduceSub, Nat.reduceLT, bne, qbg, qbG, qbS, qbp, qcP, qb0, qbY, zj, zU, qaU, qam, qaU, qam, g2, g5, hadd]
      rfl
    · refine qaT [(1, 0), (1, 1)] rfl (by simp only [qav, FUEL, qaz, qax, qaB, qaE, qaQ, qaO, zV, zX, zI, zR, zQ, zC, zG, zW, zY, zF, zm, zn, zf, zS, zZ, zl, zzC, zD, zE, zb, zh, zq, zp, zo, ne_eq, zt, z9, qap, qaN, qaL, qaC, qcc, qbb, L17k0, qbP, KO_nms, qaP, g0, g1, g2, g3]) rfl ⟨_, rfl, ?_, ?_, ?_, ?_⟩
      · rw[qbX]; simp (disch:=first|omega|decide|simp only[qaf,qad,qag,qae,qah,qac,qaa,qab,qai]) only[zH,qap,zF,zS,zE,zh,zH,g0,KO_ren]
      · rw[qbX]; simp (disch:=first|omega|decide|simp only[qaf,qad,qag,qae,qah,qac,qaa,qab,qai]) only[zH,qap,zF,zu,zE,zb,zh,zH,qaK,g1]
      · exact qau (1,0) rfl (by simp (disch:=first|omega|decide|simp only[qaf,qad,qag,qae,qah,qac,qaa,qab,qai]) only[qap,zD,g2]; rfl) (qa4 _ _ _)
      · exact qau (1,1) rfl (by simp (disch:=first|omega|decide|simp only[qaf,qad,qag,qae,qah,qac,qaa,qab,qai]) only[qap,zF,zZ,zE,zb,g3]) (qa4 _ _ _)
  · refine qaT [(2, 0), (3, 0)] rfl (by simp only [qav, FUEL, qaz, qax, qaB, qaE, qaQ, qaO, zV, zX, zI, zR, zQ, zC, zG, zW, zY, zF, zm, zn, zf, Nat.reduceEqDiff, zS, zZ, zl, zzC, zD, zE, zb, zh, zq, zp, zo, ne_eq, zt, z9, qap, qaN, qaL, qaC, qck, qa2, qcc, List.getElem?_cons_zero, List.getElem?_cons_succ, qbb, L17k0, qbP, KO_nms, qaP]) rfl ⟨_, rfl, ?_, ?_, ?_, ?_⟩
    · rw[qbX]; simp (disch:=first|omega|decide|simp only[qaf,qad,qag,qae,qah,qac,qaa,qab,qai]) only[zH,qap,zF,Nat.reduceEqDiff,zS,zZ,zD,zE,zh,zH,qck,List.getElem?_cons_zero,KO_ren]
    · rw[qbX]; simp (disch:=first|omega|decide|simp only[qaf,qad,qag,qae,qah,qac,qaa,qab,qai]) only[zH,qap,zF,Nat.reduceEqDiff,zZ,zu,zD,zE,zb,zH,qaK,qck,List.getElem?_cons_zero,List.getElem?_cons_succ]
    · exact qau (2,0) rfl (by simp (disch:=first|omega|decide|simp only[qaf,qad,qag,qae,qah,qac,qaa,qab,qai]) only[qap,zF,Nat.reduceEqDiff,zS,zu,zD,zE,zh,qa2]; rfl) (qa4 _ _ _)
    · exact qau (3,0) rfl (by simp (disch:=first|omega|decide|simp only[qaf,qad,qag,qae,qah,qac,qaa,qab,qai]) only[qap,zF,Nat.reduceEqDiff,zS,zu,zD,zE,zh,qa2]) (qa4 _ _ _)
  · rintro st ⟨H, rfl, h0, h1, h2, h3⟩
    apply qbs
    simp (disch:=first|omega|decide|simp only[qaf,qad,qag,qae,qah,qac,qaa,qab,qai]) only[qa0,qat,qao,qan,qal,qak,qaM,qar,qay,qaq,qaG,qaj,qaF,qaD,qas,zM,zN,zO,zP,zK,zJ,Nat.reduceAdd,zA,zB,zL,qcU,zB,zA,qaW,Nat.reduceAdd,zi,zL,L17b0,zi]
    rfl
  · rintro st ⟨H, rfl, h0, h1, h2, h3⟩ rfl
    simp (disch:=first|omega|decide|simp only[qaf,qad,qag,qae,qah,qac,qaa,qab,qai]) only[qa0,qat,qao,qan,qal,qak,qar,qay,qaJ,qaq,qaH,qaG,qa7,qa1,qaj,qaF,qa8,qaD,qas,zM,zN,zO,zP,zG,zC,zV,zX,zI,zQ,zK,zJ,Nat.reduceAdd,Nat.reduceSub,qaR,qbv,qco,za,zd,zU,Nat.reduceLT,zD,zA,zB,zT,zL,qcU,qcb,qbe,zB,zA,qaW,Nat.reduceLT,Nat.reduceAdd,zi,zL,zT,ze,qaI,qaA,qa9,qbo,qbE,qc1,qb7,nms_fn,qaE,zY,zW,zx,z0,qbQ,qba,za,zd,Nat.testBit,Nat.reduceShiftRight,Nat.reduceAnd,ze,zy,zU,zj,Nat.reduceSub,Nat.reduceLT,bne,qbg,qbG,qbp,qcP,qbY,zj,zU,qaU,qam,qaU,qam,L17b0,zi,h2]
    rw[reach_KO _ n l h0 h1,hround _ (only [(0,0),(0,1)] H) _ h0 h1,tr_KO (only [(0,0),(0,1)] H) _ n l h0 h1]
    simp (disch:=first|omega|decide|simp only[qaf,qad,qag,qae,qah,qac,qaa,qab,qai]) only[qbI,qan,qal,qak,qar,qbc,qay,qaJ,qaq,qaH,qa7,qa1,qaj,qbr,zM,zN,zO,zP,zG,zC,zV,zX,zQ,zH,Nat.reduceAdd,Nat.reduceSub,qap,qa5,qaR,qbn,qbv,qbV,qco,qbF,qbl,op_fa,qcy,za,zd,zU,Nat.reduceLT,zD,zA,zB,zT,qdl,qdu,qcb,qcz,qbe,zB,zA,qbJ,Nat.reduceLT,Nat.reduceAdd,zT,qce,zg,ze,op_chk,qcq,op_iaS,qdf,qaI,qaA,qa6,zH,qa9,qbo,qbE,qca,qc1,qcl,qb7,qds,nms_fn,qaE,zY,zW,zx,z6,z0,qbQ,qba,za,zd,Nat.testBit,Nat.reduceShiftRight,Nat.reduceAnd,Nat.reduceBEq,ze,zg,zy,zU,zj,Nat.reduceSub,Nat.reduceLT,bne,qbg,qbG,qbS,qbp,qbZ,qcP,qb0,qbY,zj,zU,qaU,qam,qaU,qam,h0,h1,h3,KO_k,kcell' l (n+1) ((n+1)*16) rfl,hadd]
    rw[qdk 2 _ _ [] (by simp only[qav,FUEL,qaz,qax,qaB,zV,zX,zI,zR,zQ,zC,zG,zW,zY,zF,zm,zn,zf,zS,zZ,zl,zzC,zD,zE,zb,zh,zq,zp,zo,ne_eq,z9,qap,qcc,KO_nms,qaP,qbe,h0,h1])]
    simp (disch:=first|omega|decide|simp only[qaf,qad,qag,qae,qah,qac,qaa,qab,qai]) only[zG,zC,zH,qap,zF,false_and,zE,zh,zzB,zH,qaK,qcc,KO_ren,qbN,h0,h1]
    rfl
end Aes
namespace Aes
open Go Go.LE
theorem at4_0 (s:R):E16 (fun i=>at4 s i 0) s:=fun i hi=>by
  simp only[at4,zB]; congr 1; omega
theorem mix_unmix (s:R):mix (unmix s)=fun i=>at4 s i 0:=by
  funext i
  simp only[mix]
  have h:∀ k,at4 (unmix s) i k=T14 (at4 s i (k % 4)) ^^^ T11 (at4 s i ((k+1) % 4)) ^^^ T13 (at4 s i ((k+2) % 4)) ^^^ T9 (at4 s i ((k+3) % 4)):=by
    intro k
    show unmix s (4*(i / 4)+(i+k) % 4)=_
    simp only[unmix,at4_move,zB]
  rw[h,h,h,h]
  simp only[Nat.reduceMod,Nat.reduceAdd]
  generalize at4 s i 0=w; generalize at4 s i 1=x; generalize at4 s i 2=y; generalize at4 s i 3=z
  simp only[T14,T11,T13,T9,T2_lin]
  have e2:∀ a,T2 (T2 a)=T4 a:=fun a=>rfl
  have e3:∀ a,T2 (T4 a)=T8 a:=fun a=>rfl
  simp only[e2,e3]
  generalize T2 (T8 w)=w16; generalize T2 (T8 x)=x16; generalize T2 (T8 y)=y16; generalize T2 (T8 z)=z16
  generalize T8 w=w8; generalize T8 x=x8; generalize T8 y=y8; generalize T8 z=z8
  generalize T4 w=w4; generalize T4 x=x4; generalize T4 y=y4; generalize T4 z=z4
  generalize T2 w=w2; generalize T2 x=x2; generalize T2 y=y2; generalize T2 z=z2
  simp only[BitVec.xor_assoc,BitVec.xor_comm,xc,GF.xor_self_cancel,BitVec.xor_self,BitVec.xor_zero]
theorem decl_enc (K:Nat→R) (n:Nat) (s:R):∀ i,i≤n→E16 (decl K n (enc K n s) i) (encl K s (n - i)):=by
  intro i
  induction i with
  | zero =>
    intro _
    rw[decl,enc,add_add]
    exact unrnd_rnd _
  | succ i ih =>
    intro hi
    obtain ⟨m,hm⟩:∃ m,n - i=m+1:=⟨n - i - 1,by omega⟩
    have e:n - (i+1)=m:=by omega
    rw[decl,e,hm]
    have h:=ih (by omega)
    rw[hm,encl] at h
    have h2:=add_c h (K (m+1))
    rw[add_add] at h2
    have h3:=unmix_c h2
    rw[unmix_mix] at h3
    exact (unrnd_c (h3.trans (at4_0 _))).trans (unrnd_rnd _)
theorem dec_enc (K:Nat→R) (n:Nat) (s:R):E16 (dec K n (enc K n s)) s:=by
  have h:=decl_enc K n s n (Nat.le_refl _)
  rw[Nat.sub_self,encl] at h
  have h2:=add_c h (K 0)
  rw[add_add] at h2
  exact h2
theorem encl_dec (K:Nat→R) (n:Nat) (s:R):∀ i,i≤n→E16 (encl K (dec K n s) i) (decl K n s (n - i)):=by
  intro i
  induction i with
  | zero =>
    intro _
    rw[encl,dec,add_add]
    exact E16.refl _
  | succ i ih =>
    intro hi
    obtain ⟨m,hm⟩:∃ m,n - i=m+1:=⟨n - i - 1,by omega⟩
    have e:n - (i+1)=m:=by omega
    have e2:n - m=i+1:=by omega
    rw[encl,e]
    have h:=ih (by omega)
    rw[hm,decl,e2] at h
    have h2:=(mix_c ((rnd_c h).trans (rnd_unrnd _)))
    rw[mix_unmix] at h2
    have h3:=add_c (h2.trans (at4_0 _)) (K (i+1))
    rw[add_add] at h3
    exact h3
theorem enc_dec (K:Nat→R) (n:Nat) (s:R):E16 (enc K n (dec K n s)) s:=by
  have h:=encl_dec K n s n (Nat.le_refl _)
  rw[Nat.sub_self,decl] at h
  have h2:=add_c ((rnd_c h).trans (rnd_unrnd _)) (K (n+1))
  rw[add_add] at h2
  exact h2
theorem enc_c (K:Nat→R) (n:Nat) {s t:R} (h:E16 s t):E16 (enc K n s) (enc K n t):=by
  have hl:∀ i,E16 (encl K s i) (encl K t i):=by
    intro i
    induction i with
    | zero=>exact add_c h _
    | succ i ih=>exact add_c (mix_c (rnd_c ih)) _
  exact add_c (rnd_c (hl n)) _
theorem dec_c (K:Nat→R) (n:Nat) {s t:R} (h:E16 s t):E16 (dec K n s) (dec K n t):=by
  have hl:∀ i,E16 (decl K n s i) (decl K n t i):=by
    intro i
    induction i with
    | zero=>exact unrnd_c (add_c h _)
    | succ i ih=>exact unrnd_c (unmix_c (add_c ih _))
  exact add_c (hl n) _
end Aes
