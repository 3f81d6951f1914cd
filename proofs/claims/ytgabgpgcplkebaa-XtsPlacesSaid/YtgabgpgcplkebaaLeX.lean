/- The document's Encrypt and Decrypt, evaluated. -/
import Derived.Test.YtgabgpgcplkebaaLeV
set_option linter.unusedVariables false
set_option linter.unusedSimpArgs false
namespace Aes
open Go Go.LE
def RO (n:Nat):qaV := .sl (0,1) 0 (n+2) none 16::aB 512 TB
theorem RO_length (n:Nat):(RO n).length=513:=by rw[RO,zK,qcj]
theorem RO_k (n:Nat):cellK 0 1 (some (RO n))=some [.sl (0,1) 0 (n+2) none 16]:=by
  rw[cellK_some,if_pos (by rw[RO_length]; decide)]; rfl
theorem RO_at (n o:Nat) (h:o < 512):cellK (o+1) 1 (some (RO n))=some [B8 (TB o)]:=by
  have:=aB_cell 512 TB o h
  rw[cellK_some,if_pos (by rw[qcj]; omega)] at this
  rw[cellK_some,if_pos (by rw[RO_length]; omega),RO,zzD]
  exact this
theorem RO_bx (n:Nat) (x:BitVec 8):cellK (1+x.toNat) 1 (some (RO n))=some [B8 (BX x.toNat)]:=by
  have:=x.isLt
  rw[Nat.add_comm,RO_at n _ (by omega),TB_bx]
theorem RO_ub (n:Nat) (x:BitVec 8):cellK (257+x.toNat) 1 (some (RO n))=some [B8 (UB x.toNat)]:=by
  have:=x.isLt
  rw[show 257+x.toNat=(256+x.toNat)+1 by omega,RO_at n _ (by omega),TB_ub]
theorem RO_nms (n:Nat):(RO n).flatMap (nms D)=[(0,1)]:=by rw[RO,zV,qbP]; rfl
theorem RO_ren (n:Nat) (names:List Nm):(RO n).map (ren D (qdg names))=RO n:=by
  rw[RO,zG,qa4,qbq,qcK]; rfl
def bxs (s:R):R:=fun j=>BX (s j).toNat
def ubs (s:R):R:=fun j=>UB (s j).toNat
theorem mixg_M' (s:R):mixg fM s=mix s:=funext (mixg_M s)
theorem mixg_U' (s:R):mixg fU s=unmix s:=funext (mixg_U s)
theorem lit_M:[B8 2#8,B8 3#8,B8 1#8,B8 1#8]=aB 4 fM:=rfl
theorem lit_U:[B8 14#8,B8 11#8,B8 13#8,B8 9#8]=aB 4 fU:=rfl
theorem r_add (k b:Nat) (H:Heap) (s t:R):qbD (envC C (k+30)) H b 37 [.agg (aB 16 s),.agg (aB 16 t)]=some ⟨.agg (aB 16 (add s t)),[],[]⟩:=by
  rw[qda l37 (by simp only[zV,zX,qbe,zQ]) (by simp only[zG,zC,qbN]),radd_F,aB_calK]
theorem r_shift (k b:Nat) (H:Heap) (s:R):qbD (envC C (k+30)) H b 38 [.agg (aB 16 s)]=some ⟨.agg (aB 16 (shf s)),[],[]⟩:=by
  rw[qda l38 (by simp only[zV,zX,qbe,zQ]) (by simp only[zG,zC,qbN]),shift_F,aB_calK]
theorem r_mix (k b:Nat) (H:Heap) (s f:R):qbD (envC C (k+30)) H b 39 [.agg (aB 16 s),.agg (aB 4 f)]=some ⟨.agg (aB 16 (mixg f s)),[],[]⟩:=by
  rw[qda l39 (by simp only[zV,zX,qbe,zQ]) (by simp only[zG,zC,qbN]),rmix_F,aB_calK]
def reS (K:Nat→R) (n:Nat) (s:R) (i:Nat):R:=if i < n+1 then encl K s i else enc K n s
def reO (n:Nat) (l:List (BitVec 8)) (s:R) (i:Nat) (st:St):Prop := ∃ (H:Heap),st=⟨[.ptr (0,0) 0,.undef,.undef,.ptr (1,0) 0,.ptr (1,1) 0,N (i+1),.undef,.undef,.undef,.undef,.undef,.undef,.undef,.undef,.undef,.undef,.undef,.undef,.undef,.undef,.undef,.undef,.undef,.undef,.undef,.undef,.undef,.undef,.undef,.undef,.undef,.undef,.undef,.undef,.undef,.undef,.undef,.undef,.undef,.undef,.undef,.undef,.undef,.undef,.undef,.undef,.undef,.undef,.undef,.undef,.undef,.undef,.undef,.undef,.undef,.undef,.undef,.undef,.undef,.undef,.undef],H,2,2⟩ ∧
  H (0,0)=some (RO n)∧H (0,1)=some (bs l)∧H (1,0)=some (aB 16 (reS (kf l) n s i))∧H (1,1)=some (aB 16 fun _=>0#8)
def reI (n:Nat) (l:List (BitVec 8)) (s:R) (i j:Nat) (st:St):Prop := ∃ (H:Heap),st=⟨[.ptr (0,0) 0,.undef,.undef,.ptr (1,0) 0,.ptr (1,1) 0,N (i+1),N j,.undef,.undef,.undef,.undef,.undef,.undef,.undef,.undef,.undef,.undef,.undef,.undef,.undef,.undef,.undef,.undef,.undef,.undef,.undef,.undef,.undef,.undef,.undef,.undef,.undef,.undef,.undef,.undef,.undef,.undef,.undef,.undef,.undef,.undef,.undef,.undef,.undef,.undef,.undef,.undef,.undef,.undef,.undef,.undef,.undef,.undef,.undef,.undef,.undef,.undef,.undef,.undef,.undef,.undef],H,2,2⟩ ∧
  H (0,0)=some (RO n)∧H (0,1)=some (bs l)∧H (1,0)=some (aB 16 (upto j (bxs s) s))∧H (1,1)=some (aB 16 fun _=>0#8)
theorem renc_F (k n:Nat) (hn:n≤20) (l:List (BitVec 8)) (hl:l.length=16*(n+2)) (s:R):F C (k+60) 18 [.ptr (0,0) 0,.agg (aB 16 s)] [RO n,bs l] =
    some (.agg (aB 16 (enc (kf l) n s)),[some (RO n),some (bs l)],[]):=by
  rw[qbT f18]
  have e1:n+2 - 1=n+1:=rfl
  have hadd:∀ (b:Nat) (H:Heap) (s t:R),qbD (envC C (k+59)) H b 37 [.agg (aB 16 s),.agg (aB 16 t)]=some ⟨.agg (aB 16 (add s t)),[],[]⟩:=fun b H s t=>r_add (k+29) b H s t
  have hsh:∀ (b:Nat) (H:Heap) (s:R),qbD (envC C (k+59)) H b 38 [.agg (aB 16 s)]=some ⟨.agg (aB 16 (shf s)),[],[]⟩:=fun b H s=>r_shift (k+29) b H s
  have hmx:∀ (b:Nat) (H:Heap) (s f:R),qbD (envC C (k+59)) H b 39 [.agg (aB 16 s),.agg (aB 4 f)]=some ⟨.agg (aB 16 (mixg f s)),[],[]⟩:=fun b H s f=>r_mix (k+29) b H s f
  simp (disch:=first|omega|decide|simp only[qaf,qad,qag,qae,qah,qac,qaa,qab,qai]) only[qbk,qat,qaX,qao,qan,qal,qak,qar,qbc,qay,qaJ,qaq,qaH,qa7,qa1,qaj,zM,zN,zO,zP,zG,zC,zV,zX,zI,zR,zQ,qbd,z7,zK,zJ,qbH,Nat.reduceAdd,Nat.reduceSub,qap,qa5,qaR,qbn,qbv,qbV,qco,qcO,op_box,qcH,qbF,qbl,op_fa,qcy,za,zd,zU,zF,Nat.reduceEqDiff,Nat.reduceLT,zS,zu,zD,zE,zA,zB,zT,zb,qcU,qcb,qcz,qbe,zB,zA,qbJ,Nat.reduceLT,Nat.reduceEqDiff,Nat.reduceMul,Nat.reduceAdd,zT,qce,zg,ze,op_chk,qcq,op_iaS,qdf,qaI,qaZ,qaA,qa6,qck,qa2,List.getElem?_cons_zero,List.getElem?_cons_succ,qa9,qbo,qbE,qca,qc1,qcl,qb7,qds,nms_fn,qaE,zY,zW,zx,z6,z0,qbQ,qba,za,zd,Nat.testBit,Nat.reduceShiftRight,Nat.reduceAnd,Nat.reduceBEq,ze,zg,zy,zU,zj,Nat.reduceSub,Nat.reduceLT,bne,qbg,qbG,qbS,qbp,qbZ,qcP,qb0,qbY,zj,zU,qaU,qam,qaU,qam,L18,RO_k,kcell' l 0 0 rfl,hadd]
  generalize hL:qbW L18k1 _ _ _=r
  refine qby hL (reO n l s) (n+1) (by omega) ?_ ?_ ?_ ?_
  · rintro i st hi ⟨H, rfl, h0, h1, h2, h3⟩
    have hi2:i+1 < n+2:=by omega
    simp (disch:=first|omega|decide|simp only[qaf,qad,qag,qae,qah,qac,qaa,qab,qai]) only[qbh,qat,qaX,qao,qan,qal,qak,qaM,qar,qay,qaJ,qaq,qaH,qaG,qaj,qaD,qa3,zM,zN,zO,zP,zK,zJ,qbH,Nat.reduceAdd,qaR,qbn,qbV,op_fa,qcy,zA,zB,zT,zB,zA,qaW,Nat.reduceAdd,zT,op_chk,qcq,qcm,qbA,qb9,L18b1,h0,RO_k,hi2]
    generalize hL2:qbW L18k0 _ _ _=r2
    refine qby hL2 (reI n l (reS (kf l) n s i) i) 16 (by omega) ?_ ?_ ?_ ?_
    · rintro j st hj ⟨H, rfl, h0, h1, h2, h3⟩
      have hs:=upto_succ j (bxs (reS (kf l) n s i)) (reS (kf l) n s i) (BX (reS (kf l) n s i j).toNat) rfl
      apply Exists.intro
      apply And.intro
      · simp (disch := first | omega | decide | simp only [qaf, qad, qag, qae, qah, qac, qaa, qab, qai]) only [qbh, qat, qaX, qao, qan, qal, qak, qaM, qar, qbc, qay, qaJ, qaq, qaH, qaG, qaj, qaY, qaD, qa3, qbU, zM, zN, zO, zP, zQ, zK, zJ, B8_nat, Nat.reduceAdd, Nat.reduceSub, qb5, qaR, qbn, qbV, qbF, qbl, op_fa, qcy, op_iaA, iaV_lt, za, zd, zU, Nat.reduceLT, zD, zA, zB, zT, aB_cell, aB_st, zk, zB, zA, B8_nat, qbz, qaW, qbJ, Nat.reduceLT, Nat.reduceAdd, zT, qce, zg, ze, op_chk, qcq, zk, qa9, qbo, ordK_pure, ordK_mod, qbE, qca, qcl, qaE, zY, zW, zx, z6, z0, qbQ, qba, za, zd, Nat.testBit, Nat.reduceShiftRight, Nat.reduceAnd, Nat.reduceBEq, ze, zg, zy, zU, zj, Nat.reduceSub, Nat.reduceLT, bne, qbg, qbG, qbS, qbp, qbZ, qb0, zj, zU, L18b0, h0, h2, hj, upto_at, RO_bx, hs]
        rfl
      · refine qaT [(1, 0), (1, 1)] rfl (by simp only [qav, FUEL, qaz, qax, qaB, qaE, qaO, zV, zX, zI, zR, zQ, zC, zG, zW, zY, zF, zm, zn, zf, zS, zZ, zl, zzC, zD, zE, zb, zh, zq, zp, zo, ne_eq, zt, z9, qap, qaN, qaL, qaC, qcc, qbb, L18k0, qbP, RO_nms, qaP, h0, h1, h2, h3]) rfl ⟨_, rfl, ?_, ?_, ?_, ?_⟩
        · rw[qbX]; simp (disch:=first|omega|decide|simp only[qaf,qad,qag,qae,qah,qac,qaa,qab,qai]) only[zH,qap,zF,zS,zE,zh,zH,h0,RO_ren]
        · rw[qbX]; simp (disch:=first|omega|decide|simp only[qaf,qad,qag,qae,qah,qac,qaa,qab,qai]) only[zH,qap,zF,zu,zE,zb,zh,zH,qaK,h1]
        · exact qau (1,0) rfl (by simp (disch:=first|omega|decide|simp only[qaf,qad,qag,qae,qah,qac,qaa,qab,qai]) only[qap,zD,h2]) (qa4 _ _ _)
        · exact qau (1,1) rfl (by simp (disch:=first|omega|decide|simp only[qaf,qad,qag,qae,qah,qac,qaa,qab,qai]) only[qap,zF,zZ,zE,zb,h3]) (qa4 _ _ _)
    · refine qaT [(1, 0), (1, 1)] rfl (by simp only [qav, FUEL, qaz, qax, qaB, qaE, qaO, zV, zX, zI, zR, zQ, zC, zG, zW, zY, zF, zm, zn, zf, zS, zZ, zl, zzC, zD, zE, zb, zh, zq, zp, zo, ne_eq, zt, z9, qaN, qaL, qaC, qcc, qbb, L18k0, qbP, RO_nms, qaP, h0, h1, h2, h3]) rfl ⟨_, rfl, ?_, ?_, ?_, ?_⟩
      · rw[qbX]; simp (disch:=first|omega|decide|simp only[qaf,qad,qag,qae,qah,qac,qaa,qab,qai]) only[zH,zH,h0,RO_ren]
      · rw[qbX]; simp (disch:=first|omega|decide|simp only[qaf,qad,qag,qae,qah,qac,qaa,qab,qai]) only[zH,zH,qaK,h1]
      · rw[upto_zero]; exact qau (1,0) rfl (by simp (disch:=first|omega|decide|simp only[qaf,qad,qag,qae,qah,qac,qaa,qab,qai]) only[h2]) (qa4 _ _ _)
      · exact qau (1,1) rfl (by simp (disch:=first|omega|decide|simp only[qaf,qad,qag,qae,qah,qac,qaa,qab,qai]) only[h3]) (qa4 _ _ _)
    · rintro st ⟨H, rfl, h0, h1, h2, h3⟩
      apply qbs
      simp (disch:=first|omega|decide|simp only[qaf,qad,qag,qae,qah,qac,qaa,qab,qai]) only[qa0,qat,qao,qan,qal,qak,qaM,qar,qay,qaJ,qaq,qaH,qaG,qaj,qaF,qaD,qas,zM,zN,zO,zP,zK,zJ,Nat.reduceAdd,zA,zB,zL,zB,zA,qaW,Nat.reduceAdd,zi,zL,L18b0]
      rfl
    · rintro st ⟨H, rfl, h0, h1, h2, h3⟩ rfl
      rw[upto_all] at h2
      by_cases hm:i+1 < n+1
      · have hr:reS (kf l) n s (i+1)=add (mix (shf (bxs (reS (kf l) n s i)))) (kf l (i+1)):=by
          rw[reS,if_pos hm,reS,if_pos (by omega)]; rfl
        apply Exists.intro
        apply And.intro
        · simp (disch := first | omega | decide | simp only [qaf, qad, qag, qae, qah, qac, qaa, qab, qai]) only [qa0, qat, qao, qan, qal, qak, qar, qbc, qay, qaJ, qaq, qaH, qaG, qa7, qa1, qaj, qaF, qaY, qa8, qaD, qa3, qas, zM, zN, zO, zP, zG, zC, zV, zX, zI, zR, zQ, zK, zJ, Nat.reduceAdd, Nat.reduceSub, qap, qa5, qb5, qaR, qbn, qbv, qbV, qco, qbF, qbl, op_fa, qcy, qb6, qcZ, qcR, aggR_some, op_build, qbC, zzE, zzA, zzD, zw, zzG, za, zd, zU, zF, Nat.reduceLeDiff, Nat.reduceLT, zS, zu, zD, zE, zA, zB, Nat.le_refl, zT, zL, zb, zh, qcb, qcz, qbe, zB, zA, qbz, N_sub, qaW, qbJ, Nat.reduceLT, Nat.reduceLeDiff, Nat.reduceAdd, zi, zL, zT, qce, zg, ze, op_chk, qcq, qcm, qbA, qb9, op_iaS, qdf, qaI, qaA, qa6, qa9, qbo, qbE, qca, qc1, qcl, qb7, qds, nms_fn, qaE, zY, zW, zx, z6, z0, qbQ, qba, za, zd, Nat.testBit, Nat.reduceShiftRight, Nat.reduceAnd, Nat.reduceBEq, ze, zg, zy, zU, zj, Nat.reduceSub, Nat.reduceLT, bne, qbg, qbG, qbS, qbp, qbZ, qcP, qb0, qbY, zj, zU, qaU, qam, qaU, qam, L18b0, h0, h1, h2, RO_k, e1, hm, kcell' l (i + 1) ((i + 1) * 16) rfl, lit_M, hadd, hsh, hmx, mixg_M', ← hr]
          rfl
        · refine qaT [(1, 0), (1, 1)] rfl (by simp only [qav, FUEL, qaz, qax, qaB, qaE, qaO, zV, zX, zI, zR, zQ, zC, zG, zW, zY, zF, zm, zn, zf, zS, zZ, zl, zzC, zD, zE, zb, zh, zq, zp, zo, ne_eq, zt, z9, qap, qaN, qaL, qaC, qcc, qbb, L18k1, qbP, RO_nms, qaP, h0, h1, h2, h3]) rfl ⟨_, rfl, ?_, ?_, ?_, ?_⟩
          · rw[qbX]; simp (disch:=first|omega|decide|simp only[qaf,qad,qag,qae,qah,qac,qaa,qab,qai]) only[zH,qap,zF,zS,zE,zh,zH,h0,RO_ren]
          · rw[qbX]; simp (disch:=first|omega|decide|simp only[qaf,qad,qag,qae,qah,qac,qaa,qab,qai]) only[zH,qap,zF,zu,zE,zb,zh,zH,qaK,h1]
          · exact qau (1,0) rfl (by simp (disch:=first|omega|decide|simp only[qaf,qad,qag,qae,qah,qac,qaa,qab,qai]) only[qap,zD,h2]) (qa4 _ _ _)
          · exact qau (1,1) rfl (by simp (disch:=first|omega|decide|simp only[qaf,qad,qag,qae,qah,qac,qaa,qab,qai]) only[qap,zF,zZ,zE,zb,h3]) (qa4 _ _ _)
      · have hr:reS (kf l) n s (i+1)=add (shf (bxs (reS (kf l) n s i))) (kf l (i+1)):=by
          obtain rfl:i=n:=by omega
          rw[reS,if_neg hm,reS,if_pos (by omega)]; rfl
        apply Exists.intro
        apply And.intro
        · simp (disch := first | omega | decide | simp only [qaf, qad, qag, qae, qah, qac, qaa, qab, qai]) only [qbh, qa0, qat, qao, qan, qal, qak, qar, qbc, qay, qaJ, qaq, qaH, qaG, qa7, qa1, qaj, qaF, qaY, qa8, qaD, qas, zM, zN, zO, zP, zG, zC, zV, zX, zQ, zK, zJ, Nat.reduceAdd, Nat.reduceSub, qap, qa5, qaR, qbn, qbv, qbV, qco, qbF, qbl, op_fa, qcy, za, zd, zU, zF, Nat.reduceLT, zS, zu, zD, zE, zA, zB, zT, zL, zb, zh, qcb, qcz, qbe, zB, zA, qbz, N_sub, qaW, qbJ, Nat.reduceLT, Nat.reduceAdd, zi, zL, zT, qce, zg, ze, op_chk, qcq, qcm, qbA, qb9, op_iaS, qdf, qaI, qaA, qa6, qa9, qbo, qbE, qca, qc1, qcl, qb7, qds, nms_fn, qaE, zY, zW, zx, z6, z0, qbQ, qba, za, zd, Nat.testBit, Nat.reduceShiftRight, Nat.reduceAnd, Nat.reduceBEq, ze, zg, zy, zU, zj, Nat.reduceSub, Nat.reduceLT, bne, qbg, qbG, qbS, qbp, qbZ, qcP, qb0, qbY, zj, zU, qaU, qam, qaU, qam, L18b0, h0, h1, h2, RO_k, e1, hm, kcell' l (i + 1) ((i + 1) * 16) rfl, hadd, hsh, ← hr]
          rfl
        · refine qaT [(1, 0), (1, 1)] rfl (by simp only [qav, FUEL, qaz, qax, qaB, qaE, qaO, zV, zX, zI, zR, zQ, zC, zG, zW, zY, zF, zm, zn, zf, zS, zZ, zl, zzC, zD, zE, zb, zh, zq, zp, zo, ne_eq, zt, z9, qap, qaN, qaL, qaC, qcc, qbb, L18k1, qbP, RO_nms, qaP, h0, h1, h2, h3]) rfl ⟨_, rfl, ?_, ?_, ?_, ?_⟩
          · rw[qbX]; simp (disch:=first|omega|decide|simp only[qaf,qad,qag,qae,qah,qac,qaa,qab,qai]) only[zH,qap,zF,zS,zE,zh,zH,h0,RO_ren]
          · rw[qbX]; simp (disch:=first|omega|decide|simp only[qaf,qad,qag,qae,qah,qac,qaa,qab,qai]) only[zH,qap,zF,zu,zE,zb,zh,zH,qaK,h1]
          · exact qau (1,0) rfl (by simp (disch:=first|omega|decide|simp only[qaf,qad,qag,qae,qah,qac,qaa,qab,qai]) only[qap,zD,h2]) (qa4 _ _ _)
          · exact qau (1,1) rfl (by simp (disch:=first|omega|decide|simp only[qaf,qad,qag,qae,qah,qac,qaa,qab,qai]) only[qap,zF,zZ,zE,zb,h3]) (qa4 _ _ _)
  · have hr : add s (kf l 0) = reS (kf l) n s 0 := by rw [reS, if_pos (by omega)]; rfl
    refine qaT [(2,0),(3,0)] rfl (by simp only[qav,FUEL,qaz,qax,qaB,qaE,qaO,zV,zX,zI,zR,zQ,zC,zG,zW,zY,zF,zm,zn,zf,Nat.reduceEqDiff,zS,zZ,zl,zzC,zD,zE,zb,zh,zq,zp,zo,ne_eq,zt,z9,qap,qaN,qaL,qaC,qck,qa2,qcc,List.getElem?_cons_zero,List.getElem?_cons_succ,qbb,L18k1,qbP,RO_nms,qaP]) rfl ⟨_,rfl,?_,?_,?_,?_⟩
    · rw[qbX]; simp (disch:=first|omega|decide|simp only[qaf,qad,qag,qae,qah,qac,qaa,qab,qai]) only[zH,qap,zF,Nat.reduceEqDiff,zS,zE,zH,qck,List.getElem?_cons_zero,RO_ren]
    · rw[qbX]; simp (disch:=first|omega|decide|simp only[qaf,qad,qag,qae,qah,qac,qaa,qab,qai]) only[zH,qap,zF,Nat.reduceEqDiff,zu,zE,zb,zH,qaK,qck,List.getElem?_cons_zero,List.getElem?_cons_succ]
    · rw[←hr]; exact qau (2,0) rfl (by simp (disch:=first|omega|decide|simp only[qaf,qad,qag,qae,qah,qac,qaa,qab,qai]) only[qap,zF,Nat.reduceEqDiff,zS,zD,zE,qa2]) (qa4 _ _ _)
    · exact qau (3,0) rfl (by simp (disch:=first|omega|decide|simp only[qaf,qad,qag,qae,qah,qac,qaa,qab,qai]) only[qap,zF,Nat.reduceEqDiff,zS,zD,zE,qa2]) (qa4 _ _ _)
  · rintro st ⟨H, rfl, h0, h1, h2, h3⟩
    apply qbs
    simp (disch:=first|omega|decide|simp only[qaf,qad,qag,qae,qah,qac,qaa,qab,qai]) only[qa0,qat,qao,qan,qal,qak,qaM,qar,qay,qaq,qaH,qaG,qaj,qaF,qaD,qas,zM,zN,zO,zP,zK,zJ,Nat.reduceAdd,qaR,qbn,qbV,op_fa,qcy,zA,zB,zL,zB,zA,qaW,Nat.reduceAdd,zi,zL,op_chk,qcq,qcm,qbA,qb9,L18b1,h0,RO_k]
    rfl
  · rintro st ⟨H, rfl, h0, h1, h2, h3⟩ rfl
    have hr:reS (kf l) n s (n+1)=enc (kf l) n s:=if_neg (by omega)
    rw[hr] at h2
    simp (disch:=first|omega|decide|simp only[qaf,qad,qag,qae,qah,qac,qaa,qab,qai]) only[qbI,qa0,qat,qao,qan,qal,qak,qaM,qar,qbc,qay,qaq,qaH,qaG,qaj,qaF,qa8,qaD,qas,qbr,zM,zN,zO,zP,zK,zJ,zH,Nat.reduceAdd,qap,qcN,qa5,qaR,qbn,qbv,qbV,qco,qbF,qbl,op_fa,qcy,zD,zA,zB,zL,qdl,qdu,qcb,qcz,zB,zA,qaW,Nat.reduceAdd,zi,zL,op_chk,qcq,qcm,qbA,qb9,zH,L18b1,h0,h2,h3,RO_k]
    rw[qdk 2 _ _ [] (by simp only[qav,FUEL,qaz,qax,qaB,zV,zX,zI,zR,zQ,zC,zG,zW,zY,zF,zm,zn,zf,zS,zZ,zl,zzC,zD,zE,zb,zh,zq,zp,zo,ne_eq,z9,qap,qcc,RO_nms,qaP,qbe,h0,h1])]
    simp (disch:=first|omega|decide|simp only[qaf,qad,qag,qae,qah,qac,qaa,qab,qai]) only[zG,zC,zH,qap,zF,false_and,zE,zh,zzB,zH,qaK,qcc,RO_ren,qbN,h0,h1]
end Aes
namespace Aes
open Go Go.LE
theorem sh3_ix:∀ j:Fin 16,(((j.val+4*(j.val % 4)) % 16+4*(((j.val+4*(j.val % 4)) % 16) % 4)) % 16+4*((((j.val+4*(j.val % 4)) % 16+4*(((j.val+4*(j.val % 4)) % 16) % 4)) % 16) % 4)) % 16=(j.val+12*(j.val % 4)) % 16:=by decide
theorem sh3 (x:R):aB 16 (ubs (shf (shf (shf x))))=aB 16 (unrnd x):=aB_ext 16 fun j hj=>by
  have:=sh3_ix ⟨j,hj⟩
  simp only[ubs,shf,unrnd]
  rw[this]
def rdS (K:Nat→R) (n:Nat) (s:R):Nat→R
  | 0=>s
  | i+1=>decl K n s i
def rdM (K:Nat→R) (n:Nat) (s:R):Nat→R
  | 0=>add s (K (n+1))
  | i+1=>unmix (add (decl K n s i) (K (n - i)))
theorem rdS_succ (K:Nat→R) (n:Nat) (s:R) (i:Nat):rdS K n s (i+1)=unrnd (rdM K n s i):=by cases i <;> rfl
def rdO (n:Nat) (l:List (BitVec 8)) (s:R) (i:Nat) (st:St):Prop := ∃ (H:Heap),st=⟨[.ptr (0,0) 0,.undef,.undef,.ptr (1,0) 0,.ptr (1,1) 0,N (n+1 - i),.undef,.undef,.undef,.undef,.undef,.undef,.undef,.undef,.undef,.undef,.undef,.undef,.undef,.undef,.undef,.undef,.undef,.undef,.undef,.undef,.undef,.undef,.undef,.undef,.undef,.undef,.undef,.undef,.undef,.undef,.undef,.undef,.undef,.undef,.undef,.undef,.undef,.undef,.undef,.undef,.undef,.undef,.undef,.undef,.undef,.undef,.undef,.undef,.undef,.undef,.undef,.undef,.undef,.undef,.undef,.undef,.undef],H,2,2⟩ ∧
  H (0,0)=some (RO n)∧H (0,1)=some (bs l)∧H (1,0)=some (aB 16 (rdS (kf l) n s i))∧H (1,1)=some (aB 16 fun _=>0#8)
def rdI (n m:Nat) (l:List (BitVec 8)) (y:R) (j:Nat) (st:St):Prop := ∃ (H:Heap),st=⟨[.ptr (0,0) 0,.undef,.undef,.ptr (1,0) 0,.ptr (1,1) 0,N m,N j,.undef,.undef,.undef,.undef,.undef,.undef,.undef,.undef,.undef,.undef,.undef,.undef,.undef,.undef,.undef,.undef,.undef,.undef,.undef,.undef,.undef,.undef,.undef,.undef,.undef,.undef,.undef,.undef,.undef,.undef,.undef,.undef,.undef,.undef,.undef,.undef,.undef,.undef,.undef,.undef,.undef,.undef,.undef,.undef,.undef,.undef,.undef,.undef,.undef,.undef,.undef,.undef,.undef,.undef,.undef,.undef],H,2,2⟩ ∧
  H (0,0)=some (RO n)∧H (0,1)=some (bs l)∧H (1,0)=some (aB 16 (upto j (ubs y) y))∧H (1,1)=some (aB 16 fun _=>0#8)
theorem rd_tail (k K n i:Nat) (hi:i < n+1) (l:List (BitVec 8)) (s:R) {st:St} {r2:Option (Ex × St)} (hK:16 < K)
    (hL2:qbW L20k0 (ev (envC C k) K L20b0) K st=r2) (h0:rdI n (n+1 - i) l (shf (shf (shf (rdM (kf l) n s i)))) 0 (qcr L20k0 st)) {goal:Prop}
    (next:∀ H:Heap,r2=ev (envC C k) K L20b0 ⟨[.ptr (0,0) 0,.undef,.undef,.ptr (1,0) 0,.ptr (1,1) 0,N (n+1 - i),N 16,.undef,.undef,.undef,.undef,.undef,.undef,.undef,.undef,.undef,.undef,.undef,.undef,.undef,.undef,.undef,.undef,.undef,.undef,.undef,.undef,.undef,.undef,.undef,.undef,.undef,.undef,.undef,.undef,.undef,.undef,.undef,.undef,.undef,.undef,.undef,.undef,.undef,.undef,.undef,.undef,.undef,.undef,.undef,.undef,.undef,.undef,.undef,.undef,.undef,.undef,.undef,.undef,.undef,.undef,.undef,.undef],H,2,2⟩→H (0,0)=some (RO n)→H (0,1)=some (bs l)→H (1,0)=some (aB 16 (rdS (kf l) n s (i+1)))→H (1,1)=some (aB 16 fun _=>0#8)→goal):goal:=by
  refine qby hL2 (rdI n (n+1 - i) l (shf (shf (shf (rdM (kf l) n s i))))) 16 hK ?_ h0 ?_ ?_
  · generalize shf (shf (shf (rdM (kf l) n s i))) = y
    rintro j st hj ⟨H,rfl,h0,h1,h2,h3⟩
    have hs:=upto_succ j (ubs y) y (UB (y j).toNat) rfl
    apply Exists.intro
    apply And.intro
    · simp (disch := first | omega | decide | simp only [qaf, qad, qag, qae, qah, qac, qaa, qab, qai]) only [qbh, qat, qaX, qao, qan, qal, qak, qaM, qar, qbc, qay, qaJ, qaq, qaH, qaG, qaj, qaY, qaD, qa3, qbU, zM, zN, zO, zP, zQ, zK, zJ, B8_nat, Nat.reduceAdd, Nat.reduceSub, qb5, qaR, qbn, qbV, qbF, qbl, op_fa, qcy, op_iaA, iaV_lt, za, zd, zU, Nat.reduceLT, zD, zA, zB, zT, aB_cell, aB_st, zk, zB, zA, B8_nat, qbz, qaW, qbJ, Nat.reduceLT, Nat.reduceAdd, zT, qce, zg, ze, op_chk, qcq, zk, qa9, qbo, ordK_pure, ordK_mod, qbE, qca, qcl, qaE, zY, zW, zx, z6, z0, qbQ, qba, za, zd, Nat.testBit, Nat.reduceShiftRight, Nat.reduceAnd, Nat.reduceBEq, ze, zg, zy, zU, zj, Nat.reduceSub, Nat.reduceLT, bne, qbg, qbG, qbS, qbp, qbZ, qb0, zj, zU, L20b0, h0, h2, hj, upto_at, RO_ub, hs]
      rfl
    · refine qaT [(1, 0), (1, 1)] rfl (by simp only [qav, FUEL, qaz, qax, qaB, qaE, qaO, zV, zX, zI, zR, zQ, zC, zG, zW, zY, zF, zm, zn, zf, zS, zZ, zl, zzC, zD, zE, zb, zh, zq, zp, zo, ne_eq, zt, z9, qap, qaN, qaL, qaC, qcc, qbb, L20k0, qbP, RO_nms, qaP, h0, h1, h2, h3]) rfl ⟨_, rfl, ?_, ?_, ?_, ?_⟩
      · rw[qbX]; simp (disch:=first|omega|decide|simp only[qaf,qad,qag,qae,qah,qac,qaa,qab,qai]) only[zH,qap,zF,zS,zE,zh,zH,h0,RO_ren]
      · rw[qbX]; simp (disch:=first|omega|decide|simp only[qaf,qad,qag,qae,qah,qac,qaa,qab,qai]) only[zH,qap,zF,zu,zE,zb,zh,zH,qaK,h1]
      · exact qau (1,0) rfl (by simp (disch:=first|omega|decide|simp only[qaf,qad,qag,qae,qah,qac,qaa,qab,qai]) only[qap,zD,h2]) (qa4 _ _ _)
      · exact qau (1,1) rfl (by simp (disch:=first|omega|decide|simp only[qaf,qad,qag,qae,qah,qac,qaa,qab,qai]) only[qap,zF,zZ,zE,zb,h3]) (qa4 _ _ _)
  · rintro st ⟨H, rfl, h0, h1, h2, h3⟩
    apply qbs
    simp (disch:=first|omega|decide|simp only[qaf,qad,qag,qae,qah,qac,qaa,qab,qai]) only[qa0,qat,qao,qan,qal,qak,qaM,qar,qay,qaJ,qaq,qaH,qaG,qaj,qaF,qaD,qas,zM,zN,zO,zP,zK,zJ,Nat.reduceAdd,zA,zB,zL,zB,zA,qaW,Nat.reduceAdd,zi,zL,L20b0]
    rfl
  · rintro st ⟨H, rfl, h0, h1, h2, h3⟩ he
    rw[upto_all,sh3,←rdS_succ] at h2
    exact next H he h0 h1 h2 h3
theorem rdec_F (k n:Nat) (hn:n≤20) (l:List (BitVec 8)) (hl:l.length=16*(n+2)) (s:R):F C (k+60) 20 [.ptr (0,0) 0,.agg (aB 16 s)] [RO n,bs l] =
    some (.agg (aB 16 (dec (kf l) n s)),[some (RO n),some (bs l)],[]):=by
  rw[qbT f20]
  have e1:n+2 - 1=n+1:=rfl
  have hadd:∀ (b:Nat) (H:Heap) (s t:R),qbD (envC C (k+59)) H b 37 [.agg (aB 16 s),.agg (aB 16 t)]=some ⟨.agg (aB 16 (add s t)),[],[]⟩:=fun b H s t=>r_add (k+29) b H s t
  have hsh:∀ (b:Nat) (H:Heap) (s:R),qbD (envC C (k+59)) H b 38 [.agg (aB 16 s)]=some ⟨.agg (aB 16 (shf s)),[],[]⟩:=fun b H s=>r_shift (k+29) b H s
  have hmx:∀ (b:Nat) (H:Heap) (s f:R),qbD (envC C (k+59)) H b 39 [.agg (aB 16 s),.agg (aB 4 f)]=some ⟨.agg (aB 16 (mixg f s)),[],[]⟩:=fun b H s f=>r_mix (k+29) b H s f
  simp (disch:=first|omega|decide|simp only[qaf,qad,qag,qae,qah,qac,qaa,qab,qai]) only[qbk,qat,qaX,qao,qan,qal,qak,qar,qay,qaJ,qaq,qaH,qaG,qaj,zM,zN,zO,zP,zI,zR,qbd,z7,zK,zJ,qbH,Nat.reduceAdd,Nat.reduceSub,qap,qa5,qaR,qbn,qbV,qcO,op_box,qcH,op_fa,qcy,zF,Nat.reduceEqDiff,zS,zE,zA,zB,qcU,zB,zA,N_sub,Nat.reduceEqDiff,Nat.reduceAdd,op_chk,qcq,qcm,qbA,qb9,qaI,qaZ,qaA,qck,List.getElem?_cons_zero,Nat.reduceSub,qam,qam,L20,RO_k,e1]
  generalize hL:qbW L20k1 _ _ _=r
  refine qby hL (rdO n l s) (n+1) (by omega) ?_ ?_ ?_ ?_
  · rintro i st hi ⟨H, rfl, h0, h1, h2, h3⟩
    have hge:1≤n+1 - i:=by omega
    have e3:n+1 - i - 1=n+1 - (i+1):=by omega
    cases i with
    | zero =>
      have hx:add (rdS (kf l) n s 0) (kf l (n+1))=rdM (kf l) n s 0:=rfl
      simp (disch:=first|omega|decide|simp only[qaf,qad,qag,qae,qah,qac,qaa,qab,qai]) only[qbh,qat,qaX,qao,qan,qal,qak,qar,qbc,qay,qaJ,qaq,qaH,qaG,qa7,qa1,qaj,qaD,qa3,qas,zM,zN,zO,zP,zG,zC,zV,zX,zQ,zK,zJ,qbH,Nat.reduceAdd,Nat.reduceSub,qap,qa5,qaR,qbn,qbv,qbV,qco,qbF,qbl,op_fa,qcy,za,zd,zU,zF,Nat.reduceLeDiff,Nat.reduceLT,zS,zD,zE,zA,zB,zT,zL,zh,qcb,qcz,qbe,zB,zA,N_sub,qaW,N_geq,qbJ,Nat.reduceLT,Nat.reduceLeDiff,Nat.reduceAdd,zi,zL,zT,qce,zg,ze,op_chk,qcq,qcm,qbA,qb9,op_iaS,qdf,qaI,qaA,qa6,Nat.sub_zero,qa9,qbo,qbE,qca,qc1,qcl,qb7,qds,nms_fn,qaE,zY,zW,zx,z6,z0,qbQ,qba,za,zd,Nat.testBit,Nat.reduceShiftRight,Nat.reduceAnd,Nat.reduceBEq,ze,zg,zy,zU,zj,Nat.reduceSub,Nat.reduceLT,bne,qbg,qbG,qbS,qbp,qbZ,qcP,qb0,qbY,zj,zU,qaU,qam,qaU,qam,L20b1,h0,h1,h2,RO_k,e1,Nat.sub_zero,zi,kcell' l (n+1) ((n+1)*16) rfl,hadd,hsh,hx]
      generalize hL2:qbW L20k0 _ _ _=r2
      refine rd_tail (k+59) (k+59) n 0 (by omega) l s (by omega) hL2 ?_ ?_
      · refine qaT [(1, 0), (1, 1)] rfl (by simp only [qav, FUEL, qaz, qax, qaB, qaE, qaO, zV, zX, zI, zR, zQ, zC, zG, zW, zY, zF, zm, zn, zf, zS, zZ, zl, zzC, zD, zE, zb, zh, zq, zp, zo, ne_eq, zt, z9, qap, qaN, qaL, qaC, qcc, qbb, L20k0, qbP, RO_nms, qaP, h0, h1, h2, h3]) rfl ⟨_, rfl, ?_, ?_, ?_, ?_⟩
        · rw[qbX]; simp (disch:=first|omega|decide|simp only[qaf,qad,qag,qae,qah,qac,qaa,qab,qai]) only[zH,qap,zF,zS,zE,zh,zH,h0,RO_ren]
        · rw[qbX]; simp (disch:=first|omega|decide|simp only[qaf,qad,qag,qae,qah,qac,qaa,qab,qai]) only[zH,qap,zF,zu,zE,zb,zh,zH,qaK,h1]
        · rw[upto_zero]; exact qau (1,0) rfl (by simp (disch:=first|omega|decide|simp only[qaf,qad,qag,qae,qah,qac,qaa,qab,qai]) only[qap,zD,h2]) (qa4 _ _ _)
        · exact qau (1,1) rfl (by simp (disch:=first|omega|decide|simp only[qaf,qad,qag,qae,qah,qac,qaa,qab,qai]) only[qap,zF,zZ,zE,zb,h3]) (qa4 _ _ _)
      · rintro H rfl h0 h1 h2 h3
        apply Exists.intro
        apply And.intro
        · simp (disch := first | omega | decide | simp only [qaf, qad, qag, qae, qah, qac, qaa, qab, qai]) only [qa0, qat, qao, qan, qal, qak, qaM, qar, qay, qaJ, qaq, qaH, qaG, qaj, qaF, qaY, qa8, qaD, qas, zM, zN, zO, zP, zK, zJ, Nat.reduceAdd, zD, zA, zB, zL, zB, zA, N_sub, qaW, Nat.reduceAdd, zi, zL, Nat.sub_zero, L20b0]
          rfl
        · refine qaT [(1, 0), (1, 1)] rfl (by simp only [qav, FUEL, qaz, qax, qaB, qaE, qaO, zV, zX, zI, zR, zQ, zC, zG, zW, zY, zF, zm, zn, zf, zS, zZ, zl, zzC, zD, zE, zb, zh, zq, zp, zo, ne_eq, zt, z9, Nat.reduceAdd, qaN, qaL, qaC, qcc, qbb, L20k1, qbP, RO_nms, qaP, h0, h1, h2, h3]) rfl ⟨_, rfl, ?_, ?_, ?_, ?_⟩
          · rw[qbX]; simp (disch:=first|omega|decide|simp only[qaf,qad,qag,qae,qah,qac,qaa,qab,qai]) only[zH,zH,h0,RO_ren]
          · rw[qbX]; simp (disch:=first|omega|decide|simp only[qaf,qad,qag,qae,qah,qac,qaa,qab,qai]) only[zH,zH,qaK,h1]
          · exact qau (1,0) rfl h2 (qa4 _ _ _)
          · exact qau (1,1) rfl h3 (qa4 _ _ _)
    | succ i =>
      have hlt:n+1 - (i+1) < n+1:=by omega
      have e5:n+1 - (i+1)=n - i:=by omega
      have hx:unmix (add (rdS (kf l) n s (i+1)) (kf l (n+1 - (i+1))))=rdM (kf l) n s (i+1):=by rw[e5]; rfl
      simp (disch:=first|omega|decide|simp only[qaf,qad,qag,qae,qah,qac,qaa,qab,qai]) only[qbh,qat,qaX,qao,qan,qal,qak,qar,qbc,qay,qaJ,qaq,qaH,qaG,qa7,qa1,qaj,qaD,qa3,zM,zN,zO,zP,zG,zC,zV,zX,zI,zR,zQ,zK,zJ,qbH,Nat.reduceAdd,Nat.reduceSub,qap,qa5,qb5,qaR,qbn,qbv,qbV,qco,qbF,qbl,op_fa,qcy,qb6,qcZ,qcR,aggR_some,op_build,qbC,zzE,zzA,zzD,zw,zzG,za,zd,zU,zF,Nat.reduceLeDiff,Nat.reduceLT,zS,zu,zD,zE,zA,zB,Nat.le_refl,zT,zh,qcb,qcz,qbe,zB,zA,N_sub,qaW,N_geq,qbJ,Nat.reduceLT,Nat.reduceLeDiff,Nat.reduceAdd,zT,qce,zg,ze,op_chk,qcq,qcm,qbA,qb9,op_iaS,qdf,qaI,qaA,qa6,qa9,qbo,qbE,qca,qc1,qcl,qb7,qds,nms_fn,qaE,zY,zW,zx,z6,z0,qbQ,qba,za,zd,Nat.testBit,Nat.reduceShiftRight,Nat.reduceAnd,Nat.reduceBEq,ze,zg,zy,zU,zj,Nat.reduceSub,Nat.reduceLT,bne,qbg,qbG,qbS,qbp,qbZ,qcP,qb0,qbY,zj,zU,qaU,qam,qaU,qam,L20b1,h0,h1,h2,hge,hlt,RO_k,e1,kcell' l (n+1 - (i+1)) ((n+1 - (i+1))*16) rfl,lit_U,hadd,hsh,hmx,mixg_U',hx]
      generalize hL2:qbW L20k0 _ _ _=r2
      refine rd_tail (k+59) (k+59) n (i+1) (by omega) l s (by omega) hL2 ?_ ?_
      · refine qaT [(1, 0), (1, 1)] rfl (by simp only [qav, FUEL, qaz, qax, qaB, qaE, qaO, zV, zX, zI, zR, zQ, zC, zG, zW, zY, zF, zm, zn, zf, zS, zZ, zl, zzC, zD, zE, zb, zh, zq, zp, zo, ne_eq, zt, z9, qap, qaN, qaL, qaC, qcc, qbb, L20k0, qbP, RO_nms, qaP, h0, h1, h2, h3]) rfl ⟨_, rfl, ?_, ?_, ?_, ?_⟩
        · rw[qbX]; simp (disch:=first|omega|decide|simp only[qaf,qad,qag,qae,qah,qac,qaa,qab,qai]) only[zH,qap,zF,zS,zE,zh,zH,h0,RO_ren]
        · rw[qbX]; simp (disch:=first|omega|decide|simp only[qaf,qad,qag,qae,qah,qac,qaa,qab,qai]) only[zH,qap,zF,zu,zE,zb,zh,zH,qaK,h1]
        · rw[upto_zero]; exact qau (1,0) rfl (by simp (disch:=first|omega|decide|simp only[qaf,qad,qag,qae,qah,qac,qaa,qab,qai]) only[qap,zD,h2]) (qa4 _ _ _)
        · exact qau (1,1) rfl (by simp (disch:=first|omega|decide|simp only[qaf,qad,qag,qae,qah,qac,qaa,qab,qai]) only[qap,zF,zZ,zE,zb,h3]) (qa4 _ _ _)
      · rintro H rfl h0 h1 h2 h3
        apply Exists.intro
        apply And.intro
        · simp (disch := first | omega | decide | simp only [qaf, qad, qag, qae, qah, qac, qaa, qab, qai]) only [qa0, qat, qao, qan, qal, qak, qaM, qar, qay, qaJ, qaq, qaH, qaG, qaj, qaF, qaY, qa8, qaD, qas, zM, zN, zO, zP, zK, zJ, Nat.reduceAdd, zD, zA, zB, zL, zB, zA, N_sub, qaW, Nat.reduceAdd, zi, zL, L20b0, e3]
          rfl
        · refine qaT [(1, 0), (1, 1)] rfl (by simp only [qav, FUEL, qaz, qax, qaB, qaE, qaO, zV, zX, zI, zR, zQ, zC, zG, zW, zY, zF, zm, zn, zf, zS, zZ, zl, zzC, zD, zE, zb, zh, zq, zp, zo, ne_eq, zt, z9, qaN, qaL, qaC, qcc, qbb, L20k1, qbP, RO_nms, qaP, h0, h1, h2, h3]) rfl ⟨_, rfl, ?_, ?_, ?_, ?_⟩
          · rw[qbX]; simp (disch:=first|omega|decide|simp only[qaf,qad,qag,qae,qah,qac,qaa,qab,qai]) only[zH,zH,h0,RO_ren]
          · rw[qbX]; simp (disch:=first|omega|decide|simp only[qaf,qad,qag,qae,qah,qac,qaa,qab,qai]) only[zH,zH,qaK,h1]
          · exact qau (1,0) rfl h2 (qa4 _ _ _)
          · exact qau (1,1) rfl h3 (qa4 _ _ _)
  · refine qaT [(2, 0), (3, 0)] rfl (by simp only [qav, FUEL, qaz, qax, qaB, qaE, qaO, zV, zX, zI, zR, zQ, zC, zG, zW, zY, zF, zm, zn, zf, Nat.reduceEqDiff, zS, zZ, zl, zzC, zD, zE, zb, zh, zq, zp, zo, ne_eq, zt, z9, qap, qaN, qaL, qaC, qck, qa2, qcc, List.getElem?_cons_zero, List.getElem?_cons_succ, qbb, L20k1, qbP, RO_nms, qaP]) rfl ⟨_, rfl, ?_, ?_, ?_, ?_⟩
    · rw[qbX]; simp (disch:=first|omega|decide|simp only[qaf,qad,qag,qae,qah,qac,qaa,qab,qai]) only[zH,qap,zF,Nat.reduceEqDiff,zS,zE,zH,qck,List.getElem?_cons_zero,RO_ren]
    · rw[qbX]; simp (disch:=first|omega|decide|simp only[qaf,qad,qag,qae,qah,qac,qaa,qab,qai]) only[zH,qap,zF,Nat.reduceEqDiff,zu,zE,zb,zH,qaK,qck,List.getElem?_cons_zero,List.getElem?_cons_succ]
    · exact qau (2,0) rfl (by simp (disch:=first|omega|decide|simp only[qaf,qad,qag,qae,qah,qac,qaa,qab,qai]) only[qap,zF,Nat.reduceEqDiff,zS,zD,zE,qa2]; rfl) (qa4 _ _ _)
    · exact qau (3,0) rfl (by simp (disch:=first|omega|decide|simp only[qaf,qad,qag,qae,qah,qac,qaa,qab,qai]) only[qap,zF,Nat.reduceEqDiff,zS,zD,zE,qa2]) (qa4 _ _ _)
  · rintro st ⟨H, rfl, h0, h1, h2, h3⟩
    apply qbs
    simp (disch:=first|omega|decide|simp only[qaf,qad,qag,qae,qah,qac,qaa,qab,qai]) only[qa0,qat,qao,qan,qal,qak,qaM,qar,qay,qaJ,qaq,qaH,qaG,qaj,qaF,qaD,qas,zM,zN,zO,zP,zK,zJ,Nat.reduceAdd,Nat.reduceLeDiff,zA,zB,zL,zB,zA,N_geq,Nat.reduceLeDiff,Nat.reduceAdd,zL,L20b1,Nat.sub_self]
    rfl
  · rintro st ⟨H, rfl, h0, h1, h2, h3⟩ rfl
    simp (disch:=first|omega|decide|simp only[qaf,qad,qag,qae,qah,qac,qaa,qab,qai]) only[qbI,qa0,qat,qao,qan,qal,qak,qar,qbc,qay,qaJ,qaq,qaH,qaG,qa7,qa1,qaj,qaF,qa8,qaD,qas,qbr,zM,zN,zO,zP,zG,zC,zV,zX,zQ,zK,zJ,zH,Nat.reduceAdd,Nat.reduceSub,qap,qa5,qaR,qbn,qbv,qbV,qco,qbF,qbl,op_fa,qcy,za,zd,zU,Nat.reduceLeDiff,Nat.reduceLT,zD,zA,zB,zT,zL,qdl,qdu,qcb,qcz,qbe,zB,zA,N_geq,qbJ,Nat.reduceLT,Nat.reduceLeDiff,Nat.reduceMul,Nat.reduceAdd,zL,zT,qce,zg,ze,op_chk,qcq,op_iaS,qdf,qaI,qaA,qa6,zH,qa9,qbo,qbE,qca,qc1,qcl,qb7,qds,nms_fn,qaE,zY,zW,zx,z6,z0,qbQ,qba,za,zd,Nat.testBit,Nat.reduceShiftRight,Nat.reduceAnd,Nat.reduceBEq,ze,zg,zy,zU,zj,Nat.reduceSub,Nat.reduceLT,bne,qbg,qbG,qbS,qbp,qbZ,qcP,qb0,qbY,zj,zU,qaU,qam,qaU,qam,L20b1,h0,h1,h2,h3,RO_k,Nat.sub_self,kcell' l 0 0 rfl,hadd]
    rw[qdk 2 _ _ [] (by simp only[qav,FUEL,qaz,qax,qaB,zV,zX,zI,zR,zQ,zC,zG,zW,zY,zF,zm,zn,zf,zS,zZ,zl,zzC,zD,zE,zb,zh,zq,zp,zo,ne_eq,z9,qap,qcc,RO_nms,qaP,qbe,h0,h1])]
    simp (disch:=first|omega|decide|simp only[qaf,qad,qag,qae,qah,qac,qaa,qab,qai]) only[zG,zC,zH,qap,zF,false_and,zE,zh,zzB,zH,qaK,qcc,RO_ren,qbN,h0,h1]
    rfl
end Aes
namespace Aes
open Go Go.LE
theorem boxed_F (k:Nat) (w:R):F C (k+1) 29 [.ptr (0,0) 0,.agg (aB 4 w)] [CF Nil TB]=some (.agg (aB 4 fun j=>BX (w j).toNat),[some (CF Nil TB)],[]):=by
  rw[qbT f29]
  have hb:[B8 (BX (w 0).toNat),B8 (BX (w 1).toNat),B8 (BX (w 2).toNat),B8 (BX (w 3).toNat)]=aB 4 fun j=>BX (w j).toNat:=rfl
  simp (disch:=first|omega|decide|simp only[qaf,qad,qag,qae,qah,qac,qaa,qab,qai]) only[qbk,qbI,qat,qao,qan,qal,qak,qaM,qar,qbc,qay,qaJ,qaq,qaH,qaj,qbr,zM,zN,zO,zP,zG,zC,zI,zR,zQ,qbd,z7,zK,zJ,B8_nat,zH,Nat.reduceAdd,Nat.reduceSub,qap,qdt,qa5,qb5,qaR,qbn,qbV,qcO,op_box,qcH,qbF,qbl,qdh,op_fa,qcy,op_iaA,iaV_lt,qb6,qcZ,qcR,aggR_some,op_build,qbC,zzE,zzA,zzD,zw,zzG,za,zd,zU,zF,Nat.reduceEqDiff,Nat.reduceLeDiff,Nat.reduceLT,zS,zu,zD,zE,zA,zB,Nat.le_refl,zT,qdl,qdu,qcj,aB_cell,qcb,qbe,qae,zk,zB,zA,B8_nat,qbJ,Nat.reduceLT,Nat.reduceLeDiff,Nat.reduceEqDiff,Nat.reduceAdd,zT,qce,zg,ze,op_chk,qcq,zH,zk,qck,qa2,List.getElem?_cons_zero,qa9,qbo,ordK_pure,ordK_mod,qbE,qca,qcl,qaE,zY,zW,zx,z6,z0,qbQ,qba,za,zd,Nat.testBit,Nat.reduceShiftRight,Nat.reduceAnd,Nat.reduceBEq,ze,zg,zy,zU,zj,Nat.reduceSub,Nat.reduceLT,bne,qbg,qbG,qbS,qbp,qbZ,qb0,zj,zU,L29,CT_bx,hb]
  rw[qdk 1 _ _ [] (by simp only[qav,FUEL,qaz,qax,qaB,zV,zX,zI,zQ,zC,zG,zW,zF,zf,Nat.reduceEqDiff,zS,zE,zq,zp,zo,ne_eq,z9,qap,qck,range_one,List.getElem?_cons_zero,qbj,qbu,qbj,qbe])]
  simp (disch:=first|omega|decide|simp only[qaf,qad,qag,qae,qah,qac,qaa,qab,qai]) only[zG,zC,zH,qap,zF,Nat.reduceEqDiff,false_and,zE,qcD,zzB,zH,qck,range_one,List.getElem?_cons_zero,qbt,qcD,qbN]
def boT (i:Nat):R:=fun j=>if j < 256∧don i j=true then BX j else 0#8
theorem boT_0:boT 0=set1 (fun _=>0#8) 0 99#8:=by
  funext j
  simp only[boT,don,Nat.not_lt_zero,zl,decide_eq_true_eq,set1]
  by_cases h0:j=0
  · subst h0; decide
  · rw[if_neg h0,if_neg (fun h=>h0 h.2)]
theorem boT_succ (i:Nat) (hi:i < 255):boT (i+1)=set1 (boT i) (PW i).toNat (BX (PW i).toNat):=by
  have hp:(PW i).toNat < 256:=(PW i).isLt
  funext j
  simp only[boT,set1]
  by_cases h1:j < 256
  · rw [don_succ i j hi h1]
    by_cases h2:j=(PW i).toNat
    · rw[if_pos h2,if_pos ⟨h1,by rw[decide_eq_true h2]; rfl⟩,h2]
    · rw[if_neg h2,decide_eq_false h2,Bool.false_or]
  · rw[if_neg (fun h=>h1 h.1),if_neg (by omega),if_neg (fun h=>h1 h.1)]
theorem boT_all:aB 256 (boT 255)=aB 256 BX:=aB_ext 256 fun j hj=>by rw[boT,if_pos ⟨hj,don_all j hj⟩]
theorem trn_pw:∀ i:Fin 255,trn (PW (255 - i.val))=BX (PW i.val).toNat:=by decide +kernel
theorem trn_0:trn 0#8=99#8:=by decide
def oJ1 (i:Nat) (st:St):Prop := ∃ (H:Heap),st=⟨[.ptr (1,0) 0,.ptr (1,1) 0,N (i+1),.undef,.undef,.undef,.undef,.undef,.undef,.undef,.undef,.undef,.undef,.undef,.undef,.undef,.undef,.undef,.undef,.undef,.undef,.undef,.undef,.undef,.undef,.undef,.undef,.undef,.undef,.undef,.undef,.undef,.undef],H,2,0⟩∧H (1,0)=some (aB 256 fun _=>0#8)∧H (1,1)=some (aB 256 (pwT (i+1)))
def oJ2 (i:Nat) (st:St):Prop := ∃ (H:Heap),st=⟨[.ptr (1,0) 0,.ptr (1,1) 0,.undef,.ptr (1,2) 0,N i,.undef,.undef,.undef,.undef,.undef,.undef,.undef,.undef,.undef,.undef,.undef,.undef,.undef,.undef,.undef,.undef,.undef,.undef,.undef,.undef,.undef,.undef,.undef,.undef,.undef,.undef,.undef,.undef],H,2,0⟩∧H (1,0)=some (aB 256 fun _=>0#8)∧H (1,1)=some (aB 256 (pwT 256))∧H (1,2)=some (aB 256 (boT i))
theorem Boxes_F (k:Nat):F C (k+300) 32 [] []=some (.agg (aB 256 BX),[],[]):=by
  rw[qbT f32]
  have e0:set1 (fun _=>0#8) 0 1#8=pwT 1:=by
    funext j; simp only[set1,pwT]
    by_cases h:j=0
    · subst h; rfl
    · rw[if_neg h,if_neg (by omega)]
  have htu:∀ a,F C (k+299) 49 [B8 a] []=some (B8 (trn a),[],[]):=fun a=>turned_F (k+279) a
  have hmu:∀ a b,F C (k+299) 33 [B8 a,B8 b] []=some (B8 (mul a b),[],[]):=fun a b=>rmulF (k+288) a b
  simp (disch:=first|omega|decide|simp only[qaf,qad,qag,qae,qah,qac,qaa,qab,qai]) only[qbk,qat,qaX,qao,qan,qal,qak,qaM,qar,qbc,qay,qaJ,qaq,qaH,qaj,zM,zN,zO,zP,zI,qbd,z7,zK,zJ,qbH,Nat.reduceAdd,qap,qdt,qcN,qb5,qcO,qbF,qbl,op_iaA,iaV_lt,zF,Nat.reduceEqDiff,zS,zD,zE,zA,zB,qcU,aB_st,zk,zB,zA,qbJ,Nat.reduceEqDiff,Nat.reduceAdd,Nat.sub_zero,zk,qa2,L32,e0]
  generalize hL:qbW L32k1 _ _ _=r
  refine qby hL oJ1 255 (by omega) ?_ ?_ ?_ ?_
  · rintro i st hi ⟨H, rfl, h0, h1⟩
    have hlt:i+1 < 256:=by omega
    have hs:=pwT_succ i hi
    have e1:i+1 - 1=i:=by omega
    apply Exists.intro
    apply And.intro
    · simp (disch := first | omega | decide | simp only [qbU, nms_B32, qbR, nms_I, qbb, qci, qcM, qaO, nms_Hf, qaE, qaQ, qbe, qc6, qc8, qc3, zV, zX, zI, zQ, ren_B8, ren_B32, qcu, ren_I, ren_N, ren_Bo, ren_Un, qdj, ren_Hf, qbN, qc7, qc9, qcY, zG, zC, ren7_I, ren7_N, ren7_Bo, ren7_B8, ren7_B32, ren7_B64, nms7_I, nms7_N, nms7_Bo, nms7_B8, nms7_B32, nms7_B64, qcV, qb8, implies_true, l33, l49, qaf, qaP, qaK, qbw, qbO, qad, qag, qae, qah, qac, qaa, qab, qai]) only [qbh, qat, qaX, qao, qan, qal, qak, qaM, qar, qbc, qay, qaJ, qaq, qaH, qaG, qa7, qa1, qaj, qaY, qaD, qa3, zM, zN, zO, zP, zG, zC, zK, zJ, qda, calK_B8, Nat.reduceAdd, qcN, qb5, qaR, qbn, qbV, qbF, qbl, op_iaA, iaV_lt, zA, zB, zT, aB_cell, aB_st, zk, zB, zA, qbz, N_sub, qaW, qbJ, Nat.reduceAdd, zT, zk, L32b1, h1, hlt, e1, hmu, hs]
      rfl
    · refine qaT [(1, 0), (1, 1)] rfl (by simp only [qav, FUEL, qaz, qax, qaB, qaE, qaO, zV, zX, zI, zR, zQ, zz, zC, zW, zY, zF, zm, zn, zf, zZ, zl, zD, zE, zb, zh, zq, zp, zo, ne_eq, zt, qap, qaN, qaL, qaC, qbb, L32k1, qbP, h0, h1]) rfl ⟨_, rfl, ?_, ?_⟩
      · exact qau (1,0) rfl (by simp (disch:=first|omega|decide|simp only[qaf,qad,qag,qae,qah,qac,qaa,qab,qai]) only[qap,zF,zZ,zE,zh,h0]) (qa4 _ _ _)
      · exact qau (1,1) rfl (by simp (disch:=first|omega|decide|simp only[qaf,qad,qag,qae,qah,qac,qaa,qab,qai]) only[qap,zD,h1]) (qa4 _ _ _)
  · refine qaT [(2, 0), (3, 0)] rfl (by simp only [qav, FUEL, qaz, qax, qaB, qaE, qaO, zV, zX, zI, zR, zQ, zz, zC, zW, zY, zF, zm, zn, zf, Nat.reduceEqDiff, zS, zl, zD, zE, zq, zp, zo, ne_eq, zt, qap, qaN, qaL, qaC, qa2, qbb, L32k1, qbP]) rfl ⟨_, rfl, ?_, ?_⟩
    · exact qau (2,0) rfl (by simp (disch:=first|omega|decide|simp only[qaf,qad,qag,qae,qah,qac,qaa,qab,qai]) only[qap,zF,Nat.reduceEqDiff,zS,zD,zE,qa2]) (qa4 _ _ _)
    · exact qau (3,0) rfl (by simp (disch:=first|omega|decide|simp only[qaf,qad,qag,qae,qah,qac,qaa,qab,qai]) only[qap,zF,Nat.reduceEqDiff,zS,zD,zE,zA,qa2]) (qa4 _ _ _)
  · rintro st ⟨H, rfl, h0, h1⟩
    apply qbs
    simp (disch:=first|omega|decide|simp only[qaf,qad,qag,qae,qah,qac,qaa,qab,qai]) only[qa0,qat,qao,qan,qal,qak,qaM,qar,qay,qaJ,qaq,qaH,qaG,qaj,qaF,qaD,qas,zM,zN,zO,zP,zK,zJ,Nat.reduceAdd,zA,zB,zL,zB,zA,qaW,Nat.reduceAdd,zi,zL,L32b1]
    rfl
  · rintro st ⟨H, rfl, h0, h1⟩ rfl
    simp (disch:=first|omega|decide|simp only[qbU,nms_B32,qbR,nms_I,qbb,qci,qcM,qaO,nms_Hf,qaE,qaQ,qbe,qc6,qc8,qc3,zV,zX,zI,zQ,ren_B8,ren_B32,qcu,ren_I,ren_N,ren_Bo,ren_Un,qdj,ren_Hf,qbN,qc7,qc9,qcY,zG,zC,ren7_I,ren7_N,ren7_Bo,ren7_B8,ren7_B32,ren7_B64,nms7_I,nms7_N,nms7_Bo,nms7_B8,nms7_B32,nms7_B64,qcV,qb8,implies_true,l33,l49,qaf,qaP,qaK,qbw,qbO,qad,qag,qae,qah,qac,qaa,qab,qai]) only[qa0,qat,qaX,qao,qan,qal,qak,qaM,qar,qbc,qay,qaJ,qaq,qaH,qaG,qa7,qa1,qaj,qaF,qa8,qaD,qas,zM,zN,zO,zP,zG,zC,zK,zJ,qda,calK_B8,qbH,Nat.reduceAdd,qap,qdt,qcN,qb5,qcO,qbF,qbl,op_iaA,iaV_lt,zD,zA,zB,zL,aB_st,zk,zB,zA,qaW,qbJ,Nat.reduceAdd,zi,zL,zk,L32b1,htu,trn_0,←boT_0]
    generalize hL:qbW L32k0 _ _ _=r
    refine qby hL oJ2 255 (by omega) ?_ ?_ ?_ ?_
    · rintro i st hi ⟨H, rfl, h0, h1, h2⟩
      have hp:(PW i).toNat < 256:=(PW i).isLt
      have e0:pwT 256 i=PW i:=if_pos (by omega)
      have e2:pwT 256 (255 - i)=PW (255 - i):=if_pos (by omega)
      have hx:=trn_pw ⟨i,hi⟩
      simp only at hx
      have hs:=boT_succ i hi
      apply Exists.intro
      apply And.intro
      · simp (disch := first | omega | decide | simp only [qbU, nms_B32, qbR, nms_I, qbb, qci, qcM, qaO, nms_Hf, qaE, qaQ, qbe, qc6, qc8, qc3, zV, zX, zI, zQ, ren_B8, ren_B32, qcu, ren_I, ren_N, ren_Bo, ren_Un, qdj, ren_Hf, qbN, qc7, qc9, qcY, zG, zC, ren7_I, ren7_N, ren7_Bo, ren7_B8, ren7_B32, ren7_B64, nms7_I, nms7_N, nms7_Bo, nms7_B8, nms7_B32, nms7_B64, qcV, qb8, implies_true, l33, l49, qaf, qaP, qaK, qbw, qbO, qad, qag, qae, qah, qac, qaa, qab, qai]) only [qbh, qat, qaX, qao, qan, qal, qak, qaM, qar, qbc, qay, qaJ, qaq, qaH, qaG, qa7, qa1, qaj, qaY, qaD, qa3, qbU, zM, zN, zO, zP, zG, zC, zV, zX, zQ, zK, zJ, B8_nat, qda, calK_B8, Nat.reduceAdd, Nat.reduceSub, qb5, qaR, qbn, qbV, qbF, qbl, op_iaA, iaV_lt, za, zd, zU, Nat.reduceLT, zD, zA, zB, zT, aB_cell, aB_st, zk, zB, zA, B8_nat, qbz, N_sub, qaW, qbJ, Nat.reduceLT, Nat.reduceAdd, zT, qce, zg, ze, zk, qa9, qbo, ordK_pure, ordK_mod, qbE, qca, qcl, qb7, qds, nms_fn, qaE, zY, zW, zx, z6, z0, qbQ, qba, za, zd, Nat.testBit, Nat.reduceShiftRight, Nat.reduceAnd, Nat.reduceBEq, ze, zg, zy, zU, zj, Nat.reduceSub, Nat.reduceLT, bne, qbg, qbG, qbS, qbp, qbZ, qb0, qbY, zj, zU, L32b0, h1, h2, hi, e0, e2, htu, hx, ← hs]
        rfl
      · refine qaT [(1, 0), (1, 1), (1, 2)] rfl (by simp only [qav, FUEL, qaz, qax, qaB, qaE, qaO, zV, zX, zI, zR, zQ, zz, zC, zW, zY, zF, zm, zn, zf, Nat.reduceEqDiff, zZ, zl, zD, zE, zb, zq, zp, zo, ne_eq, zt, qap, qaN, qaL, qaC, qbb, L32k0, qbP, h0, h1, h2]) rfl ⟨_, rfl, ?_, ?_, ?_⟩
        · exact qau (1,0) rfl (by simp (disch:=first|omega|decide|simp only[qaf,qad,qag,qae,qah,qac,qaa,qab,qai]) only[qap,zF,Nat.reduceEqDiff,zZ,zE,h0]) (qa4 _ _ _)
        · exact qau (1,1) rfl (by simp (disch:=first|omega|decide|simp only[qaf,qad,qag,qae,qah,qac,qaa,qab,qai]) only[qap,zF,Nat.reduceEqDiff,zZ,zE,h1]) (qa4 _ _ _)
        · exact qau (1,2) rfl (by simp (disch:=first|omega|decide|simp only[qaf,qad,qag,qae,qah,qac,qaa,qab,qai]) only[qap,zD]) (qa4 _ _ _)
    · refine qaT [(1, 0), (1, 1), (4, 0)] rfl (by simp only [qav, FUEL, qaz, qax, qaB, qaE, qaO, zV, zX, zI, zR, zQ, zz, zC, zW, zY, zF, zm, zn, zf, Nat.reduceEqDiff, zS, zZ, zl, zD, zE, zb, zh, zq, zp, zo, ne_eq, zt, qap, Nat.reduceAdd, qaN, qaL, qaC, qbb, L32k0, qbP, h0, h1]) rfl ⟨_, rfl, ?_, ?_, ?_⟩
      · exact qau (1,0) rfl (by simp (disch:=first|omega|decide|simp only[qaf,qad,qag,qae,qah,qac,qaa,qab,qai]) only[qap,zF,Nat.reduceEqDiff,zS,zE,h0]) (qa4 _ _ _)
      · exact qau (1,1) rfl (by simp (disch:=first|omega|decide|simp only[qaf,qad,qag,qae,qah,qac,qaa,qab,qai]) only[Nat.reduceAdd,qap,zF,Nat.reduceEqDiff,zu,zE,zb,h1]) (qa4 _ _ _)
      · exact qau (4,0) rfl (by simp (disch:=first|omega|decide|simp only[qaf,qad,qag,qae,qah,qac,qaa,qab,qai]) only[qap,zD]) (qa4 _ _ _)
    · rintro st ⟨H, rfl, h0, h1, h2⟩
      apply qbs
      simp (disch:=first|omega|decide|simp only[qaf,qad,qag,qae,qah,qac,qaa,qab,qai]) only[qa0,qat,qao,qan,qal,qak,qaM,qar,qay,qaJ,qaq,qaH,qaG,qaj,qaF,qaD,qas,zM,zN,zO,zP,zK,zJ,Nat.reduceAdd,zA,zB,zL,zB,zA,qaW,Nat.reduceAdd,zi,zL,L32b0]
      rfl
    · rintro st ⟨H, rfl, h0, h1, h2⟩ rfl
      simp (disch:=first|omega|decide|simp only[qaf,qad,qag,qae,qah,qac,qaa,qab,qai]) only[qbI,qa0,qat,qao,qan,qal,qak,qaM,qar,qbc,qay,qaJ,qaq,qaH,qaG,qaj,qaF,qa8,qaD,qas,qbr,zM,zN,zO,zP,zK,zJ,zH,Nat.reduceAdd,qap,qcN,qa5,qaR,qbv,qco,qbF,qbl,zD,zA,zB,zL,qdl,qdu,qcb,qcz,aB_outOf,zB,zA,qaW,Nat.reduceAdd,zi,zL,zH,L32b0,h0,h2,boT_all]
end Aes
namespace Aes
def wd (ws:List (BitVec 8)) (i j:Nat):BitVec 8:=ws.getD (4*i+j) 0#8
def tw (n:Nat) (c:BitVec 8) (i:Nat) (ws:List (BitVec 8)):R :=
  if i % n=0 then fun j=>BX (wd ws (i - 1) ((j+1) % 4)).toNat ^^^ (if j=0 then c else 0#8)
  else if n=8∧i % 8=4 then fun j=>BX (wd ws (i - 1) j).toNat else fun j=>wd ws (i - 1) j
def nwd (n:Nat) (c:BitVec 8) (i:Nat) (ws:List (BitVec 8)):R:=fun j=>tw n c i ws j ^^^ wd ws (i - n) j
def ext4 (ws:List (BitVec 8)) (w:R):List (BitVec 8):=ws++[w 0,w 1,w 2,w 3]
def kstep (n i:Nat) (p:List (BitVec 8) × BitVec 8):List (BitVec 8) × BitVec 8:=(ext4 p.1 (nwd n p.2 i p.1),if i % n=0 then T2 p.2 else p.2)
def KS (n:Nat) (key:List (BitVec 8)):Nat→List (BitVec 8) × BitVec 8
  | 0=>(key,1#8)
  | m+1=>kstep n (n+m) (KS n key m)
def W (n:Nat) (key:List (BitVec 8)):List (BitVec 8):=(KS n key (3*n+28)).1
theorem KS_length (n:Nat) (key:List (BitVec 8)) (hk:key.length=4*n):∀ m,(KS n key m).1.length=4*(n+m):=by
  intro m
  induction m with
  | zero=>simpa [KS] using hk
  | succ m ih=>simp only[KS,kstep,ext4,zzI,zK,zJ,ih]; omega
theorem W_length (n:Nat) (key:List (BitVec 8)) (hk:key.length=4*n):(W n key).length=16*(n+7):=by
  rw[W,KS_length n key hk]; omega
def fl (l:List (BitVec 8)):R:=fun j=>l.getD j 0#8
end Aes
namespace Aes
open Go Go.LE
theorem mk4 (b l c:Nat) (h1:l≤c) (h2:c < 1048576):mkK b 4 4 [B8 0#8,B8 0#8,B8 0#8,B8 0#8] (some l) (some c)=some ⟨.sl (b,0) 0 l (some c) 4,[bs (List.replicate (4*c) 0#8)],[]⟩:=by
  rw[mkK,if_pos ⟨h1,by omega,by omega,rfl⟩]
  congr 3
  rw[←bs_rep]
  clear h1 h2
  induction c with
  | zero=>rfl
  | succ c ih =>
    rw[List.replicate_succ,List.flatten_cons,ih,show 4*(c+1)=4*c+1+1+1+1 by omega,List.replicate_succ,List.replicate_succ,List.replicate_succ,List.replicate_succ]
    rfl
theorem aB4_bs (w:R):aB 4 w=bs [w 0,w 1,w 2,w 3]:=rfl
theorem app4_room (b i c z:Nat) (H:Heap) (m:Nm) (ws:List (BitVec 8)) (w:R) (hm:H m=some (bs (ws++List.replicate z 0#8))) (hw:ws.length=4*i) (hz:4≤z) (hc:i+1≤c) (hi:i < 1048576) :
    appX b 4 4 1 H [] (aB 4 w) (.sl m 0 i (some c) 4)=some ⟨.sl m 0 (i+1) (some c) 4,[],[(m,some (bs (ext4 ws w++List.replicate (z - 4) 0#8)))]⟩:=by
  rw[appX,if_pos ⟨rfl,by omega,rfl⟩,if_pos hc,hm]
  simp only[qad,zzI,List.length_replicate,hw]
  rw[if_pos (by omega),aB4_bs,bs_splice]
  congr 6
  have e1:(ws++List.replicate z 0#8).take (0+i*4)=ws:=by
    rw[List.take_append_of_le_length (by omega),List.take_of_length_le (by omega)]
  have e2:(ws++List.replicate z 0#8).drop (0+i*4 + [w 0,w 1,w 2,w 3].length)=List.replicate (z - 4) 0#8:=by
    rw[List.drop_append,List.drop_of_length_le (by simp only[zK,zJ]; omega),List.drop_replicate,zI]
    congr 1
    simp only[zK,zJ]; omega
  rw[e1,e2,ext4]
theorem take16 (l:List (BitVec 8)) (i:Nat) (h:16*(i+1)≤l.length):l.take (16*i)++(List.range 16).map (kf l i)=l.take (16*(i+1)):=by
  rw[show 16*(i+1)=16*i+16 by omega,List.take_add]
  congr 1
  apply List.ext_getElem
  · simp only[zzK,List.length_range,zzL,zzH]; omega
  · intro j h1 h2
    simp only[zzK,List.length_range] at h1
    simp only[List.getElem_map,List.getElem_range,kf,List.getElem_take,List.getElem_drop,List.getD_eq_getElem?_getD]
    rw[List.getElem?_eq_getElem (by omega),Option.getD_some]
    congr 1; omega
end Aes
