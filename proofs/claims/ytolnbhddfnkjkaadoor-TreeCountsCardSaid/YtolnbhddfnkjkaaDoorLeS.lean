/- Words turned, a piece's words, evaluated. -/
import Derived.Test.YtolnbhddfnkjkaaDoorLeU
set_option linter.unusedVariables false
set_option linter.unusedSimpArgs false
namespace Sha
open Go Go.LE
theorem qcB {k:Nat} {H:Heap} {b:Nat} {g:FuncId} {args:List LV} (hb:lentF g=fun _=>false) (hn:args.flatMap (nms D)=[]) (hr:args.map (ren D (qc7 []))=args) :
    qb1 (envC C k) H b g args=calK b (F C k g args []):=callOp_sc H b hb hn hr
def rr (x:BitVec 32) (n:Nat):BitVec 32:=x >>> n ||| x <<< (32 - n)
theorem turn_F (k n:Nat) (hn:n≤32) (x:BitVec 32):F C (k+1) 53 [N n,B32 x] []=some (B32 (rr x n),[],[]):=by
  rw[qch f53]
  simp (disch:=first|omega|decide|simp only[qai,qag,qak,qaj,qah,qae,qac,qad,qan]) only[qbb,qbp,qau,qao,qap,qam,qaf,qaN,qaq,qaz,qaI,qar,qaF,qaB,qaa,qbg,qbl,zK,zL,zN,zO,zP,zV,qa5,zy,zJ,zM,B32_or,outOf_B32,zI,Nat.reduceAdd,Nat.reduceSub,zB,zE,N_sub,B32_shlN,B32_shrN,Nat.reduceAdd,L53,rr]
theorem rot_F (k:Nat) (x:BitVec 32) (z:Int):F C (k+1) 57 [B32 x,I z] []=some (B32 ((x <<< (BitVec.ofInt 64 z &&& 31#64).toNat) ||| (x >>> (32#64 - (BitVec.ofInt 64 z &&& 31#64)).toNat)),[],[]):=by
  rw[qch f57]
  simp (disch:=first|omega|decide|simp only[qai,qag,qak,qaj,qah,qae,qac,qad,qan]) only[qbb,qbp,qau,qao,qap,qam,qaf,qaN,qaq,qaz,qaI,qar,qaF,qaB,op_cvt,qaa,qbg,qbl,zK,zL,zN,zO,zP,zV,qa5,zy,zJ,zM,B32_or,B32_shl64,B32_shr64,B64_sub,B64_and,cvt_I_64,outOf_B32,zI,Nat.reduceAdd,Nat.reduceSub,zB,zE,Nat.reduceAdd,L57]
theorem right_G (k n:Nat) (hn:n < 64) (x:BitVec 32):F C (k+2) 56 [B32 x,N n] []=some (B32 ((x <<< (BitVec.ofInt 64 (-(n:Int)) &&& 31#64).toNat) ||| (x >>> (32#64 - (BitVec.ofInt 64 (-(n:Int)) &&& 31#64)).toNat)),[],[]):=by
  rw[qch f56]
  simp (disch:=first|omega|decide|simp only[nms_B8,qcy,qcR,nms_I,qaO,nms_Bo,nms_Un,qaL,nms_Hf,qaP,qaK,qbF,qbU,qci,qck,zS,zW,zP,zR,ren_B8,qcX,qcY,ren_I,ren_N,ren_Bo,ren_Un,qa9,ren_Hf,qbM,qcd,qcj,qcl,zG,zF,ren7_I,ren7_N,qc0,qc1,qcE,qcF,nms7_I,nms7_N,qc2,qc3,qcG,qcH,qc4,qc5,implies_true,l57,qai,qbh,qaW,qbd,qa8,qag,qak,qaj,qah,qae,qac,qad,qan]) only[qbb,qbp,qau,qao,qap,qam,qaf,qaN,qaq,qaz,qaI,qar,qaF,op_un,qa1,qaT,qaa,qbg,qbl,zK,zL,zN,zO,zG,zF,zP,zV,qa5,zy,zJ,zM,qcB,calK_B32,outOf_B32,zI,Nat.reduceAdd,Nat.reduceSub,zB,zE,Nat.reduceAdd,L56,N_neg,rot_F]
theorem right_F (k n:Nat) (hn:0 < n∧n < 32) (x:BitVec 32):F C (k+2) 56 [B32 x,N n] []=some (B32 (rr x n),[],[]):=by
  rw[right_G k n (by omega)]
  have e:(BitVec.ofInt 64 (-(n:Int)) &&& 31#64).toNat=32 - n∧(32#64 - (BitVec.ofInt 64 (-(n:Int)) &&& 31#64)).toNat=n:=by
    have:∀ m:Fin 32,0 < m.val→(BitVec.ofInt 64 (-(m.val:Int)) &&& 31#64).toNat=32 - m.val∧(32#64 - (BitVec.ofInt 64 (-(m.val:Int)) &&& 31#64)).toNat=m.val:=by decide
    exact this ⟨n,hn.2⟩ hn.1
  rw[e.1,e.2,BitVec.or_comm]; rfl
def be (p:Nat→BitVec 8) (i:Nat):BitVec 32 :=
  (p (4*i)).setWidth 32 <<< 24 ||| (p (4*i+1)).setWidth 32 <<< 16 ||| (p (4*i+2)).setWidth 32 <<< 8 ||| (p (4*i+3)).setWidth 32
def wnew (w:Nat→BitVec 32) (i:Nat):BitVec 32 :=
  w (i - 16)+w (i - 7)+(rr (w (i - 15)) 7 ^^^ rr (w (i - 15)) 18 ^^^ w (i - 15) >>> 3)+(rr (w (i - 2)) 17 ^^^ rr (w (i - 2)) 19 ^^^ w (i - 2) >>> 10)
def wstep (p:Nat→BitVec 8) (w:Nat→BitVec 32) (i:Nat):BitVec 32:=if i < 16 then be p i else wnew w i
def W (p:Nat→BitVec 8):Nat→(Nat→BitVec 32)
  | 0=>fun _=>0#32
  | i+1=>set1 (W p i) i (wstep p (W p i) i)
def wJ (p:Nat→BitVec 8) (i:Nat) (st:St):Prop := ∃ (H:Heap),st=⟨[.undef,.ptr (1,0) 0,.ptr (1,1) 0,.ptr (1,2) 0,.undef,.undef,.undef,N i,.undef,.undef,.undef,.undef,.undef,.undef,.undef,.undef,.undef,.undef,.undef,.undef,.undef,.undef,.undef,.undef,.undef,.undef,.undef,.undef,.undef,.undef,.undef,.undef,.undef,.undef,.undef,.undef,.undef,.undef,.undef,.undef,.undef,.undef,.undef,.undef,.undef,.undef,.undef,.undef,.undef,.undef,.undef,.undef,.undef,.undef,.undef,.undef,.undef,.undef,.undef,.undef,.undef,.undef,.undef,.undef,.undef,.undef,.undef,.undef,.undef,.undef,.undef,.undef,.undef,.undef,.undef,.undef,.undef,.undef,.undef,.undef,.undef,.undef],H,2,0⟩ ∧
  H (1,0)=some (aB 64 p)∧H (1,1)=some (aW 64 fun _=>0#32)∧H (1,2)=some (aW 64 (W p i))
theorem w_round (K k0:Nat) (p:Nat→BitVec 8) (i:Nat) (hi:i < 64) (st:St) (hI:wJ p i st) :
    ∃ st1,ev (envC C (k0+2)) K L55b0 st=some (.normal,st1)∧wJ p (i+1) (qby L55k0 st1):=by
  obtain ⟨H,rfl,h0,h1,h2⟩:=hI
  by_cases h16:i < 16
  · apply Exists.intro
    apply And.intro
    · simp (disch := first | omega | decide | simp only [qai, qag, qak, qaj, qah, qae, qac, qad, qan]) only [qba, qa6, qau, qa3, qao, qap, qam, qaf, qaN, qaq, qa7, qaz, qaI, qar, qaF, qaB, op_cvt, qaa, qaG, qbc, qaw, qaY, qcy, zK, zL, zN, zO, zR, zJ, zM, cvt_8_32, B32_or, B32_shl64, BitVec.toNat_ofNat, Nat.reduceAdd, Nat.reduceSub, cellsOf_B32, qaQ, qbe, qbx, qbt, qbf, op_iaA, iaV_lt, zw, zx, zh, Nat.reduceLT, zC, zB, zE, zT, Nat.reducePow, Nat.reduceMod, aB_cell, aW_st, zZ, zE, zB, qbY, N_mul, qa2, qbO, Nat.reduceLT, Nat.reduceAdd, Nat.reduceMod, zT, nm_beq, zu, zf, qbz, qb3, ordK_pure, ordK_mod, qbE, qcr, touch_st, qaP, za, zY, zz, z6, z0, ordOk, qbv, zw, zx, Nat.testBit, Nat.reduceShiftRight, Nat.reduceAnd, Nat.reduceBEq, zf, zu, z7, zh, zzH, Nat.reduceSub, Nat.reduceLT, bne, qbN, qcp, trimO_f, qbI, qcf, isCall_st, zzH, zh, L55b0, hi, h16, h0, h2]
      rfl
    · refine qaU [(1, 0), (1, 1), (1, 2)] rfl (by simp only [qaA, FUEL, qaH, qaD, qaE, qaP, qaL, zS, zW, zP, zV, zR, zk, zF, zY, za, zD, zt, zo, ze, Nat.reduceEqDiff, zU, zp, zC, zA, zd, zm, zg, zl, ne_eq, zq, qab, qaJ, qaC, qav, qaO, L55k0, h0, h1, h2, qbS, aW_nms, qaO]) rfl ⟨_, rfl, ?_, ?_, ?_⟩
      · exact qas (1,0) rfl (by simp only[qab,zD,Nat.reduceEqDiff,zU,zA,h0]) (qbj _ _ _)
      · exact qas (1,1) rfl (by simp only[qab,zD,Nat.reduceEqDiff,zU,zA,h1]) (qcA _ _ _)
      · rw [W, wstep, if_pos h16]
        exact qas (1,2) rfl (by simp only[qab,zC,be]) (qcA _ _ _)
  · apply Exists.intro
    apply And.intro
    · simp (disch := first | omega | decide | simp only [nms_B8, qcy, qcR, nms_I, qaO, nms_Bo, nms_Un, qaL, nms_Hf, qaP, qaK, qbF, qbU, qci, qck, zS, zW, zP, zR, ren_B8, qcX, qcY, ren_I, ren_N, ren_Bo, ren_Un, qa9, ren_Hf, qbM, qcd, qcj, qcl, zG, zF, ren7_I, ren7_N, qc0, qc1, qcE, qcF, nms7_I, nms7_N, qc2, qc3, qcG, qcH, qc4, qc5, implies_true, l56, qai, qbh, qaW, qbd, qa8, qag, qak, qaj, qah, qae, qac, qad, qan]) only [qba, qau, qa3, qao, qap, qam, qaf, qaN, qaq, qa7, qaz, qaI, qar, qaF, qaB, qa1, qaT, qaa, qa4, qaw, qaY, qat, qcy, zK, zL, zN, zO, zG, zF, zS, zW, zR, zJ, zM, B32_add, B32_xor, B32_shr64, qcB, calK_B32, BitVec.toNat_ofNat, Nat.reduceAdd, Nat.reduceSub, cellsOf_B32, qaQ, qbe, qbx, qbt, qbf, op_iaA, iaV_lt, zw, zx, zh, Nat.reduceLT, zC, zB, zE, zT, zQ, Nat.reducePow, Nat.reduceMod, aW_cell, aW_st, zZ, zE, zB, qbY, N_sub, qa2, qbO, qaO, Nat.reduceLT, Nat.reduceAdd, Nat.reduceMod, zQ, zT, zu, zf, qbz, qb3, ordK_pure, ordK_mod, qbE, qcr, touch_st, qcL, reach_none, nms_fn, qaP, za, zY, zz, z6, z0, ordOk, qbv, zw, zx, Nat.testBit, Nat.reduceShiftRight, Nat.reduceAnd, Nat.reduceBEq, zf, zu, z7, zh, zzH, Nat.reduceSub, Nat.reduceLT, bne, qbN, qcp, trimO_f, qbI, qcf, isCall_st, qcv, zzH, zh, L55b0, hi, h16, h2, right_F]
      rfl
    · refine qaU [(1, 0), (1, 1), (1, 2)] rfl (by simp only [qaA, FUEL, qaH, qaD, qaE, qaP, qaL, zS, zW, zP, zV, zR, zk, zF, zY, za, zD, zt, zo, ze, Nat.reduceEqDiff, zU, zp, zC, zA, zd, zm, zg, zl, ne_eq, zq, qab, qaJ, qaC, qav, qaO, L55k0, h0, h1, h2, qbS, aW_nms, qaO]) rfl ⟨_, rfl, ?_, ?_, ?_⟩
      · exact qas (1,0) rfl (by simp only[qab,zD,Nat.reduceEqDiff,zU,zA,h0]) (qbj _ _ _)
      · exact qas (1,1) rfl (by simp only[qab,zD,Nat.reduceEqDiff,zU,zA,h1]) (qcA _ _ _)
      · rw [W, wstep, if_neg h16]
        exact qas (1,2) rfl (by simp only[qab,zC,wnew]) (qcA _ _ _)
theorem words_F (k:Nat) (p:Nat→BitVec 8):F C (k+70) 55 [.agg (aB 64 p)] []=some (.agg (aW 64 (W p 64)),[],[]):=by
  rw[qch f55]
  simp only[qbb,qau,qa3,qao,qap,qam,qaf,qaN,qaq,qaz,qaI,qaF,qaa,zK,zL,zN,zP,zV,qa5,zy,zJ,zM,qbZ,Nat.reduceAdd,Nat.reduceSub,qdh,qaX,qbR,op_box,qcg,zB,zE,aW_rep,zE,zB,Nat.reduceAdd,L55]
  generalize hL:qca L55k0 _ _ _=r
  refine qbJ hL (wJ p) 64 (by omega) (fun i st hi hI=>w_round _ (k+67) p i hi st hI) ?_ ?_ ?_
  · refine qaU [(2, 0), (3, 0), (4, 0)] rfl (by simp only [qaA, FUEL, qaH, qaD, qaE, qaP, qaL, zS, zW, zP, zV, zR, zk, zF, zY, za, zD, zt, zo, ze, Nat.reduceEqDiff, zH, zp, zC, zA, zm, zg, zl, ne_eq, zq, qab, qaJ, qaC, qav, qaZ, qaO, L55k0, qbS, aW_nms, qaO]) rfl ⟨_, rfl, ?_, ?_, ?_⟩
    · exact qas (2,0) rfl (by simp only[qab,zD,Nat.reduceEqDiff,zH,zC,zA]) (qbj _ _ _)
    · exact qas (3,0) rfl (by simp only[qab,zD,Nat.reduceEqDiff,zH,zC,zA]) (qcA _ _ _)
    · exact qas (4,0) rfl (by simp only[qab,zD,Nat.reduceEqDiff,zH,zC,zA]; rfl) (qcA _ _ _)
  · rintro st ⟨H, rfl, h0, h1, h2⟩
    apply qbs
    simp only[qa6,qau,qao,qap,qam,qaf,qaN,qaq,qaz,qaI,qar,qaB,qaa,qaG,qaw,qat,zK,zL,zN,zO,zJ,zM,Nat.reduceAdd,zB,zE,zQ,qa2,Nat.reduceAdd,zj,zQ,L55b0]
    rfl
  · rintro st ⟨H, rfl, h0, h1, h2⟩ rfl
    simp only[qbp,qa6,qau,qao,qap,qam,qaf,qaN,qaq,qa7,qaz,qaI,qar,qaB,qaa,qaG,qbc,qaw,qat,qbg,zK,zL,zN,zO,zJ,zM,zI,Nat.reduceAdd,qab,qcz,qaX,qaQ,qb6,op_ld,qbt,qbf,zC,zB,zE,zQ,resVal_agg,aggV_some,aW_cells,aW_st_all,aW_outOf,zE,zB,qa2,Nat.reduceAdd,zj,zQ,L55b0,h1,h2]
end Sha
namespace Sha
open Go Go.LE
def vec8 (a b c d e f g h:BitVec 32):Nat→BitVec 32
  | 0=>a | 1=>b | 2=>c | 3=>d | 4=>e | 5=>f | 6=>g | 7=>h | _=>0#32
theorem aW8 (a b c d e f g h:BitVec 32):[B32 a,B32 b,B32 c,B32 d,B32 e,B32 f,B32 g,B32 h]=aW 8 (vec8 a b c d e f g h):=rfl
theorem build8 (z:Nat→BitVec 32) (a b c d e f g h:BitVec 32) :
    fill (aW 8 z) [(0,1,B32 a),(1,1,B32 b),(2,1,B32 c),(3,1,B32 d),(4,1,B32 e),(5,1,B32 f),(6,1,B32 g),(7,1,B32 h)]=some (aW 8 (vec8 a b c d e f g h)):=by
  have e:aW 8 z=[B32 (z 0),B32 (z 1),B32 (z 2),B32 (z 3),B32 (z 4),B32 (z 5),B32 (z 6),B32 (z 7)]:=rfl
  rw[e,←aW8]
  simp only[zP,zV,zR,zJ,zM,Nat.reduceAdd,cellsOf_B32,qbW,qcx,qco,qb2,zzK,zzB,zzE,z8,zzD,Nat.reduceLeDiff,zX,zC,zB,Nat.le_refl]
def one (s:Nat→BitVec 32) (k w:BitVec 32):BitVec 32:=s 7+(rr (s 4) 6 ^^^ rr (s 4) 11 ^^^ rr (s 4) 25)+(s 6 ^^^ s 4 &&& (s 5 ^^^ s 6))+k+w
def two (s:Nat→BitVec 32):BitVec 32:=(rr (s 0) 2 ^^^ rr (s 0) 13 ^^^ rr (s 0) 22)+(s 0 &&& s 1 ||| s 2 &&& (s 0 ||| s 1))
def rstep (s:Nat→BitVec 32) (k w:BitVec 32):Nat→BitVec 32:=vec8 (one s k w+two s) (s 0) (s 1) (s 2) (s 3+one s k w) (s 4) (s 5) (s 6)
def R (s:Nat→BitVec 32) (w:Nat→BitVec 32):Nat→(Nat→BitVec 32)
  | 0=>s
  | i+1=>rstep (R s w i) (kc i) (w i)
def addW (s x:Nat→BitVec 32):Nat→BitVec 32:=fun j=>s j+x j
def blk (s:Nat→BitVec 32) (p:Nat→BitVec 8):Nat→BitVec 32:=addW s (R s (W p 64) 64)
theorem R_zero (s w:Nat→BitVec 32):R s w 0=s:=rfl
theorem R_succ (s w:Nat→BitVec 32) (i:Nat):R s w (i+1)=rstep (R s w i) (kc i) (w i):=rfl
theorem v0 (a b c d e f g h:BitVec 32):vec8 a b c d e f g h 0=a:=rfl
theorem v1 (a b c d e f g h:BitVec 32):vec8 a b c d e f g h 1=b:=rfl
theorem v2 (a b c d e f g h:BitVec 32):vec8 a b c d e f g h 2=c:=rfl
theorem v3 (a b c d e f g h:BitVec 32):vec8 a b c d e f g h 3=d:=rfl
theorem v4 (a b c d e f g h:BitVec 32):vec8 a b c d e f g h 4=e:=rfl
theorem v5 (a b c d e f g h:BitVec 32):vec8 a b c d e f g h 5=f:=rfl
theorem v6 (a b c d e f g h:BitVec 32):vec8 a b c d e f g h 6=g:=rfl
theorem vec8_self (s:Nat→BitVec 32):aW 8 (vec8 (s 0) (s 1) (s 2) (s 3) (s 4) (s 5) (s 6) (s 7))=aW 8 s:=rfl
def bJ (s w:Nat→BitVec 32) (i:Nat) (st:St):Prop := ∃ (H:Heap),
  st=⟨[.undef,.undef,.ptr (1,0) 0,.undef,.ptr (1,1) 0,.ptr (1,2) 0,B32 (R s w i 0),B32 (R s w i 1),B32 (R s w i 2),B32 (R s w i 3),B32 (R s w i 4),B32 (R s w i 5),B32 (R s w i 6),B32 (R s w i 7),.undef,.undef,.undef,.undef,.undef,.undef,.undef,.undef,.undef,.undef,.undef,.undef,.undef,.undef,.undef,.undef,.undef,.undef,.undef,.undef,.undef,.undef,.undef,.undef,.agg (aW 64 kc),N i,.undef,.undef,.undef,.undef,.undef,.undef,.undef,.undef,.undef,.undef,.undef,.undef,.undef,.undef,.undef,.undef,.undef,.undef,.undef,.undef,.undef,.undef,.undef,.undef,.undef,.undef,.undef,.undef,.undef,.undef,.undef,.undef,.undef,.undef,.undef,.undef,.undef,.undef,.undef,.undef,.undef,.undef,.undef,.undef,.undef,.undef,.undef,.undef,.undef,.undef,.undef,.undef,.undef,.undef,.undef,.undef,.undef,.undef,.undef,.undef,.undef,.undef,.undef,.undef,.undef,.undef,.undef,.undef,.undef,.undef,.undef,.undef,.undef,.undef,.undef,.undef,.undef,.undef,.undef],H,2,0⟩ ∧
  H (1,0)=some (aW 8 s)∧H (1,1)=some (aW 8 fun _=>0#32)∧H (1,2)=some (aW 64 w)
theorem b_round (K k0:Nat) (s w:Nat→BitVec 32) (i:Nat) (hi:i < 64) (st:St) (hI:bJ s w i st) :
    ∃ st1,ev (envC C (k0+2)) K L50b1 st=some (.normal,st1)∧bJ s w (i+1) (qby L50k1 st1):=by
  obtain ⟨H,rfl,h0,h1,h2⟩:=hI
  apply Exists.intro
  apply And.intro
  · simp (disch := first | omega | decide | simp only [nms_B8, qcy, qcR, nms_I, qaO, nms_Bo, nms_Un, qaL, nms_Hf, qaP, qaK, qbF, qbU, qci, qck, zS, zW, zP, zR, ren_B8, qcX, qcY, ren_I, ren_N, ren_Bo, ren_Un, qa9, ren_Hf, qbM, qcd, qcj, qcl, zG, zF, ren7_I, ren7_N, qc0, qc1, qcE, qcF, nms7_I, nms7_N, qc2, qc3, qcG, qcH, qc4, qc5, implies_true, l55, l56, qai, qbh, qaW, qbd, qa8, qag, qak, qaj, qah, qae, qac, qad, qan]) only [qba, qau, qa3, qao, qap, qam, qaf, qaN, qaq, qaz, qaI, qar, qaF, qaB, qa1, qaT, qaa, qa4, qaw, qaY, qcy, zK, zL, zN, zO, zG, zF, zS, zW, zR, zJ, zM, B32_add, B32_and, B32_or, B32_xor, qcB, calK_B32, Nat.reduceAdd, Nat.reduceSub, qaQ, qbe, qbx, op_iaA, iaV_lt, zw, zx, zh, Nat.reduceLT, zC, zB, zE, zT, op_ix1, aW_cell, aW_ix1, zZ, zE, zB, qbY, qa2, qbO, qaO, Nat.reduceLT, Nat.reduceAdd, zT, zu, zf, qbz, qb3, ordK_pure, qbE, qcr, qcL, reach_none, nms_fn, qaP, za, zY, zz, z6, z0, ordOk, qbv, zw, zx, Nat.testBit, Nat.reduceShiftRight, Nat.reduceAnd, Nat.reduceBEq, zf, zu, z7, zh, Nat.reduceSub, Nat.reduceLT, bne, qbN, qcp, qbI, qcf, qcv, zh, L50b1, hi, h2, right_F]
    rfl
  · refine qaU [(1, 0), (1, 1), (1, 2)] rfl (by simp only [qaA, FUEL, qaH, qaD, qaE, qaP, qcy, qaL, zS, zW, zP, zV, zR, zk, zF, zY, za, zD, zt, zo, ze, Nat.reduceEqDiff, zU, zp, zC, zA, zd, zm, zg, zl, ne_eq, zq, qaJ, qaC, qav, qaO, L50k1, h0, h1, h2, aW_nms, qbU, qaO]) rfl ⟨_, rfl, ?_, ?_, ?_⟩
    · exact qas (1,0) rfl (by simp only[h0]) (qcA _ _ _)
    · exact qas (1,1) rfl (by simp only[h1]) (qcA _ _ _)
    · exact qas (1,2) rfl (by simp only[h2]) (qcA _ _ _)
def addP (s x:Nat→BitVec 32) (i:Nat):Nat→BitVec 32:=fun j=>if j < i then s j+x j else s j
theorem addP_succ (s x:Nat→BitVec 32) (i:Nat):addP s x (i+1)=set1 (addP s x i) i (addP s x i i+x i):=by
  funext j
  simp only[set1,addP]
  by_cases h:j=i
  · subst h; simp
  · rw [if_neg h]
    have:(j < i+1)↔(j < i):=by omega
    simp only[this]
def aJ (s x:Nat→BitVec 32) (i:Nat) (st:St):Prop := ∃ (H:Heap),
  st=⟨[.undef,.undef,.ptr (1,0) 0,.undef,.ptr (1,1) 0,.undef,.undef,.undef,.undef,.undef,.undef,.undef,.undef,.undef,.undef,.undef,.undef,.undef,.undef,.undef,.undef,.undef,.undef,.undef,.undef,.undef,.undef,.undef,.undef,.undef,.undef,.undef,.undef,.undef,.undef,.undef,.undef,.undef,.undef,.undef,.undef,.undef,.undef,.undef,.undef,.undef,.undef,.undef,.undef,.undef,.undef,.undef,.undef,.undef,.undef,.undef,.undef,.undef,.undef,.undef,.undef,.undef,.undef,.undef,.undef,.undef,.undef,.undef,.undef,.undef,.undef,.undef,.undef,.undef,.undef,.undef,.undef,.undef,.undef,.undef,.undef,.undef,.undef,.undef,.undef,.undef,.undef,.undef,.undef,.undef,.undef,.undef,.undef,.undef,.undef,.undef,.undef,.undef,.undef,.undef,.undef,.undef,.undef,.undef,.undef,.undef,.agg (aW 8 x),N i,.undef,.undef,.undef,.undef,.undef,.undef,.undef,.undef,.undef,.undef,.undef],H,2,0⟩∧H (1,0)=some (aW 8 (addP s x i))∧H (1,1)=some (aW 8 fun _=>0#32)
theorem a_round (K k0:Nat) (s x:Nat→BitVec 32) (i:Nat) (hi:i < 8) (st:St) (hI:aJ s x i st) :
    ∃ st1,ev (envC C k0) K L50b0 st=some (.normal,st1)∧aJ s x (i+1) (qby L50k0 st1):=by
  obtain ⟨H,rfl,h0,h1⟩:=hI
  apply Exists.intro
  apply And.intro
  · simp (disch := first | omega | decide | simp only [qai, qag, qak, qaj, qah, qae, qac, qad, qan]) only [qba, qau, qa3, qao, qap, qam, qaf, qaN, qaq, qa7, qaz, qaI, qar, qaF, qaB, qaa, qa4, qaw, qaY, zK, zL, zN, zO, zJ, zM, B32_add, Nat.reduceAdd, qcz, cellsOf_B32, qaQ, qbe, qbx, qbt, qbf, op_iaA, iaV_lt, zB, zE, zT, op_ix1, aW_cell, aW_st, aW_ix1, zZ, zE, zB, qbY, qa2, qbO, Nat.reduceAdd, zT, L50b0, hi, h0]
    rfl
  · refine qaU [(1, 0), (1, 1)] rfl (by simp only [qaA, FUEL, qaH, qaD, qaE, qaP, qaL, zS, zW, zP, zV, zR, zk, zF, zY, za, zD, zt, zo, ze, zU, zp, zC, zA, zd, zm, zg, zl, ne_eq, zq, qab, qaJ, qaC, qav, qaO, L50k0, h0, h1, aW_nms, qbU, qaO]) rfl ⟨_, rfl, ?_, ?_⟩
    · rw [addP_succ]
      exact qas (1,0) rfl (by simp only[qab,zC]) (qcA _ _ _)
    · exact qas (1,1) rfl (by simp only[qab,zD,zU,zA,zd,h1]) (qcA _ _ _)
theorem ipt_kc (H:Heap):cellAt H 64 (.ipt (aW 64 kc))=some (aW 64 kc):=by
  rw[cellAt_ipt,if_pos (by rw[qcS]; exact Nat.le_refl _),List.take_of_length_le (by rw[qcS]; exact Nat.le_refl _)]
theorem evX_g (k:Nat) (tm:List LV):evX (envC C k).gl tm (.g 0) = .ipt (aW 64 kc):=rfl
theorem block_A (k:Nat) (s w:Nat→BitVec 32) (p:Nat→BitVec 8) (hw:F C (k+79) 55 [.agg (aB 64 p)] []=some (.agg (aW 64 w),[],[])) :
    F C (k+80) 50 [.agg (aW 8 s),.agg (aB 64 p)] []=some (.agg (aW 8 (addW s (R s w 64))),[],[]):=by
  rw[qch f50]
  simp (disch:=first|omega|decide|simp only[nms_B8,qcy,qcR,nms_I,qaO,nms_Bo,nms_Un,qaL,nms_Hf,qaP,qaK,qbF,qbU,qci,qck,zS,zW,zP,zR,ren_B8,qcX,qcY,ren_I,ren_N,ren_Bo,ren_Un,qa9,ren_Hf,qbM,qcd,qcj,qcl,zG,zF,ren7_I,ren7_N,qc0,qc1,qcE,qcF,nms7_I,nms7_N,qc2,qc3,qcG,qcH,qc4,qc5,implies_true,l55,l56,qai,qbh,qaW,qbd,qa8,qag,qak,qaj,qah,qae,qac,qad,qan]) only[qbb,qau,qa3,qao,qap,qam,qaf,qaN,qaq,qa7,qaz,qaI,qar,qaF,qa1,qaT,qaa,zK,zL,zN,zO,zG,zF,zP,zV,qa5,zy,zJ,zM,qcB,qbZ,Nat.reduceAdd,Nat.reduceSub,qab,qdh,qcz,qaX,qaQ,qbe,qb6,qbx,op_ld,qbR,op_box,qcg,qbt,qbf,op_iaA,iaV_lt,zw,zx,zh,zD,Nat.reduceEqDiff,Nat.reduceLT,zH,zC,zA,zB,zE,zT,qbP,aW_rep,aW_cell,aW_st_all,aW_calK,zZ,zE,zB,qbO,Nat.reduceLT,Nat.reduceEqDiff,Nat.reduceAdd,zT,zu,zf,qbz,qb3,ordK_pure,qbE,qcr,qaP,za,zY,zz,z6,z0,ordOk,qbv,zw,zx,Nat.testBit,Nat.reduceShiftRight,Nat.reduceAnd,Nat.reduceBEq,zf,zu,z7,zh,Nat.reduceSub,Nat.reduceLT,bne,qbN,qcp,qbI,qcf,zh,L50,hw,evX_g,ipt_kc]
  generalize hL:qca L50k1 _ _ _=r
  refine qbJ hL (bJ s (w)) 64 (by omega) (fun i st hi hI=>b_round _ (k+77) s (w) i hi st hI) ?_ ?_ ?_
  · refine qaU [(2, 0), (4, 0), (7, 0)] rfl (by simp only [qaA, FUEL, qaH, qaD, qaE, qaP, qcy, qaL, zS, zW, zP, zV, zR, zk, zF, zY, za, zD, zt, zo, ze, Nat.reduceEqDiff, zH, zp, zC, zA, zm, zg, zl, ne_eq, zq, qab, qaJ, qaC, qav, qaZ, qaO, L50k1, aW_nms, qbU, qaO]) rfl ⟨_, rfl, ?_, ?_, ?_⟩
    · exact qas (2,0) rfl (by simp only[qab,zD,Nat.reduceEqDiff,zH,zC,zA]) (qcA _ _ _)
    · exact qas (4,0) rfl (by simp only[qab,zD,Nat.reduceEqDiff,zH,zC,zA]) (qcA _ _ _)
    · exact qas (7,0) rfl (by simp only[qab,zD,Nat.reduceEqDiff,zH,zC,zA]) (qcA _ _ _)
  · rintro st ⟨H, rfl, h0, h1, h2⟩
    apply qbs
    simp (disch:=first|omega|decide|simp only[qai,qag,qak,qaj,qah,qae,qac,qad,qan]) only[qa6,qau,qao,qap,qam,qaf,qaN,qaq,qaz,qaI,qar,qaB,qaa,qaG,qaw,qat,zK,zL,zN,zO,zJ,zM,Nat.reduceAdd,zB,zE,zQ,qa2,Nat.reduceAdd,zj,zQ,L50b1]
    rfl
  · rintro st ⟨H, rfl, h0, h1, h2⟩ rfl
    clear hL
    generalize R s w 64=x
    simp (disch:=first|omega|decide|simp only[qai,qag,qak,qaj,qah,qae,qac,qad,qan]) only[qa6,qau,qa3,qao,qap,qam,qaf,qaN,qaq,qaz,qaI,qar,qaF,qaB,qaa,qaG,qbc,qaw,qat,zK,zL,zN,zO,zG,zF,zJ,zM,qbZ,Nat.reduceAdd,aggR_some,op_build,zC,zB,zE,zQ,zE,zB,qa2,Nat.reduceAdd,zj,zQ,L50b1,build8,vec8_self]
    generalize hL:qca L50k0 _ _ _=r
    refine qbJ hL (aJ s x) 8 (by omega) (fun i st hi hI=>a_round _ _ s _ i hi st hI) ?_ ?_ ?_
    · refine qaU [(1, 0), (1, 1)] rfl (by simp only [qaA, FUEL, qaH, qaD, qaE, qaP, qaL, zS, zW, zP, zV, zR, zk, zF, zY, za, zD, zt, zo, ze, zU, zp, zC, zA, zd, zm, zg, zl, ne_eq, zq, qaJ, qaC, qav, qaO, L50k0, h0, h1, aW_nms, qbU, qaO]) rfl ⟨_, rfl, ?_, ?_⟩
      · rw [show aW 8 (addP s x 0) = aW 8 s from aW_ext 8 fun j _ => by simp [addP]]
        exact qas (1,0) rfl (by simp only[h0]) (qcA _ _ _)
      · exact qas (1,1) rfl (by simp only[h1]) (qcA _ _ _)
    · rintro st ⟨H, rfl, h0, h1⟩
      apply qbs
      simp (disch:=first|omega|decide|simp only[qai,qag,qak,qaj,qah,qae,qac,qad,qan]) only[qa6,qau,qao,qap,qam,qaf,qaN,qaq,qaz,qaI,qar,qaB,qaa,qaG,qaw,qat,zK,zL,zN,zO,zJ,zM,Nat.reduceAdd,zB,zE,zQ,qa2,Nat.reduceAdd,zj,zQ,L50b0]
      rfl
    · rintro st ⟨H, rfl, h0, h1⟩ rfl
      have e:aW 8 (addP s x 8)=aW 8 (addW s x):=aW_ext 8 fun j hj=>by simp only[addP,addW,if_pos hj]
      rw[e] at h0
      simp (disch:=first|omega|decide|simp only[qai,qag,qak,qaj,qah,qae,qac,qad,qan]) only[qbp,qa6,qau,qao,qap,qam,qaf,qaN,qaq,qa7,qaz,qaI,qar,qaB,qaa,qaG,qbc,qaw,qat,qbg,zK,zL,zN,zO,zJ,zM,zI,Nat.reduceAdd,qab,qcz,qaX,qaQ,qb6,op_ld,qbt,qbf,zC,zB,zE,zQ,resVal_agg,aggV_some,aW_cells,aW_st_all,aW_outOf,zE,zB,qa2,Nat.reduceAdd,zj,zQ,L50b0,h0,h1]
theorem block_F (k:Nat) (s:Nat→BitVec 32) (p:Nat→BitVec 8):F C (k+80) 50 [.agg (aW 8 s),.agg (aB 64 p)] []=some (.agg (aW 8 (blk s p)),[],[]) :=
  block_A k s _ p (words_F (k+9) p)
end Sha
namespace Sha
open Go Go.LE
theorem consts_F (k:Nat):F C (k+1) 52 [] []=some (.agg (aW 64 kc),[],[]):=by kernel_rfl
theorem rnew_eq (w:Nat→BitVec 32) (i:Nat) :
    w (i - 16)+(rr (w (i - 15)) 7 ^^^ rr (w (i - 15)) 18 ^^^ w (i - 15) >>> 3)+w (i - 7)+(rr (w (i - 2)) 17 ^^^ rr (w (i - 2)) 19 ^^^ w (i - 2) >>> 10)=wnew w i:=by
  simp only[wnew]
  rw[BitVec.add_assoc (w (i - 16)),BitVec.add_comm (rr (w (i - 15)) 7 ^^^ rr (w (i - 15)) 18 ^^^ w (i - 15) >>> 3),←BitVec.add_assoc]
theorem ch_eq (e f g:BitVec 32):(e &&& f) ^^^ (~~~e &&& g)=g ^^^ e &&& (f ^^^ g):=by
  apply BitVec.eq_of_getLsbD_eq
  intro i hi
  simp only[BitVec.getLsbD_xor,BitVec.getLsbD_and,BitVec.getLsbD_not,hi,zT,Bool.true_and]
  cases e.getLsbD i <;> cases f.getLsbD i <;> cases g.getLsbD i <;> rfl
theorem maj_eq (a b c:BitVec 32):(a &&& b) ^^^ (a &&& c) ^^^ (b &&& c)=a &&& b ||| c &&& (a ||| b):=by
  apply BitVec.eq_of_getLsbD_eq
  intro i hi
  simp only[BitVec.getLsbD_xor,BitVec.getLsbD_and,BitVec.getLsbD_or]
  cases a.getLsbD i <;> cases b.getLsbD i <;> cases c.getLsbD i <;> rfl
structure BF (H:Heap) (s w:Nat→BitVec 32):Prop where
  s:H (1,0)=some (aW 8 s)
  z:H (1,1)=some (aW 8 fun _=>0#32)
  k:H (1,2)=some (aW 64 kc)
  w:H (1,3)=some (aW 64 w)
def q3 (s:Nat→BitVec 32) (p:Nat→BitVec 8) (i:Nat) (st:St):Prop := ∃ (H:Heap),st=⟨[.undef,.undef,.ptr (1,0) 0,.ptr (1,1) 0,.ptr (1,2) 0,.ptr (1,3) 0,.ptr (1,4) 0,N i,.undef,.undef,.undef,.undef,.undef,.undef,.undef,.undef,.undef,.undef,.undef,.undef,.undef,.undef,.undef,.undef,.undef,.undef,.undef,.undef,.undef,.undef,.undef,.undef,.undef,.undef,.undef,.undef,.undef,.undef,.undef,.undef,.undef,.undef,.undef,.undef,.undef,.undef,.undef,.undef,.undef,.undef,.undef,.undef,.undef,.undef,.undef,.undef,.undef,.undef,.undef,.undef,.undef,.undef,.undef,.undef,.undef,.undef,.undef,.undef,.undef,.undef,.undef,.undef,.undef,.undef,.undef,.undef,.undef,.undef,.undef,.undef,.undef,.undef,.undef,.undef,.undef,.undef,.undef,.undef,.undef,.undef,.undef,.undef,.undef,.undef,.undef,.undef,.undef,.undef,.undef,.undef,.undef,.undef,.undef,.undef,.undef,.undef,.undef,.undef,.undef,.undef,.undef,.undef,.undef,.undef,.undef,.undef,.undef,.undef,.undef,.undef,.undef,.undef,.undef,.undef,.undef,.undef,.undef,.undef,.undef,.undef,.undef,.undef,.undef,.undef,.undef,.undef,.undef,.undef,.undef,.undef,.undef,.undef,.undef,.undef,.undef,.undef,.undef,.undef,.undef,.undef,.undef,.undef,.undef,.undef,.undef,.undef,.undef,.undef,.undef,.undef,.undef,.undef,.undef,.undef,.undef,.undef,.undef,.undef,.undef,.undef,.undef,.undef,.undef,.undef,.undef,.undef,.undef,.undef,.undef,.undef,.undef,.undef,.undef,.undef,.undef,.undef,.undef,.undef,.undef,.undef],H,2,0⟩ ∧
  H (1,0)=some (aW 8 s)∧H (1,1)=some (aB 64 p)∧H (1,2)=some (aW 8 fun _=>0#32)∧H (1,3)=some (aW 64 kc)∧H (1,4)=some (aW 64 (W p i))
set_option maxRecDepth 10000 in
theorem q3_round (K k0:Nat) (s:Nat→BitVec 32) (p:Nat→BitVec 8) (i:Nat) (hi:i < 16) (st:St) (hI:q3 s p i st) :
    ∃ st1,ev (envC C k0) K L45b3 st=some (.normal,st1)∧q3 s p (i+1) (qby L45k3 st1):=by
  obtain ⟨H,rfl,h0,h1,h2,h3,h4⟩:=hI
  apply Exists.intro
  apply And.intro
  · simp (disch := first | omega | decide | simp only [qai, qag, qak, qaj, qah, qae, qac, qad, qan]) only [qba, qau, qa3, qao, qap, qam, qaf, qaN, qaq, qa7, qaz, qaI, qar, qaF, qaB, op_cvt, qaa, qa4, qaw, qaY, qcy, zK, zL, zN, zO, zR, zJ, zM, cvt_8_32, B32_or, B32_shl64, BitVec.toNat_ofNat, Nat.reduceAdd, Nat.reduceSub, cellsOf_B32, qaQ, qbe, qbx, qbt, qbf, op_iaA, iaV_lt, zw, zx, zh, Nat.reduceLT, zC, zB, zE, zT, Nat.reducePow, Nat.reduceMod, aB_cell, aW_st, zZ, zE, zB, qbY, N_mul, qa2, qbO, Nat.reduceLT, Nat.reduceAdd, Nat.reduceMod, zT, nm_beq, zu, zf, qbz, qb3, ordK_pure, ordK_mod, qbE, qcr, touch_st, qaP, za, zY, zz, z6, z0, ordOk, qbv, zw, zx, Nat.testBit, Nat.reduceShiftRight, Nat.reduceAnd, Nat.reduceBEq, zf, zu, z7, zh, zzH, Nat.reduceSub, Nat.reduceLT, bne, qbN, qcp, trimO_f, qbI, qcf, isCall_st, zzH, zh, L45b3, hi, h1, h4]
    rfl
  · refine qaU [(1, 0), (1, 1), (1, 2), (1, 3), (1, 4)] rfl (by simp only [qaA, FUEL, qaH, qaD, qaE, qaP, qaL, zS, zW, zP, zV, zR, zk, zF, zY, za, zD, zt, zo, ze, Nat.reduceEqDiff, zU, zp, zC, zA, zd, zm, zg, zl, ne_eq, zq, qab, qaJ, qaC, qav, qaO, L45k3, h0, h1, h2, h3, h4, qbS, aW_nms, qaO]) rfl ⟨_, rfl, ?_, ?_, ?_, ?_, ?_⟩
    · exact qas (1,0) rfl (by simp only[qab,zD,Nat.reduceEqDiff,zU,zA,h0]) (qcA _ _ _)
    · exact qas (1,1) rfl (by simp only[qab,zD,Nat.reduceEqDiff,zU,zA,h1]) (qbj _ _ _)
    · exact qas (1,2) rfl (by simp only[qab,zD,Nat.reduceEqDiff,zU,zA,h2]) (qcA _ _ _)
    · exact qas (1,3) rfl (by simp only[qab,zD,Nat.reduceEqDiff,zU,zA,h3]) (qcA _ _ _)
    · rw [W, wstep, if_pos hi]
      exact qas (1,4) rfl (by simp only[qab,zC,be]) (qcA _ _ _)
def q2 (s:Nat→BitVec 32) (p:Nat→BitVec 8) (t:Nat) (st:St):Prop := ∃ (H:Heap),st=⟨[.undef,.undef,.ptr (1,0) 0,.undef,.ptr (1,1) 0,.ptr (1,2) 0,.ptr (1,3) 0,.undef,N t,.undef,.undef,.undef,.undef,.undef,.undef,.undef,.undef,.undef,.undef,.undef,.undef,.undef,.undef,.undef,.undef,.undef,.undef,.undef,.undef,.undef,.undef,.undef,.undef,.undef,.undef,.undef,.undef,.undef,.undef,.undef,.undef,.undef,.undef,.undef,.undef,.undef,.undef,.undef,.undef,.undef,.undef,.undef,.undef,.undef,.undef,.undef,.undef,.undef,.undef,.undef,.undef,.undef,.undef,.undef,.undef,.undef,.undef,.undef,.undef,.undef,.undef,.undef,.undef,.undef,.undef,.undef,.undef,.undef,.undef,.undef,.undef,.undef,.undef,.undef,.undef,.undef,.undef,.undef,.undef,.undef,.undef,.undef,.undef,.undef,.undef,.undef,.undef,.undef,.undef,.undef,.undef,.undef,.undef,.undef,.undef,.undef,.undef,.undef,.undef,.undef,.undef,.undef,.undef,.undef,.undef,.undef,.undef,.undef,.undef,.undef,.undef,.undef,.undef,.undef,.undef,.undef,.undef,.undef,.undef,.undef,.undef,.undef,.undef,.undef,.undef,.undef,.undef,.undef,.undef,.undef,.undef,.undef,.undef,.undef,.undef,.undef,.undef,.undef,.undef,.undef,.undef,.undef,.undef,.undef,.undef,.undef,.undef,.undef,.undef,.undef,.undef,.undef,.undef,.undef,.undef,.undef,.undef,.undef,.undef,.undef,.undef,.undef,.undef,.undef,.undef,.undef,.undef,.undef,.undef,.undef,.undef,.undef,.undef,.undef,.undef,.undef,.undef,.undef,.undef,.undef],H,2,0⟩∧BF H s (W p t)
set_option maxRecDepth 10000 in
theorem q2_round (K k0:Nat) (s:Nat→BitVec 32) (p:Nat→BitVec 8) (t:Nat) (h64:t < 64) (h16:16≤t) (st:St) (hI:q2 s p t st) :
    ∃ st1,ev (envC C (k0+1)) K L45b2 st=some (.normal,st1)∧q2 s p (t+1) (qby L45k2 st1):=by
  obtain ⟨H,rfl,hF⟩:=hI
  have hs:=hF.s
  have hz:=hF.z
  have hk:=hF.k
  have hw:=hF.w
  apply Exists.intro
  apply And.intro
  · simp (disch := first | omega | decide | simp only [nms_B8, qcy, qcR, nms_I, qaO, nms_Bo, nms_Un, qaL, nms_Hf, qaP, qaK, qbF, qbU, qci, qck, zS, zW, zP, zR, ren_B8, qcX, qcY, ren_I, ren_N, ren_Bo, ren_Un, qa9, ren_Hf, qbM, qcd, qcj, qcl, zG, zF, ren7_I, ren7_N, qc0, qc1, qcE, qcF, nms7_I, nms7_N, qc2, qc3, qcG, qcH, qc4, qc5, implies_true, l52, l53, qai, qbh, qaW, qbd, qa8, qag, qak, qaj, qah, qae, qac, qad, qan]) only [qba, qau, qa3, qao, qap, qam, qaf, qaN, qaq, qa7, qaz, qaI, qar, qaF, qaB, qa1, qaT, qaa, qa4, qaw, qaY, qcy, zK, zL, zN, zO, zG, zF, zS, zW, zR, zJ, zM, B32_add, B32_xor, B32_shr64, qcB, calK_B32, BitVec.toNat_ofNat, Nat.reduceAdd, Nat.reduceSub, cellsOf_B32, qaQ, qbe, qbx, qbt, qbf, op_iaA, iaV_lt, zw, zx, zh, Nat.reduceLT, zC, zB, zE, zT, Nat.reducePow, Nat.reduceMod, aW_cell, aW_st, zZ, zE, zB, qbY, N_sub, qa2, qbO, qaO, Nat.reduceLT, Nat.reduceAdd, Nat.reduceMod, zT, zu, zf, qbz, qb3, ordK_pure, ordK_mod, qbE, qcr, touch_st, qcL, reach_none, nms_fn, qaP, za, zY, zz, z6, z0, ordOk, qbv, zw, zx, Nat.testBit, Nat.reduceShiftRight, Nat.reduceAnd, Nat.reduceBEq, zf, zu, z7, zh, zzH, Nat.reduceSub, Nat.reduceLT, bne, qbN, qcp, trimO_f, qbI, qcf, isCall_st, qcv, zzH, zh, L45b2, h64, hw, turn_F]
    rfl
  · refine qaU [(1, 0), (1, 1), (1, 2), (1, 3)] rfl (by simp only [qaA, FUEL, qaH, qaD, qaE, qaP, qaL, zS, zW, zP, zV, zR, zk, zF, zY, za, zD, zt, zo, ze, Nat.reduceEqDiff, zU, zp, zC, zA, zd, zm, zg, zl, ne_eq, zq, qab, qaJ, qaC, qav, qaO, L45k2, hs, hz, hk, hw, aW_nms, qaO]) rfl ⟨_, rfl, ?_, ?_, ?_, ?_⟩
    · exact qas (1,0) rfl (by simp only[qab,zD,Nat.reduceEqDiff,zU,zA,hs]) (qcA _ _ _)
    · exact qas (1,1) rfl (by simp only[qab,zD,Nat.reduceEqDiff,zU,zA,hz]) (qcA _ _ _)
    · exact qas (1,2) rfl (by simp only[qab,zD,Nat.reduceEqDiff,zU,zA,hk]) (qcA _ _ _)
    · rw [W, wstep, if_neg (by omega), ← rnew_eq]
      exact qas (1,3) rfl (by simp only[qab,zC]) (qcA _ _ _)
def q1 (s w:Nat→BitVec 32) (i:Nat) (st:St):Prop := ∃ (H:Heap),st=⟨[.undef,.undef,.ptr (1,0) 0,.undef,.ptr (1,1) 0,.ptr (1,2) 0,.ptr (1,3) 0,.undef,.undef,.undef,.undef,.ptr (1,4) 0,N i,.undef,.undef,.undef,.undef,.undef,.undef,.undef,.undef,.undef,.undef,.undef,.undef,.undef,.undef,.undef,.undef,.undef,.undef,.undef,.undef,.undef,.undef,.undef,.undef,.undef,.undef,.undef,.undef,.undef,.undef,.undef,.undef,.undef,.undef,.undef,.undef,.undef,.undef,.undef,.undef,.undef,.undef,.undef,.undef,.undef,.undef,.undef,.undef,.undef,.undef,.undef,.undef,.undef,.undef,.undef,.undef,.undef,.undef,.undef,.undef,.undef,.undef,.undef,.undef,.undef,.undef,.undef,.undef,.undef,.undef,.undef,.undef,.undef,.undef,.undef,.undef,.undef,.undef,.undef,.undef,.undef,.undef,.undef,.undef,.undef,.undef,.undef,.undef,.undef,.undef,.undef,.undef,.undef,.undef,.undef,.undef,.undef,.undef,.undef,.undef,.undef,.undef,.undef,.undef,.undef,.undef,.undef,.undef,.undef,.undef,.undef,.undef,.undef,.undef,.undef,.undef,.undef,.undef,.undef,.undef,.undef,.undef,.undef,.undef,.undef,.undef,.undef,.undef,.undef,.undef,.undef,.undef,.undef,.undef,.undef,.undef,.undef,.undef,.undef,.undef,.undef,.undef,.undef,.undef,.undef,.undef,.undef,.undef,.undef,.undef,.undef,.undef,.undef,.undef,.undef,.undef,.undef,.undef,.undef,.undef,.undef,.undef,.undef,.undef,.undef,.undef,.undef,.undef,.undef,.undef,.undef,.undef,.undef,.undef,.undef,.undef,.undef],H,2,0⟩∧BF H s w∧H (1,4)=some (aW 8 (R s w i))
theorem rstep_eq (s:Nat→BitVec 32) (k w:BitVec 32) :
    vec8 (s 7 + (rr (s 4) 6 ^^^ rr (s 4) 11 ^^^ rr (s 4) 25) + (s 4 &&& s 5 ^^^ ~~~(s 4) &&& s 6) + k + w + ((rr (s 0) 2 ^^^ rr (s 0) 13 ^^^ rr (s 0) 22) + (s 0 &&& s 1 ^^^ s 0 &&& s 2 ^^^ s 1 &&& s 2))) (s 0) (s 1) (s 2)
      (s 3+(s 7+(rr (s 4) 6 ^^^ rr (s 4) 11 ^^^ rr (s 4) 25)+(s 4 &&& s 5 ^^^ ~~~(s 4) &&& s 6)+k+w)) (s 4) (s 5) (s 6)=rstep s k w:=by
  simp only[rstep,one,two]
  rw[ch_eq]
  rw[maj_eq]
set_option maxRecDepth 10000 in
theorem q1_round (K k0:Nat) (s w:Nat→BitVec 32) (i:Nat) (hi:i < 64) (st:St) (hI:q1 s w i st) :
    ∃ st1,ev (envC C (k0+1)) K L45b1 st=some (.normal,st1)∧q1 s w (i+1) (qby L45k1 st1):=by
  obtain ⟨H,rfl,hF,hx⟩:=hI
  have hs:=hF.s
  have hz:=hF.z
  have hk:=hF.k
  have hw:=hF.w
  apply Exists.intro
  apply And.intro
  · simp (disch := first | omega | decide | simp only [nms_B8, qcy, qcR, nms_I, qaO, nms_Bo, nms_Un, qaL, nms_Hf, qaP, qaK, qbF, qbU, qci, qck, zS, zW, zP, zR, ren_B8, qcX, qcY, ren_I, ren_N, ren_Bo, ren_Un, qa9, ren_Hf, qbM, qcd, qcj, qcl, zG, zF, ren7_I, ren7_N, qc0, qc1, qcE, qcF, nms7_I, nms7_N, qc2, qc3, qcG, qcH, qc4, qc5, implies_true, l52, l53, qai, qbh, qaW, qbd, qa8, qag, qak, qaj, qah, qae, qac, qad, qan]) only [qba, qau, qa3, qao, qap, qam, qaf, qaN, qaq, qa7, qaz, qaI, qar, qaF, qaB, op_un, qa1, qaT, qaa, qa4, qaw, qaY, qcy, zK, zL, zN, zO, zG, zF, zS, zW, zR, zJ, zM, B32_add, B32_and, B32_xor, B32_not, qcB, calK_B32, Nat.reduceAdd, Nat.reduceSub, qcz, qaX, qaQ, qbe, qbx, qbt, qbf, op_iaA, iaV_lt, aggR_some, op_build, zw, zx, zh, Nat.reduceLT, zC, zB, zE, zT, aW_rep, aW_cell, aW_st_all, zZ, zE, zB, qbY, qa2, qbO, qaO, Nat.reduceLT, Nat.reduceAdd, zT, zu, zf, qbz, qb3, ordK_pure, qbE, qcr, qcL, reach_none, nms_fn, qaP, za, zY, zz, z6, z0, ordOk, qbv, zw, zx, Nat.testBit, Nat.reduceShiftRight, Nat.reduceAnd, Nat.reduceBEq, zf, zu, z7, zh, Nat.reduceSub, Nat.reduceLT, bne, qbN, qcp, qbI, qcf, qcv, zh, L45b1, hi, hk, hw, hx, turn_F, build8, aW_st_all]
    rfl
  · refine qaU [(1, 0), (1, 1), (1, 2), (1, 3), (1, 4)] rfl (by simp only [qaA, FUEL, qaH, qaD, qaE, qaP, qaL, zS, zW, zP, zV, zR, zk, zF, zY, za, zD, zt, zo, ze, Nat.reduceEqDiff, zU, zp, zC, zA, zd, zm, zg, zl, ne_eq, zq, qab, qaJ, qaC, qav, qaO, L45k1, hs, hz, hk, hw, hx, aW_nms, qaO]) rfl ⟨_, rfl, ⟨?_, ?_, ?_, ?_⟩, ?_⟩
    · exact qas (1,0) rfl (by simp only[qab,zD,Nat.reduceEqDiff,zU,zA,hs]) (qcA _ _ _)
    · exact qas (1,1) rfl (by simp only[qab,zD,Nat.reduceEqDiff,zU,zA,hz]) (qcA _ _ _)
    · exact qas (1,2) rfl (by simp only[qab,zD,Nat.reduceEqDiff,zU,zA,hk]) (qcA _ _ _)
    · exact qas (1,3) rfl (by simp only[qab,zD,Nat.reduceEqDiff,zU,zA,hw]) (qcA _ _ _)
    · rw[R_succ,←rstep_eq]; exact qas (1,4) rfl (by simp only[qab,zC]) (qcA _ _ _)
def q0 (s x:Nat→BitVec 32) (i:Nat) (st:St):Prop := ∃ (H:Heap),st=⟨[.undef,.undef,.ptr (1,0) 0,.undef,.ptr (1,1) 0,.undef,.undef,.undef,.undef,.undef,.undef,.ptr (1,2) 0,.undef,.undef,.undef,.undef,.undef,N i,.undef,.undef,.undef,.undef,.undef,.undef,.undef,.undef,.undef,.undef,.undef,.undef,.undef,.undef,.undef,.undef,.undef,.undef,.undef,.undef,.undef,.undef,.undef,.undef,.undef,.undef,.undef,.undef,.undef,.undef,.undef,.undef,.undef,.undef,.undef,.undef,.undef,.undef,.undef,.undef,.undef,.undef,.undef,.undef,.undef,.undef,.undef,.undef,.undef,.undef,.undef,.undef,.undef,.undef,.undef,.undef,.undef,.undef,.undef,.undef,.undef,.undef,.undef,.undef,.undef,.undef,.undef,.undef,.undef,.undef,.undef,.undef,.undef,.undef,.undef,.undef,.undef,.undef,.undef,.undef,.undef,.undef,.undef,.undef,.undef,.undef,.undef,.undef,.undef,.undef,.undef,.undef,.undef,.undef,.undef,.undef,.undef,.undef,.undef,.undef,.undef,.undef,.undef,.undef,.undef,.undef,.undef,.undef,.undef,.undef,.undef,.undef,.undef,.undef,.undef,.undef,.undef,.undef,.undef,.undef,.undef,.undef,.undef,.undef,.undef,.undef,.undef,.undef,.undef,.undef,.undef,.undef,.undef,.undef,.undef,.undef,.undef,.undef,.undef,.undef,.undef,.undef,.undef,.undef,.undef,.undef,.undef,.undef,.undef,.undef,.undef,.undef,.undef,.undef,.undef,.undef,.undef,.undef,.undef,.undef,.undef,.undef,.undef,.undef,.undef,.undef,.undef,.undef,.undef,.undef,.undef,.undef],H,2,0⟩ ∧
  H (1,0)=some (aW 8 s)∧H (1,1)=some (aW 8 fun _=>0#32)∧H (1,2)=some (aW 8 (addP x s i))
set_option maxRecDepth 10000 in
theorem q0_round (K k0:Nat) (s x:Nat→BitVec 32) (i:Nat) (hi:i < 8) (st:St) (hI:q0 s x i st) :
    ∃ st1,ev (envC C k0) K L45b0 st=some (.normal,st1)∧q0 s x (i+1) (qby L45k0 st1):=by
  obtain ⟨H,rfl,h0,h1,h2⟩:=hI
  apply Exists.intro
  apply And.intro
  · simp (disch := first | omega | decide | simp only [qai, qag, qak, qaj, qah, qae, qac, qad, qan]) only [qba, qau, qa3, qao, qap, qam, qaf, qaN, qaq, qa7, qaz, qaI, qar, qaF, qaB, qaa, qa4, qaw, qaY, qcy, zK, zL, zN, zO, zR, zJ, zM, B32_add, Nat.reduceAdd, Nat.reduceSub, cellsOf_B32, qaQ, qbe, qbx, qbt, qbf, op_iaA, iaV_lt, zw, zx, zh, Nat.reduceLT, zC, zB, zE, zT, aW_cell, aW_st, zZ, zE, zB, qbY, qa2, qbO, Nat.reduceLT, Nat.reduceAdd, zT, nm_beq, zu, zf, qbz, qb3, ordK_pure, ordK_mod, qbE, qcr, touch_st, qaP, za, zY, zz, z6, z0, ordOk, qbv, zw, zx, Nat.testBit, Nat.reduceShiftRight, Nat.reduceAnd, Nat.reduceBEq, zf, zu, z7, zh, zzH, Nat.reduceSub, Nat.reduceLT, bne, qbN, qcp, trimO_f, qbI, qcf, isCall_st, zzH, zh, L45b0, hi, h0, h2]
    rfl
  · refine qaU [(1, 0), (1, 1), (1, 2)] rfl (by simp only [qaA, FUEL, qaH, qaD, qaE, qaP, qaL, zS, zW, zP, zV, zR, zk, zF, zY, za, zD, zt, zo, ze, Nat.reduceEqDiff, zU, zp, zC, zA, zd, zm, zg, zl, ne_eq, zq, qab, qaJ, qaC, qav, qaO, L45k0, h0, h1, h2, aW_nms, qaO]) rfl ⟨_, rfl, ?_, ?_, ?_⟩
    · exact qas (1,0) rfl (by simp only[qab,zD,Nat.reduceEqDiff,zU,zA,h0]) (qcA _ _ _)
    · exact qas (1,1) rfl (by simp only[qab,zD,Nat.reduceEqDiff,zU,zA,h1]) (qcA _ _ _)
    · rw [addP_succ]
      exact qas (1,2) rfl (by simp only[qab,zC]) (qcA _ _ _)
set_option maxRecDepth 10000 in
theorem rblock_F (k:Nat) (s:Nat→BitVec 32) (p:Nat→BitVec 8):F C (k+80) 45 [.agg (aW 8 s),.agg (aB 64 p)] []=some (.agg (aW 8 (blk s p)),[],[]):=by
  rw[qch f45]
  simp (disch:=first|omega|decide|simp only[nms_B8,qcy,qcR,nms_I,qaO,nms_Bo,nms_Un,qaL,nms_Hf,qaP,qaK,qbF,qbU,qci,qck,zS,zW,zP,zR,ren_B8,qcX,qcY,ren_I,ren_N,ren_Bo,ren_Un,qa9,ren_Hf,qbM,qcd,qcj,qcl,zG,zF,ren7_I,ren7_N,qc0,qc1,qcE,qcF,nms7_I,nms7_N,qc2,qc3,qcG,qcH,qc4,qc5,implies_true,l52,l53,qai,qbh,qaW,qbd,qa8,qag,qak,qaj,qah,qae,qac,qad,qan]) only[qbb,qau,qa3,qao,qap,qam,qaf,qaN,qaq,qa7,qaz,qaI,qaF,qa1,qaT,qaa,zK,zL,zN,zO,zF,zP,zV,qa5,zy,zJ,zM,qcB,qbZ,Nat.reduceAdd,Nat.reduceSub,qab,qdh,qcz,qaX,qbR,op_box,qcg,qbt,qbf,zD,Nat.reduceEqDiff,zH,zC,zA,zB,zE,aW_rep,aW_st_all,aW_calK,zE,zB,Nat.reduceEqDiff,Nat.reduceAdd,L45,consts_F]
  generalize hL:qca L45k3 _ _ _=r
  refine qbJ hL (q3 s p) 16 (by omega) (fun i st hi hI=>q3_round _ _ s p i hi st hI) ?_ ?_ ?_
  · refine qaU [(2, 0), (3, 0), (4, 0), (6, 0), (8, 0)] rfl (by simp only [qaA, FUEL, qaH, qaD, qaE, qaP, qaL, zS, zW, zP, zV, zR, zk, zF, zY, za, zD, zt, zo, ze, Nat.reduceEqDiff, zH, zp, zC, zA, zm, zg, zl, ne_eq, zq, qab, qaJ, qaC, qav, qaZ, qaO, L45k3, qbS, aW_nms, qaO]) rfl ⟨_, rfl, ?_, ?_, ?_, ?_, ?_⟩
    · exact qas (2,0) rfl (by simp only[qab,zD,Nat.reduceEqDiff,zH,zC,zA]) (qcA _ _ _)
    · exact qas (3,0) rfl (by simp only[qab,zD,Nat.reduceEqDiff,zH,zC,zA]) (qbj _ _ _)
    · exact qas (4,0) rfl (by simp only[qab,zD,Nat.reduceEqDiff,zH,zC,zA]) (qcA _ _ _)
    · exact qas (6,0) rfl (by simp only[qab,zD,Nat.reduceEqDiff,zH,zC,zA]) (qcA _ _ _)
    · exact qas (8,0) rfl (by simp only[qab,zD,Nat.reduceEqDiff,zH,zC,zA]; rfl) (qcA _ _ _)
  · rintro st ⟨H, rfl, h0, h1, h2, h3, h4⟩
    apply qbs
    simp (disch:=first|omega|decide|simp only[qai,qag,qak,qaj,qah,qae,qac,qad,qan]) only[qa6,qau,qao,qap,qam,qaf,qaN,qaq,qaz,qaI,qar,qaF,qaB,qaa,qaG,qaw,qat,zK,zL,zN,zO,zJ,zM,Nat.reduceAdd,zB,zE,zQ,qa2,Nat.reduceAdd,zj,zQ,L45b3]
    rfl
  · rintro st ⟨H, rfl, h0, h1, h2, h3, h4⟩ rfl
    clear hL
    simp (disch:=first|omega|decide|simp only[qai,qag,qak,qaj,qah,qae,qac,qad,qan]) only[qa6,qau,qa3,qao,qap,qam,qaf,qaN,qaq,qaz,qaI,qar,qaF,qaB,qaa,qaG,qbc,qaw,qat,zK,zL,zN,zO,zJ,zM,qbZ,Nat.reduceAdd,zC,zB,zE,zQ,zE,zB,qa2,Nat.reduceAdd,zj,zQ,L45b3]
    generalize hL:qca L45k2 _ _ _=r
    refine qbJ hL (fun i=>q2 s p (16+i)) 48 (by omega) (fun i st hi hI=>q2_round _ (k+78) s p (16+i) (by omega) (by omega) st hI) ?_ ?_ ?_
    · refine qaU [(1, 0), (1, 2), (1, 3), (1, 4)] rfl (by simp only [qaA, FUEL, qaH, qaD, qaE, qaP, qaL, zS, zW, zP, zV, zR, zk, zF, zY, za, zD, zt, zo, ze, Nat.reduceEqDiff, zU, zp, zC, zA, zd, zm, zg, zl, ne_eq, zq, qaJ, qaC, qav, qaO, L45k2, h0, h2, h3, h4, aW_nms, qaO]) rfl ⟨_, rfl, ?_, ?_, ?_, ?_⟩
      · exact qas (1,0) rfl (by simp only[h0]) (qcA _ _ _)
      · exact qas (1,2) rfl (by simp only[h2]) (qcA _ _ _)
      · exact qas (1,3) rfl (by simp only[h3]) (qcA _ _ _)
      · exact qas (1,4) rfl (by simp only[zE,h4]) (qcA _ _ _)
    · rintro st ⟨H, rfl, hF⟩
      apply qbs
      simp (disch:=first|omega|decide|simp only[qai,qag,qak,qaj,qah,qae,qac,qad,qan]) only[qa6,qau,qao,qap,qam,qaf,qaN,qaq,qaz,qaI,qar,qaF,qaB,qaa,qaG,qaw,qat,zK,zL,zN,zO,zJ,zM,Nat.reduceAdd,zB,zE,zQ,qa2,Nat.reduceAdd,zj,zQ,L45b2]
      rfl
    · rintro st ⟨H, rfl, hF⟩ rfl
      clear hL h0 h1 h2 h3 h4
      have hs:=hF.s
      have hz:=hF.z
      have hk:=hF.k
      have hw:=hF.w
      simp only[Nat.reduceAdd] at hw ⊢
      simp only[blk]
      generalize W p 64=w at *
      clear hF
      simp (disch:=first|omega|decide|simp only[qai,qag,qak,qaj,qah,qae,qac,qad,qan]) only[qa6,qau,qa3,qao,qap,qam,qaf,qaN,qaq,qa7,qaz,qaI,qar,qaF,qaB,qaa,qaG,qbc,qaw,qat,zK,zL,zN,zO,zJ,zM,qbZ,Nat.reduceAdd,qab,qdh,qcz,qaX,qaQ,qb6,op_ld,qbR,qbt,qbf,zC,zB,zE,zQ,aW_cells,aW_st_all,zE,zB,qa2,Nat.reduceAdd,zj,zQ,L45b2,hs]
      generalize hL:qca L45k1 _ _ _=r
      refine qbJ hL (q1 s w) 64 (by omega) (fun i st hi hI=>q1_round _ (k+78) s w i hi st hI) ?_ ?_ ?_
      · refine qaU [(1, 0), (1, 1), (1, 2), (1, 3), (5, 0)] rfl (by simp only [qaA, FUEL, qaH, qaD, qaE, qaP, qaL, zS, zW, zP, zV, zR, zk, zF, zY, za, zD, zt, zo, ze, Nat.reduceEqDiff, zH, zU, zp, zC, zA, zd, zi, zm, zg, zl, ne_eq, zq, qab, qaJ, qaC, qav, qaO, L45k1, hs, hz, hk, hw, aW_nms, qaO]) rfl ⟨_, rfl, ⟨?_, ?_, ?_, ?_⟩, ?_⟩
        · exact qas (1,0) rfl (by simp only[qab,zD,Nat.reduceEqDiff,zH,zA,hs]) (qcA _ _ _)
        · exact qas (1,1) rfl (by simp only[qab,zD,Nat.reduceEqDiff,zX,zA,zd,hz]) (qcA _ _ _)
        · exact qas (1,2) rfl (by simp only[qab,zD,Nat.reduceEqDiff,zX,zA,hk]) (qcA _ _ _)
        · exact qas (1,3) rfl (by simp only[qab,zD,Nat.reduceEqDiff,zX,zA,hw]) (qcA _ _ _)
        · rw[R_zero]; exact qas (5,0) rfl (by simp only[qab,zC]) (qcA _ _ _)
      · rintro st ⟨H, rfl, hF, hx⟩
        apply qbs
        simp (disch:=first|omega|decide|simp only[qai,qag,qak,qaj,qah,qae,qac,qad,qan]) only[qa6,qau,qao,qap,qam,qaf,qaN,qaq,qaz,qaI,qar,qaF,qaB,qaa,qaG,qaw,qat,zK,zL,zN,zO,zJ,zM,Nat.reduceAdd,zB,zE,zQ,qa2,Nat.reduceAdd,zj,zQ,L45b1]
        rfl
      · clear hL hs hz hk hw
        rintro st ⟨H,rfl,hF,hx⟩ rfl
        have hs:=hF.s
        have hz:=hF.z
        have hk:=hF.k
        have hw:=hF.w
        generalize R s w 64=x at *
        clear hF
        simp (disch:=first|omega|decide|simp only[qai,qag,qak,qaj,qah,qae,qac,qad,qan]) only[qa6,qau,qa3,qao,qap,qam,qaf,qaN,qaq,qaz,qaI,qar,qaF,qaB,qaa,qaG,qbc,qaw,qat,zK,zL,zN,zO,zJ,zM,qbZ,Nat.reduceAdd,zC,zB,zE,zQ,aW_rep,zE,zB,qa2,Nat.reduceAdd,zj,zQ,L45b1]
        generalize hL:qca L45k0 _ _ _=r
        refine qbJ hL (q0 s x) 8 (by omega) (fun i st hi hI=>q0_round _ _ s x i hi st hI) ?_ ?_ ?_
        · refine qaU [(1, 0), (1, 1), (1, 4)] rfl (by simp only [qaA, FUEL, qaH, qaD, qaE, qaP, qaL, zS, zW, zP, zV, zR, zk, zF, zY, za, zD, zt, zo, ze, Nat.reduceEqDiff, zU, zp, zC, zA, zd, zm, zg, zl, ne_eq, zq, qaJ, qaC, qav, qaO, L45k0, hs, hz, hx, aW_nms, qaO]) rfl ⟨_, rfl, ?_, ?_, ?_⟩
          · exact qas (1,0) rfl (by simp only[hs]) (qcA _ _ _)
          · exact qas (1,1) rfl (by simp only[hz]) (qcA _ _ _)
          · rw [show aW 8 (addP x s 0) = aW 8 x from aW_ext 8 fun j _ => by simp [addP]]
            exact qas (1,4) rfl (by simp only[hx]) (qcA _ _ _)
        · rintro st ⟨H, rfl, h0, h1, h2⟩
          apply qbs
          simp (disch:=first|omega|decide|simp only[qai,qag,qak,qaj,qah,qae,qac,qad,qan]) only[qa6,qau,qao,qap,qam,qaf,qaN,qaq,qaz,qaI,qar,qaF,qaB,qaa,qaG,qaw,qat,zK,zL,zN,zO,zJ,zM,Nat.reduceAdd,zB,zE,zQ,qa2,Nat.reduceAdd,zj,zQ,L45b0]
          rfl
        · rintro st ⟨H, rfl, h0, h1, h2⟩ rfl
          have e:aW 8 (addP x s 8)=aW 8 (addW s x):=aW_ext 8 fun j hj=>by simp only[addP,addW,if_pos hj]; exact BitVec.add_comm _ _
          rw[e] at h2
          simp (disch:=first|omega|decide|simp only[qai,qag,qak,qaj,qah,qae,qac,qad,qan]) only[qbp,qa6,qau,qao,qap,qam,qaf,qaN,qaq,qa7,qaz,qaI,qar,qaF,qaB,qaa,qaG,qbc,qaw,qat,qbg,zK,zL,zN,zO,zJ,zM,zI,Nat.reduceAdd,qab,qcz,qaX,qaQ,qb6,op_ld,qbt,qbf,zC,zB,zE,zQ,resVal_agg,aggV_some,aW_cells,aW_st_all,aW_outOf,zE,zB,qa2,Nat.reduceAdd,zj,zQ,L45b0,h1,h2]
end Sha
namespace Sha
open Go Go.LE
def HsC (s:Nat→BitVec 32) (r:LV) (n:Nat):qaR:=aW 8 s++[r,N n]
theorem HsC_length (s:Nat→BitVec 32) (r:LV) (n:Nat):(HsC s r n).length=10:=by simp[HsC,qcS]
theorem Hs_state (s:Nat→BitVec 32) (r:LV) (n:Nat):cellK 0 8 (some (HsC s r n))=some (aW 8 s):=by
  rw[cellK_some,if_pos (by rw[HsC_length]; decide),z8,HsC,List.take_append_of_le_length (by rw[qcS]; exact Nat.le_refl _),List.take_of_length_le (by rw[qcS]; exact Nat.le_refl _)]
theorem Hs_rest (s:Nat→BitVec 32) (r:LV) (n:Nat):cellK 8 1 (some (HsC s r n))=some [r]:=by
  rw[cellK_some,if_pos (by rw[HsC_length]; decide),HsC,List.drop_append_of_le_length (by rw[qcS]; exact Nat.le_refl _),List.drop_of_length_le (by rw[qcS]; exact Nat.le_refl _)]; rfl
theorem Hs_n (s:Nat→BitVec 32) (r:LV) (n:Nat):cellK 9 1 (some (HsC s r n))=some [N n]:=by
  rw[cellK_some,if_pos (by rw[HsC_length]; decide),HsC,List.drop_append,List.drop_of_length_le (by rw[qcS]; decide),qcS]; rfl
theorem Hs_st0 (m:Nm) (s s':Nat→BitVec 32) (r:LV) (n:Nat):stK 8 0 m (some (aW 8 s')) (some (HsC s r n))=some ⟨Un,[],[(m,some (HsC s' r n))]⟩:=by
  rw[stK_some,if_pos ⟨qcS _ _,by rw[HsC_length]; decide,qak _ _⟩]
  simp only[qb2,zzB,zP,qcS,zB,HsC]
  rw[List.drop_append_of_le_length (by rw[qcS]; exact Nat.le_refl _),List.drop_of_length_le (by rw[qcS]; exact Nat.le_refl _)]; rfl
theorem Hs_st8 (m:Nm) (s:Nat→BitVec 32) (r r':LV) (n:Nat) (h:isCell r'=true):stK 1 8 m (some [r']) (some (HsC s r n))=some ⟨Un,[],[(m,some (HsC s r' n))]⟩:=by
  rw[stK_some,if_pos ⟨rfl,by rw[HsC_length]; decide,by simp[h]⟩]
  simp only[qb2,HsC]
  rw[List.take_append_of_le_length (by rw[qcS]; exact Nat.le_refl _),List.take_of_length_le (by rw[qcS]; exact Nat.le_refl _),List.drop_append,List.drop_of_length_le (by rw[qcS]; simp),qcS]
  simp
theorem Hs_st9 (m:Nm) (s:Nat→BitVec 32) (r:LV) (n n':Nat):stK 1 9 m (some [N n']) (some (HsC s r n))=some ⟨Un,[],[(m,some (HsC s r n'))]⟩:=by
  rw[stK_some,if_pos ⟨rfl,by rw[HsC_length]; decide,rfl⟩]
  simp only[qb2,HsC]
  rw[List.take_append,List.take_of_length_le (by rw[qcS]; decide),qcS,List.drop_append,List.drop_of_length_le (by rw[qcS]; simp),qcS]
  simp
theorem qdb (s:Nat→BitVec 32) (r:LV) (n:Nat):(HsC s r n).flatMap (nms D)=nms D r:=by
  simp only[HsC,List.flatMap_append,aW_nms,zS,zW,qaO,zP,zR]
theorem qcu (π:Nm→Option Nm) (s:Nat→BitVec 32) (r:LV) (n:Nat):(HsC s r n).map (ren D π)=HsC s (ren D π r) n:=by
  simp only[HsC,List.map_append,qcA,zG,zF,ren_N]
theorem zero10:[B32 0#32,B32 0#32,B32 0#32,B32 0#32,B32 0#32,B32 0#32,B32 0#32,B32 0#32,Nil,N 0]=HsC (fun _=>0#32) Nil 0:=rfl
theorem splice_s (s s':Nat→BitVec 32) (r:LV) (n:Nat):qb2 (HsC s r n) 0 (aW 8 s')=HsC s' r n:=by
  simp only[qb2,zzB,zP,qcS,zB,HsC]
  rw[List.drop_append_of_le_length (by rw[qcS]; exact Nat.le_refl _),List.drop_of_length_le (by rw[qcS]; exact Nat.le_refl _)]; rfl
theorem fill_new (s:Nat→BitVec 32):fill (HsC (fun _=>0#32) Nil 0) [(0,8,.agg (aW 8 s))]=some (HsC s Nil 0):=by
  simp only[fill,qaX,qcS,HsC_length,splice_s]
  rw[if_pos (by decide)]
theorem fill_fork (s:Nat→BitVec 32) (r:LV) (n:Nat) (h:qcs r=some [r]):fill (HsC (fun _=>0#32) Nil 0) [(0,8,.agg (aW 8 s)),(8,1,r),(9,1,N n)]=some (HsC s r n):=by
  have e1:qb2 (HsC s Nil 0) 8 [r]=HsC s r 0:=by
    simp only[qb2,HsC]
    rw[List.take_append_of_le_length (by rw[qcS]; exact Nat.le_refl _),List.take_of_length_le (by rw[qcS]; exact Nat.le_refl _),List.drop_append,List.drop_of_length_le (by rw[qcS]; simp),qcS]
    simp
  have e2:qb2 (HsC s r 0) 9 [N n]=HsC s r n:=by
    simp only[qb2,HsC]
    rw[List.take_append,List.take_of_length_le (by rw[qcS]; decide),qcS,List.drop_append,List.drop_of_length_le (by rw[qcS]; simp),qcS]
    simp
  simp only[fill,qaX,qcS,HsC_length,splice_s,h,cellsOf_N,zJ,zM,e1,e2]
  rw[if_pos (by decide),if_pos (by decide),if_pos (by decide)]
def ini:Nat→BitVec 32:=vec8 0x6a09e667#32 0xbb67ae85#32 0x3c6ef372#32 0xa54ff53a#32 0x510e527f#32 0x9b05688c#32 0x1f83d9ab#32 0x5be0cd19#32
theorem firstA (k:Nat):F C (k+1) 49 [] []=some (.agg (aW 8 ini),[],[]):=by kernel_rfl
theorem firstB (k:Nat):F C (k+1) 44 [] []=some (.agg (aW 8 ini),[],[]):=by kernel_rfl
theorem new_F (k:Nat):F C (k+2) 41 [] []=some (.ptr (1,0) 0,[],[HsC ini Nil 0]):=by
  rw[qch f41]
  simp (disch:=first|omega|decide|simp only[nms_B8,qcy,qcR,nms_I,qaO,nms_Bo,nms_Un,qaL,nms_Hf,qaP,qaK,qbF,qbU,qci,qck,zS,zW,zP,zR,ren_B8,qcX,qcY,ren_I,ren_N,ren_Bo,ren_Un,qa9,ren_Hf,qbM,qcd,qcj,qcl,zG,zF,ren7_I,ren7_N,qc0,qc1,qcE,qcF,nms7_I,nms7_N,qc2,qc3,qcG,qcH,qc4,qc5,implies_true,l49,qai,qbh,qaW,qbd,qa8,qag,qak,qaj,qah,qae,qac,qad,qan]) only[qbb,qbp,qau,qao,qap,qam,qaf,qaN,qaq,qaz,qaI,qaF,qa1,qaT,qaa,qbg,qbl,zK,zL,zN,zO,zG,zF,zP,qa5,zy,zJ,zM,qcB,zI,Nat.reduceAdd,qdh,qaX,op_box,qcg,aggR_some,op_build,zB,zE,aW_calK,zE,zB,Nat.reduceAdd,zI,Nat.sub_zero,L41,firstA,zero10,fill_new]
  rw[qcc 0 _ _ [(5,0)] (by simp only[qaA,FUEL,qaH,qaD,qaE,qaP,zS,zW,zP,zR,zk,zF,zY,ze,Nat.reduceEqDiff,zC,zA,zm,zg,zl,ne_eq,zq,qab,qaZ,qbu,qdb,qbu])]
  simp only[qab,zD,Nat.reduceEqDiff,false_and,zC,zA,qda,zzC,qbn,List.filterMap_cons,zk,qbT,List.filterMap_cons,zk,zF,zG,qcu]
  rfl
theorem clone_0 (k:Nat) (l:List (BitVec 8)):F C (k+1) 38 [.sl (0,0) 0 0 none 1] [bs l]=some (.sl (1,0) 0 0 (some 0) 1,[some (bs l)],[bs []]):=by
  rw[qch f38]
  have ha:∀ H:Heap,H (5,0)=some []→appX 7 1 1 0 H [] [] (.sl (5,0) 0 0 (some 0) 1)=some ⟨.sl (5,0) 0 0 (some 0) 1,[],[((5,0),some [])]⟩:=by
    intro H h
    simp only[appX,h,qb2]
    rfl
  have hb:=ha (upd (qcV [bs l]) (5,0) (some [])) rfl
  simp (disch:=first|omega|decide|simp only[qai,qag,qak,qaj,qah,qae,qac,qad,qan]) only[qbb,qba,qbp,qau,qao,qap,qam,qaf,qaN,qaq,qaz,qaI,qar,qaF,qaB,qaa,qaw,qat,qbg,qbl,zK,zL,zN,zO,zF,zP,zV,qa5,zy,zJ,zM,zI,Nat.reduceAdd,Nat.reduceSub,qdh,qcz,qbW,zB,zE,zE,zB,Nat.reduceAdd,eqs_sl,qbB,front_sl0,qb8,qb9,qcb,qbK,qbw,zI,L38,hb]
  rw[qcc 1 _ _ [(5,0)] (by simp only[qaA,FUEL,qaH,qaD,qaE,qaK,zS,zW,zP,zV,zR,zF,zG,zY,za,zD,zt,zo,ze,Nat.reduceEqDiff,zH,zp,zC,zA,zm,zg,zl,ne_eq,zq,z9,qab,qbn,qaZ,qce,List.getElem?_cons_zero,qbh])]
  simp only[zG,zF,zI,qab,zD,Nat.reduceEqDiff,false_and,zC,zA,zzC,zI,qaW,qbn,qce,List.getElem?_cons_zero,List.filterMap_cons,qbk]
  rfl
theorem clone_F (k:Nat) (len:Nat) (l:List (BitVec 8)) (hl:len≤l.length) (h0:0 < len) (hb:len≤211106232532992) :
    F C (k+1) 38 [.sl (0,0) 0 len none 1] [bs l]=some (.sl (1,0) 0 len none 1,[some (bs l)],[bs (l.take len)]):=by
  rw[qch f38]
  have hf:front (upd (qcV [bs l]) (5,0) (some [])) 1 len (.sl (0,0) 0 len none 1)=some (bs (l.take len)):=by
    rw[front_bytes (0,0) 0 len none l (by simp only[qab,zD,Nat.reduceEqDiff,zH,zA,qbn,List.getElem?_cons_zero]) (by omega),z8]
  have ha:=appX_full (b:=7) (H:=upd (qcV [bs l]) (5,0) (some [])) len (5,0) 0 0 0 [] (l.take len) (by simp only[qab,zC]; rfl) (by simp) (by omega) (by omega)
  simp only[zzD,zzL,zP,zB] at ha
  simp (disch:=first|omega|decide|simp only[qai,qag,qak,qaj,qah,qae,qac,qad,qan]) only[qbb,qba,qbp,qau,qao,qap,qam,qaf,qaN,qaq,qaz,qaI,qar,qaF,qaB,qaa,qaw,qat,qbg,qbl,zK,zL,zN,zO,zF,zP,zV,qa5,zy,zJ,zM,zI,Nat.reduceAdd,Nat.reduceSub,qdh,qbW,zB,zE,zE,zB,Nat.reduceAdd,eqs_sl,qbB,qb8,qb9,qcb,qbK,qbw,zI,L38,hf,ha]
  rw[qcc 1 _ _ [(7,0)] (by simp only[qaA,FUEL,qaH,qaD,qaE,qaK,zS,zW,zP,zV,zR,zF,zG,zY,za,zD,zt,zo,ze,Nat.reduceEqDiff,zH,zp,zC,zA,zm,zg,zl,ne_eq,zq,z9,qab,qbn,qaZ,qce,List.getElem?_cons_zero,qbh])]
  simp only[zG,zF,zI,qab,zD,Nat.reduceEqDiff,zH,false_and,zC,zA,zzC,zI,qaW,qbn,qce,List.getElem?_cons_zero,List.filterMap_cons,qbk]
  rfl
end Sha
namespace Sha
open Go Go.LE
def chunk (m:List (BitVec 8)) (i:Nat):Nat→BitVec 8:=fun j=>if j < 64 then m.getD (64*i+j) 0#8 else 0#8
def absN (m:List (BitVec 8)) (s:Nat→BitVec 32):Nat→(Nat→BitVec 32)
  | 0=>s
  | i+1=>blk (absN m s i) (chunk m i)
theorem bs_chunk (m:List (BitVec 8)) (i:Nat) (h:64*i+64≤m.length):cellK (64*i) 64 (some (bs m))=some (aB 64 (chunk m i)):=by
  rw[bs_cells _ _ _ h,bs_aB _ 64 (by rw[zzJ,zzG]; omega)]
  congr 1
  apply aB_ext
  intro j hj
  simp only[chunk,List.getD_eq_getElem?_getD,List.getElem?_take,List.getElem?_drop,if_pos hj]
theorem copied (m:List (BitVec 8)) (a left:Nat) (h1:a+left=m.length) :
    ∃ (l' : List (BitVec 8)) (ms : List (Nm × Option qaR)), (∀ H : Heap, H (1, 0) = some (bs m) → cpK 1 H (.sl (1, 0) 0 m.length none 1) (.sl (1, 0) a left none 1) (some left) = some ⟨N left, [], ms⟩) ∧
      (ms=[]∧l'=m∨ms=[((1,0),some (bs l'))])∧l'.take left=m.drop a∧left≤l'.length:=by
  by_cases h0:left=0
  · subst h0
    refine ⟨m,[],fun H _=>cp_zero _ _ _ _ _ _ _ _ (Nat.zero_min _),.inl ⟨rfl,rfl⟩,?_,Nat.zero_le _⟩
    rw[zzB,List.drop_of_length_le (by omega)]
  · have hmin : min left m.length = left := Nat.min_eq_left (by omega)
    have hd:(m.drop a).take left=m.drop a:=List.take_of_length_le (by rw[zzG]; omega)
    have hf:∀ H:Heap,H (1,0)=some (bs m)→front H 1 (min left m.length) (.sl (1,0) a left none 1)=some (bs (m.drop a)):=by
      intro H hm
      rw[hmin,front_bytes (1,0) a left none m hm (by omega),hd]
    refine ⟨m.take 0++m.drop a++m.drop (0+(m.drop a).length),[((1,0),some (bs (m.take 0++m.drop a++m.drop (0+(m.drop a).length))))],?_,.inr rfl,?_,?_⟩
    · intro H hm
      rw[cp_bytes left (1,0) 0 m.length none _ m (m.drop a) (by omega) (hf H hm) hm (by omega),hmin]
    · rw[zzB,zP,List.take_append_of_le_length (by rw[zzG]; omega),List.take_of_length_le (by rw[zzG]; omega)]
    · simp only[zzB,zP,zzI,zzG]; omega
def wJA (s:Nat→BitVec 32) (m:List (BitVec 8)) (n:Nat) (i:Nat) (st:St):Prop := ∃ (H:Heap),st=⟨[.ptr (0,0) 0,.undef,.undef,.undef,N (64*i),.undef,.undef,.undef,.undef,.undef,.undef,.undef,.undef,.undef,.undef,.undef,.undef,.undef,.undef,.undef,.undef,.undef,.undef,.undef,.undef,.undef,.undef,.undef,.undef,.undef,.undef,.undef,.undef,.undef,.undef,.undef,.undef,.undef,.undef,.undef,.undef,.undef,.undef,.undef,.undef,.undef,.undef,.undef,.undef,.undef,.undef,.undef,.undef,.undef,.undef,.undef,.undef,.undef,.undef,.undef,.undef,.undef,.undef,.undef,.undef,.undef,.undef,.undef,.undef,.undef,.undef,.undef,.undef,.undef],H,2,1⟩ ∧
  H (0,0)=some (HsC (absN m s i) (.sl (1,0) 0 m.length none 1) n)∧H (1,0)=some (bs m)
set_option maxRecDepth 10000 in
theorem wr_roundA (K k0:Nat) (hblk:∀ s p,F C k0 50 [.agg (aW 8 s),.agg (aB 64 p)] []=some (.agg (aW 8 (blk s p)),[],[])) (s:Nat→BitVec 32) (m:List (BitVec 8)) (n:Nat) (hm:m.length≤211106232532992)
    (i:Nat) (hi:64*i+64≤m.length) (st:St) (hI:wJA s m n i st) :
    ∃ st1,ev (envC C k0) K L42b0 st=some (.normal,st1)∧wJA s m n (i+1) (qby L42k0 st1):=by
  obtain ⟨H,rfl,h0,h1⟩:=hI
  have hc:=bs_chunk m i hi
  have e1:64≤m.length - 64*i:=by omega
  have e2:64*i+64 - 64*i=64:=by omega
  apply Exists.intro
  apply And.intro
  · simp (disch := first | omega | decide | simp only [nms_B8, qcy, qcR, nms_I, qaO, nms_Bo, nms_Un, qaL, nms_Hf, qaP, qaK, qbF, qbU, qci, qck, zS, zW, zP, zR, ren_B8, qcX, qcY, ren_I, ren_N, ren_Bo, ren_Un, qa9, ren_Hf, qbM, qcd, qcj, qcl, zG, zF, ren7_I, ren7_N, qc0, qc1, qcE, qcF, nms7_I, nms7_N, qc2, qc3, qcG, qcH, qc4, qc5, implies_true, l50, qai, qbh, qaW, qbd, qa8, qag, qak, qaj, qah, qae, qac, qad, qan]) only [qba, qau, qa3, qao, qap, qam, qaf, qaN, qaq, qa7, qaz, qaI, qar, qaF, qaB, qa1, qaT, qaa, qa4, qaw, qaY, zK, zL, zN, zO, zG, zF, zS, zW, zR, zJ, zM, qcB, Nat.reduceAdd, Nat.reduceSub, qaX, qaQ, qbe, qb6, qbx, op_ld, qbt, qbf, op_fa, faV_ptr, zw, zx, zh, Nat.reduceLT, zC, zB, zE, zT, qbF, qbU, aW_calK, zZ, zE, zB, qbY, N_sub, N_geq, qbO, Nat.reduceLT, Nat.reduceAdd, zT, nm_beq, zu, zf, op_chk, chkV_ptr, qbi, qaV, qbL, qdc, op_slcS, slcV_none, qdd, op_arrp, arrpV_sl, zZ, qbz, qb3, ordK_pure, ordK_mod, qbE, qcr, touch_ld, touch_st, qcL, reach_none, nms_fn, qaP, za, zY, zz, z6, z0, ordOk, qbv, zw, zx, Nat.testBit, Nat.reduceShiftRight, Nat.reduceAnd, Nat.reduceBEq, zf, zu, z7, zh, zzH, Nat.reduceSub, Nat.reduceLT, bne, qbN, qcp, trimO_f, qbI, qcf, qdk, isCall_st, qcv, zzH, zh, L42b0, h0, h1, e1, e2, hc, hblk, Hs_state, Hs_rest, Hs_st0]
    rfl
  · refine qaU [(1, 0)] rfl (by simp only [qaA, FUEL, qaH, qaD, qaE, qaP, qaK, qaL, zS, zW, zP, zV, zR, zF, zG, zY, za, zD, zt, zo, ze, zH, zp, zzF, zC, zA, zd, zi, zm, zg, zl, ne_eq, zq, z9, qab, qaJ, qaC, qav, qce, qaO, L42k0, h0, h1, qdb, qbh]) rfl ⟨_, rfl, ?_, ?_⟩
    · rw [qcm]
      simp (disch:=first|omega|decide|simp only[qai,qag,qak,qaj,qah,qae,qac,qad,qan]) only[zI,qab,zC,zB,idx_cons,qdo,zI,qbk,qbX,h0,qcu,absN]
    · exact qas (1,0) rfl (by simp only[qab,zD,zH,zA,zd,h1]) (qaW _ _)
set_option maxRecDepth 10000 in
theorem writeA (k:Nat) (s:Nat→BitVec 32) (n:Nat)  (b m:List (BitVec 8)) (hm:m=b)  (hb0:b≠[]) (hml:m.length≤211106232532992) (hn:n+b.length≤4611686018427387904) :
    ∃ l' : List (BitVec 8), F C (k + m.length / 64 + 100) 42 [.ptr (0, 0) 0, .isl (bs b) b.length] [HsC s Nil n] =
      some (.tup [],[some (HsC (absN m s (m.length / 64)) (.sl (1,0) 0 (m.length - 64*(m.length / 64)) none 1) (n+b.length))],[bs l'])∧l'.take (m.length - 64*(m.length / 64))=m.drop (64*(m.length / 64))∧m.length - 64*(m.length / 64)≤l'.length:=by
  have hbl:0 < b.length:=List.length_pos_iff.2 hb0
  have hfr:∀ H:Heap,front H 1 b.length (.isl (bs b) b.length)=some (bs b):=fun H=>qdn b b.length rfl
  obtain ⟨q,hq⟩:∃ q,q=m.length / 64:=⟨_,rfl⟩
  rw[←hq]
  have hblk:∀ s p,F C (k+q+99) 50 [.agg (aW 8 s),.agg (aB 64 p)] []=some (.agg (aW 8 (blk s p)),[],[]):=fun s p=>block_F (k+q+19) s p
  rw[qch f42]
  have ha:∀ H:Heap,appX 20 1 1 b.length H [] (bs b) Nil=some ⟨.sl (20,0) 0 m.length none 1,[bs m],[]⟩:=by
    intro H; subst hm; exact appX_nil 1 1 _ (bs m) (by omega) (by omega)
  simp (disch:=first|omega|decide|simp only[qai,qag,qak,qaj,qah,qae,qac,qad,qan]) only[qbb,qba,qau,qa3,qao,qap,qam,qaf,qaN,qaq,qa7,qaz,qaI,qar,qaF,qaB,qaa,qaw,qat,zK,zL,zN,zO,zP,zV,qa5,zy,zJ,zM,qbZ,Nat.reduceAdd,Nat.reduceSub,qab,qdh,qcz,qaQ,qbe,qbx,qbt,qbf,op_fa,faV_ptr,zD,Nat.reduceEqDiff,zH,zC,zA,zB,zE,zE,zB,qbY,cellsOf_N,Nat.reduceEqDiff,Nat.reduceAdd,op_chk,chkV_ptr,eqp_ptr,qbi,qaV,qbD,qcT,qdi,qb8,qb9,qcb,qbn,List.getElem?_cons_zero,L42,Hs_n,Hs_rest,Hs_st9,Hs_st8,hfr,ha]
  generalize hL:qca L42k0 _ _ _=r
  refine qbJ hL (wJA s m (n+b.length)) q (by omega) (fun i st hi hI=>wr_roundA _ _ hblk s m (n+b.length) hml i (by omega) st hI) ?_ ?_ ?_
  · refine qaU [(20, 0)] rfl (by simp only [qaA, FUEL, qaH, qaD, qaE, qaP, qaK, qaL, zS, zW, zP, zV, zR, zF, zG, zY, za, zD, zt, zo, ze, Nat.reduceEqDiff, zH, zp, zzF, zC, zA, zm, zg, zl, ne_eq, zq, z9, qab, qaJ, qaC, qav, qbn, qaZ, qce, List.getElem?_cons_zero, qaO, L42k0, qdb, qbh]) rfl ⟨_, rfl, ?_, ?_⟩
    · rw [qcm]
      simp (disch:=first|omega|decide|simp only[qai,qag,qak,qaj,qah,qae,qac,qad,qan]) only[zI,qab,zD,Nat.reduceEqDiff,zH,zC,zA,zB,idx_cons,qdo,zI,qbn,List.getElem?_cons_zero,qbk,qbX,qcu,absN]
    · exact qas (20,0) rfl (by simp only[qab,zD,Nat.reduceEqDiff,zH,zC,zA]) (qaW _ _)
  · rintro st ⟨H, rfl, h0, h1⟩
    have e1:¬ 64≤m.length - 64*q:=by omega
    apply qbs
    simp (disch:=first|omega|decide|simp only[qai,qag,qak,qaj,qah,qae,qac,qad,qan]) only[qa6,qau,qao,qap,qam,qaf,qaN,qaq,qaz,qaI,qar,qaF,qaB,qaa,qaG,qaw,qat,zK,zL,zN,zO,zJ,zM,Nat.reduceAdd,qaQ,qbe,qbx,op_fa,faV_ptr,zB,zE,zQ,N_sub,N_geq,Nat.reduceAdd,zQ,op_chk,chkV_ptr,qbi,qaV,qbL,L42b0,h0,Hs_rest,e1]
    rfl
  · rintro st ⟨H, rfl, h0, h1⟩ rfl
    have e1:¬ 64≤m.length - 64*q:=by omega
    have e2:64*q≤m.length:=by omega
    obtain ⟨l',ms,hcp,hms,ht1,ht2⟩:=copied m (64*q) (m.length - 64*q) (by omega)
    have hcp':=hcp (only [(1,0),(1,0)] H) (by simp only[zC,qbE,za,zY,zz,z6,z0,h1])
    refine ⟨l',?_,ht1,ht2⟩
    rcases hms with ⟨rfl,rfl⟩ | rfl
    · simp (disch := first | omega | decide | simp only [qai, qag, qak, qaj, qah, qae, qac, qad, qan]) only [qa6, qau, qao, qap, qam, qaf, qaN, qaq, qa7, qaz, qaI, qar, qaF, qaB, qaa, qaG, qbc, qaw, qat, retK_normal, zK, zL, zN, zO, zP, zV, zJ, zM, zI, Nat.reduceAdd, Nat.reduceSub, qcz, qaQ, qbe, qbx, qbt, qbf, op_fa, faV_ptr, zw, zx, zh, Nat.reduceLT, zC, zB, zE, zT, zQ, zZ, zE, zB, N_sub, N_geq, qbO, Nat.reduceLT, Nat.reduceAdd, zQ, zT, zu, zf, op_chk, chkV_ptr, qbi, qaV, qbL, qbB, qdi, op_copy, qcw, qdc, op_slcS, slcV_none, qdd, zI, Nat.sub_zero, zZ, resVal_none, qbz, qb3, ordK_pure, qbE, qcr, touch_copy, qaP, za, zY, zz, z6, z0, ordOk, qbv, zw, zx, Nat.testBit, Nat.reduceShiftRight, Nat.reduceAnd, Nat.reduceBEq, zf, zu, z7, zh, Nat.reduceSub, Nat.reduceLT, bne, qbN, qcp, qbI, qcf, isCall_copy, zh, L42b0, h0, qaK, Hs_rest, Hs_st8, e1, hcp']
      rw[qcc 1 _ _ [(1,0)] (by simp only[qaA,FUEL,qaH,qaD,qaE,qaK,zS,zW,zP,zV,zR,zF,zG,zY,za,zD,zt,zo,ze,zH,zp,zC,zA,zd,zm,zg,zl,ne_eq,zq,z9,qab,qce,h1,qdb,qbh,nms_tup0])]
      simp (disch:=first|omega|decide|simp only[qai,qag,qak,qaj,qah,qae,qac,qad,qan]) only[zG,zF,zI,qab,zD,zH,true_and,zC,zA,zB,zd,idx_cons,qdo,zzC,zI,qaW,qce,List.filterMap_cons,qbk,qbX,ren_tup0,h1,qcu]
    · simp (disch := first | omega | decide | simp only [qai, qag, qak, qaj, qah, qae, qac, qad, qan]) only [qa6, qau, qao, qap, qam, qaf, qaN, qaq, qa7, qaz, qaI, qar, qaF, qaB, qaa, qaG, qbc, qaw, qat, retK_normal, zK, zL, zN, zO, zP, zV, zJ, zM, zI, Nat.reduceAdd, Nat.reduceSub, qab, qcz, qaQ, qbe, qbx, qbt, qbf, op_fa, faV_ptr, zw, zx, zh, zD, Nat.reduceLT, zH, zC, zA, zB, zE, zT, zQ, zi, zZ, zE, zB, N_sub, N_geq, qbO, Nat.reduceLT, Nat.reduceAdd, zQ, zT, nm_beq, zu, zf, op_chk, chkV_ptr, qbi, qaV, qbL, qbB, qdi, op_copy, qcw, qdc, op_slcS, slcV_none, qdd, zI, Nat.sub_zero, zZ, resVal_none, qbz, qb3, ordK_pure, ordK_mod, qbE, qcr, touch_copy, qaP, za, zY, zz, z6, z0, ordOk, qbv, zw, zx, Nat.testBit, Nat.reduceShiftRight, Nat.reduceAnd, Nat.reduceBEq, zf, zu, z7, zh, Nat.reduceSub, Nat.reduceLT, bne, qbN, qcp, trimO_f, qbI, qcf, isCall_copy, zh, L42b0, h0, qaK, Hs_rest, Hs_st8, e1, hcp']
      rw[qcc 1 _ _ [(1,0)] (by simp only[qaA,FUEL,qaH,qaD,qaE,qaK,zS,zW,zP,zV,zR,zF,zG,zY,za,zD,zt,zo,ze,zH,zp,zC,zA,zd,zi,zm,zg,zl,ne_eq,zq,z9,qab,qce,qdb,qbh,nms_tup0])]
      simp (disch:=first|omega|decide|simp only[qai,qag,qak,qaj,qah,qae,qac,qad,qan]) only[zG,zF,zI,qab,zD,zH,true_and,false_and,zC,zA,zB,zd,zi,idx_cons,qdo,zzC,zI,qaW,qce,List.filterMap_cons,qbk,qbX,ren_tup0,qcu]
def wJB (s:Nat→BitVec 32) (m:List (BitVec 8)) (n:Nat) (i:Nat) (st:St):Prop := ∃ (H:Heap),st=⟨[.ptr (0,0) 0,.undef,.undef,.undef,N (64*i),.undef,.undef,.undef,.undef,.undef,.undef,.undef,.undef,.undef,.undef,.undef,.undef,.undef,.undef,.undef,.undef,.undef,.undef,.undef,.undef,.undef,.undef,.undef,.undef,.undef,.undef,.undef,.undef,.undef,.undef,.undef,.undef,.undef,.undef,.undef,.undef,.undef,.undef,.undef,.undef,.undef,.undef,.undef,.undef,.undef,.undef,.undef,.undef,.undef,.undef,.undef,.undef,.undef,.undef,.undef,.undef,.undef,.undef,.undef,.undef,.undef,.undef,.undef,.undef,.undef,.undef,.undef,.undef,.undef],H,2,2⟩ ∧
  H (0,0)=some (HsC (absN m s i) (.sl (1,0) 0 m.length none 1) n)∧H (1,0)=some (bs m)∧H (0,1)=none
set_option maxRecDepth 10000 in
theorem wr_roundB (K k0:Nat) (hblk:∀ s p,F C k0 50 [.agg (aW 8 s),.agg (aB 64 p)] []=some (.agg (aW 8 (blk s p)),[],[])) (s:Nat→BitVec 32) (m:List (BitVec 8)) (n:Nat) (hm:m.length≤211106232532992)
    (i:Nat) (hi:64*i+64≤m.length) (st:St) (hI:wJB s m n i st) :
    ∃ st1,ev (envC C k0) K L42b0 st=some (.normal,st1)∧wJB s m n (i+1) (qby L42k0 st1):=by
  obtain ⟨H,rfl,h0,h1,h01⟩:=hI
  have hc:=bs_chunk m i hi
  have e1:64≤m.length - 64*i:=by omega
  have e2:64*i+64 - 64*i=64:=by omega
  apply Exists.intro
  apply And.intro
  · simp (disch := first | omega | decide | simp only [nms_B8, qcy, qcR, nms_I, qaO, nms_Bo, nms_Un, qaL, nms_Hf, qaP, qaK, qbF, qbU, qci, qck, zS, zW, zP, zR, ren_B8, qcX, qcY, ren_I, ren_N, ren_Bo, ren_Un, qa9, ren_Hf, qbM, qcd, qcj, qcl, zG, zF, ren7_I, ren7_N, qc0, qc1, qcE, qcF, nms7_I, nms7_N, qc2, qc3, qcG, qcH, qc4, qc5, implies_true, l50, qai, qbh, qaW, qbd, qa8, qag, qak, qaj, qah, qae, qac, qad, qan]) only [qba, qau, qa3, qao, qap, qam, qaf, qaN, qaq, qa7, qaz, qaI, qar, qaF, qaB, qa1, qaT, qaa, qa4, qaw, qaY, zK, zL, zN, zO, zG, zF, zS, zW, zR, zJ, zM, qcB, Nat.reduceAdd, Nat.reduceSub, qaX, qaQ, qbe, qb6, qbx, op_ld, qbt, qbf, op_fa, faV_ptr, zw, zx, zh, Nat.reduceLT, zC, zB, zE, zT, qbF, qbU, aW_calK, zZ, zE, zB, qbY, N_sub, N_geq, qbO, Nat.reduceLT, Nat.reduceAdd, zT, nm_beq, zu, zf, op_chk, chkV_ptr, qbi, qaV, qbL, qdc, op_slcS, slcV_none, qdd, op_arrp, arrpV_sl, zZ, qbz, qb3, ordK_pure, ordK_mod, qbE, qcr, touch_ld, touch_st, qcL, reach_none, nms_fn, qaP, za, zY, zz, z6, z0, ordOk, qbv, zw, zx, Nat.testBit, Nat.reduceShiftRight, Nat.reduceAnd, Nat.reduceBEq, zf, zu, z7, zh, zzH, Nat.reduceSub, Nat.reduceLT, bne, qbN, qcp, trimO_f, qbI, qcf, qdk, isCall_st, qcv, zzH, zh, L42b0, h0, h1, e1, e2, hc, hblk, Hs_state, Hs_rest, Hs_st0]
    rfl
  · refine qaU [(1, 0)] rfl (by simp only [qaA, FUEL, qaH, qaD, qaE, qaP, qaK, qaL, zS, zW, zP, zV, zR, zF, zG, zY, za, zD, zt, zo, ze, zH, zU, zp, zzF, zC, zA, zd, zi, zm, zg, zl, ne_eq, zq, z9, qab, qaJ, qaC, qav, qcP, qaO, L42k0, h0, h1, h01, qdb, qbh, reachK_gone]) rfl ⟨_, rfl, ?_, ?_, ?_⟩
    · rw [qcm]
      simp (disch:=first|omega|decide|simp only[qai,qag,qak,qaj,qah,qae,qac,qad,qan]) only[zI,qab,zC,zB,idx_cons,qdo,zI,qbk,qbX,h0,qcu,absN]
    · exact qas (1,0) rfl (by simp only[qab,zD,zH,zA,zd,h1]) (qaW _ _)
    · rw [qcm]
      simp only[qab,zD,zU,zA,zd,Option.map_none,h01]
set_option maxRecDepth 10000 in
theorem writeB (k:Nat) (s:Nat→BitVec 32) (n:Nat) (len:Nat) (l:List (BitVec 8)) (hl:len≤l.length) (b m:List (BitVec 8)) (hm:m=l.take len++b)  (hml:m.length≤211106232532992) (hn:n+b.length≤4611686018427387904) :
    ∃ l' : List (BitVec 8), F C (k + m.length / 64 + 100) 42 [.ptr (0, 0) 0, .isl (bs b) b.length] [HsC s (.sl (0, 1) 0 len none 1) n, bs l] =
      some (.tup [],[some (HsC (absN m s (m.length / 64)) (.sl (1,0) 0 (m.length - 64*(m.length / 64)) none 1) (n+b.length)),none],[bs l'])∧l'.take (m.length - 64*(m.length / 64))=m.drop (64*(m.length / 64))∧m.length - 64*(m.length / 64)≤l'.length:=by
  have hfr:∀ H:Heap,front H 1 b.length (.isl (bs b) b.length)=some (bs b):=fun H=>qdn b b.length rfl
  obtain ⟨q,hq⟩:∃ q,q=m.length / 64:=⟨_,rfl⟩
  rw[←hq]
  have hblk:∀ s p,F C (k+q+99) 50 [.agg (aW 8 s),.agg (aB 64 p)] []=some (.agg (aW 8 (blk s p)),[],[]):=fun s p=>block_F (k+q+19) s p
  rw[qch f42]
  have hml2:m.length=len+b.length:=by rw[hm,zzI,zzJ,Nat.min_eq_left hl]
  have ha:∀ H:Heap,H (0,1)=some (bs l)→appX 20 1 1 b.length H [] (bs b) (.sl (0,1) 0 len none 1)=some ⟨.sl (20,0) 0 m.length none 1,[bs m],[((0,1),none)]⟩:=by
    intro H h
    rw[appX_none 1 1 _ _ _ _ _ (by omega),h,appN_bytes _ _ _ _ _ _ (by omega),z8,←hm,←hml2]
  have ha:=ha (upd (qcV [HsC s (.sl (0,1) 0 len none 1) n,bs l]) (0,0) (some (HsC s (.sl (0,1) 0 len none 1) (n+b.length)))) (by simp only[qab,zD,zU,zA,zd,qbn,List.getElem?_cons_zero,List.getElem?_cons_succ])
  simp (disch:=first|omega|decide|simp only[qai,qag,qak,qaj,qah,qae,qac,qad,qan]) only[qbb,qba,qau,qa3,qao,qap,qam,qaf,qaN,qaq,qa7,qaz,qaI,qar,qaF,qaB,qaa,qaw,qat,zK,zL,zN,zO,zP,zV,qa5,zy,zJ,zM,qbZ,Nat.reduceAdd,Nat.reduceSub,qab,qcz,qaQ,qbe,qbx,qbt,qbf,op_fa,faV_ptr,zD,Nat.reduceEqDiff,zH,zU,zC,zA,zB,zE,zi,zE,zB,qbY,cellsOf_N,Nat.reduceEqDiff,Nat.reduceAdd,op_chk,chkV_ptr,eqp_ptr,qbi,qaV,qbD,qcT,qdi,qb8,qb9,qcb,qbn,List.getElem?_cons_zero,stepK_nm,L42,Hs_n,Hs_rest,Hs_st9,Hs_st8,hfr,ha]
  generalize hL:qca L42k0 _ _ _=r
  refine qbJ hL (wJB s m (n+b.length)) q (by omega) (fun i st hi hI=>wr_roundB _ _ hblk s m (n+b.length) hml i (by omega) st hI) ?_ ?_ ?_
  · refine qaU [(20, 0)] rfl (by simp only [qaA, FUEL, qaH, qaD, qaE, qaP, qaK, qaL, zS, zW, zP, zV, zR, zF, zG, zY, za, zD, zt, zo, ze, Nat.reduceEqDiff, zH, zU, zp, zzF, zC, zA, zd, zi, zm, zg, zl, ne_eq, zq, z9, qab, qaJ, qaC, qav, qbn, qaZ, qcP, List.getElem?_cons_zero, List.getElem?_cons_succ, qaO, L42k0, qdb, qbh, reachK_gone]) rfl ⟨_, rfl, ?_, ?_, ?_⟩
    · rw [qcm]
      simp (disch:=first|omega|decide|simp only[qai,qag,qak,qaj,qah,qae,qac,qad,qan]) only[zI,qab,zD,Nat.reduceEqDiff,zH,zU,zC,zA,zB,zi,idx_cons,qdo,zI,qbn,List.getElem?_cons_zero,qbk,qbX,qcu,absN]
    · exact qas (20,0) rfl (by simp only[qab,zD,Nat.reduceEqDiff,zH,zX,zC,zA,zi]) (qaW _ _)
    · rw [qcm]
      simp only[qab,zD,Nat.reduceEqDiff,zU,zX,zC,zA,zd,Option.map_none,qbn,List.getElem?_cons_zero,List.getElem?_cons_succ]
  · rintro st ⟨H, rfl, h0, h1, h01⟩
    have e1:¬ 64≤m.length - 64*q:=by omega
    apply qbs
    simp (disch:=first|omega|decide|simp only[qai,qag,qak,qaj,qah,qae,qac,qad,qan]) only[qa6,qau,qao,qap,qam,qaf,qaN,qaq,qaz,qaI,qar,qaF,qaB,qaa,qaG,qaw,qat,zK,zL,zN,zO,zJ,zM,Nat.reduceAdd,qaQ,qbe,qbx,op_fa,faV_ptr,zB,zE,zQ,N_sub,N_geq,Nat.reduceAdd,zQ,op_chk,chkV_ptr,qbi,qaV,qbL,L42b0,h0,Hs_rest,e1]
    rfl
  · rintro st ⟨H, rfl, h0, h1, h01⟩ rfl
    have e1:¬ 64≤m.length - 64*q:=by omega
    have e2:64*q≤m.length:=by omega
    obtain ⟨l',ms,hcp,hms,ht1,ht2⟩:=copied m (64*q) (m.length - 64*q) (by omega)
    have hcp':=hcp (only [(1,0),(1,0)] H) (by simp only[zC,qbE,za,zY,zz,z6,z0,h1])
    refine ⟨l',?_,ht1,ht2⟩
    rcases hms with ⟨rfl,rfl⟩ | rfl
    · simp (disch := first | omega | decide | simp only [qai, qag, qak, qaj, qah, qae, qac, qad, qan]) only [qa6, qau, qao, qap, qam, qaf, qaN, qaq, qa7, qaz, qaI, qar, qaF, qaB, qaa, qaG, qbc, qaw, qat, retK_normal, zK, zL, zN, zO, zP, zV, zJ, zM, zI, Nat.reduceAdd, Nat.reduceSub, qcz, qaQ, qbe, qbx, qbt, qbf, op_fa, faV_ptr, zw, zx, zh, Nat.reduceLT, zC, zB, zE, zT, zQ, zZ, zE, zB, N_sub, N_geq, qbO, Nat.reduceLT, Nat.reduceAdd, zQ, zT, zu, zf, op_chk, chkV_ptr, qbi, qaV, qbL, qbB, qdi, op_copy, qcw, qdc, op_slcS, slcV_none, qdd, zI, Nat.sub_zero, zZ, resVal_none, qbz, qb3, ordK_pure, qbE, qcr, touch_copy, qaP, za, zY, zz, z6, z0, ordOk, qbv, zw, zx, Nat.testBit, Nat.reduceShiftRight, Nat.reduceAnd, Nat.reduceBEq, zf, zu, z7, zh, Nat.reduceSub, Nat.reduceLT, bne, qbN, qcp, qbI, qcf, isCall_copy, zh, L42b0, h0, qaK, Hs_rest, Hs_st8, e1, hcp']
      rw[qcc 2 _ _ [(1,0)] (by simp only[qaA,FUEL,qaH,qaD,qaE,qaK,zS,zW,zP,zV,zR,zF,zG,zY,za,zD,zt,zo,ze,zH,zU,zp,zC,zA,zd,zi,zm,zg,zl,ne_eq,zq,z9,qab,qcP,h1,h01,qdb,qbh,nms_tup0,reachK_gone])]
      simp (disch:=first|omega|decide|simp only[qai,qag,qak,qaj,qah,qae,qac,qad,qan]) only[zG,zF,zI,qab,zD,zH,true_and,zC,zA,zB,zd,idx_cons,qdo,zzC,zI,Option.map_none,qaW,qcP,List.filterMap_cons,qbk,qbX,ren_tup0,h1,h01,qcu]
    · simp (disch := first | omega | decide | simp only [qai, qag, qak, qaj, qah, qae, qac, qad, qan]) only [qa6, qau, qao, qap, qam, qaf, qaN, qaq, qa7, qaz, qaI, qar, qaF, qaB, qaa, qaG, qbc, qaw, qat, retK_normal, zK, zL, zN, zO, zP, zV, zJ, zM, zI, Nat.reduceAdd, Nat.reduceSub, qab, qcz, qaQ, qbe, qbx, qbt, qbf, op_fa, faV_ptr, zw, zx, zh, zD, Nat.reduceLT, zH, zC, zA, zB, zE, zT, zQ, zi, zZ, zE, zB, N_sub, N_geq, qbO, Nat.reduceLT, Nat.reduceAdd, zQ, zT, nm_beq, zu, zf, op_chk, chkV_ptr, qbi, qaV, qbL, qbB, qdi, op_copy, qcw, qdc, op_slcS, slcV_none, qdd, zI, Nat.sub_zero, zZ, resVal_none, qbz, qb3, ordK_pure, ordK_mod, qbE, qcr, touch_copy, qaP, za, zY, zz, z6, z0, ordOk, qbv, zw, zx, Nat.testBit, Nat.reduceShiftRight, Nat.reduceAnd, Nat.reduceBEq, zf, zu, z7, zh, Nat.reduceSub, Nat.reduceLT, bne, qbN, qcp, trimO_f, qbI, qcf, isCall_copy, zh, L42b0, h0, qaK, Hs_rest, Hs_st8, e1, hcp']
      rw[qcc 2 _ _ [(1,0)] (by simp only[qaA,FUEL,qaH,qaD,qaE,qaK,zS,zW,zP,zV,zR,zF,zG,zY,za,zD,zt,zo,ze,zH,zU,zp,zC,zA,zd,zi,zm,zg,zl,ne_eq,zq,z9,qab,qcP,h01,qdb,qbh,nms_tup0,reachK_gone])]
      simp (disch:=first|omega|decide|simp only[qai,qag,qak,qaj,qah,qae,qac,qad,qan]) only[zG,zF,zI,qab,zD,zH,true_and,false_and,zC,zA,zB,zd,zi,idx_cons,qdo,zzC,zI,Option.map_none,qaW,qcP,List.filterMap_cons,qbk,qbX,ren_tup0,h01,qcu]
def wJC (s:Nat→BitVec 32) (m:List (BitVec 8)) (n:Nat) (i:Nat) (st:St):Prop := ∃ (H:Heap),st=⟨[.ptr (0,0) 0,.undef,.undef,.undef,N (64*i),.undef,.undef,.undef,.undef,.undef,.undef,.undef,.undef,.undef,.undef,.undef,.undef,.undef,.undef,.undef,.undef,.undef,.undef,.undef,.undef,.undef,.undef,.undef,.undef,.undef,.undef,.undef,.undef,.undef,.undef,.undef,.undef,.undef,.undef,.undef,.undef,.undef,.undef,.undef,.undef,.undef,.undef,.undef,.undef,.undef,.undef,.undef,.undef,.undef,.undef,.undef,.undef,.undef,.undef,.undef,.undef,.undef,.undef,.undef,.undef,.undef,.undef,.undef,.undef,.undef,.undef,.undef,.undef,.undef],H,2,2⟩ ∧
  H (0,0)=some (HsC (absN m s i) (.sl (1,0) 0 m.length none 1) n)∧H (1,0)=some (bs m)∧H (0,1)=(some (bs []))
set_option maxRecDepth 10000 in
theorem wr_roundC (K k0:Nat) (hblk:∀ s p,F C k0 50 [.agg (aW 8 s),.agg (aB 64 p)] []=some (.agg (aW 8 (blk s p)),[],[])) (s:Nat→BitVec 32) (m:List (BitVec 8)) (n:Nat) (hm:m.length≤211106232532992)
    (i:Nat) (hi:64*i+64≤m.length) (st:St) (hI:wJC s m n i st) :
    ∃ st1,ev (envC C k0) K L42b0 st=some (.normal,st1)∧wJC s m n (i+1) (qby L42k0 st1):=by
  obtain ⟨H,rfl,h0,h1,h01⟩:=hI
  have hc:=bs_chunk m i hi
  have e1:64≤m.length - 64*i:=by omega
  have e2:64*i+64 - 64*i=64:=by omega
  apply Exists.intro
  apply And.intro
  · simp (disch := first | omega | decide | simp only [nms_B8, qcy, qcR, nms_I, qaO, nms_Bo, nms_Un, qaL, nms_Hf, qaP, qaK, qbF, qbU, qci, qck, zS, zW, zP, zR, ren_B8, qcX, qcY, ren_I, ren_N, ren_Bo, ren_Un, qa9, ren_Hf, qbM, qcd, qcj, qcl, zG, zF, ren7_I, ren7_N, qc0, qc1, qcE, qcF, nms7_I, nms7_N, qc2, qc3, qcG, qcH, qc4, qc5, implies_true, l50, qai, qbh, qaW, qbd, qa8, qag, qak, qaj, qah, qae, qac, qad, qan]) only [qba, qau, qa3, qao, qap, qam, qaf, qaN, qaq, qa7, qaz, qaI, qar, qaF, qaB, qa1, qaT, qaa, qa4, qaw, qaY, zK, zL, zN, zO, zG, zF, zS, zW, zR, zJ, zM, qcB, Nat.reduceAdd, Nat.reduceSub, qaX, qaQ, qbe, qb6, qbx, op_ld, qbt, qbf, op_fa, faV_ptr, zw, zx, zh, Nat.reduceLT, zC, zB, zE, zT, qbF, qbU, aW_calK, zZ, zE, zB, qbY, N_sub, N_geq, qbO, Nat.reduceLT, Nat.reduceAdd, zT, nm_beq, zu, zf, op_chk, chkV_ptr, qbi, qaV, qbL, qdc, op_slcS, slcV_none, qdd, op_arrp, arrpV_sl, zZ, qbz, qb3, ordK_pure, ordK_mod, qbE, qcr, touch_ld, touch_st, qcL, reach_none, nms_fn, qaP, za, zY, zz, z6, z0, ordOk, qbv, zw, zx, Nat.testBit, Nat.reduceShiftRight, Nat.reduceAnd, Nat.reduceBEq, zf, zu, z7, zh, zzH, Nat.reduceSub, Nat.reduceLT, bne, qbN, qcp, trimO_f, qbI, qcf, qdk, isCall_st, qcv, zzH, zh, L42b0, h0, h1, e1, e2, hc, hblk, Hs_state, Hs_rest, Hs_st0]
    rfl
  · refine qaU [(1, 0)] rfl (by simp only [qaA, FUEL, qaH, qaD, qaE, qaP, qaK, qaL, zS, zW, zP, zV, zR, zF, zG, zY, za, zD, zt, zo, ze, zH, zU, zp, zzF, zC, zA, zd, zi, zm, zg, zl, ne_eq, zq, z9, qab, qaJ, qaC, qav, qcP, qaO, L42k0, h0, h1, h01, qdb, qbh]) rfl ⟨_, rfl, ?_, ?_, ?_⟩
    · rw [qcm]
      simp (disch:=first|omega|decide|simp only[qai,qag,qak,qaj,qah,qae,qac,qad,qan]) only[zI,qab,zC,zB,idx_cons,qdo,zI,qbk,qbX,h0,qcu,absN]
    · exact qas (1,0) rfl (by simp only[qab,zD,zH,zA,zd,h1]) (qaW _ _)
    · rw [qcm]
      simp only[zI,qab,zD,zU,zA,zd,zI,qaW,h01]
set_option maxRecDepth 10000 in
theorem writeC (k:Nat) (s:Nat→BitVec 32) (n:Nat)  (b m:List (BitVec 8)) (hm:m=b)  (hb0:b≠[]) (hml:m.length≤211106232532992) (hn:n+b.length≤4611686018427387904) :
    ∃ l' : List (BitVec 8), F C (k + m.length / 64 + 100) 42 [.ptr (0, 0) 0, .isl (bs b) b.length] [HsC s (.sl (0, 1) 0 0 (some 0) 1) n, bs []] =
      some (.tup [],[some (HsC (absN m s (m.length / 64)) (.sl (1,0) 0 (m.length - 64*(m.length / 64)) none 1) (n+b.length)),some (bs [])],[bs l'])∧l'.take (m.length - 64*(m.length / 64))=m.drop (64*(m.length / 64))∧m.length - 64*(m.length / 64)≤l'.length:=by
  have hbl:0 < b.length:=List.length_pos_iff.2 hb0
  have hfr:∀ H:Heap,front H 1 b.length (.isl (bs b) b.length)=some (bs b):=fun H=>qdn b b.length rfl
  obtain ⟨q,hq⟩:∃ q,q=m.length / 64:=⟨_,rfl⟩
  rw[←hq]
  have hblk:∀ s p,F C (k+q+99) 50 [.agg (aW 8 s),.agg (aB 64 p)] []=some (.agg (aW 8 (blk s p)),[],[]):=fun s p=>block_F (k+q+19) s p
  rw[qch f42]
  have ha:∀ H:Heap,H (0,1)=some (bs [])→appX 20 1 1 b.length H [] (bs b) (.sl (0,1) 0 0 (some 0) 1)=some ⟨.sl (20,0) 0 m.length none 1,[bs m],[]⟩:=by
    intro H h
    rw[appX_full _ (0,1) 0 0 0 [] b h (by simp) (by subst hm; omega) (by omega),←hm]
    simp only[zzD,zzL,zP,zB]
  have ha:=ha (upd (qcV [HsC s (.sl (0,1) 0 0 (some 0) 1) n,bs []]) (0,0) (some (HsC s (.sl (0,1) 0 0 (some 0) 1) (n+b.length)))) (by simp only[qab,zD,zU,zA,zd,qbn,List.getElem?_cons_zero,List.getElem?_cons_succ])
  simp (disch:=first|omega|decide|simp only[qai,qag,qak,qaj,qah,qae,qac,qad,qan]) only[qbb,qba,qau,qa3,qao,qap,qam,qaf,qaN,qaq,qa7,qaz,qaI,qar,qaF,qaB,qaa,qaw,qat,zK,zL,zN,zO,zP,zV,qa5,zy,zJ,zM,qbZ,Nat.reduceAdd,Nat.reduceSub,qab,qdh,qcz,qaQ,qbe,qbx,qbt,qbf,op_fa,faV_ptr,zD,Nat.reduceEqDiff,zH,zC,zA,zB,zE,zE,zB,qbY,cellsOf_N,Nat.reduceEqDiff,Nat.reduceAdd,op_chk,chkV_ptr,eqp_ptr,qbi,qaV,qbD,qcT,qdi,qb8,qb9,qcb,qbn,List.getElem?_cons_zero,L42,Hs_n,Hs_rest,Hs_st9,Hs_st8,hfr,ha]
  generalize hL:qca L42k0 _ _ _=r
  refine qbJ hL (wJC s m (n+b.length)) q (by omega) (fun i st hi hI=>wr_roundC _ _ hblk s m (n+b.length) hml i (by omega) st hI) ?_ ?_ ?_
  · refine qaU [(20, 0)] rfl (by simp only [qaA, FUEL, qaH, qaD, qaE, qaP, qaK, qaL, zS, zW, zP, zV, zR, zF, zG, zY, za, zD, zt, zo, ze, Nat.reduceEqDiff, zH, zU, zp, zzF, zC, zA, zd, zi, zm, zg, zl, ne_eq, zq, z9, qab, qaJ, qaC, qav, qbn, qaZ, qcP, List.getElem?_cons_zero, List.getElem?_cons_succ, qaO, L42k0, qdb, qbh]) rfl ⟨_, rfl, ?_, ?_, ?_⟩
    · rw [qcm]
      simp (disch:=first|omega|decide|simp only[qai,qag,qak,qaj,qah,qae,qac,qad,qan]) only[zI,qab,zD,Nat.reduceEqDiff,zH,zC,zA,zB,idx_cons,qdo,zI,qbn,List.getElem?_cons_zero,qbk,qbX,qcu,absN]
    · exact qas (20,0) rfl (by simp only[qab,zD,Nat.reduceEqDiff,zH,zC,zA]) (qaW _ _)
    · rw [qcm]
      simp only[zI,qab,zD,Nat.reduceEqDiff,zU,zX,zA,zd,zI,qaW,qbn,List.getElem?_cons_zero,List.getElem?_cons_succ,qaW]
  · rintro st ⟨H, rfl, h0, h1, h01⟩
    have e1:¬ 64≤m.length - 64*q:=by omega
    apply qbs
    simp (disch:=first|omega|decide|simp only[qai,qag,qak,qaj,qah,qae,qac,qad,qan]) only[qa6,qau,qao,qap,qam,qaf,qaN,qaq,qaz,qaI,qar,qaF,qaB,qaa,qaG,qaw,qat,zK,zL,zN,zO,zJ,zM,Nat.reduceAdd,qaQ,qbe,qbx,op_fa,faV_ptr,zB,zE,zQ,N_sub,N_geq,Nat.reduceAdd,zQ,op_chk,chkV_ptr,qbi,qaV,qbL,L42b0,h0,Hs_rest,e1]
    rfl
  · rintro st ⟨H, rfl, h0, h1, h01⟩ rfl
    have e1:¬ 64≤m.length - 64*q:=by omega
    have e2:64*q≤m.length:=by omega
    obtain ⟨l',ms,hcp,hms,ht1,ht2⟩:=copied m (64*q) (m.length - 64*q) (by omega)
    have hcp':=hcp (only [(1,0),(1,0)] H) (by simp only[zC,qbE,za,zY,zz,z6,z0,h1])
    refine ⟨l',?_,ht1,ht2⟩
    rcases hms with ⟨rfl,rfl⟩ | rfl
    · simp (disch := first | omega | decide | simp only [qai, qag, qak, qaj, qah, qae, qac, qad, qan]) only [qa6, qau, qao, qap, qam, qaf, qaN, qaq, qa7, qaz, qaI, qar, qaF, qaB, qaa, qaG, qbc, qaw, qat, retK_normal, zK, zL, zN, zO, zP, zV, zJ, zM, zI, Nat.reduceAdd, Nat.reduceSub, qcz, qaQ, qbe, qbx, qbt, qbf, op_fa, faV_ptr, zw, zx, zh, Nat.reduceLT, zC, zB, zE, zT, zQ, zZ, zE, zB, N_sub, N_geq, qbO, Nat.reduceLT, Nat.reduceAdd, zQ, zT, zu, zf, op_chk, chkV_ptr, qbi, qaV, qbL, qbB, qdi, op_copy, qcw, qdc, op_slcS, slcV_none, qdd, zI, Nat.sub_zero, zZ, resVal_none, qbz, qb3, ordK_pure, qbE, qcr, touch_copy, qaP, za, zY, zz, z6, z0, ordOk, qbv, zw, zx, Nat.testBit, Nat.reduceShiftRight, Nat.reduceAnd, Nat.reduceBEq, zf, zu, z7, zh, Nat.reduceSub, Nat.reduceLT, bne, qbN, qcp, qbI, qcf, isCall_copy, zh, L42b0, h0, qaK, Hs_rest, Hs_st8, e1, hcp']
      rw[qcc 2 _ _ [(1,0)] (by simp only[qaA,FUEL,qaH,qaD,qaE,qaK,zS,zW,zP,zV,zR,zF,zG,zY,za,zD,zt,zo,ze,zH,zU,zp,zC,zA,zd,zi,zm,zg,zl,ne_eq,zq,z9,qab,qcP,h1,h01,qdb,qbh,nms_tup0])]
      simp (disch:=first|omega|decide|simp only[qai,qag,qak,qaj,qah,qae,qac,qad,qan]) only[zG,zF,zI,qab,zD,zH,true_and,zC,zA,zB,zd,idx_cons,qdo,zzC,zI,qaW,qcP,List.filterMap_cons,qbk,qbX,ren_tup0,h1,h01,qcu]
    · simp (disch := first | omega | decide | simp only [qai, qag, qak, qaj, qah, qae, qac, qad, qan]) only [qa6, qau, qao, qap, qam, qaf, qaN, qaq, qa7, qaz, qaI, qar, qaF, qaB, qaa, qaG, qbc, qaw, qat, retK_normal, zK, zL, zN, zO, zP, zV, zJ, zM, zI, Nat.reduceAdd, Nat.reduceSub, qab, qcz, qaQ, qbe, qbx, qbt, qbf, op_fa, faV_ptr, zw, zx, zh, zD, Nat.reduceLT, zH, zC, zA, zB, zE, zT, zQ, zi, zZ, zE, zB, N_sub, N_geq, qbO, Nat.reduceLT, Nat.reduceAdd, zQ, zT, nm_beq, zu, zf, op_chk, chkV_ptr, qbi, qaV, qbL, qbB, qdi, op_copy, qcw, qdc, op_slcS, slcV_none, qdd, zI, Nat.sub_zero, zZ, resVal_none, qbz, qb3, ordK_pure, ordK_mod, qbE, qcr, touch_copy, qaP, za, zY, zz, z6, z0, ordOk, qbv, zw, zx, Nat.testBit, Nat.reduceShiftRight, Nat.reduceAnd, Nat.reduceBEq, zf, zu, z7, zh, Nat.reduceSub, Nat.reduceLT, bne, qbN, qcp, trimO_f, qbI, qcf, isCall_copy, zh, L42b0, h0, qaK, Hs_rest, Hs_st8, e1, hcp']
      rw[qcc 2 _ _ [(1,0)] (by simp only[qaA,FUEL,qaH,qaD,qaE,qaK,zS,zW,zP,zV,zR,zF,zG,zY,za,zD,zt,zo,ze,zH,zU,zp,zC,zA,zd,zi,zm,zg,zl,ne_eq,zq,z9,qab,qcP,h01,qdb,qbh,nms_tup0])]
      simp (disch:=first|omega|decide|simp only[qai,qag,qak,qaj,qah,qae,qac,qad,qan]) only[zG,zF,zI,qab,zD,zH,true_and,false_and,zC,zA,zB,zd,zi,idx_cons,qdo,zzC,zI,qaW,qcP,List.filterMap_cons,qbk,qbX,ren_tup0,h01,qcu]
end Sha
namespace Sha
open Go Go.LE
theorem C_bor:C.borrow=lentF:=rfl
theorem clone_callG (k b:Nat) (H:Heap) (j len len':Nat) (c c':Option Nat) (l l':List (BitVec 8)) (h:H (0,j)=some (bs l))
    (hc:F C (k+1) 38 [.sl (0,0) 0 len c 1] [bs l]=some (.sl (1,0) 0 len' c' 1,[some (bs l)],[bs l'])) :
    qb1 (envC C (k+1)) H b 38 [.sl (0,j) 0 len c 1]=some ⟨.sl (b,0) 0 len' c' 1,[bs l'],[((0,j),some (bs l))]⟩:=by
  have hr:reach H FUEL [] [(0,j)]=[(0,j)]:=by
    simp only[FUEL,qaH,zY,ze,zA,h,qaD,qbh,zP,qaE]
  have hl:lend H ((envC C (k+1)).borrow 38) 0 [.sl (0,j) 0 len c 1]=some ([.sl (0,j) 0 len c 1],[]):=rfl
  rw[callOp_L,hl,callL_some]
  rw[show ([LV.sl (0,j) 0 len c 1]:List LV).flatMap (nms D)=[(0,j)] from rfl,hr,callN_eq _ _ _ _ _ rfl]
  rw[show ([(0,j)]:List Nm).filterMap H=[bs l] by simp[h]]
  have hi:∀ x:Nm,idx x [x] 0=some 0:=fun x=>by simp[idx]
  have ha:([LV.sl (0,j) 0 len c 1]:List LV).map (ren D (qc7 [(0,j)]))=[.sl (0,0) 0 len c 1]:=by
    simp only[zG,zF,qbk,toCallee_eq,hi,zI,qbX]
  rw[ha,zG,zF,qaW,envC_cal,hc]
  rw[show ([]:List Nm).isEmpty=true from rfl,resK_sc,qc9]
  simp only[qbk,toCaller_1,zJ,zM,zB,Nat.lt_one_iff,qbX,zG,zF,qaW,List.zipWith_cons_cons,List.zipWith_nil_left,zI]
theorem forkG (k:Nat) (s:Nat→BitVec 32) (n len len':Nat) (c c':Option Nat) (l l':List (BitVec 8))
    (hc:F C (k+1) 38 [.sl (0,0) 0 len c 1] [bs l]=some (.sl (1,0) 0 len' c' 1,[some (bs l)],[bs l'])) :
    F C (k+2) 51 [.ptr (0,0) 0] [HsC s (.sl (0,1) 0 len c 1) n,bs l]=some (.ptr (1,0) 0,[some (HsC s (.sl (0,1) 0 len c 1) n),some (bs l)],[HsC s (.sl (1,1) 0 len' c' 1) n,bs l']):=by
  rw[qch f51]
  have hf:=fill_fork s (.sl (13,0) 0 len' c' 1) n rfl
  have hcl:=clone_callG k 13 (only [(0,1)] (qcV [HsC s (.sl (0,1) 0 len c 1) n,bs l])) 1 len len' c c' l l' (by simp only[zC,qbn,List.getElem?_cons_zero,List.getElem?_cons_succ,qbE,za,zY,zz,z0]) hc
  simp (disch:=first|omega|decide|simp only[qai,qag,qak,qaj,qah,qae,qac,qad,qan]) only[qbb,qba,qbp,qau,qao,qap,qam,qaf,qaN,qaq,qaz,qaI,qar,qaF,qaB,qa1,qaT,qaa,qaw,qat,qbg,qbl,zK,zL,zN,zO,zG,zF,zS,zW,zP,zV,zR,qa5,zy,zJ,zM,zI,Nat.reduceAdd,Nat.reduceSub,qab,qdh,qaX,qaQ,qbe,qb6,qbx,op_ld,op_box,qcg,op_fa,faV_ptr,aggR_some,op_build,zw,zx,zh,zD,Nat.reduceEqDiff,Nat.reduceLT,zH,zU,zC,zA,zB,zE,zT,zi,zE,zB,Nat.reduceLT,Nat.reduceEqDiff,Nat.reduceAdd,zT,nm_beq,zu,zf,op_chk,chkV_ptr,eqp_ptr,qax,qaM,qay,qa0,zI,qbh,qbn,List.getElem?_cons_zero,List.getElem?_cons_succ,qbz,qb3,qbE,qcr,touch_ld,qcL,nms_fn,qaP,za,zY,zz,z6,z0,ordOk,qbv,zw,zx,Nat.testBit,Nat.reduceShiftRight,Nat.reduceAnd,Nat.reduceBEq,zf,zu,z7,zh,zzH,Nat.reduceSub,Nat.reduceLT,bne,qbN,qcp,trimO_f,qbI,qcf,qdk,qcv,zzH,zh,FUEL,qaH,qaD,qaE,qaP,qaK,zS,zW,zP,zV,zR,zF,zG,zY,za,zD,ze,Nat.reduceEqDiff,Nat.reduceBEq,zH,zU,zC,zA,zi,qab,Nat.reduceAdd,qbn,List.getElem?_cons_zero,List.getElem?_cons_succ,L51,Hs_n,Hs_rest,Hs_state,zero10,hf,hcl,qbo]
  rw[qcc 2 _ _ [(19,0),(13,0)] (by simp only[qaA,FUEL,qaH,qaD,qaE,qaP,qaK,zS,zW,zP,zV,zR,zF,zG,zY,za,zD,zt,zo,ze,Nat.reduceEqDiff,zH,zU,zp,zzF,zC,zA,zd,zi,zm,zg,zl,ne_eq,zq,z9,qab,qbn,qaZ,qcP,List.getElem?_cons_zero,List.getElem?_cons_succ,qdb,qbh])]
  simp (disch:=first|omega|decide|simp only[qai,qag,qak,qaj,qah,qae,qac,qad,qan]) only[zG,zF,zI,Nat.reduceAdd,qab,zD,Nat.reduceEqDiff,zH,true_and,false_and,zX,zC,zA,zB,zi,idx_cons,qcM,qdo,zzC,zI,qaW,qbn,qaZ,qcP,List.getElem?_cons_zero,List.getElem?_cons_succ,List.filterMap_cons,qbT,qbk,ptrO_some,qbX,qcu]
theorem clone_C (k:Nat):F C (k+1) 38 [.sl (0,0) 0 0 (some 0) 1] [bs []]=some (.sl (1,0) 0 0 (some 0) 1,[some (bs [])],[bs []]):=by
  rw[qch f38]
  have ha:∀ H:Heap,H (5,0)=some []→appX 7 1 1 0 H [] [] (.sl (5,0) 0 0 (some 0) 1)=some ⟨.sl (5,0) 0 0 (some 0) 1,[],[((5,0),some [])]⟩:=by
    intro H h
    simp only[appX,h,qb2]
    rfl
  have hb:=ha (upd (qcV [bs []]) (5,0) (some [])) rfl
  simp (disch:=first|omega|decide|simp only[qai,qag,qak,qaj,qah,qae,qac,qad,qan]) only[qbb,qba,qbp,qau,qao,qap,qam,qaf,qaN,qaq,qaz,qaI,qar,qaF,qaB,qaa,qaw,qat,qbg,qbl,zK,zL,zN,zO,zF,zP,zV,qa5,zy,zJ,zM,zI,Nat.reduceAdd,Nat.reduceSub,qdh,qcz,qbW,zB,zE,zE,zB,Nat.reduceAdd,eqs_sl,qbB,front_sl0,qb8,qb9,qcb,qbK,qbw,zI,L38,hb]
  rw[qcc 1 _ _ [(5,0)] (by simp only[qaA,FUEL,qaH,qaD,qaE,qaK,zS,zW,zP,zV,zR,zF,zG,zY,za,zD,zt,zo,ze,Nat.reduceEqDiff,zH,zp,zC,zA,zm,zg,zl,ne_eq,zq,z9,qab,qbn,qaZ,qce,List.getElem?_cons_zero,qbh])]
  simp only[zG,zF,zI,qab,zD,Nat.reduceEqDiff,false_and,zC,zA,zzC,zI,qaW,qbn,qce,List.getElem?_cons_zero,List.filterMap_cons,qbk]
  rfl
end Sha
namespace Sha
open Go Go.LE
theorem noImm_HsC (s:Nat→BitVec 32) (m:Nm) (off len:Nat) (c:Option Nat) (n:Nat):(HsC s (.sl m off len c 1) n).all (noImm D)=true:=by
  simp only[HsC,List.all_append,zw,zx,zh]
  have h1:(aW 8 s).all (noImm D)=true:=by
    rw[List.all_eq_true]; intro x hx
    simp only[aW,arr,List.mem_map,List.mem_range] at hx
    obtain ⟨i,_,rfl⟩:=hx; rfl
  rw[h1]; rfl
theorem noImm_bs (l:List (BitVec 8)):(bs l).all (noImm D)=true:=by
  rw[List.all_eq_true]; intro x hx
  simp only[bs,List.mem_map] at hx
  obtain ⟨i,_,rfl⟩:=hx; rfl
structure Lent (H:Heap) (B:LV) (b:List (BitVec 8)) (names:List Nm):Prop where
  snap:∃ lent,snap H D B=some (.isl (bs b) b.length,lent)∧lent.any (fun n=>names.contains n)=false
theorem lent_sl (H:Heap) (m:Nm) (off len:Nat) (c:Option Nat) (l:List (BitVec 8)) (names:List Nm) (h:H m=some (bs l)) (hl:off+len≤l.length) (hn:names.contains m=false) :
    Lent H (.sl m off len c 1) ((l.drop off).take len) names:=by
  by_cases h0:len=0
  · subst h0
    refine ⟨[],?_,rfl⟩
    rw[snap_zero,zzB]; rfl
  · refine ⟨[m], ?_, by rw [List.any_cons, hn]; rfl⟩
    rw[snap_bytes m off len c l h h0]
    have:((l.drop off).take len).length=len:=by rw[zzJ,zzG]; omega
    rw[this]
theorem lent_isl (H:Heap) (b:List (BitVec 8)) (names:List Nm):Lent H (.isl (bs b) b.length) b names:=⟨[],snap_isl _ _,rfl⟩
theorem lend_w (k:Nat) (H:Heap) (fN:Nm) (B:LV) (b:List (BitVec 8)) (lent:List Nm) (h:snap H D B=some (.isl (bs b) b.length,lent)) :
    lend H ((envC C k).borrow 42) 0 [.ptr fN 0,B]=some ([.ptr fN 0,.isl (bs b) b.length],lent):=by
  rw[qde,qde,lend_nil,envC_borrow,C_bor]
  rw[if_neg (show ¬ lentF 42 0=true by decide),if_pos (show lentF 42 (0+1)=true by decide),h,lendC_some,lendC_some]
  simp
theorem resK_any (names:List Nm) (base:Nat) (plain:Bool) (res:CallRes) (h:plainRes res=true):resK names base plain (some res)=some (backTo names base res):=by
  simp[resK,h]
theorem idx0 (x:Nm) (xs:List Nm):idx x (x::xs) 0=some 0:=by simp[idx]
theorem idx1 (x y:Nm) (xs:List Nm) (h:x≠y):idx y (x::y::xs) 0=some 1:=by simp[idx,h]
theorem write_callA (k b:Nat) (H:Heap) (fN:Nm) (s s':Nat→BitVec 32) (n n' len:Nat) (B:LV) (bb l':List (BitVec 8)) (h:H fN=some (HsC s Nil n)) (hB:Lent H B bb [fN])
    (hw:F C k 42 [.ptr (0,0) 0,.isl (bs bb) bb.length] [HsC s Nil n]=some (.tup [],[some (HsC s' (.sl (1,0) 0 len none 1) n')],[bs l'])) :
    qb1 (envC C k) H b 42 [.ptr fN 0,B]=some ⟨.tup [],[bs l'],[(fN,some (HsC s' (.sl (b,0) 0 len none 1) n'))]⟩:=by
  obtain ⟨lent,hs,hl⟩:=hB.snap
  have hr:reach H FUEL [] [fN]=[fN]:=by
    simp only[FUEL,qaH,zY,ze,zA,h,qaD,qdb,qbu,zP,qaE]
  rw[callOp_L,lend_w k H fN B bb lent hs,callL_some]
  have hn:([.ptr fN 0,.isl (bs bb) bb.length]:List LV).flatMap (nms D)=[fN]:=by
    simp only[zS,zW,qaP,qbd,zR]
  rw[hn,hr,callN_eq _ _ _ _ _ hl,show ([fN]:List Nm).filterMap H=[HsC s Nil n] by simp[h]]
  have ha:([.ptr fN 0,.isl (bs bb) bb.length]:List LV).map (ren D (qc7 [fN]))=[.ptr (0,0) 0,.isl (bs bb) bb.length]:=by
    simp only[zG,zF,qbT,toCallee_eq,idx0,zI,ptrO_some,qa8]
  rw[ha,zG,zF,qcu,qda,envC_cal,hw,resK_any _ _ _ _ (by simp[plainRes,noImm_HsC,noImm_bs]; rfl),qc9]
  simp only[ren_tup0,qcu,qbk,toCaller_1,zJ,zM,zB,Nat.lt_one_iff,qbX,zG,zF,qaW,List.zipWith_cons_cons,List.zipWith_nil_left,zI]
theorem write_callG (k b:Nat) (H:Heap) (fN rN:Nm) (s s':Nat→BitVec 32) (n n' len rl:Nat) (c:Option Nat) (B:LV) (bb l l':List (BitVec 8)) (z:Option (List (BitVec 8))) (h:H fN=some (HsC s (.sl rN 0 rl c 1) n)) (h2:H rN=some (bs l)) (hne:fN≠rN)
    (hB:Lent H B bb [fN,rN])
    (hw:F C k 42 [.ptr (0,0) 0,.isl (bs bb) bb.length] [HsC s (.sl (0,1) 0 rl c 1) n,bs l]=some (.tup [],[some (HsC s' (.sl (1,0) 0 len none 1) n'),z.map bs],[bs l'])) :
    qb1 (envC C k) H b 42 [.ptr fN 0,B]=some ⟨.tup [],[bs l'],[(fN,some (HsC s' (.sl (b,0) 0 len none 1) n')),(rN,z.map bs)]⟩:=by
  obtain ⟨lent,hs,hl⟩:=hB.snap
  have hc:([fN]:List Nm).contains rN=false:=by simp; exact fun e=>hne e.symm
  have hr:reach H FUEL [] [fN]=[fN,rN]:=by
    simp only[FUEL,qaH,zY,ze,zA,h,qaD,qdb,qaK,zP,zV,hc,h2,qbh,qaE]
  rw[callOp_L,lend_w k H fN B bb lent hs,callL_some]
  have hn:([.ptr fN 0,.isl (bs bb) bb.length]:List LV).flatMap (nms D)=[fN]:=by
    simp only[zS,zW,qaP,qbd,zR]
  rw[hn,hr,callN_eq _ _ _ _ _ hl,show ([fN,rN]:List Nm).filterMap H=[HsC s (.sl rN 0 rl c 1) n,bs l] by simp[h,h2]]
  have ha:([.ptr fN 0,.isl (bs bb) bb.length]:List LV).map (ren D (qc7 [fN,rN]))=[.ptr (0,0) 0,.isl (bs bb) bb.length]:=by
    simp only[zG,zF,qbT,toCallee_eq,idx0,zI,ptrO_some,qa8]
  have hp:plainRes (.tup [],[some (HsC s' (.sl (1,0) 0 len none 1) n'),z.map bs],[bs l'])=true:=by
    cases z <;> simp[plainRes,noImm_HsC,noImm_bs] <;> rfl
  rw[ha,zG,zG,zF,qcu,qbk,toCallee_eq,idx1 _ _ _ hne,zI,qbX,qaW,envC_cal,hw,resK_any _ _ _ _ hp,qc9]
  have hz:∀ π,(z.map bs).map (fun cs=>List.map (ren D π) cs)=z.map bs:=by intro π; cases z <;> simp[qaW]
  simp only[ren_tup0,qcu,qbk,toCaller_1,zJ,zM,zB,Nat.lt_one_iff,qbX,zG,zF,qaW,List.zipWith_cons_cons,List.zipWith_nil_left,zI,hz]
theorem lend_p (k:Nat) (g:Nat) (hg:lentF g=fun _=>false) (H:Heap) (fN:Nm):lend H ((envC C k).borrow g) 0 [.ptr fN 0]=some ([.ptr fN 0],[]):=by
  rw[envC_borrow,C_bor,hg,lend_none]
theorem ptr_callG (k b g:Nat) (hg:lentF g=fun _=>false) (H:Heap) (fN rN:Nm) (s:Nat→BitVec 32) (n rl:Nat) (c:Option Nat) (l:List (BitVec 8)) (h:H fN=some (HsC s (.sl rN 0 rl c 1) n)) (h2:H rN=some (bs l)) (hne:fN≠rN)
    (r r':LV) (news news':List qaR)
    (hw:F C k g [.ptr (0,0) 0] [HsC s (.sl (0,1) 0 rl c 1) n,bs l]=some (r,[some (HsC s (.sl (0,1) 0 rl c 1) n),some (bs l)],news)) (hr:ren D (toCaller [fN,rN] b news.length) r=r')
    (hn:news.map (fun cs=>cs.map (ren D (toCaller [fN,rN] b news.length)))=news') :
    qb1 (envC C k) H b g [.ptr fN 0]=some ⟨r',news',[(fN,some (HsC s (.sl rN 0 rl c 1) n)),(rN,some (bs l))]⟩:=by
  have hc:([fN]:List Nm).contains rN=false:=by simp; exact fun e=>hne e.symm
  have hre:reach H FUEL [] [fN]=[fN,rN]:=by
    simp only[FUEL,qaH,zY,ze,zA,h,qaD,qdb,qaK,zP,zV,hc,h2,qbh,qaE]
  rw[callOp_L,lend_p k g hg H fN,callL_some]
  rw[show ([.ptr fN 0]:List LV).flatMap (nms D)=[fN] from rfl,hre,callN_eq _ _ _ _ _ rfl,show ([fN,rN]:List Nm).filterMap H=[HsC s (.sl rN 0 rl c 1) n,bs l] by simp[h,h2]]
  have ha:([.ptr fN 0]:List LV).map (ren D (qc7 [fN,rN]))=[.ptr (0,0) 0]:=by
    simp only[zG,zF,qbT,toCallee_eq,idx0,zI,ptrO_some]
  rw[ha,zG,zG,zF,qcu,qbk,toCallee_eq,idx1 _ _ _ hne,zI,qbX,qaW,envC_cal,hw,show ([]:List Nm).isEmpty=true from rfl,resK_sc,qc9,hr,hn]
  simp only[List.zipWith_cons_cons,List.zipWith_nil_left,zI,qcu,qbk,toCaller_0,List.getElem?_cons_succ,List.getElem?_cons_zero,qbX,qaW]
end Sha
