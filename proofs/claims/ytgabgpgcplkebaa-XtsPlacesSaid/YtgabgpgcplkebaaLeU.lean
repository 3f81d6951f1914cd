/- Calls, in this seat's table. -/
import Derived.Test.YtgabgpgcplkebaaLeT
import Derived.Test.YtgabgpgcplkebaaLeE
import Derived.Test.YtgabgpgcplkebaaLeP
set_option linter.unusedVariables false
set_option linter.unusedSimpArgs false
namespace Aes
open Go Go.LE
theorem qda {k:Nat} {H:Heap} {b:Nat} {g:FuncId} {args:List LV} (hb:qcf g=fun _=>false) (hn:args.flatMap (nms D)=[]) (hr:args.map (ren D (qbx []))=args) :
    qbD (envC C k) H b g args=calK b (F C k g args []):=callOp_sc H b hb hn hr
theorem C_bor:C.borrow=qcf:=rfl
theorem l17:qcf 17=fun _=>false:=by funext i; rfl
theorem l18:qcf 18=fun _=>false:=by funext i; rfl
theorem l19:qcf 19=fun _=>false:=by funext i; rfl
theorem l20:qcf 20=fun _=>false:=by funext i; rfl
theorem l22:qcf 22=fun _=>false:=by funext i; rfl
theorem l23:qcf 23=fun _=>false:=by funext i; rfl
theorem l26:qcf 26=fun _=>false:=by funext i; rfl
theorem l28:qcf 28=fun _=>false:=by funext i; rfl
theorem l29:qcf 29=fun _=>false:=by funext i; rfl
theorem l30:qcf 30=fun _=>false:=by funext i; rfl
theorem l31:qcf 31=fun _=>false:=by funext i; rfl
theorem l32:qcf 32=fun _=>false:=by funext i; rfl
theorem l33:qcf 33=fun _=>false:=by funext i; rfl
theorem l34:qcf 34=fun _=>false:=by funext i; rfl
theorem l35:qcf 35=fun _=>false:=by funext i; rfl
theorem l36:qcf 36=fun _=>false:=by funext i; rfl
theorem l37:qcf 37=fun _=>false:=by funext i; rfl
theorem l38:qcf 38=fun _=>false:=by funext i; rfl
theorem l39:qcf 39=fun _=>false:=by funext i; rfl
theorem l40:qcf 40=fun _=>false:=by funext i; rfl
theorem l41:qcf 41=fun _=>false:=by funext i; rfl
theorem l42:qcf 42=fun _=>false:=by funext i; rfl
theorem l43:qcf 43=fun _=>false:=by funext i; rfl
theorem l46:qcf 46=fun _=>false:=by funext i; rfl
theorem l47:qcf 47=fun _=>false:=by funext i; rfl
theorem l48:qcf 48=fun _=>false:=by funext i; rfl
theorem l49:qcf 49=fun _=>false:=by funext i; rfl
theorem l51:qcf 51=fun _=>false:=by funext i; rfl
theorem l53:qcf 53=fun _=>false:=by funext i; rfl
theorem l54:qcf 54=fun _=>false:=by funext i; rfl
theorem l56:qcf 56=fun _=>false:=by funext i; rfl
theorem l57:qcf 57=fun _=>false:=by funext i; rfl
theorem l58:qcf 58=fun _=>false:=by funext i; rfl
theorem l59:qcf 59=fun _=>false:=by funext i; rfl
theorem l60:qcf 60=fun _=>false:=by funext i; rfl
theorem l61:qcf 61=fun _=>false:=by funext i; rfl
theorem l62:qcf 62=fun _=>false:=by funext i; rfl
theorem l63:qcf 63=fun _=>false:=by funext i; rfl
theorem l65:qcf 65=fun _=>false:=by funext i; rfl
theorem l66:qcf 66=fun _=>false:=by funext i; rfl
end Aes
namespace Aes
open Go Go.LE
theorem twice (k:Nat) (a:BitVec 8):F C (k+1) 58 [B8 a] []=some (B8 (if 128#8≤a then (a <<< 1) ^^^ 27#8 else a <<< 1),[],[]):=by
  rw[qbT f58]
  by_cases h:128#8≤a
  · simp (disch:=first|omega|decide|simp only[qaf,qad,qag,qae,qah,qac,qaa,qab,qai]) only[qbk,qbI,qat,qao,qan,qal,qak,qaM,qar,qay,qaJ,qaq,qaH,qaG,qaj,qaD,qa3,qbr,qcI,zM,zN,zO,zP,zI,zR,qbd,z7,zK,zJ,B8_xor,B8_geq,B8_shl64,outOf_B8,zH,BitVec.toNat_ofNat,Nat.reduceAdd,Nat.reduceSub,zD,zA,zB,zT,Nat.reducePow,Nat.reduceMod,Nat.reduceAdd,Nat.reduceMod,zT,zH,L58,h,zT,zD]
  · simp (disch:=first|omega|decide|simp only[qaf,qad,qag,qae,qah,qac,qaa,qab,qai]) only[qbk,qbh,qbI,qat,qao,qan,qal,qak,qaM,qar,qay,qaJ,qaq,qaH,qaG,qaj,qaD,qas,qbr,qcI,zM,zN,zO,zP,zI,zR,qbd,z7,zK,zJ,B8_geq,B8_shl64,outOf_B8,zH,BitVec.toNat_ofNat,Nat.reduceAdd,Nat.reduceSub,zE,zA,zB,zL,Nat.reducePow,Nat.reduceMod,Nat.reduceAdd,Nat.reduceMod,zL,zH,L58,h,zL,zE]
theorem twice_gf (k:Nat) (a:BitVec 8):F C (k+1) 58 [B8 a] []=some (B8 (GF.dbl 27#8 a),[],[]):=by
  rw[twice]
  congr 3
  revert a
  decide
def mst (x0 x1 x5:BitVec 8) (H:Heap):St:=⟨[B8 x0,B8 x1,.undef,.undef,.undef,B8 x5,.undef,.undef,.undef,.undef,.undef,.undef,.undef,.undef,.undef,.undef,.undef,.undef,.undef],H,2,0⟩
theorem mul_loop (k K:Nat):∀ (n m:Nat) (st:St) (x0 x1 x5:BitVec 8) (H:Heap),qcr L48k0 st=mst x0 x1 x5 H→x1.toNat < 2 ^ n →
    ∃ y H' z, qbW L48k0 (ev (envC C (k + 1)) K L48b0) (m + n + 1) st =
      some (.exit 0,⟨[B8 y,B8 z,.undef,.undef,.undef,B8 (x5 ^^^ GF.mul 27#8 x0 x1),B8 z,Bo false,.undef,.undef,.undef,.undef,.undef,.undef,.undef,.undef,.undef,.undef,.undef],H',4,0⟩):=by
  intro n
  induction n with
  | zero =>
    intro m st x0 x1 x5 H hc hx
    have h0:x1=0#8:=by apply BitVec.eq_of_toNat_eq; simp at hx ⊢; omega
    subst h0
    refine ⟨x0,H,0#8,?_⟩
    rw[GF.mul_zero]
    refine loopN_stop hc ?_
    simp (disch:=first|omega|decide|simp only[qaf,qad,qag,qae,qah,qac,qaa,qab,qai]) only[qa0,qat,qao,qan,qal,qak,qaM,qar,qay,qaJ,qaq,qaH,qaG,qaj,qaF,qaD,qas,zM,zN,zO,zP,zK,zJ,B8_gtr,Nat.reduceAdd,zA,zB,zL,Nat.reduceAdd,zL,L48b0,mst,zL,BitVec.xor_zero,show ¬ (0#8 < 0#8) by decide]
  | succ n ih =>
    intro m st x0 x1 x5 H hc hx
    by_cases h:0#8 < x1
    · rw [GF.mul_step _ _ _ (by decide), ← BitVec.xor_assoc]
      have hx':(x1 >>> 1).toNat < 2 ^ n:=by
        rw[BitVec.toNat_ushiftRight,Nat.shiftRight_eq_div_pow]
        rw[Nat.pow_succ] at hx
        omega
      by_cases h1:x1 &&& 1#8=1#8
      · rw [if_pos h1]
        have hr:∃ st1,ev (envC C (k+1)) K L48b0 (mst x0 x1 x5 H)=some (.normal,st1)∧qcr L48k0 st1=mst (GF.dbl 27#8 x0) (x1 >>> 1) (x5 ^^^ x0) (cH H):=by
          apply Exists.intro
          apply And.intro
          · simp (disch := first | omega | decide | simp only [qbU, nms_B32, qbR, nms_I, qbb, qci, qcM, qaO, nms_Hf, qaE, qaQ, qbe, qc6, qc8, qc3, zV, zX, zI, zQ, ren_B8, ren_B32, qcu, ren_I, ren_N, ren_Bo, ren_Un, qdj, ren_Hf, qbN, qc7, qc9, qcY, zG, zC, ren7_I, ren7_N, ren7_Bo, ren7_B8, ren7_B32, ren7_B64, nms7_I, nms7_N, nms7_Bo, nms7_B8, nms7_B32, nms7_B64, qcV, qb8, implies_true, l58, qaf, qaP, qaK, qbw, qbO, qad, qag, qae, qah, qac, qaa, qab, qai]) only [qbh, qat, qaX, qao, qan, qal, qak, qaM, qar, qay, qaJ, qaq, qaH, qaG, qa7, qa1, qaj, qaY, qaD, qa3, zM, zN, zO, zP, zG, zC, zK, zJ, B8_and, B8_xor, B8_eql, B8_gtr, B8_shr64, qda, calK_B8, BitVec.toNat_ofNat, Nat.reduceAdd, zA, zB, zT, Nat.reducePow, Nat.reduceMod, Nat.reduceAdd, Nat.reduceMod, zT, L48b0, mst, h, zT, h1, zx, twice_gf]
            rfl
          · exact canon_plain rfl rfl rfl
        obtain ⟨st1,hr1,hr2⟩:=hr
        obtain ⟨y,H',z,e⟩:=ih (m:=m) st1 _ _ _ _ hr2 hx'
        refine ⟨y,H',z,?_⟩
        rw[←e]
        exact loopN_next hc hr1
      · rw [if_neg h1, BitVec.xor_zero]
        have h1':(x1 &&& 1#8 == 1#8)=false:=by simpa using h1
        have hr:∃ st1,ev (envC C (k+1)) K L48b0 (mst x0 x1 x5 H)=some (.normal,st1)∧qcr L48k0 st1=mst (GF.dbl 27#8 x0) (x1 >>> 1) x5 (cH H):=by
          apply Exists.intro
          apply And.intro
          · simp (disch := first | omega | decide | simp only [qbU, nms_B32, qbR, nms_I, qbb, qci, qcM, qaO, nms_Hf, qaE, qaQ, qbe, qc6, qc8, qc3, zV, zX, zI, zQ, ren_B8, ren_B32, qcu, ren_I, ren_N, ren_Bo, ren_Un, qdj, ren_Hf, qbN, qc7, qc9, qcY, zG, zC, ren7_I, ren7_N, ren7_Bo, ren7_B8, ren7_B32, ren7_B64, nms7_I, nms7_N, nms7_Bo, nms7_B8, nms7_B32, nms7_B64, qcV, qb8, implies_true, l58, qaf, qaP, qaK, qbw, qbO, qad, qag, qae, qah, qac, qaa, qab, qai]) only [qbh, qat, qaX, qao, qan, qal, qak, qaM, qar, qay, qaJ, qaq, qaH, qaG, qa7, qa1, qaj, qaY, qaD, qa3, qas, zM, zN, zO, zP, zG, zC, zK, zJ, B8_and, B8_eql, B8_gtr, B8_shr64, qda, calK_B8, BitVec.toNat_ofNat, Nat.reduceAdd, zA, zB, zT, Nat.reducePow, Nat.reduceMod, Nat.reduceAdd, Nat.reduceMod, zT, L48b0, mst, h, zT, h1', twice_gf]
            rfl
          · exact canon_plain rfl rfl rfl
        obtain ⟨st1,hr1,hr2⟩:=hr
        obtain ⟨y,H',z,e⟩:=ih (m:=m) st1 _ _ _ _ hr2 hx'
        refine ⟨y,H',z,?_⟩
        rw[←e]
        exact loopN_next hc hr1
    · have h0:x1=0#8:=by
        apply BitVec.eq_of_toNat_eq
        rw[BitVec.lt_def] at h
        simp at h ⊢; omega
      subst h0
      refine ⟨x0,H,0#8,?_⟩
      rw[GF.mul_zero]
      refine loopN_stop hc ?_
      simp (disch:=first|omega|decide|simp only[qaf,qad,qag,qae,qah,qac,qaa,qab,qai]) only[qa0,qat,qao,qan,qal,qak,qaM,qar,qay,qaJ,qaq,qaH,qaG,qaj,qaF,qaD,qas,zM,zN,zO,zP,zK,zJ,B8_gtr,Nat.reduceAdd,zA,zB,zL,Nat.reduceAdd,zL,L48b0,mst,zL,BitVec.xor_zero,show ¬ (0#8 < 0#8) by decide]
theorem mul_F (k:Nat) (a b:BitVec 8):F C (k+10) 48 [B8 a,B8 b] []=some (B8 (GF.mul 27#8 a b),[],[]):=by
  rw[qbT f48]
  have hl : ∀ (st : St) (H : Heap), qcr L48k0 st = mst a b 0#8 H → ∃ y H' z, qbW L48k0 (ev (envC C (k + 9)) (k + 9) L48b0) (k + 9) st =
      some (.exit 0,⟨[B8 y,B8 z,.undef,.undef,.undef,B8 (0#8 ^^^ GF.mul 27#8 a b),B8 z,Bo false,.undef,.undef,.undef,.undef,.undef,.undef,.undef,.undef,.undef,.undef,.undef],H',4,0⟩):=fun st H h=>mul_loop (k+8) (k+9) 8 k st a b 0#8 H h b.isLt
  simp (disch:=first|omega|decide|simp only[qaf,qad,qag,qae,qah,qac,qaa,qab,qai]) only[qbk,qat,qaX,qao,qan,qal,qak,qaM,qar,qaJ,qaH,qaj,zM,zN,zI,zR,qbd,z7,zK,zJ,qbH,Nat.reduceAdd,Nat.reduceSub,zA,zB,Nat.reduceAdd,L48]
  obtain ⟨y,H',z,e⟩:=hl ⟨[B8 a,B8 b,Un,Un,B8 0#8,B8 0#8,Un,Un,Un,Un,Un,Un,Un,Un,Un,Un,Un,Un,Un],qb4 [],4,0⟩ (cH (qb4 [])) (canon_plain rfl rfl rfl)
  rw[e]
  simp (disch:=first|omega|decide|simp only[qaf,qad,qag,qae,qah,qac,qaa,qab,qai]) only[qbI,qat,qao,qan,qal,qak,qaM,qar,qay,qaH,qaj,qa8,qbr,qcI,zM,zN,zO,zP,zK,zJ,outOf_B8,zH,Nat.reduceAdd,zD,zA,zB,Nat.reduceAdd,zH,BitVec.zero_xor]
def rot (a:BitVec 8) (n:Nat):BitVec 8:=(a <<< n) ||| (a >>> (8 - n))
theorem rot1 (k:Nat) (a:BitVec 8):F C (k+1) 57 [B8 a,N 1] []=some (B8 (rot a 1),[],[]):=by rw[qbT f57]; simp (disch:=first|omega|decide|simp only[qaf,qad,qag,qae,qah,qac,qaa,qab,qai]) only[qbk,qbI,qat,qao,qan,qal,qak,qaM,qar,qay,qaJ,qaq,qaH,qaG,op_cvt,qaj,qbr,qcI,zM,zN,zO,zP,zI,zR,qbd,z7,zK,zJ,B8_or,B8_shl64,B8_shr64,B64_sub,B64_and,outOf_B8,zH,Nat.reduceAdd,Nat.reduceSub,zA,zB,cvt_N_64,Nat.reduceAdd,zH,L57]; rfl
theorem rot2 (k:Nat) (a:BitVec 8):F C (k+1) 57 [B8 a,N 2] []=some (B8 (rot a 2),[],[]):=by rw[qbT f57]; simp (disch:=first|omega|decide|simp only[qaf,qad,qag,qae,qah,qac,qaa,qab,qai]) only[qbk,qbI,qat,qao,qan,qal,qak,qaM,qar,qay,qaJ,qaq,qaH,qaG,op_cvt,qaj,qbr,qcI,zM,zN,zO,zP,zI,zR,qbd,z7,zK,zJ,B8_or,B8_shl64,B8_shr64,B64_sub,B64_and,outOf_B8,zH,Nat.reduceAdd,Nat.reduceSub,zA,zB,cvt_N_64,Nat.reduceAdd,zH,L57]; rfl
theorem rot3 (k:Nat) (a:BitVec 8):F C (k+1) 57 [B8 a,N 3] []=some (B8 (rot a 3),[],[]):=by rw[qbT f57]; simp (disch:=first|omega|decide|simp only[qaf,qad,qag,qae,qah,qac,qaa,qab,qai]) only[qbk,qbI,qat,qao,qan,qal,qak,qaM,qar,qay,qaJ,qaq,qaH,qaG,op_cvt,qaj,qbr,qcI,zM,zN,zO,zP,zI,zR,qbd,z7,zK,zJ,B8_or,B8_shl64,B8_shr64,B64_sub,B64_and,outOf_B8,zH,Nat.reduceAdd,Nat.reduceSub,zA,zB,cvt_N_64,Nat.reduceAdd,zH,L57]; rfl
theorem rot4 (k:Nat) (a:BitVec 8):F C (k+1) 57 [B8 a,N 4] []=some (B8 (rot a 4),[],[]):=by rw[qbT f57]; simp (disch:=first|omega|decide|simp only[qaf,qad,qag,qae,qah,qac,qaa,qab,qai]) only[qbk,qbI,qat,qao,qan,qal,qak,qaM,qar,qay,qaJ,qaq,qaH,qaG,op_cvt,qaj,qbr,qcI,zM,zN,zO,zP,zI,zR,qbd,z7,zK,zJ,B8_or,B8_shl64,B8_shr64,B64_sub,B64_and,outOf_B8,zH,Nat.reduceAdd,Nat.reduceSub,zA,zB,cvt_N_64,Nat.reduceAdd,zH,L57]; rfl
theorem box0_F (k:Nat):F C (k+30) 56 [B8 0#8] []=some (B8 99#8,[],[]):=by kernel_rfl
def trn (b:BitVec 8):BitVec 8:=b ^^^ rot b 1 ^^^ rot b 2 ^^^ rot b 3 ^^^ rot b 4 ^^^ 99#8
end Aes
namespace Aes
open Go Go.LE
set_option maxHeartbeats 0 in
theorem turned_F (k:Nat) (a:BitVec 8):F C (k+20) 49 [B8 a] []=some (B8 (trn a),[],[]):=by
  rw[qbT f49]
  simp (maxSteps:=100000000) only[qbk,qbh,qbI,qa0,qat,qaX,qao,qan,qal,qak,qbm,qaM,guardK_true,guardK_false,qcv,guardK_false',guardK_un,qar,qbc,qay,qaJ,qaq,qdv,qcd,qaH,qcx,qaG,op_un,op_cvt,qa7,qa1,qaj,qdx,qaF,qaY,inBlock_ret,qa8,qaD,qa3,qas,qbr,retK_normal,qcI,qbU,nms_B32,qbR,nms_I,qci,qcM,ren_B8,ren_B32,qcu,ren_I,ren_Bo,ren_Un,envC_cal,envC_borrow,zM,zN,zO,zP,zG,zC,zV,zX,zI,zR,zQ,qbd,z7,zK,zJ,B8_add,B8_mul,B8_sub,B8_and,B8_or,B8_xor,B8_andNot,B8_eql,B8_neq,B8_lss,B8_leq,B8_gtr,B8_geq,B8_not,B8_neg,B8_nat,B8_shl8,B8_shr8,B8_shl32,B8_shr32,B8_shl64,B8_shr64,cvt_8_8,cvt_8_32,cvt_8_64,B32_add,B32_mul,B32_sub,B32_and,B32_or,B32_xor,B32_andNot,B32_eql,B32_neq,B32_lss,B32_leq,B32_gtr,B32_geq,B32_not,B32_neg,B32_nat,B32_shl8,B32_shr8,B32_shl32,B32_shr32,B32_shl64,B32_shr64,cvt_32_8,cvt_32_32,cvt_32_64,B64_add,B64_mul,B64_sub,B64_and,B64_or,B64_xor,B64_andNot,B64_eql,B64_neq,B64_lss,B64_leq,B64_gtr,B64_geq,B64_not,B64_neg,B64_nat,B64_shl8,B64_shr8,B64_shl32,B64_shr32,B64_shl64,B64_shr64,cvt_64_8,cvt_64_32,cvt_64_64,cvt_I_8,cvt_I_32,cvt_I_64,cvt_8_I,cvt_32_I,cvt_I64,I_eql,I_neq,I_lss,I_leq,I_gtr,I_geq,Bo_eql,Bo_neq,Bo_not,qda,calK_B8,calK_B32,calK_B64,calK_I,calK_Bo,outOf_B8,outOf_B32,outOf_B64,outOf_I,outOf_Bo,zH,BitVec.toNat_ofNat,qbH,Nat.reduceAdd,Nat.reduceSub,B8_rem,B32_rem,B64_rem,B8_quo,B32_quo,B64_quo,qbz,N_sub,N_mul,N_quo,N_rem,N_shl,N_shr,N_eql,N_neq,qaW,N_leq,N_gtr,N_geq,qbJ,cvt_N_8,cvt_N_32,cvt_N_64,cvt_8_N,cvt_32_N,cvt_64_N,cvt_N_N,B8_shlN,B8_shrN,B32_shlN,B32_shrN,B64_shlN,B64_shrN,qbb,ren_N,cellsOf_N,qai,calK_N,outOf_N,decide_not,Nat.reduceLT,Nat.reduceLeDiff,Nat.reduceEqDiff,Nat.reduceMul,Nat.reduceAdd,Nat.reduceDiv,Nat.reduceMod,zi,zL,zT,qce,zg,ze,L49,loopN_succ,afterK_normal,afterK_exit,afterK_ret,qaN,qaL,qaC,qaO,qdj,canon_sc,cH_empty,zT,zL,reduceIte,Int.reduceAdd,Int.reduceSub,Int.reduceMul,Int.reduceTMod,Int.reduceToNat,Int.reduceLT,Int.reduceLE,Int.reduceNeg,Int.reduceEq,Int.reduceNe,Int.reducePow,Nat.reduceMul,Nat.reducePow,Nat.reduceMod,Nat.reduceDiv,Nat.reduceEqDiff,Nat.reduceLT,BitVec.reduceBEq,BitVec.reduceUMod,BitVec.reduceUShiftRight,BitVec.reduceShiftLeft,BitVec.reduceHShiftRight,BitVec.reduceHShiftLeft,BitVec.reduceToNat,BitVec.reduceAdd,BitVec.reduceXOr,BitVec.reduceAnd,BitVec.reduceOr,I_add,I_sub,I_rem,I_quo,B8_shlI,B8_shrI,B32_shlI,B32_shrI,B64_shlI,B64_shrI,ne_eq,zt,zu,zS,true_and,zD,zE,L49k1,L49b1,L49k0,L49b0]
  congr 3
  revert a
  decide +kernel
end Aes
namespace Aes
open Go Go.LE
def IB (x:BitVec 32):LV:=N x.toNat
theorem IB_xor (e:EqT) (x y:BitVec 32):binV .xor e (IB x) (IB y)=some (IB (x ^^^ y)):=by
  simp only[IB]
  rw[N_xor _ _ _ (by have:=x.isLt; omega) (by have:=y.isLt; omega),BitVec.toNat_xor]
theorem IB_shr (e:EqT) (x:BitVec 32) (i:Nat) (h:i < 64):binV .shr e (IB x) (N i)=some (IB (x >>> i)):=by
  unfold IB
  rw[N_shr (hb:=h),BitVec.toNat_ushiftRight,Nat.shiftRight_eq_div_pow]
theorem IB_rem2 (e:EqT) (x:BitVec 32):binV .rem e (IB x) (N 2)=some (IB (x % 2#32)):=by
  unfold IB
  rw[N_rem (hb:=by decide)]; rfl
theorem IB_eq1 (e:EqT) (x:BitVec 32):binV .eql e (IB x) (N 1)=some (Bo (x == 1#32)):=by
  unfold IB
  rw[N_eql]
  congr 2
  rw[Bool.eq_iff_iff]
  simp only[zm,decide_eq_true_eq]
  constructor
  · intro h; apply BitVec.eq_of_toNat_eq; simpa using h
  · intro h; rw[h]; rfl
theorem IB_shl8 (e:EqT) (a:BitVec 8) (i:Nat) (h:i < 8):binV .shl e (N a.toNat) (N i)=some (IB (a.setWidth 32 <<< i)):=by
  have ha:=a.isLt
  have h2:a.toNat*2 ^ i < 2 ^ 8*2 ^ 8:=by
    have:2 ^ i≤2 ^ 8:=Nat.pow_le_pow_right (by decide) (by omega)
    calc a.toNat * 2 ^ i ≤ a.toNat * 2 ^ 8 := Nat.mul_le_mul_left _ this
      _ < 2 ^ 8*2 ^ 8:=Nat.mul_lt_mul_of_pos_right ha (by decide)
  rw[N_shl (hb:=by omega) (h:=by omega)]
  unfold IB
  congr 2
  rw[BitVec.toNat_shiftLeft,BitVec.toNat_setWidth,Nat.shiftLeft_eq,Nat.mod_eq_of_lt (a:=a.toNat) (by omega),Nat.mod_eq_of_lt (by omega)]
theorem IB_283 (e:EqT) (j:Nat) (h:j < 7):binV .shl e (N 283) (N j)=some (IB (283#32 <<< j)):=by
  have:j=0∨j=1∨j=2∨j=3∨j=4∨j=5∨j=6:=by omega
  rcases this with rfl | rfl | rfl | rfl | rfl | rfl | rfl <;> rfl
theorem cvt_IB (x:BitVec 32):cvtV .u8 (IB x)=some (B8 (x.setWidth 8)):=by
  unfold IB
  rw[cvt_N_8,BitVec.ofNat_toNat]
def rtm (a b:BitVec 8) (i:Nat) (p:BitVec 32):BitVec 32:=if (b >>> i) % 2#8=1#8 then p ^^^ (a.setWidth 32 <<< i) else p
def rsum (a b:BitVec 8):Nat→BitVec 32
  | 0=>0#32
  | n+1=>rtm a b n (rsum a b n)
def rmd (i:Nat) (p:BitVec 32):BitVec 32:=if (p >>> (14 - i)) % 2#32=1#32 then p ^^^ (283#32 <<< (6 - i)) else p
def rmod (p:BitVec 32):Nat→BitVec 32
  | 0=>p
  | n+1=>rmd n (rmod p n)
def rJ1 (a b:BitVec 8) (p:BitVec 32) (i:Nat) (st:St):Prop := ∃ (H:Heap),st=⟨[B8 a,B8 b,.undef,.undef,.undef,IB p,N i,.undef,.undef,.undef,.undef,.undef,.undef,.undef,.undef,.undef,.undef,.undef,.undef,.undef,.undef,.undef,.undef,.undef,.undef,.undef,.undef,.undef,.undef,.undef,.undef,.undef,.undef,.undef,.undef,.undef,.undef,.undef,.undef],H,2,0⟩
def rJ2 (p:BitVec 32) (i:Nat) (st:St):Prop := ∃ (H:Heap),st=⟨[.undef,.undef,.undef,.undef,.undef,IB p,.undef,N (14 - i),.undef,.undef,.undef,.undef,.undef,.undef,.undef,.undef,.undef,.undef,.undef,.undef,.undef,.undef,.undef,.undef,.undef,.undef,.undef,.undef,.undef,.undef,.undef,.undef,.undef,.undef,.undef,.undef,.undef,.undef,.undef],H,2,0⟩
def rmul (a b:BitVec 8):BitVec 8:=(rmod (rsum a b 8) 7).setWidth 8
theorem rmul_F (k:Nat) (a b:BitVec 8):F C (k+11) 33 [B8 a,B8 b] []=some (B8 (rmul a b),[],[]):=by
  rw[qbT f33]
  simp (disch:=first|omega|decide|simp only[qaf,qad,qag,qae,qah,qac,qaa,qab,qai]) only[qbk,qat,qaX,qao,qan,qal,qak,qaM,qar,qaJ,qaH,qaj,zM,zN,zI,zR,qbd,z7,zK,zJ,qbH,Nat.reduceAdd,Nat.reduceSub,zA,zB,Nat.reduceAdd,L33]
  generalize hL:qbW L33k1 _ _ _=r
  refine qby hL (fun i st=>rJ1 a b (rsum a b i) i st) 8 (by omega) ?_ ?_ ?_ ?_
  · rintro i st hi ⟨H, rfl⟩
    by_cases hb:(b >>> i) % 2#8=1#8
    · have hb2 : (((b >>> i) % 2#8) == 1#8) = true := by simpa using hb
      apply Exists.intro
      apply And.intro
      · simp (disch := first | omega | decide | simp only [qaf, qad, qag, qae, qah, qac, qaa, qab, qai]) only [qbh, qat, qaX, qao, qan, qal, qak, qaM, qar, qay, qaJ, qaq, qaH, qaG, op_cvt, qaj, qaY, qaD, qa3, zM, zN, zO, zP, zK, zJ, B8_eql, cvt_8_I, Nat.reduceAdd, B8_rem, zA, zB, zT, qbz, qaW, B8_shrN, Nat.reduceAdd, zT, L33b1, hi, hb2, I_N, IB_shl8 _ a i hi, IB_xor]
        rfl
      · show rJ1 a b (rsum a b (i+1)) (i+1) _; rw[rsum,rtm,if_pos hb]; exact qaT [] rfl rfl rfl ⟨_,rfl⟩
    · have hb2 : (((b >>> i) % 2#8) == 1#8) = false := by simpa using hb
      apply Exists.intro
      apply And.intro
      · simp (disch := first | omega | decide | simp only [qaf, qad, qag, qae, qah, qac, qaa, qab, qai]) only [qbh, qat, qaX, qao, qan, qal, qak, qaM, qar, qay, qaJ, qaq, qaH, qaG, qaj, qaY, qaD, qa3, qas, zM, zN, zO, zP, zK, zJ, B8_eql, Nat.reduceAdd, B8_rem, zA, zB, zT, qbz, qaW, B8_shrN, Nat.reduceAdd, zT, L33b1, hi, hb2]
        rfl
      · show rJ1 a b (rsum a b (i+1)) (i+1) _; rw[rsum,rtm,if_neg hb]; exact qaT [] rfl rfl rfl ⟨_,rfl⟩
  · exact qaT [] rfl rfl rfl ⟨_,rfl⟩
  · rintro st ⟨H, rfl⟩
    apply qbs
    simp (disch:=first|omega|decide|simp only[qaf,qad,qag,qae,qah,qac,qaa,qab,qai]) only[qa0,qat,qao,qan,qal,qak,qaM,qar,qay,qaJ,qaq,qaH,qaG,qaj,qaF,qaD,qas,zM,zN,zO,zP,zK,zJ,Nat.reduceAdd,zA,zB,zL,qaW,Nat.reduceAdd,zi,zL,L33b1]
    rfl
  · rintro st ⟨H, rfl⟩ rfl
    simp (disch:=first|omega|decide|simp only[qaf,qad,qag,qae,qah,qac,qaa,qab,qai]) only[qa0,qat,qaX,qao,qan,qal,qak,qaM,qar,qay,qaJ,qaq,qaH,qaG,qaj,qaF,qa8,qaD,qas,zM,zN,zO,zP,zK,zJ,qbH,Nat.reduceAdd,zD,zA,zB,zL,qaW,Nat.reduceAdd,zi,zL,L33b1]
    generalize hp:rsum a b 8=p
    generalize hL:qbW L33k0 _ _ _=r
    refine qby hL (fun i st=>rJ2 (rmod p i) i st) 7 (by omega) ?_ ?_ ?_ ?_
    · rintro i st hi ⟨H, rfl⟩
      have h8:8≤14 - i:=by omega
      have e1:14 - i - 8=6 - i:=by omega
      have e2:14 - i - 1=14 - (i+1):=by omega
      by_cases hb:(rmod p i >>> (14 - i)) % 2#32=1#32
      · have hb2 : ((rmod p i >>> (14 - i)) % 2#32 == 1#32) = true := by simpa using hb
        apply Exists.intro
        apply And.intro
        · simp (disch := first | omega | decide | simp only [qaf, qad, qag, qae, qah, qac, qaa, qab, qai]) only [qbh, qat, qaX, qao, qan, qal, qak, qaM, qar, qay, qaJ, qaq, qaH, qaG, qaj, qaY, qaD, qa3, zM, zN, zO, zP, zK, zJ, Nat.reduceAdd, zA, zB, zT, N_sub, N_geq, Nat.reduceAdd, zT, L33b0, IB_shr, IB_rem2, IB_eq1, hb2, h8, e1, e2, IB_283 _ (6 - i) (by omega), IB_xor]
          rfl
        · show rJ2 (rmod p (i+1)) (i+1) _; rw[rmod,rmd,if_pos hb]; exact qaT [] rfl rfl rfl ⟨_,rfl⟩
      · have hb2 : ((rmod p i >>> (14 - i)) % 2#32 == 1#32) = false := by simpa using hb
        apply Exists.intro
        apply And.intro
        · simp (disch := first | omega | decide | simp only [qaf, qad, qag, qae, qah, qac, qaa, qab, qai]) only [qbh, qat, qaX, qao, qan, qal, qak, qaM, qar, qay, qaJ, qaq, qaH, qaG, qaj, qaY, qaD, qa3, qas, zM, zN, zO, zP, zK, zJ, Nat.reduceAdd, zA, zB, zT, N_sub, N_geq, Nat.reduceAdd, zT, L33b0, IB_shr, IB_rem2, IB_eq1, hb2, h8, e2]
          rfl
        · show rJ2 (rmod p (i+1)) (i+1) _; rw[rmod,rmd,if_neg hb]; exact qaT [] rfl rfl rfl ⟨_,rfl⟩
    · exact qaT [] rfl rfl rfl ⟨_,rfl⟩
    · rintro st ⟨H, rfl⟩
      apply qbs
      simp (disch:=first|omega|decide|simp only[qaf,qad,qag,qae,qah,qac,qaa,qab,qai]) only[qa0,qat,qao,qan,qal,qak,qaM,qar,qay,qaJ,qaq,qaH,qaG,qaj,qaF,qaD,qas,zM,zN,zO,zP,zK,zJ,Nat.reduceAdd,Nat.reduceSub,Nat.reduceLeDiff,zA,zB,zL,N_geq,Nat.reduceLeDiff,Nat.reduceAdd,zL,L33b0]
      rfl
    · rintro st ⟨H, rfl⟩ rfl
      simp (disch:=first|omega|decide|simp only[qaf,qad,qag,qae,qah,qac,qaa,qab,qai]) only[qbI,qa0,qat,qao,qan,qal,qak,qaM,qar,qay,qaJ,qaq,qaH,qaG,op_cvt,qaj,qaF,qa8,qaD,qas,qbr,qcI,zM,zN,zO,zP,zK,zJ,outOf_B8,zH,Nat.reduceAdd,Nat.reduceSub,Nat.reduceLeDiff,zD,zA,zB,zL,N_geq,Nat.reduceLeDiff,Nat.reduceAdd,zL,zH,L33b0,cvt_IB]
      rw[rmul,hp]
theorem bit_iff (p:BitVec 32) (m:Nat):((p >>> m) % 2#32=1#32)↔p.getLsbD m=true:=by
  rw[←BitVec.toNat_inj,BitVec.toNat_umod,BitVec.toNat_ushiftRight,BitVec.getLsbD,Nat.testBit_eq_decide_div_mod_eq,Nat.shiftRight_eq_div_pow]
  simp
theorem bit8_iff (p:BitVec 8) (m:Nat):((p >>> m) % 2#8=1#8)↔p.getLsbD m=true:=by
  rw[←BitVec.toNat_inj,BitVec.toNat_umod,BitVec.toNat_ushiftRight,BitVec.getLsbD,Nat.testBit_eq_decide_div_mod_eq,Nat.shiftRight_eq_div_pow]
  simp
theorem rmd_eq (n:Nat) (p:BitVec 32):rmd n p=p ^^^ (if p.getLsbD (14 - n)=true then 283#32 <<< (6 - n) else 0#32):=by
  rw[rmd]
  by_cases h:p.getLsbD (14 - n)=true
  · rw[if_pos h,if_pos ((bit_iff _ _).2 h)]
  · rw[if_neg h,if_neg (fun h'=>h ((bit_iff _ _).1 h')),BitVec.xor_zero]
theorem ite_xor32 (x y:Bool) (c:BitVec 32):(if (x ^^ y)=true then c else 0#32)=(if x=true then c else 0#32) ^^^ (if y=true then c else 0#32):=by
  cases x <;> cases y <;> simp
theorem rmod_xor (p q:BitVec 32):∀ (n:Nat),rmod (p ^^^ q) n=rmod p n ^^^ rmod q n:=by
  intro n
  induction n with
  | zero=>rfl
  | succ n ih=>rw[rmod,rmod,rmod,ih,rmd_eq,rmd_eq,rmd_eq,BitVec.getLsbD_xor,ite_xor32,GF.xor4]
def red (p:BitVec 32):BitVec 8:=(rmod p 7).setWidth 8
theorem red_xor (p q:BitVec 32):red (p ^^^ q)=red p ^^^ red q:=by
  unfold red; rw[rmod_xor,BitVec.setWidth_xor]
theorem red_zero:red 0#32=0#8:=by decide
theorem red_shift (a:BitVec 8) (i:Fin 8):red (a.setWidth 32 <<< i.val)=GF.dblN 27#8 i.val a:=by
  revert a i
  decide +kernel
theorem red_rsum (a b:BitVec 8):∀ (n:Nat),n≤8→red (rsum a b n)=GF.sumTo (fun i=>b.getLsbD i) (fun i=>GF.dblN 27#8 i a) n:=by
  intro n
  induction n with
  | zero=>intro _; exact red_zero
  | succ n ih =>
    intro hi
    rw[rsum,rtm,GF.sumTo,←ih (by omega)]
    by_cases h:b.getLsbD n=true
    · rw[if_pos ((bit8_iff _ _).2 h),if_pos h,red_xor,red_shift a ⟨n,by omega⟩]
    · rw[if_neg (fun h'=>h ((bit8_iff _ _).1 h')),if_neg h,BitVec.xor_zero]
theorem rmul_eq (a b:BitVec 8):rmul a b=mul a b:=red_rsum a b 8 (by decide)
theorem rmulF (k:Nat) (a b:BitVec 8):F C (k+11) 33 [B8 a,B8 b] []=some (B8 (mul a b),[],[]):=by rw[rmul_F,rmul_eq]
theorem mulF (k:Nat) (a b:BitVec 8):F C (k+10) 48 [B8 a,B8 b] []=some (B8 (mul a b),[],[]):=mul_F k a b
end Aes
namespace Aes
open Go Go.LE
def CF (r:LV) (f:R):qaV:=r::aB 1792 f
theorem CF_length (r:LV) (f:R):(CF r f).length=1793:=by simp[CF,qcj]
theorem CF_k (r:LV) (f:R):cellK 0 1 (some (CF r f))=some [r]:=by
  rw[cellK_some,if_pos (by rw[CF_length]; decide)]; rfl
theorem CF_at (r:LV) (f:R) (o:Nat) (h:o < 1792):cellK (o+1) 1 (some (CF r f))=some [B8 (f o)]:=by
  have:=aB_cell 1792 f o h
  rw[cellK_some,if_pos (by rw[qcj]; omega)] at this
  rw[cellK_some,if_pos (by rw[CF_length]; omega),CF,zzD]
  exact this
theorem CF_at' (r:LV) (f:R) (o p:Nat) (h0:o=p+1) (h:p < 1792):cellK o 1 (some (CF r f))=some [B8 (f p)]:=by subst h0; exact CF_at r f p h
theorem CF_st (r:LV) (f:R) (m:Nm) (o:Nat) (x:BitVec 8) (h0:0 < o) (h:o < 1793):stK 1 o m (some [B8 x]) (some (CF r f))=some ⟨Un,[],[(m,some (CF r (set1 f (o - 1) x)))]⟩:=by
  obtain ⟨p,rfl⟩:∃ p,o=p+1:=⟨o - 1,by omega⟩
  have:=aB_st p 1792 m x f (by omega)
  rw[stK_some,if_pos ⟨rfl,by rw[qcj]; omega,rfl⟩] at this
  rw[stK_some,if_pos ⟨rfl,by rw[CF_length]; omega,rfl⟩]
  have e:qbC (aB 1792 f) p [B8 x]=aB 1792 (set1 f p x):=by simpa using this
  have e2:qbC (CF r f) (p+1) [B8 x]=r::qbC (aB 1792 f) p [B8 x]:=by
    simp only[qbC,CF,zzE,zR,zK,zJ,zA]
    rw[Nat.add_right_comm,zzD]
  rw[e2,e]; rfl
theorem qbu (r:LV) (f:R):(CF r f).flatMap (nms D)=nms D r:=by
  rw[CF,zV,qbP,zQ]
theorem qbt (π:Nm→Option Nm) (r:LV) (f:R):(CF r f).map (ren D π)=CF (ren D π r) f:=by
  rw[CF,zG,qa4,CF]
theorem CF_congr (r:LV) {f g:R} (h:∀ i,i < 1792→f i=g i):CF r f=CF r g:=by rw[CF,CF,aB_ext _ h]
def LGl:List Nat:=[0,0,25,1,50,2,26,198,75,199,27,104,51,238,223,3,100,4,224,14,52,141,129,239,76,113,8,200,248,105,28,193,125,194,29,181,249,185,39,106,77,228,166,114,154,201,9,120,101,47,138,5,33,15,225,36,18,240,130,69,53,147,218,142,150,143,219,189,54,208,206,148,19,92,210,241,64,70,131,56,102,221,253,48,191,6,139,98,179,37,226,152,34,136,145,16,126,110,72,195,163,182,30,66,58,107,40,84,250,133,61,186,43,121,10,21,155,159,94,202,78,212,172,229,243,115,167,87,175,88,168,80,244,234,214,116,79,174,233,213,231,230,173,232,44,215,117,122,235,22,11,245,89,203,95,176,156,169,81,160,127,12,246,111,23,196,73,236,216,67,31,45,164,118,123,183,204,187,62,90,251,96,177,134,59,82,161,108,170,85,41,157,151,178,135,144,97,190,220,252,188,149,207,205,55,63,91,209,83,57,132,60,65,162,109,71,20,42,158,93,86,242,211,171,68,17,146,217,35,32,46,137,180,124,184,38,119,153,227,165,103,74,237,222,197,49,254,24,13,99,140,128,192,247,112,7]
def LG (i:Nat):Nat:=LGl.getD i 0
def TB:R:=fun j=>if j < 256 then BX j else if j < 512 then UB (j - 256) else if j < 768 then T2 (BitVec.ofNat 8 j) else if j < 1024 then T9 (BitVec.ofNat 8 j)
  else if j < 1280 then T11 (BitVec.ofNat 8 j) else if j < 1536 then T13 (BitVec.ofNat 8 j) else T14 (BitVec.ofNat 8 j)
theorem pw_mul:∀ i:Fin 255,mul (PW i.val) 3#8=PW (i.val+1):=by decide +kernel
theorem lg_pw:∀ i:Fin 255,LG (PW i.val).toNat=i.val:=by decide +kernel
theorem pw_lg:∀ j:Fin 256,j.val=0∨PW (LG j.val)=BitVec.ofNat 8 j.val:=by decide +kernel
theorem lg_lt:∀ j:Fin 256,LG j.val < 255:=by decide +kernel
def xb (b:BitVec 8):BitVec 8:=99#8 ^^^ b ^^^ rot b 1 ^^^ rot b 2 ^^^ rot b 3 ^^^ rot b 4
theorem xb_pw:∀ i:Fin 255,xb (PW (255 - i.val))=BX (PW i.val).toNat:=by decide +kernel
def don (i a:Nat):Bool:=decide (a=0∨LG a < i)
theorem don_succ (i a:Nat) (hi:i < 255) (ha:a < 256):don (i+1) a=(decide (a=(PW i).toNat) || don i a):=by
  rw[don,don,Bool.eq_iff_iff]
  simp only[decide_eq_true_eq,zn]
  have h1:=lg_pw ⟨i,hi⟩
  have h2:=pw_lg ⟨a,ha⟩
  simp only at h1 h2
  constructor
  · rintro (h | h)
    · exact Or.inr (Or.inl h)
    · by_cases h3 : LG a < i
      · exact Or.inr (Or.inr h3)
      · have h4 : LG a = i := by omega
        rcases h2 with h2 | h2
        · exact Or.inr (Or.inl h2)
        · left
          rw[←h4,h2,BitVec.toNat_ofNat]; omega
  · rintro (h | h | h)
    · right; rw[h,h1]; omega
    · exact Or.inl h
    · exact Or.inr (by omega)
theorem don_all (a:Nat) (ha:a < 256):don 255 a=true:=by
  have:=lg_lt ⟨a,ha⟩
  simp only[don,decide_eq_true_eq]; exact Or.inr this
def bxT (i:Nat):R:=fun j=>if j < 256 then (if don i j=true then BX j else 0#8) else if j < 512 then (if don i (UB (j - 256)).toNat=true then UB (j - 256) else 0#8) else 0#8
theorem ub_lt (k:Nat):(UB k).toNat < 256:=(UB k).isLt
theorem bx_lt (k:Nat):(BX k).toNat < 256:=(BX k).isLt
theorem ub_bxN (k:Nat) (h:k < 256):UB (BX k).toNat=BitVec.ofNat 8 k:=by
  have:=ub_bx (BitVec.ofNat 8 k)
  rwa [BitVec.toNat_ofNat,Nat.mod_eq_of_lt h] at this
theorem bx_ubN (k:Nat) (h:k < 256):BX (UB k).toNat=BitVec.ofNat 8 k:=by
  have:=bx_ub (BitVec.ofNat 8 k)
  rwa [BitVec.toNat_ofNat,Nat.mod_eq_of_lt h] at this
theorem bxT_0:bxT 0=set1 (set1 (fun _=>0#8) 0 99#8) 355 0#8:=by
  funext j
  simp only[bxT,don,Nat.not_lt_zero,zl,decide_eq_true_eq,set1]
  by_cases h:j=355
  · subst h; decide
  · rw [if_neg h]
    by_cases h0:j=0
    · subst h0; decide
    · rw [if_neg h0]
      split
      · rfl
      · rename_i h1
        split
        · split
          · rename_i h2 h3
            exact BitVec.eq_of_toNat_eq h3
          · rfl
        · rfl
theorem bxT_succ (i:Nat) (hi:i < 255):bxT (i+1)=set1 (set1 (bxT i) (PW i).toNat (BX (PW i).toNat)) (256+(BX (PW i).toNat).toNat) (PW i):=by
  have hp:(PW i).toNat < 256:=(PW i).isLt
  have hb:=bx_lt (PW i).toNat
  funext j
  simp only[bxT,set1]
  by_cases h1:j < 256
  · rw [if_pos h1, if_pos h1, if_neg (show ¬ j = 256 + (BX (PW i).toNat).toNat by omega), don_succ i j hi h1]
    by_cases h2:j=(PW i).toNat
    · rw[if_pos h2,if_pos (by rw[decide_eq_true h2]; rfl),h2]
    · rw[if_neg h2,decide_eq_false h2,Bool.false_or]
  · rw [if_neg h1, if_neg h1, if_neg (show ¬ j = (PW i).toNat by omega)]
    by_cases h3:j < 512
    · rw [if_pos h3, if_pos h3, don_succ i _ hi (ub_lt _)]
      by_cases h2:j=256+(BX (PW i).toNat).toNat
      · have e:UB (j - 256)=PW i:=by
          rw[h2,zzM,ub_bx]
        rw[if_pos h2,e,decide_eq_true rfl,Bool.true_or,if_pos rfl]
      · have e:¬ (UB (j - 256)).toNat=(PW i).toNat:=by
          intro e
          have:=bx_ubN (j - 256) (by omega)
          rw[e] at this
          rw[this,BitVec.toNat_ofNat] at h2
          omega
        rw[if_neg h2,decide_eq_false e,Bool.false_or]
    · rw[if_neg h3,if_neg h3,if_neg (show ¬ j=256+(BX (PW i).toNat).toNat by omega)]
theorem bxT_all (j:Nat) (h:j < 512):bxT 255 j=TB j:=by
  simp only[bxT,TB]
  by_cases h1:j < 256
  · rw[if_pos h1,if_pos h1,don_all j h1,if_pos rfl]
  · rw[if_neg h1,if_neg h1,if_pos h,if_pos h,don_all _ (ub_lt _),if_pos rfl]
def tbT (i:Nat):R:=fun j=>if j < 512∨(j < 1792∧j % 256 < i) then TB j else 0#8
theorem tbT_0:tbT 0=bxT 255:=by
  funext j
  simp only[tbT,Nat.not_lt_zero,zZ,zl]
  by_cases h:j < 512
  · rw[if_pos h,bxT_all j h]
  · rw[if_neg h,bxT,if_neg (by omega),if_neg h]
theorem tbT_succ (i:Nat) (hi:i < 256):tbT (i+1)=set1 (set1 (set1 (set1 (set1 (tbT i) (512+i) (T2 (BitVec.ofNat 8 i))) (768+i) (T9 (BitVec.ofNat 8 i))) (1024+i) (T11 (BitVec.ofNat 8 i))) (1280+i) (T13 (BitVec.ofNat 8 i))) (1536+i) (T14 (BitVec.ofNat 8 i)):=by
  have e:∀ k,BitVec.ofNat 8 (256*k+i)=BitVec.ofNat 8 i:=by
    intro k; apply BitVec.eq_of_toNat_eq; simp only[BitVec.toNat_ofNat]; omega
  funext j
  simp only[set1]
  by_cases h5:j=1536+i
  · rw[if_pos h5,tbT,if_pos (by omega),TB,if_neg (by omega),if_neg (by omega),if_neg (by omega),if_neg (by omega),if_neg (by omega),if_neg (by omega),h5]; rw[←e 6]
  rw[if_neg h5]
  by_cases h4:j=1280+i
  · rw[if_pos h4,tbT,if_pos (by omega),TB,if_neg (by omega),if_neg (by omega),if_neg (by omega),if_neg (by omega),if_neg (by omega),if_pos (by omega),h4]; rw[←e 5]
  rw[if_neg h4]
  by_cases h3:j=1024+i
  · rw[if_pos h3,tbT,if_pos (by omega),TB,if_neg (by omega),if_neg (by omega),if_neg (by omega),if_neg (by omega),if_pos (by omega),h3]; rw[←e 4]
  rw[if_neg h3]
  by_cases h2:j=768+i
  · rw[if_pos h2,tbT,if_pos (by omega),TB,if_neg (by omega),if_neg (by omega),if_neg (by omega),if_pos (by omega),h2]; rw[←e 3]
  rw[if_neg h2]
  by_cases h1:j=512+i
  · rw[if_pos h1,tbT,if_pos (by omega),TB,if_neg (by omega),if_neg (by omega),if_pos (by omega),h1]; rw[←e 2]
  rw[if_neg h1]
  simp only[tbT]
  by_cases h:j < 512∨(j < 1792∧j % 256 < i)
  · rw[if_pos h,if_pos (by omega)]
  · rw[if_neg h,if_neg (by omega)]
theorem tbT_all (r:LV):CF r (tbT 256)=CF r TB:=CF_congr r fun j hj=>by rw[tbT,if_pos (by omega)]
end Aes
namespace Aes
open Go Go.LE
theorem idx0 (x:Nm) (xs:List Nm):idx x (x::xs) 0=some 0:=by simp[idx]
theorem idx1 (x y:Nm) (xs:List Nm) (h:x≠y):idx y (x::y::xs) 0=some 1:=by simp[idx,h]
structure Pl (ps:List LV):Prop where
  n:ps.flatMap (nms D)=[]
  r:∀ π,ps.map (ren D π)=ps
theorem Pl.e:Pl []:=⟨rfl,fun _=>rfl⟩
theorem Pl.pa (n:Nat) (s:R) {ps:List LV} (h:Pl ps):Pl (.agg (aB n s)::ps) :=
  ⟨by rw[zV,qbe,h.n]; rfl,fun π=>by rw[zG,qbN,h.r]⟩
theorem call0 (k b g:Nat) (hg:qcf g=fun _=>false) (H:Heap) (fN:Nm) (f f':R) (h:H fN=some (CF Nil f)) (ps:List LV) (hp:Pl ps) (r:LV) (hr:∀ π,ren D π r=r)
    (hw:F C k g (.ptr (0,0) 0::ps) [CF Nil f]=some (r,[some (CF Nil f')],[])) :
    qbD (envC C k) H b g (.ptr fN 0::ps)=some ⟨r,[],[(fN,some (CF Nil f'))]⟩:=by
  have hre:qbL H FUEL [] [fN]=[fN]:=by
    simp only[FUEL,qaz,zW,zf,zE,h,qax,qbu,qbj,zI,qaB]
  rw[callOp_L,envC_borrow,C_bor,hg,lend_none,callL_some]
  have hn:(LV.ptr fN 0::ps).flatMap (nms D)=[fN]:=by rw[zV,qaE,hp.n]; rfl
  rw[hn,hre,callN_eq _ _ _ _ _ rfl,show ([fN]:List Nm).filterMap H=[CF Nil f] by simp[h]]
  have ha:(LV.ptr fN 0::ps).map (ren D (qbx [fN])) = .ptr (0,0) 0::ps:=by
    simp only[zG,qb2,toCallee_eq,idx0,zH,qcE,hp.r]
  rw[ha,zG,zC,qbt,qcD,envC_cal,hw,show ([]:List Nm).isEmpty=true from rfl,resK_sc,qdp,hr]
  simp only[List.zipWith_cons_cons,List.zipWith_nil_left,zH,qbt,qcD,zC]
end Aes
namespace Aes
open Go Go.LE
def pwT (i:Nat):R:=fun j=>if j < i then PW j else 0#8
theorem pwT_succ (i:Nat) (h:i < 255):set1 (pwT (i+1)) (i+1) (mul (pwT (i+1) i) 3#8)=pwT (i+2):=by
  funext j
  have:=pw_mul ⟨i,h⟩
  simp only at this
  simp only[set1,pwT]
  by_cases h1:j=i+1
  · subst h1; rw[if_pos rfl,if_pos (by omega),if_pos (by omega),this]
  · rw [if_neg h1]
    by_cases h2:j < i+1
    · rw[if_pos h2,if_pos (by omega)]
    · rw[if_neg h2,if_neg (by omega)]
def bJ1 (i:Nat) (st:St):Prop := ∃ (H:Heap),st=⟨[.ptr (0,0) 0,.undef,.ptr (1,0) 0,N (i+1),.undef,.undef,.undef,.undef,.undef,.undef,.undef,.undef,.undef,.undef,.undef,.undef,.undef,.undef,.undef,.undef,.undef,.undef,.undef,.undef,.undef,.undef,.undef,.undef,.undef,.undef,.undef,.undef,.undef,.undef,.undef,.undef,.undef,.undef,.undef,.undef,.undef,.undef,.undef,.undef,.undef,.undef,.undef,.undef,.undef,.undef,.undef,.undef,.undef,.undef,.undef,.undef,.undef,.undef,.undef,.undef,.undef,.undef,.undef,.undef,.undef,.undef,.undef,.undef,.undef,.undef,.undef],H,2,1⟩∧H (0,0)=some (CF Nil fun _=>0#8)∧H (1,0)=some (aB 256 (pwT (i+1)))
def bJ2 (i:Nat) (st:St):Prop := ∃ (H:Heap),st=⟨[.ptr (0,0) 0,.undef,.ptr (1,0) 0,.undef,B8 99#8,.undef,.undef,.undef,.undef,.undef,.undef,.undef,.undef,.undef,.undef,.undef,.undef,.undef,.undef,.undef,.undef,.undef,.undef,.undef,.undef,.undef,.undef,.undef,.undef,.undef,.undef,.undef,.sl (1,0) 0 255 (some 256) 1,N 255,N i,.undef,.undef,.undef,.undef,.undef,.undef,.undef,.undef,.undef,.undef,.undef,.undef,.undef,.undef,.undef,.undef,.undef,.undef,.undef,.undef,.undef,.undef,.undef,.undef,.undef,.undef,.undef,.undef,.undef,.undef,.undef,.undef,.undef,.undef,.undef,.undef],H,2,1⟩∧H (0,0)=some (CF Nil (bxT i))∧H (1,0)=some (aB 256 (pwT 256))
theorem boxes_F (k:Nat):F C (k+300) 47 [.ptr (0,0) 0] [CF Nil fun _=>0#8]=some (.tup [],[some (CF Nil (bxT 255))],[]):=by
  rw[qbT f47]
  have e0:set1 (fun _=>0#8) 0 1#8=pwT 1:=by
    funext j; simp only[set1,pwT]
    by_cases h:j=0
    · subst h; rfl
    · rw[if_neg h,if_neg (by omega)]
  simp (disch:=first|omega|decide|simp only[qaf,qad,qag,qae,qah,qac,qaa,qab,qai]) only[qbk,qat,qaX,qao,qan,qal,qak,qaM,qar,qbc,qay,qaJ,qaq,qaH,qaj,zM,zN,zO,zP,zI,zR,qbd,z7,zK,zJ,qbH,Nat.reduceAdd,Nat.reduceSub,qap,qdt,qcN,qb5,qcO,qbF,qbl,op_iaA,iaV_lt,zD,zA,zB,qcU,aB_st,zk,zB,zA,qbJ,Nat.reduceAdd,zk,qa2,L47,e0]
  generalize hL:qbW L47k1 _ _ _=r
  refine qby hL bJ1 255 (by omega) ?_ ?_ ?_ ?_
  · rintro i st hi ⟨H, rfl, h0, h1⟩
    have hlt:i+1 < 256:=by omega
    have hs:=pwT_succ i hi
    have e1:i+1 - 1=i:=by omega
    apply Exists.intro
    apply And.intro
    · simp (disch := first | omega | decide | simp only [qbU, nms_B32, qbR, nms_I, qbb, qci, qcM, qaO, nms_Hf, qaE, qaQ, qbe, qc6, qc8, qc3, zV, zX, zI, zQ, ren_B8, ren_B32, qcu, ren_I, ren_N, ren_Bo, ren_Un, qdj, ren_Hf, qbN, qc7, qc9, qcY, zG, zC, ren7_I, ren7_N, ren7_Bo, ren7_B8, ren7_B32, ren7_B64, nms7_I, nms7_N, nms7_Bo, nms7_B8, nms7_B32, nms7_B64, qcV, qb8, implies_true, l48, l56, l57, qaf, qaP, qaK, qbw, qbO, qad, qag, qae, qah, qac, qaa, qab, qai]) only [qbh, qat, qaX, qao, qan, qal, qak, qaM, qar, qbc, qay, qaJ, qaq, qaH, qaG, qa7, qa1, qaj, qaY, qaD, qa3, zM, zN, zO, zP, zG, zC, zK, zJ, qda, calK_B8, Nat.reduceAdd, qcN, qb5, qaR, qbn, qbV, qbF, qbl, op_iaA, iaV_lt, zA, zB, zT, aB_cell, aB_st, zk, zB, zA, qbz, N_sub, qaW, qbJ, Nat.reduceAdd, zT, zk, L47b1, h1, hlt, e1, mulF, hs]
      rfl
    · refine qaT [(1, 0)] rfl (by simp only [qav, FUEL, qaz, qax, qaB, qaE, qaO, zV, zX, zI, zR, zQ, zC, zG, zW, zY, zF, zm, zn, zf, zS, zl, zD, zE, zb, zh, zq, zp, zo, ne_eq, zt, z9, qap, qaN, qaL, qaC, range_one, qbb, qbj, L47k1, qbu, qbP, qbj, h0, h1]) rfl ⟨_, rfl, ?_, ?_⟩
      · rw [qbX]
        simp (disch:=first|omega|decide|simp only[qaf,qad,qag,qae,qah,qac,qaa,qab,qai]) only[zH,qap,zF,zS,zE,zh,qcD,zH,h0,qbt,qcD]
      · exact qau (1,0) rfl (by simp (disch:=first|omega|decide|simp only[qaf,qad,qag,qae,qah,qac,qaa,qab,qai]) only[qap,zD,h1]) (qa4 _ _ _)
  · refine qaT [(2, 0)] rfl (by simp only [qav, FUEL, qaz, qax, qaB, qaE, qaO, zV, zX, zI, zR, zQ, zC, zG, zW, zY, zF, zm, zn, zf, Nat.reduceEqDiff, zS, zl, zD, zE, zq, zp, zo, ne_eq, zt, z9, qap, qaN, qaL, qaC, qck, qa2, range_one, List.getElem?_cons_zero, qbb, qbj, L47k1, qbu, qbP, qbj]) rfl ⟨_, rfl, ?_, ?_⟩
    · rw [qbX]
      simp (disch:=first|omega|decide|simp only[qaf,qad,qag,qae,qah,qac,qaa,qab,qai]) only[zH,qap,zF,Nat.reduceEqDiff,zS,zE,qcD,zH,qck,List.getElem?_cons_zero,qbt,qcD]
    · exact qau (2,0) rfl (by simp (disch:=first|omega|decide|simp only[qaf,qad,qag,qae,qah,qac,qaa,qab,qai]) only[qap,zD,zA,qa2]) (qa4 _ _ _)
  · rintro st ⟨H, rfl, h0, h1⟩
    apply qbs
    simp (disch:=first|omega|decide|simp only[qaf,qad,qag,qae,qah,qac,qaa,qab,qai]) only[qa0,qat,qao,qan,qal,qak,qaM,qar,qay,qaJ,qaq,qaH,qaG,qaj,qaF,qaD,qas,zM,zN,zO,zP,zK,zJ,Nat.reduceAdd,zA,zB,zL,zB,zA,qaW,Nat.reduceAdd,zi,zL,L47b1]
    rfl
  · rintro st ⟨H, rfl, h0, h1⟩ rfl
    simp (disch:=first|omega|decide|simp only[qbU,nms_B32,qbR,nms_I,qbb,qci,qcM,qaO,nms_Hf,qaE,qaQ,qbe,qc6,qc8,qc3,zV,zX,zI,zQ,ren_B8,ren_B32,qcu,ren_I,ren_N,ren_Bo,ren_Un,qdj,ren_Hf,qbN,qc7,qc9,qcY,zG,zC,ren7_I,ren7_N,ren7_Bo,ren7_B8,ren7_B32,ren7_B64,nms7_I,nms7_N,nms7_Bo,nms7_B8,nms7_B32,nms7_B64,qcV,qb8,implies_true,l48,l56,l57,qaf,qaP,qaK,qbw,qbO,qad,qag,qae,qah,qac,qaa,qab,qai]) only[qa0,qat,qaX,qao,qan,qal,qak,qaM,qar,qbc,qay,qaJ,qaq,qaH,qaG,qa7,qa1,qaj,qaF,qa8,qaD,qas,qbU,zM,zN,zO,zP,zG,zC,zQ,zK,zJ,B8_nat,qda,calK_B8,qbH,Nat.reduceAdd,Nat.reduceSub,qap,qb5,qbF,qbl,op_fa,qcy,op_iaA,iaV_lt,za,zd,zU,Nat.reduceLT,zD,zA,zB,zT,zL,zk,zB,zA,B8_nat,qaW,qbJ,Nat.reduceLT,Nat.reduceAdd,zi,zL,zT,zg,ze,op_chk,qcq,qcm,qbA,qb9,qdi,qcg,op_slcAV,slcAV_ptr,Nat.sub_zero,zk,L47b1,h0,qa9,qbo,ordK_mod,qbE,qcl,qaE,zY,zW,zx,z6,z0,qbQ,qba,za,zd,Nat.testBit,Nat.reduceShiftRight,Nat.reduceAnd,Nat.reduceBEq,ze,zg,zy,zU,zj,Nat.reduceSub,Nat.reduceLT,bne,qbg,qbG,qbS,qb0,zj,zU,box0_F,CF_st,show (99#8:BitVec 8).toNat=99 from rfl,←bxT_0]
    generalize hL:qbW L47k0 _ _ _=r
    refine qby hL bJ2 255 (by omega) ?_ ?_ ?_ ?_
    · rintro i st hi ⟨H, rfl, h0, h1⟩
      have hp:(PW i).toNat < 256:=(PW i).isLt
      have hb:=bx_lt (PW i).toNat
      have e0:pwT 256 i=PW i:=if_pos (by omega)
      have e2:pwT 256 (255 - i)=PW (255 - i):=if_pos (by omega)
      have hx:=xb_pw ⟨i,hi⟩
      simp only[xb] at hx
      have s1:1+(PW i).toNat - 1=(PW i).toNat:=by omega
      have s2:257+(BX (PW i).toNat).toNat - 1=256+(BX (PW i).toNat).toNat:=by omega
      have hs:=bxT_succ i hi
      apply Exists.intro
      apply And.intro
      · simp (disch := first | omega | decide | simp only [qbU, nms_B32, qbR, nms_I, qbb, qci, qcM, qaO, nms_Hf, qaE, qaQ, qbe, qc6, qc8, qc3, zV, zX, zI, zQ, ren_B8, ren_B32, qcu, ren_I, ren_N, ren_Bo, ren_Un, qdj, ren_Hf, qbN, qc7, qc9, qcY, zG, zC, ren7_I, ren7_N, ren7_Bo, ren7_B8, ren7_B32, ren7_B64, nms7_I, nms7_N, nms7_Bo, nms7_B8, nms7_B32, nms7_B64, qcV, qb8, implies_true, l48, l56, l57, qaf, qaP, qaK, qbw, qbO, qad, qag, qae, qah, qac, qaa, qab, qai]) only [qbh, qat, qaX, qao, qan, qal, qak, qaM, qar, qbc, qay, qaJ, qaq, qaH, qaG, qa7, qa1, qaj, qaY, qaD, qa3, qbU, zM, zN, zO, zP, zG, zC, zQ, zK, zJ, B8_xor, B8_nat, qda, calK_B8, Nat.reduceAdd, Nat.reduceSub, qap, qb5, qaR, qbn, qbV, qbF, qbl, op_fa, qcy, op_iaA, iaV_lt, za, zd, zU, Nat.reduceLT, zD, zA, zB, zT, aB_cell, zk, zB, zA, B8_nat, qbz, N_sub, qaW, qbJ, Nat.reduceLT, Nat.reduceAdd, zT, zg, ze, op_chk, qcq, op_iaS, qdf, zk, qa9, qbo, ordK_mod, qbE, qcl, qaE, zY, zW, zx, z6, z0, qbQ, qba, za, zd, Nat.testBit, Nat.reduceShiftRight, Nat.reduceAnd, Nat.reduceBEq, ze, zg, zy, zU, zj, Nat.reduceSub, Nat.reduceLT, bne, qbg, qbG, qbS, qb0, zj, zU, L47b0, h0, h1, hi, e0, e2, rot1, rot2, rot3, rot4, hx, CF_st, s1, s2, ← hs]
        rfl
      · refine qaT [(1, 0)] rfl (by simp only [qav, FUEL, qaz, qax, qaB, qaE, qaQ, qbU, qaO, zV, zX, zI, zR, zQ, zC, zG, zW, zY, zF, zm, zn, zf, zS, zl, zzC, zD, zE, zb, zq, zp, zo, ne_eq, zt, z9, qap, qaN, qaL, qaC, range_one, qbb, qbj, L47k0, qbu, qbP, qbj, h0, h1]) rfl ⟨_, rfl, ?_, ?_⟩
        · rw [qbX]
          simp (disch:=first|omega|decide|simp only[qaf,qad,qag,qae,qah,qac,qaa,qab,qai]) only[zH,qap,zD,qcD,zH,h0,qbt,qcD]
        · exact qau (1,0) rfl (by simp (disch:=first|omega|decide|simp only[qaf,qad,qag,qae,qah,qac,qaa,qab,qai]) only[qap,zF,zS,zE,zb,h1]) (qa4 _ _ _)
    · refine qaT [(1, 0)] rfl (by simp only [qav, FUEL, qaz, qax, qaB, qaE, qaQ, qbU, qaO, zV, zX, zI, zR, zQ, zC, zG, zW, zY, zF, zm, zn, zf, zS, zl, zzC, zD, zE, zb, zq, zp, zo, ne_eq, zt, z9, qap, Nat.reduceAdd, qaN, qaL, qaC, range_one, qbb, qbj, L47k0, qbu, qbP, qbj, h0, h1]) rfl ⟨_, rfl, ?_, ?_⟩
      · rw [qbX]
        simp (disch:=first|omega|decide|simp only[qaf,qad,qag,qae,qah,qac,qaa,qab,qai]) only[zH,qap,zD,qcD,zH,qbt,qcD]
      · exact qau (1,0) rfl (by simp (disch:=first|omega|decide|simp only[qaf,qad,qag,qae,qah,qac,qaa,qab,qai]) only[Nat.reduceAdd,qap,zF,zS,zE,zb,h1]) (qa4 _ _ _)
    · rintro st ⟨H, rfl, h0, h1⟩
      apply qbs
      simp (disch:=first|omega|decide|simp only[qaf,qad,qag,qae,qah,qac,qaa,qab,qai]) only[qa0,qat,qao,qan,qal,qak,qaM,qar,qay,qaq,qaG,qaj,qaF,qaD,qas,zM,zN,zO,zP,zK,zJ,Nat.reduceAdd,zA,zB,zL,zB,zA,qaW,Nat.reduceAdd,zi,zL,L47b0]
      rfl
    · rintro st ⟨H, rfl, h0, h1⟩ rfl
      simp (disch:=first|omega|decide|simp only[qaf,qad,qag,qae,qah,qac,qaa,qab,qai]) only[qa0,qat,qao,qan,qal,qak,qaM,qar,qay,qaq,qaG,qaj,qaF,qa8,qaD,qas,retK_normal,zM,zN,zO,zP,zK,zJ,zH,Nat.reduceAdd,zD,zA,zB,zL,zB,zA,qaW,Nat.reduceAdd,zi,zL,zH,resVal_none,L47b0]
      rw[qdk 1 _ _ [] (by simp only[qav,FUEL,qaz,qax,qaB,zV,zX,zI,zQ,zC,zG,zW,zf,zE,zq,zp,zo,ne_eq,z9,range_one,qbj,qbu,qbj,nms_tup0,h0])]
      simp (disch:=first|omega|decide|simp only[qaf,qad,qag,qae,qah,qac,qaa,qab,qai]) only[zG,zC,zH,qcD,zzB,zH,range_one,ren_tup0,qbt,qcD,h0]
def tJ (i:Nat) (st:St):Prop := ∃ (H:Heap),st=⟨[.ptr (0,0) 0,.undef,.undef,.undef,.undef,.undef,.undef,.undef,.undef,N i,.undef,.undef,.undef,.undef,.undef,.undef,.undef,.undef,.undef,.undef,.undef,.undef,.undef,.undef,.undef,.undef,.undef,.undef,.undef,.undef,.undef,.undef,.undef,.undef,.undef,.undef,.undef,.undef,.undef,.undef,.undef,.undef,.undef,.undef,.undef,.undef,.undef,.undef,.undef,.undef,.undef,.undef,.undef,.undef,.undef,.undef,.undef,.undef,.undef,.undef,.undef,.undef,.undef,.undef,.undef],H,2,1⟩∧H (0,0)=some (CF Nil (tbT i))
theorem boxes_call (k b:Nat) (H:Heap) (h0:H (0,0)=some (CF Nil fun _=>0#8)):qbD (envC C (k+300)) H b 47 [.ptr (0,0) 0]=some ⟨.tup [],[],[((0,0),some (CF Nil (bxT 255)))]⟩:=by
  exact call0 _ b 47 l47 H (0,0) _ _ h0 [] Pl.e _ (fun _=>rfl) (boxes_F k)
theorem tables_F (k:Nat):F C (k+301) 28 [.ptr (0,0) 0] [CF Nil fun _=>0#8]=some (.tup [],[some (CF Nil TB)],[]):=by
  rw[qbT f28]
  have hc:=boxes_call k 3 (qb4 [CF Nil fun _=>0#8]) rfl
  simp (disch:=first|omega|decide|simp only[qaf,qad,qag,qae,qah,qac,qaa,qab,qai]) only[qbk,qat,qaX,qao,qan,qal,qak,qaM,qar,qay,qaJ,qaH,qa7,qa1,qaj,zM,zN,zO,zP,zG,zC,zI,zR,qbd,z7,zK,zJ,qbH,Nat.reduceAdd,Nat.reduceSub,qcN,zA,zB,zB,zA,Nat.reduceAdd,L28,hc,←tbT_0]
  generalize hL:qbW L28k0 _ _ _=r
  refine qby hL tJ 256 (by omega) ?_ ?_ ?_ ?_
  · rintro i st hi ⟨H, rfl, h0⟩
    have hs:=tbT_succ i hi
    have s1:513+i - 1=512+i:=by omega
    have s2:769+i - 1=768+i:=by omega
    have s3:1025+i - 1=1024+i:=by omega
    have s4:1281+i - 1=1280+i:=by omega
    have s5:1537+i - 1=1536+i:=by omega
    have m1:∀ x,mul x 2#8=T2 x:=mul_T2'
    simp only[T9,T11,T13,T14,T8,T4] at hs
    apply Exists.intro
    apply And.intro
    · simp (disch := first | omega | decide | simp only [qbU, nms_B32, qbR, nms_I, qbb, qci, qcM, qaO, nms_Hf, qaE, qaQ, qbe, qc6, qc8, qc3, zV, zX, zI, zQ, ren_B8, ren_B32, qcu, ren_I, ren_N, ren_Bo, ren_Un, qdj, ren_Hf, qbN, qc7, qc9, qcY, zG, zC, ren7_I, ren7_N, ren7_Bo, ren7_B8, ren7_B32, ren7_B64, nms7_I, nms7_N, nms7_Bo, nms7_B8, nms7_B32, nms7_B64, qcV, qb8, implies_true, l47, l48, qaf, qaP, qaK, qbw, qbO, qad, qag, qae, qah, qac, qaa, qab, qai]) only [qbh, qat, qaX, qao, qan, qal, qak, qaM, qar, qbc, qay, qaJ, qaq, qaH, qaG, op_cvt, qa7, qa1, qaj, qaY, qaD, qa3, qbU, zM, zN, zO, zP, zG, zC, zQ, zK, zJ, B8_xor, qda, calK_B8, Nat.reduceAdd, Nat.reduceSub, qap, qb5, qbF, qbl, op_fa, qcy, op_iaA, iaV_lt, za, zd, zU, Nat.reduceLT, zD, zA, zB, zT, zk, zB, zA, qbz, qaW, qbJ, cvt_N_8, Nat.reduceLT, Nat.reduceAdd, zT, zg, ze, op_chk, qcq, zk, qa9, qbo, ordK_mod, qbE, qcl, qaE, zY, zW, zx, z6, z0, qbQ, qba, za, zd, Nat.testBit, Nat.reduceShiftRight, Nat.reduceAnd, Nat.reduceBEq, ze, zg, zy, zU, zj, Nat.reduceSub, Nat.reduceLT, bne, qbg, qbG, qbS, qb0, zj, zU, L28b0, h0, hi, mulF, m1, CF_st, s1, s2, s3, s4, s5, ← hs]
      rfl
    · refine qaT [] rfl (by simp only [qav, FUEL, qaz, qax, qaB, qaE, qaO, zV, zX, zI, zR, zQ, zC, zG, zW, zY, zm, zn, zf, zl, zD, zE, zq, zp, zo, ne_eq, z9, qap, qaN, qaL, qaC, range_one, qbb, qbj, L28k0, qbu, qbj, h0]) rfl ⟨_, rfl, ?_⟩
      rw[qbX]
      simp (disch:=first|omega|decide|simp only[qaf,qad,qag,qae,qah,qac,qaa,qab,qai]) only[zH,qap,zD,qcD,zH,h0,qbt,qcD]
  · refine qaT [] rfl (by simp only [qav, FUEL, qaz, qax, qaB, qaE, qaO, zV, zX, zI, zR, zQ, zC, zG, zW, zY, zm, zn, zf, zl, zD, zE, zq, zp, zo, ne_eq, z9, qap, qaN, qaL, qaC, qck, range_one, List.getElem?_cons_zero, qbb, qbj, L28k0, qbu, qbj]) rfl ⟨_, rfl, ?_⟩
    rw[qbX]
    simp (disch:=first|omega|decide|simp only[qaf,qad,qag,qae,qah,qac,qaa,qab,qai]) only[zH,qap,zD,qcD,zH,qck,List.getElem?_cons_zero,qbt,qcD]
  · rintro st ⟨H, rfl, h0⟩
    apply qbs
    simp (disch:=first|omega|decide|simp only[qaf,qad,qag,qae,qah,qac,qaa,qab,qai]) only[qa0,qat,qao,qan,qal,qak,qaM,qar,qay,qaJ,qaq,qaG,qaj,qaF,qaD,qas,zM,zN,zO,zP,zK,zJ,Nat.reduceAdd,zA,zB,zL,zB,zA,qaW,Nat.reduceAdd,zi,zL,L28b0]
    rfl
  · rintro st ⟨H, rfl, h0⟩ rfl
    simp (disch:=first|omega|decide|simp only[qaf,qad,qag,qae,qah,qac,qaa,qab,qai]) only[qa0,qat,qao,qan,qal,qak,qaM,qar,qay,qaJ,qaq,qaG,qaj,qaF,qa8,qaD,qas,retK_normal,zM,zN,zO,zP,zK,zJ,zH,Nat.reduceAdd,zD,zA,zB,zL,zB,zA,qaW,Nat.reduceAdd,zi,zL,zH,resVal_none,L28b0]
    rw[qdk 1 _ _ [] (by simp only[qav,FUEL,qaz,qax,qaB,zV,zX,zI,zQ,zC,zG,zW,zf,zE,zq,zp,zo,ne_eq,z9,range_one,qbj,qbu,qbj,nms_tup0,h0])]
    simp (disch:=first|omega|decide|simp only[qaf,qad,qag,qae,qah,qac,qaa,qab,qai]) only[zG,zC,zH,qcD,zzB,zH,range_one,ren_tup0,qbt,qcD,h0,tbT_all]
end Aes
