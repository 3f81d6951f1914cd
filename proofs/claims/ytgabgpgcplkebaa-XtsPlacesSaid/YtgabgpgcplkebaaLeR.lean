/- Doubling a tweak, evaluated. -/
import Derived.Test.YtgabgpgcplkebaaLeQ
set_option linter.unusedVariables false
set_option linter.unusedSimpArgs false
namespace Xf
open Go Go.LE Aes
theorem double_F (k:Nat) (lo hi:BitVec 64):F C (k+1) 53 [Hf lo hi] []=some (Hf (lo <<< 1 ^^^ (hi >>> 63)*135#64) (hi <<< 1 ||| lo >>> 63),[],[]):=by
  rw[qbT f53]
  simp (disch:=first|omega|decide|simp only[qaf,qad,qag,qae,qah,qac,qaa,qab,qai]) only[qbk,qbI,qat,qao,qan,qal,qak,qaM,qar,qbc,qay,qaJ,qaq,qaH,qaG,qaj,qbr,zM,zN,zO,zP,zG,zC,zI,zR,zQ,qbd,z7,zK,zJ,B64_mul,B64_or,B64_xor,B64_shl64,B64_shr64,zH,BitVec.toNat_ofNat,Nat.reduceAdd,Nat.reduceSub,zH,qa2,qap,qdt,qcN,cellsOf_B64,isCell_B64,qaR,qct,qbn,qbV,qcO,op_box,qcH,qbF,qbl,qdh,op_fa,qcy,qb6,qcZ,qcR,aggR_some,op_build,agg_Hf,qdr,outOf_Hf,qbC,zzE,zzA,zzD,zw,zzG,zzJ,za,zd,zU,zF,Nat.reduceEqDiff,Nat.reduceLeDiff,zS,zu,zD,zE,zA,zB,Nat.le_refl,qdl,qdu,Nat.reducePow,Nat.reduceMod,L53]
def lo (x:BitVec 128):BitVec 64:=x.setWidth 64
def hi (x:BitVec 128):BitVec 64:=(x >>> 64).setWidth 64
def hc (x:BitVec 128):qaV:=[B64 (lo x),B64 (hi x)]
theorem lo_bit (x:BitVec 128) (i:Nat):(lo x).getLsbD i=(decide (i < 64) && x.getLsbD i):=by simp[lo,BitVec.getLsbD_setWidth]
theorem hi_bit (x:BitVec 128) (i:Nat):(hi x).getLsbD i=(decide (i < 64) && x.getLsbD (64+i)):=by simp[hi,BitVec.getLsbD_setWidth,BitVec.getLsbD_ushiftRight]
theorem lo_xor (x y:BitVec 128):lo x ^^^ lo y=lo (x ^^^ y):=by simp[lo]
theorem dbl_lo (x:BitVec 128):lo x <<< 1 ^^^ (hi x >>> 63)*135#64=lo (GF.dbl 135#128 x):=by
  have ht:hi x >>> 63=if x.getLsbD 127=true then 1#64 else 0#64:=by
    have bit:∀ i,(hi x >>> 63).getLsbD i=(decide (i=0) && x.getLsbD 127):=by
      intro i
      rw[BitVec.getLsbD_ushiftRight,hi_bit]
      by_cases h0:i=0
      · subst h0; rfl
      · have h1 : ¬ 63 + i < 64 := by omega
        rw[decide_eq_false h0,decide_eq_false h1,Bool.false_and,Bool.false_and]
    apply BitVec.eq_of_getLsbD_eq; intro i h
    rw[bit]
    by_cases hx:x.getLsbD 127=true
    · rw[if_pos hx,hx,BitVec.getLsbD_one]; simp
    · have hx' : x.getLsbD 127 = false := by simpa using hx
      rw[if_neg hx,hx']; simp
  unfold GF.dbl
  rw[ht,←lo_xor]
  congr 1
  · apply BitVec.eq_of_getLsbD_eq; intro i h
    simp only[BitVec.getLsbD_shiftLeft,lo_bit,h,zT,Bool.true_and]
    have h1:i < 128:=by omega
    have h2:i - 1 < 64:=by omega
    simp[h1,h2]
  · by_cases hx : x.getLsbD 127 = true
    · rw[if_pos hx,if_pos hx]; rfl
    · rw[if_neg hx,if_neg hx]; rfl
theorem dbl_hi (x:BitVec 128):hi x <<< 1 ||| lo x >>> 63=hi (GF.dbl 135#128 x):=by
  have h135:∀ i,(135#128).getLsbD (64+i)=false:=by
    intro i
    have:(135#128).toNat < 2 ^ (64+i):=Nat.lt_of_lt_of_le (by decide:(135#128).toNat < 2 ^ 64) (Nat.pow_le_pow_right (by decide) (by omega))
    rw[BitVec.getLsbD]
    exact Nat.testBit_lt_two_pow this
  apply BitVec.eq_of_getLsbD_eq; intro i h
  unfold GF.dbl
  simp only[BitVec.getLsbD_or,BitVec.getLsbD_shiftLeft,BitVec.getLsbD_ushiftRight,hi_bit,lo_bit,BitVec.getLsbD_xor,h,zT,Bool.true_and]
  have h0:((if x.getLsbD (128 - 1)=true then 135#128 else 0#128):BitVec 128).getLsbD (64+i)=false:=by
    split
    · exact h135 i
    · simp
  rw[h0,Bool.xor_false]
  have h3:64+i < 128:=by omega
  by_cases hi0:i=0
  · subst hi0; simp
  · have h1 : ¬ 63 + i < 64 := by omega
    have h2:i - 1 < 64:=by omega
    have h4:64+(i - 1)=64+i - 1:=by omega
    have h5:¬ i < 1:=by omega
    have h6:¬ 64+i < 1:=by omega
    simp[h1,h2,h3,h4,h5,h6]
theorem dbl_F (k:Nat) (x:BitVec 128):F C (k+1) 53 [Hf (lo x) (hi x)] []=some (Hf (lo (GF.dbl 135#128 x)) (hi (GF.dbl 135#128 x)),[],[]):=by
  rw[double_F,dbl_lo,dbl_hi]
end Xf
namespace Xf
open Go Go.LE Aes
theorem and_one_mod (x:BitVec 64):(x % 2#64 == 1#64)=x.getLsbD 0:=by
  rw[Bool.eq_iff_iff,zm]
  constructor
  · intro h
    have:=congrArg BitVec.toNat h
    simp at this
    simp[BitVec.getLsbD,Nat.testBit,this]
  · intro h
    apply BitVec.eq_of_toNat_eq
    simp[BitVec.getLsbD,Nat.testBit_zero] at h
    simpa using h
theorem bit_at (x:BitVec 64) (i:Nat):(x >>> i % 2#64 == 1#64)=x.getLsbD i:=by
  rw[and_one_mod]; simp
def bitsP (a:BitVec 128) (i:Nat):Nat→Bool:=fun j=>(decide (j < i) || decide (64≤j∧j < 64+i)) && a.getLsbD j
theorem bits_succ (a:BitVec 128) (i:Nat) (h:i < 64):bitsP a (i+1)=set1 (set1 (bitsP a i) i ((lo a).getLsbD i)) (64+i) ((hi a).getLsbD i):=by
  funext j
  simp only[set1,bitsP,lo_bit,hi_bit,h,zT,Bool.true_and]
  by_cases h1:j=64+i
  · subst h1; simp
  · by_cases h2 : j = i
    · subst h2; simp[]
    · rw [if_neg h1, if_neg h2]
      congr 1
      have e1:(j < i+1)↔(j < i):=by omega
      have e2:(64≤j∧j < 64+(i+1))↔(64≤j∧j < 64+i):=by omega
      simp only[e1,e2]
def bI (a:BitVec 128) (i:Nat) (st:St):Prop := ∃ (H:Heap),st=⟨[.undef,.ptr (1,0) 0,.ptr (1,1) 0,.ptr (1,2) 0,N i,.undef,.undef,.undef,.undef,.undef,.undef,.undef,.undef,.undef,.undef,.undef,.undef,.undef,.undef,.undef,.undef,.undef,.undef,.undef,.undef,.undef,.undef],H,2,0⟩ ∧
  H (1,0)=some [B64 (lo a),B64 (hi a)]∧H (1,1)=some (aO 128 fun _=>false)∧H (1,2)=some (aO 128 (bitsP a i))
theorem bits_round (k K:Nat) (a:BitVec 128) (i:Nat) (hi':i < 64) (st:St) (hI:bI a i st) :
    ∃ st1,ev (envC C k) K L66b0 st=some (.normal,st1)∧bI a (i+1) (qcr L66k0 st1):=by
  obtain ⟨H,rfl,h0,h1,h2⟩:=hI
  apply Exists.intro
  apply And.intro
  · simp (disch := first | omega | decide | simp only [qaf, qad, qag, qae, qah, qac, qaa, qab, qai]) only [qbh, qat, qaX, qao, qan, qal, qak, qaM, qar, qbc, qay, qaJ, qaq, qaH, qaG, qaj, qaY, qaD, qa3, zM, zN, zO, zP, zK, zJ, B64_eql, Nat.reduceAdd, B64_rem, zk, qap, qcN, cellsOf_Bo, qaR, qct, qbn, qbV, qbF, qbl, op_fa, qcy, op_iaA, iaV_lt, zzE, zzA, zzD, zw, zzJ, zF, Nat.reduceEqDiff, Nat.reduceLeDiff, zZ, zD, zE, zA, zB, Nat.le_refl, zT, aO_st, zk, zB, zA, qbz, qaW, qbJ, B64_shrN, Nat.reduceLeDiff, Nat.reduceEqDiff, Nat.reduceAdd, zT, L66b0, hi', h0, h2, bit_at]
    rfl
  · refine qaT [(1, 0), (1, 1), (1, 2)] rfl (by simp only [qav, FUEL, qaz, qax, qaB, qaE, qbR, qaO, zV, zX, zI, zR, zQ, zz, zC, zW, zY, zF, zm, zn, zf, Nat.reduceEqDiff, zZ, zl, zD, zE, zb, zq, zp, zo, ne_eq, zt, qap, qaN, qaL, qaC, qbb, L66k0, h0, h1, aO_nms, qbb]) rfl ⟨_, rfl, ?_, ?_, ?_⟩
    · exact qau (1,0) rfl (by simp only[qap,zF,Nat.reduceEqDiff,zZ,zE,h0]) rfl
    · exact qau (1,1) rfl (by simp only[qap,zF,Nat.reduceEqDiff,zZ,zE,h1]) (aO_ren _ _ _)
    · rw [bits_succ a i hi']
      exact qau (1,2) rfl (by simp only[qap,zD]) (aO_ren _ _ _)
theorem bits_F (k:Nat) (a:BitVec 128):F C (k+66) 66 [Hf (lo a) (hi a)] []=some (.agg (aO 128 fun j=>a.getLsbD j),[],[]):=by
  rw[qbT f66]
  simp (disch:=first|omega|decide|simp only[qaf,qad,qag,qae,qah,qac,qaa,qab,qai]) only[qbk,qat,qaX,qao,qan,qal,qak,qaM,qar,qay,qaJ,qaH,qaj,zM,zN,zO,zI,zR,qbd,z7,zK,zJ,qbH,Nat.reduceAdd,Nat.reduceSub,qdt,qcO,op_box,qcH,qdr,zA,zB,aO_rep,zB,zA,Nat.reduceAdd,L66]
  generalize hL:qbW L66k0 _ _ _=r
  refine qby hL (bI a) 64 (by omega) (fun i st hi hI=>bits_round _ _ a i hi st hI) ?_ ?_ ?_
  · refine qaT [(2, 0), (3, 0), (4, 0)] rfl (by simp only [qav, FUEL, qaz, qax, qaB, qaE, qbR, qaO, zV, zX, zI, zR, zQ, zz, zC, zW, zY, zF, zm, zn, zf, Nat.reduceEqDiff, zS, zl, zD, zE, zq, zp, zo, ne_eq, zt, qap, qaN, qaL, qaC, qa2, qbb, L66k0, aO_nms, qbb]) rfl ⟨_, rfl, ?_, ?_, ?_⟩
    · exact qau (2,0) rfl (by simp only[qap,zF,Nat.reduceEqDiff,zS,zD,zE]) rfl
    · exact qau (3,0) rfl (by simp only[qap,zF,Nat.reduceEqDiff,zS,zD,zE]) (aO_ren _ _ _)
    · rw [show bitsP a 0 = fun _ => false by funext j; simp [bitsP]; omega]
      exact qau (4,0) rfl (by simp only[qap,zF,Nat.reduceEqDiff,zS,zD,zE]) (aO_ren _ _ _)
  · rintro st ⟨H, rfl, h0, h1, h2⟩
    apply qbs
    simp (disch:=first|omega|decide|simp only[qaf,qad,qag,qae,qah,qac,qaa,qab,qai]) only[qa0,qat,qao,qan,qal,qak,qaM,qar,qay,qaJ,qaq,qaH,qaG,qaj,qaF,qaD,qas,zM,zN,zO,zP,zK,zJ,Nat.reduceAdd,zA,zB,zL,qaW,Nat.reduceAdd,zi,zL,L66b0]
    rfl
  · rintro st ⟨H, rfl, h0, h1, h2⟩ rfl
    have e:bitsP a 64=fun j=>a.getLsbD j:=by
      funext j
      by_cases h:j < 128
      · simp only [bitsP]
        have:(decide (j < 64) || decide (64≤j∧j < 64+64))=true:=by simp; omega
        rw[this,Bool.true_and]
      · simp only[bitsP,BitVec.getLsbD_of_ge a j (by omega),zj]
    rw[e] at h2
    simp (disch:=first|omega|decide|simp only[qaf,qad,qag,qae,qah,qac,qaa,qab,qai]) only[qbI,qa0,qat,qao,qan,qal,qak,qaM,qar,qbc,qay,qaJ,qaq,qaH,qaG,qaj,qaF,qa8,qaD,qas,qbr,zM,zN,zO,zP,zK,zJ,zH,Nat.reduceAdd,zH,qap,qcN,qa5,qaR,qbv,qco,qbF,qbl,zD,zA,zB,zL,qdl,qdu,aO_cells,aO_st_all,aO_outOf,zB,zA,qaW,Nat.reduceAdd,zi,zL,L66b0,h1,h2]
end Xf
namespace Xf
open Go Go.LE Aes
def fbv (b:Nat→Bool):Nat→BitVec 64
  | 0=>0#64
  | i+1=>if b i=true then fbv b i ||| 1#64 <<< i else fbv b i
theorem fbv_bit (b:Nat→Bool):∀ n j,(fbv b n).getLsbD j=(decide (j < n) && decide (j < 64) && b j):=by
  intro n
  induction n with
  | zero=>intro j; simp[fbv]
  | succ n ih =>
    intro j
    simp only[fbv]
    split
    · rename_i h
      rw[BitVec.getLsbD_or,ih,BitVec.getLsbD_shiftLeft]
      by_cases hj:j=n
      · subst hj; simp[h]
      · by_cases hj2 : j < n
        · simp[hj2,show j < n+1 by omega]
        · have h3 : ¬ j < n + 1 := by omega
          have h4:¬ j - n=0:=by omega
          simp[hj2,h3,h4]
    · rename_i h
      rw[ih]
      by_cases hj:j=n
      · subst hj; simp[h]
      · have : (j < n + 1) ↔ (j < n) := by omega
        simp only[this]
def ofBits (b:Nat→Bool):BitVec 128:=fbv (fun j=>b (64+j)) 64++fbv b 64
theorem ofBits_bit (b:Nat→Bool) (j:Nat):(ofBits b).getLsbD j=(decide (j < 128) && b j):=by
  rw[ofBits,BitVec.getLsbD_append]
  by_cases h:j < 64
  · rw [if_pos h, fbv_bit]
    have:j < 128:=by omega
    simp[h,this]
  · rw [if_neg h, fbv_bit]
    by_cases h2:j < 128
    · have h3 : j - 64 < 64 := by omega
      have h4:64+(j - 64)=j:=by omega
      simp[h2,h3,h4]
    · have h3 : ¬ j - 64 < 64 := by omega
      simp[h2,h3]
theorem lo_app (x y:BitVec 64):lo (y++x)=x:=by
  apply BitVec.eq_of_getLsbD_eq; intro i hi
  rw[lo_bit,BitVec.getLsbD_append]
  simp[hi]
theorem hi_app (x y:BitVec 64):hi (y++x)=y:=by
  apply BitVec.eq_of_getLsbD_eq; intro i hi
  rw[hi_bit,BitVec.getLsbD_append]
  have h1:¬ 64+i < 64:=by omega
  simp[hi,h1]
def fI (b:Nat→Bool) (i:Nat) (st:St):Prop := ∃ (H:Heap),st=⟨[.undef,.ptr (1,0) 0,.ptr (1,1) 0,.ptr (1,2) 0,N i,.undef,.undef,.undef,.undef,.undef,.undef,.undef,.undef,.undef,.undef,.undef,.undef,.undef,.undef,.undef,.undef,.undef,.undef,.undef,.undef,.undef,.undef,.undef,.undef,.undef],H,2,0⟩ ∧
  H (1,0)=some (aO 128 b)∧H (1,1)=some [B64 0#64,B64 0#64]∧H (1,2)=some [B64 (fbv b i),B64 (fbv (fun j=>b (64+j)) i)]
theorem fb_round (k K:Nat) (b:Nat→Bool) (i:Nat) (hi':i < 64) (st:St) (hI:fI b i st) :
    ∃ st1,ev (envC C k) K L65b0 st=some (.normal,st1)∧fI b (i+1) (qcr L65k0 st1):=by
  obtain ⟨H,rfl,h0,h1,h2⟩:=hI
  cases hb:b i <;> cases hc:b (64+i)
  all_goals
    apply Exists.intro
    apply And.intro
    · simp (disch := first | omega | decide | simp only [qaf, qad, qag, qae, qah, qac, qaa, qab, qai]) only [qbh, qat, qaX, qao, qan, qal, qak, qaM, qar, qbc, qay, qaJ, qaq, qaH, qaG, qaj, qaY, qaD, qa3, qas, qbR, zM, zN, zO, zP, zI, zR, zQ, zK, zJ, B64_or, Nat.reduceAdd, Nat.reduceSub, zk, qap, cellsOf_B64, isCell_B64, qaR, qct, qbn, qbV, qbF, qbl, qdh, op_fa, qcy, op_iaA, iaV_lt, qbC, zzE, zzA, zzD, zw, zzG, zzJ, za, zd, zU, zF, Nat.reduceEqDiff, Nat.reduceLeDiff, Nat.reduceLT, zZ, zu, zD, zE, zA, zB, Nat.le_refl, zT, aO_cell, zk, zB, zA, qbz, qaW, qbJ, B64_shlN, Nat.reduceLT, Nat.reduceLeDiff, Nat.reduceEqDiff, Nat.reduceAdd, zT, zg, ze, qa9, qbo, ordK_pure, ordK_mod, qbE, qca, qcl, qaE, zY, zW, zx, z6, z0, qbQ, qba, za, zd, Nat.testBit, Nat.reduceShiftRight, Nat.reduceAnd, Nat.reduceBEq, ze, zg, zy, zU, zj, Nat.reduceSub, Nat.reduceLT, bne, qbg, qbG, qbS, qbp, qbZ, qb0, zj, zU, L65b0, hi', h0, h2, hb, hc]
      rfl
    · refine qaT [(1, 0), (1, 1), (1, 2)] rfl (by simp only [qav, FUEL, qaz, qax, qaB, qaE, qbR, qaO, zV, zX, zI, zR, zQ, zz, zC, zW, zY, zF, zm, zn, zf, Nat.reduceEqDiff, zZ, zl, zD, zE, zb, zq, zp, zo, ne_eq, zt, qap, qaN, qaL, qaC, qbb, L65k0, h0, h1, h2, aO_nms, qbb]) rfl ⟨_, rfl, ?_, ?_, ?_⟩
      · exact qau (1,0) rfl (by simp only[qap,zF,Nat.reduceEqDiff,zZ,zE,h0]) (aO_ren _ _ _)
      · exact qau (1,1) rfl (by simp only[qap,zF,Nat.reduceEqDiff,zZ,zE,h1]) rfl
      · simp only [fbv, hb, hc, zD, zf, zE]
        exact qau (1,2) rfl (by simp only[qap,zD,h2]) rfl
theorem fromBits_F (k:Nat) (b:Nat→Bool):F C (k+66) 65 [.agg (aO 128 b)] []=some (Hf (lo (ofBits b)) (hi (ofBits b)),[],[]):=by
  rw[qbT f65]
  simp (disch:=first|omega|decide|simp only[qaf,qad,qag,qae,qah,qac,qaa,qab,qai]) only[qbk,qat,qaX,qao,qan,qal,qak,qaM,qar,qbc,qay,qaJ,qaH,qaj,zM,zN,zO,zP,zC,zI,zR,zQ,qbd,z7,zK,zJ,qbH,Nat.reduceAdd,Nat.reduceSub,qa2,qap,qdt,qcN,qa5,isCell_B64,qcO,op_box,qcH,qbF,qbl,qdh,qb6,aggR_some,op_build,agg_Hf,qdr,qbC,zzA,zzD,zzG,za,zd,zU,zF,Nat.reduceEqDiff,zS,zu,zD,zE,zA,zB,Nat.le_refl,zB,zA,Nat.reduceEqDiff,Nat.reduceAdd,L65]
  generalize hL:qbW L65k0 _ _ _=r
  refine qby hL (fI b) 64 (by omega) (fun i st hi hI=>fb_round _ _ b i hi st hI) ?_ ?_ ?_
  · refine qaT [(2, 0), (3, 0), (5, 0)] rfl (by simp only [qav, FUEL, qaz, qax, qaB, qaE, qbR, qaO, zV, zX, zI, zR, zQ, zz, zC, zW, zY, zF, zm, zn, zf, Nat.reduceEqDiff, zS, zl, zD, zE, zq, zp, zo, ne_eq, zt, qap, qaN, qaL, qaC, qa2, qbb, L65k0, aO_nms, qbb]) rfl ⟨_, rfl, ?_, ?_, ?_⟩
    · exact qau (2,0) rfl (by simp only[qap,zF,Nat.reduceEqDiff,zS,zD,zE]) (aO_ren _ _ _)
    · exact qau (3,0) rfl (by simp only[qap,zF,Nat.reduceEqDiff,zS,zD,zE]) rfl
    · exact qau (5,0) rfl (by simp only[qap,zF,Nat.reduceEqDiff,zS,zD,zE,fbv]) rfl
  · rintro st ⟨H, rfl, h0, h1, h2⟩
    apply qbs
    simp (disch:=first|omega|decide|simp only[qaf,qad,qag,qae,qah,qac,qaa,qab,qai]) only[qa0,qat,qao,qan,qal,qak,qaM,qar,qay,qaJ,qaq,qaH,qaG,qaj,qaF,qaD,qas,zM,zN,zO,zP,zK,zJ,Nat.reduceAdd,zA,zB,zL,qaW,Nat.reduceAdd,zi,zL,L65b0]
    rfl
  · rintro st ⟨H, rfl, h0, h1, h2⟩ rfl
    rw[ofBits,lo_app,hi_app]
    simp (disch:=first|omega|decide|simp only[qaf,qad,qag,qae,qah,qac,qaa,qab,qai]) only[qbI,qa0,qat,qao,qan,qal,qak,qaM,qar,qbc,qay,qaJ,qaq,qaH,qaG,qaj,qaF,qa8,qaD,qas,qbr,zM,zN,zO,zP,zI,zQ,zK,zJ,zH,Nat.reduceAdd,zH,qap,qcN,isCell_B64,qaR,qct,qbv,qco,qbF,qbl,qdh,agg_Hf,qdr,outOf_Hf,qbC,zzE,zzA,zzD,zw,zzG,zzJ,za,zd,zU,zu,zD,zA,zB,Nat.le_refl,zL,qdl,qdu,zB,zA,qaW,Nat.reduceAdd,zi,zL,L65b0,h1,h2]
end Xf
namespace Xf
open Go Go.LE Aes
theorem bit8_at (x:BitVec 8) (i:Nat):(x >>> i % 2#8 == 1#8)=x.getLsbD i:=by
  rw[Bool.eq_iff_iff,zm]
  have e:x.getLsbD i=(x >>> i).getLsbD 0:=by simp
  rw[e]
  generalize x >>> i=y
  constructor
  · intro h
    have:=congrArg BitVec.toNat h
    simp at this
    simp[BitVec.getLsbD,Nat.testBit,this]
  · intro h
    apply BitVec.eq_of_toNat_eq
    simp[BitVec.getLsbD,Nat.testBit_zero] at h
    simpa using h
def byteBit (c:Nat→BitVec 8) (j:Nat):Bool:=(c (j / 8)).getLsbD (j % 8)
def ofP (c:Nat→BitVec 8) (i:Nat):Nat→Bool:=fun j=>decide (j < i) && byteBit c j
theorem ofP_succ (c:Nat→BitVec 8) (i:Nat):ofP c (i+1)=set1 (ofP c i) i ((c (i / 8)).getLsbD (i % 8)):=by
  funext j
  simp only[set1,ofP]
  by_cases h:j=i
  · subst h; simp[byteBit]
  · rw [if_neg h]
    have:(j < i+1)↔(j < i):=by omega
    simp only[this]
def oI (c:Nat→BitVec 8) (i:Nat) (st:St):Prop := ∃ (H:Heap),st=⟨[.undef,.ptr (1,0) 0,.ptr (1,1) 0,.ptr (1,2) 0,N i,.undef,.undef,.undef,.undef,.undef,.undef,.undef,.undef,.undef,.undef,.undef,.undef,.undef,.undef,.undef,.undef,.undef],H,2,0⟩ ∧
  H (1,0)=some (aB 16 c)∧H (1,1)=some [B64 0#64,B64 0#64]∧H (1,2)=some (aO 128 (ofP c i))
theorem rof_round (k K:Nat) (c:Nat→BitVec 8) (i:Nat) (hi':i < 128) (st:St) (hI:oI c i st) :
    ∃ st1,ev (envC C k) K L61b0 st=some (.normal,st1)∧oI c (i+1) (qcr L61k0 st1):=by
  obtain ⟨H,rfl,h0,h1,h2⟩:=hI
  have h16:i / 8 < 16:=by omega
  apply Exists.intro
  apply And.intro
  · simp (disch := first | omega | decide | simp only [qaf, qad, qag, qae, qah, qac, qaa, qab, qai]) only [qbh, qat, qaX, qao, qan, qal, qak, qaM, qar, qbc, qay, qaJ, qaq, qaH, qaG, qaj, qaY, qaD, qa3, zM, zN, zO, zP, zK, zJ, B8_eql, Nat.reduceAdd, B8_rem, zk, qcN, cellsOf_Bo, qaR, qbn, qbV, qbF, qbl, op_iaA, iaV_lt, zA, zB, zT, aB_cell, aO_st, zk, zB, zA, qbz, N_quo, N_rem, qaW, qbJ, B8_shrN, Nat.reduceAdd, zT, L61b0, hi', h0, h2, bit8_at]
    rfl
  · refine qaT [(1, 0), (1, 1), (1, 2)] rfl (by simp only [qav, FUEL, qaz, qax, qaB, qaE, qbR, qaO, zV, zX, zI, zR, zQ, zz, zC, zW, zY, zF, zm, zn, zf, Nat.reduceEqDiff, zZ, zl, zD, zE, zb, zq, zp, zo, ne_eq, zt, qap, qaN, qaL, qaC, qbb, L61k0, h0, h1, qbP, aO_nms, qbb]) rfl ⟨_, rfl, ?_, ?_, ?_⟩
    · exact qau (1,0) rfl (by simp only[qap,zF,Nat.reduceEqDiff,zZ,zE,h0]) (qa4 _ _ _)
    · exact qau (1,1) rfl (by simp only[qap,zF,Nat.reduceEqDiff,zZ,zE,h1]) rfl
    · rw [ofP_succ]
      exact qau (1,2) rfl (by simp only[qap,zD]) (aO_ren _ _ _)
theorem rof_F (k:Nat) (c:Nat→BitVec 8):F C (k+130) 61 [.agg (aB 16 c)] []=some (Hf (lo (ofBits (byteBit c))) (hi (ofBits (byteBit c))),[],[]):=by
  rw[qbT f61]
  simp (disch:=first|omega|decide|simp only[qaf,qad,qag,qae,qah,qac,qaa,qab,qai]) only[qbk,qat,qaX,qao,qan,qal,qak,qaM,qar,qay,qaJ,qaH,qaj,zM,zN,zO,zI,zR,qbd,z7,zK,zJ,qbH,Nat.reduceAdd,Nat.reduceSub,qdt,qa5,qcO,op_box,qcH,zA,zB,aO_rep,zB,zA,Nat.reduceAdd,L61]
  generalize hL:qbW L61k0 _ _ _=r
  refine qby hL (oI c) 128 (by omega) (fun i st hi hI=>rof_round _ _ c i hi st hI) ?_ ?_ ?_
  · refine qaT [(2, 0), (3, 0), (4, 0)] rfl (by simp only [qav, FUEL, qaz, qax, qaB, qaE, qbR, qaO, zV, zX, zI, zR, zQ, zz, zC, zW, zY, zF, zm, zn, zf, Nat.reduceEqDiff, zS, zl, zD, zE, zq, zp, zo, ne_eq, zt, qap, qaN, qaL, qaC, qa2, qbb, L61k0, qbP, aO_nms, qbb]) rfl ⟨_, rfl, ?_, ?_, ?_⟩
    · exact qau (2,0) rfl (by simp only[qap,zF,Nat.reduceEqDiff,zS,zD,zE]) (qa4 _ _ _)
    · exact qau (3,0) rfl (by simp only[qap,zF,Nat.reduceEqDiff,zS,zD,zE]) rfl
    · rw [show ofP c 0 = fun _ => false by funext j; simp [ofP]]
      exact qau (4,0) rfl (by simp only[qap,zF,Nat.reduceEqDiff,zS,zD,zE]) (aO_ren _ _ _)
  · rintro st ⟨H, rfl, h0, h1, h2⟩
    apply qbs
    simp (disch:=first|omega|decide|simp only[qaf,qad,qag,qae,qah,qac,qaa,qab,qai]) only[qa0,qat,qao,qan,qal,qak,qaM,qar,qay,qaJ,qaq,qaH,qaG,qaj,qaF,qaD,qas,zM,zN,zO,zP,zK,zJ,Nat.reduceAdd,zA,zB,zL,qaW,Nat.reduceAdd,zi,zL,L61b0]
    rfl
  · rintro st ⟨H, rfl, h0, h1, h2⟩ rfl
    have e:aO 128 (ofP c 128)=aO 128 (byteBit c):=aO_ext 128 fun j hj=>by simp[ofP,hj]
    rw[e] at h2
    have hf:=fromBits_F (k+63) (byteBit c)
    rw[Nat.add_assoc] at hf
    simp only[Nat.reduceAdd] at hf
    simp (disch:=first|omega|decide|simp only[qbU,nms_B32,qbR,nms_I,qbb,qci,qcM,qaO,nms_Hf,qaE,qaQ,qbe,qc6,qc8,qc3,zV,zX,zI,zQ,ren_B8,ren_B32,qcu,ren_I,ren_N,ren_Bo,ren_Un,qdj,ren_Hf,qbN,qc7,qc9,qcY,zG,zC,ren7_I,ren7_N,ren7_Bo,ren7_B8,ren7_B32,ren7_B64,nms7_I,nms7_N,nms7_Bo,nms7_B8,nms7_B32,nms7_B64,qcV,qb8,implies_true,l65,qaf,qaP,qaK,qbw,qbO,qad,qag,qae,qah,qac,qaa,qab,qai]) only[qbI,qa0,qat,qao,qan,qal,qak,qaM,qar,qbc,qay,qaJ,qaq,qaH,qaG,qa7,qa1,qaj,qaF,qa8,qaD,qas,qbr,zM,zN,zO,zP,zG,zC,zI,zQ,zK,zJ,qda,zH,Nat.reduceAdd,zH,qap,qcN,isCell_B64,qaR,qct,qbv,qco,qbF,qbl,qdh,agg_Hf,qdr,calK_Hf,outOf_Hf,qbC,zzE,zzA,zzD,zw,zzG,zzJ,za,zd,zU,zu,zD,zA,zB,Nat.le_refl,zL,qdl,qdu,aO_cells,zB,zA,qaW,Nat.reduceAdd,zi,zL,L61b0,h1,h2,hf]
def qb1 (a:BitVec 128) (j:Nat):BitVec 8:=(a >>> (8*j)).setWidth 8
def rbP (a:BitVec 128) (i j:Nat):BitVec 8:=qb1 (a &&& (BitVec.ofNat 128 (2 ^ i - 1))) j
theorem byteOf_bit (a:BitVec 128) (j n:Nat):(qb1 a j).getLsbD n=(decide (n < 8) && a.getLsbD (8*j+n)):=by
  simp[qb1,BitVec.getLsbD_setWidth,BitVec.getLsbD_ushiftRight]
theorem rbP_bit (a:BitVec 128) (i j n:Nat):(rbP a i j).getLsbD n=(decide (n < 8) && (decide (8*j+n < i) && a.getLsbD (8*j+n))):=by
  rw[rbP,byteOf_bit,BitVec.getLsbD_and]
  congr 1
  rw[Bool.and_comm]
  by_cases h:8*j+n < 128
  · congr 1
    rw[BitVec.getLsbD_ofNat,Nat.testBit_two_pow_sub_one]
    simp[h]
  · simp[BitVec.getLsbD_of_ge a _ (Nat.le_of_not_lt h)]
theorem rbP_succ (a:BitVec 128) (i:Nat) (hi:i < 128):rbP a (i+1)=if a.getLsbD i then set1 (rbP a i) (i / 8) (rbP a i (i / 8) ||| 1#8 <<< (i % 8)) else rbP a i:=by
  funext j
  apply BitVec.eq_of_getLsbD_eq
  intro n hn
  by_cases hb:a.getLsbD i=true
  · rw [if_pos hb]
    simp only[set1]
    by_cases hj:j=i / 8
    · subst hj
      rw[if_pos rfl,BitVec.getLsbD_or,rbP_bit,rbP_bit,BitVec.getLsbD_shiftLeft]
      by_cases h1:n=i % 8
      · have h2 : 8 * (i / 8) + n = i := by omega
        simp only[h2,hb,hn]
        simp[h1]
      · have h3 : (8 * (i / 8) + n < i + 1) ↔ (8 * (i / 8) + n < i) := by omega
        have h4:(decide (n < 8) && !decide (n < i % 8) && (1#8).getLsbD (n - i % 8))=false:=by
          by_cases h5:n < i % 8
          · simp[h5]
          · have h6 : ¬ n - i % 8 = 0 := by omega
            simp[h6]
        rw[h4,z0]
        simp only[h3]
    · rw [if_neg hj, rbP_bit, rbP_bit]
      have h3:(8*j+n < i+1)↔(8*j+n < i):=by omega
      simp only[h3]
  · rw [if_neg hb, rbP_bit, rbP_bit]
    by_cases h1:8*j+n=i
    · simp[h1,hb]
    · have h3 : (8 * j + n < i + 1) ↔ (8 * j + n < i) := by omega
      simp only[h3]
def rbI (a:BitVec 128) (i:Nat) (st:St):Prop := ∃ (H:Heap),st=⟨[.undef,.undef,.ptr (1,0) 0,.ptr (1,1) 0,.ptr (1,2) 0,N i,.undef,.undef,.undef,.undef,.undef,.undef,.undef,.undef,.undef,.undef,.undef,.undef,.undef,.undef,.undef,.undef,.undef,.undef,.undef,.undef,.undef],H,2,0⟩ ∧
  H (1,0)=some (aB 16 fun _=>0#8)∧H (1,1)=some (aB 16 (rbP a i))∧H (1,2)=some (aO 128 fun j=>a.getLsbD j)
theorem rb_round (k K:Nat) (a:BitVec 128) (i:Nat) (hi':i < 128) (st:St) (hI:rbI a i st) :
    ∃ st1,ev (envC C k) K L62b0 st=some (.normal,st1)∧rbI a (i+1) (qcr L62k0 st1):=by
  obtain ⟨H,rfl,h0,h1,h2⟩:=hI
  have h16:i / 8 < 16:=by omega
  cases hb:a.getLsbD i
  all_goals
    apply Exists.intro
    apply And.intro
    · simp (disch := first | omega | decide | simp only [qaf, qad, qag, qae, qah, qac, qaa, qab, qai]) only [qbh, qat, qaX, qao, qan, qal, qak, qaM, qar, qbc, qay, qaJ, qaq, qaH, qaG, qaj, qaY, qaD, qa3, qas, qbU, zM, zN, zO, zP, zQ, zK, zJ, B8_or, Nat.reduceAdd, Nat.reduceSub, zk, qb5, qaR, qbn, qbV, qbF, qbl, op_iaA, iaV_lt, za, zd, zU, Nat.reduceLT, zD, zA, zB, zT, aB_cell, aB_st, aO_cell, zk, zB, zA, qbz, N_quo, N_rem, qaW, qbJ, B8_shlN, Nat.reduceLT, Nat.reduceAdd, zT, zg, ze, qa9, qbo, ordK_pure, ordK_mod, qbE, qca, qcl, qaE, zY, zW, zx, z6, z0, qbQ, qba, za, zd, Nat.testBit, Nat.reduceShiftRight, Nat.reduceAnd, Nat.reduceBEq, ze, zg, zy, zU, zj, Nat.reduceSub, Nat.reduceLT, bne, qbg, qbG, qbS, qbp, qbZ, qb0, zj, zU, L62b0, hi', h1, h2, hb]
      rfl
    · refine qaT [(1, 0), (1, 1), (1, 2)] rfl (by simp only [qav, FUEL, qaz, qax, qaB, qaE, qaO, zV, zX, zI, zR, zQ, zz, zC, zW, zY, zF, zm, zn, zf, Nat.reduceEqDiff, zZ, zl, zD, zE, zb, zh, zq, zp, zo, ne_eq, zt, qap, qaN, qaL, qaC, qbb, L62k0, h0, h1, h2, qbP, aO_nms, qbb]) rfl ⟨_, rfl, ?_, ?_, ?_⟩
      · exact qau (1,0) rfl (by simp only[qap,zF,zZ,zE,zh,h0]) (qa4 _ _ _)
      · rw [rbP_succ a i hi', hb]
        simp only[zD,zf,zE]
        exact qau (1,1) rfl (by simp only[qap,zD,h1]) (qa4 _ _ _)
      · exact qau (1,2) rfl (by simp only[qap,zF,Nat.reduceEqDiff,zZ,zE,h2]) (aO_ren _ _ _)
theorem rbytes_F (k:Nat) (a:BitVec 128):F C (k+130) 62 [Hf (lo a) (hi a)] []=some (.agg (aB 16 (qb1 a)),[],[]):=by
  rw[qbT f62]
  have hf:=bits_F (k+63) a
  rw[Nat.add_assoc] at hf
  simp only[Nat.reduceAdd] at hf
  simp (disch:=first|omega|decide|simp only[qbU,nms_B32,qbR,nms_I,qbb,qci,qcM,qaO,nms_Hf,qaE,qaQ,qbe,qc6,qc8,qc3,zV,zX,zI,zQ,ren_B8,ren_B32,qcu,ren_I,ren_N,ren_Bo,ren_Un,qdj,ren_Hf,qbN,qc7,qc9,qcY,zG,zC,ren7_I,ren7_N,ren7_Bo,ren7_B8,ren7_B32,ren7_B64,nms7_I,nms7_N,nms7_Bo,nms7_B8,nms7_B32,nms7_B64,qcV,qb8,implies_true,l66,qaf,qaP,qaK,qbw,qbO,qad,qag,qae,qah,qac,qaa,qab,qai]) only[qbk,qat,qaX,qao,qan,qal,qak,qaM,qar,qbc,qay,qaJ,qaH,qa7,qa1,qaj,zM,zN,zO,zP,zG,zC,zI,zR,qbd,z7,zK,zJ,qda,qbH,Nat.reduceAdd,Nat.reduceSub,qa2,qap,qdt,qcN,qa5,qaR,qct,qbv,qco,qcO,op_box,qcH,qbF,qbl,agg_Hf,qdr,zzE,zw,zzJ,zF,Nat.reduceEqDiff,zS,zD,zE,zA,zB,Nat.le_refl,qcU,aO_rep,aO_st_all,aO_calK,zB,zA,Nat.reduceEqDiff,Nat.reduceAdd,L62,hf]
  generalize hL:qbW L62k0 _ _ _=r
  refine qby hL (rbI a) 128 (by omega) (fun i st hi hI=>rb_round _ _ a i hi st hI) ?_ ?_ ?_
  · refine qaT [(3, 0), (4, 0), (7, 0)] rfl (by simp only [qav, FUEL, qaz, qax, qaB, qaE, qaO, zV, zX, zI, zR, zQ, zz, zC, zW, zY, zF, zm, zn, zf, Nat.reduceEqDiff, zS, zl, zD, zE, zq, zp, zo, ne_eq, zt, qap, qaN, qaL, qaC, qa2, qbb, L62k0, qbP, aO_nms, qbb]) rfl ⟨_, rfl, ?_, ?_, ?_⟩
    · exact qau (3,0) rfl (by simp only[qap,zF,Nat.reduceEqDiff,zS,zD,zE]) (qa4 _ _ _)
    · rw [show rbP a 0 = fun _ => 0#8 by funext j; simp [rbP, qb1]]
      exact qau (4,0) rfl (by simp only[qap,zF,Nat.reduceEqDiff,zS,zD,zE]) (qa4 _ _ _)
    · exact qau (7,0) rfl (by simp only[qap,zF,Nat.reduceEqDiff,zS,zD,zE]) (aO_ren _ _ _)
  · rintro st ⟨H, rfl, h0, h1, h2⟩
    apply qbs
    simp (disch:=first|omega|decide|simp only[qaf,qad,qag,qae,qah,qac,qaa,qab,qai]) only[qa0,qat,qao,qan,qal,qak,qaM,qar,qay,qaJ,qaq,qaH,qaG,qaj,qaF,qaD,qas,zM,zN,zO,zP,zK,zJ,Nat.reduceAdd,zA,zB,zL,qaW,Nat.reduceAdd,zi,zL,L62b0]
    rfl
  · rintro st ⟨H, rfl, h0, h1, h2⟩ rfl
    have e:aB 16 (rbP a 128)=aB 16 (qb1 a):=aB_ext 16 fun j hj=>by
      apply BitVec.eq_of_getLsbD_eq
      intro n hn
      rw[rbP_bit,byteOf_bit]
      simp[show 8*j+n < 128 by omega]
    rw[e] at h1
    simp (disch:=first|omega|decide|simp only[qaf,qad,qag,qae,qah,qac,qaa,qab,qai]) only[qbI,qa0,qat,qao,qan,qal,qak,qaM,qar,qbc,qay,qaJ,qaq,qaH,qaG,qaj,qaF,qa8,qaD,qas,qbr,zM,zN,zO,zP,zK,zJ,zH,Nat.reduceAdd,zH,qap,qcN,qa5,qaR,qbv,qco,qbF,qbl,zD,zA,zB,zL,qdl,qdu,qcb,qcz,aB_outOf,zB,zA,qaW,Nat.reduceAdd,zi,zL,L62b0,h0,h1]
end Xf
namespace Xf
open Go Go.LE Aes
theorem byte_lo (a:BitVec 128) (i:Nat) (h:i < 8):(lo a >>> (8*i)).setWidth 8=qb1 a i:=by
  apply BitVec.eq_of_getLsbD_eq
  intro n hn
  rw[byteOf_bit,BitVec.getLsbD_setWidth,BitVec.getLsbD_ushiftRight,lo_bit]
  have:8*i+n < 64:=by omega
  simp[this]
theorem byte_hi (a:BitVec 128) (i:Nat) (h:i < 8):(hi a >>> (8*i)).setWidth 8=qb1 a (8+i):=by
  apply BitVec.eq_of_getLsbD_eq
  intro n hn
  rw[byteOf_bit,BitVec.getLsbD_setWidth,BitVec.getLsbD_ushiftRight,hi_bit]
  have:8*i+n < 64:=by omega
  have e:64+(8*i+n)=8*(8+i)+n:=by omega
  simp[this,e]
def byP (a:BitVec 128) (i j:Nat):BitVec 8:=if j < i∨(8≤j∧j < 8+i) then qb1 a j else 0#8
theorem byP_succ (a:BitVec 128) (i:Nat) (h:i < 8):byP a (i+1)=set1 (set1 (byP a i) i (qb1 a i)) (8+i) (qb1 a (8+i)):=by
  funext j
  simp only[set1,byP]
  by_cases h1:j=8+i
  · subst h1
    rw[if_pos (by omega),if_pos rfl]
  · rw [if_neg h1]
    by_cases h2:j=i
    · subst h2
      rw[if_pos (by omega),if_pos rfl]
    · rw [if_neg h2]
      have:(j < i+1∨8≤j∧j < 8+(i+1))↔(j < i∨8≤j∧j < 8+i):=by omega
      simp only[this]
def byI (a:BitVec 128) (i:Nat) (st:St):Prop := ∃ (H:Heap),st=⟨[.undef,.ptr (1,0) 0,.ptr (1,1) 0,.ptr (1,2) 0,.undef,N i,.undef,.undef,.undef,.undef,.undef,.undef,.undef,.undef,.undef,.undef,.undef,.undef,.undef,.undef,.undef,.undef,.undef,.undef,.undef,.undef,.undef],H,2,0⟩ ∧
  H (1,0)=some [B64 (lo a),B64 (hi a)]∧H (1,1)=some (aB 16 fun _=>0#8)∧H (1,2)=some (aB 16 (byP a i))
theorem by_round (k K:Nat) (a:BitVec 128) (i:Nat) (hi':i < 8) (st:St) (hI:byI a i st) :
    ∃ st1,ev (envC C k) K L60b0 st=some (.normal,st1)∧byI a (i+1) (qcr L60k0 st1):=by
  obtain ⟨H,rfl,h0,h1,h2⟩:=hI
  apply Exists.intro
  apply And.intro
  · simp (disch := first | omega | decide | simp only [qaf, qad, qag, qae, qah, qac, qaa, qab, qai]) only [qbh, qat, qaX, qao, qan, qal, qak, qaM, qar, qbc, qay, qaJ, qaq, qaH, qaG, op_cvt, qaj, qaY, qaD, qa3, qbU, zM, zN, zO, zP, zQ, zK, zJ, cvt_64_8, Nat.reduceAdd, Nat.reduceSub, zk, qap, qb5, qaR, qct, qbn, qbV, qbF, qbl, op_fa, qcy, op_iaA, iaV_lt, zzE, zzA, zzD, zw, zzJ, za, zd, zU, Nat.reduceLeDiff, Nat.reduceLT, zD, zA, zB, Nat.le_refl, zT, aB_st, zk, zB, zA, qbz, N_mul, qaW, qbJ, B64_shrN, Nat.reduceLT, Nat.reduceLeDiff, Nat.reduceAdd, zT, qce, zg, ze, qa9, qbo, ordK_pure, ordK_mod, qbE, qca, qcl, qaE, zY, zW, zx, z6, z0, qbQ, qba, za, zd, Nat.testBit, Nat.reduceShiftRight, Nat.reduceAnd, Nat.reduceBEq, ze, zg, zy, zU, zj, Nat.reduceSub, Nat.reduceLT, bne, qbg, qbG, qbS, qbp, qbZ, qb0, zj, zU, L60b0, hi', h0, h2, byte_lo, byte_hi]
    rfl
  · refine qaT [(1, 0), (1, 1), (1, 2)] rfl (by simp only [qav, FUEL, qaz, qax, qaB, qaE, qbR, qaO, zV, zX, zI, zR, zQ, zz, zC, zW, zY, zF, zm, zn, zf, Nat.reduceEqDiff, zZ, zl, zD, zE, zb, zq, zp, zo, ne_eq, zt, qap, qaN, qaL, qaC, qbb, L60k0, h0, h1, h2, qbP, qbb]) rfl ⟨_, rfl, ?_, ?_, ?_⟩
    · exact qau (1,0) rfl (by simp only[qap,zF,Nat.reduceEqDiff,zZ,zE,h0]) rfl
    · exact qau (1,1) rfl (by simp only[qap,zF,Nat.reduceEqDiff,zZ,zE,h1]) (qa4 _ _ _)
    · rw [byP_succ a i hi']
      exact qau (1,2) rfl (by simp only[qap,zD]) (qa4 _ _ _)
theorem bytes_F (k:Nat) (a:BitVec 128):F C (k+10) 60 [Hf (lo a) (hi a)] []=some (.agg (aB 16 (qb1 a)),[],[]):=by
  rw[qbT f60]
  simp (disch:=first|omega|decide|simp only[qaf,qad,qag,qae,qah,qac,qaa,qab,qai]) only[qbk,qat,qaX,qao,qan,qal,qak,qaM,qar,qay,qaJ,qaH,qaj,zM,zN,zO,zI,zR,qbd,z7,zK,zJ,qbH,Nat.reduceAdd,Nat.reduceSub,qdt,qcO,op_box,qcH,qdr,zA,zB,qcU,zB,zA,Nat.reduceAdd,L60]
  generalize hL:qbW L60k0 _ _ _=r
  refine qby hL (byI a) 8 (by omega) (fun i st hi hI=>by_round _ _ a i hi st hI) ?_ ?_ ?_
  · refine qaT [(2, 0), (3, 0), (4, 0)] rfl (by simp only [qav, FUEL, qaz, qax, qaB, qaE, qbR, qaO, zV, zX, zI, zR, zQ, zz, zC, zW, zY, zF, zm, zn, zf, Nat.reduceEqDiff, zS, zl, zD, zE, zq, zp, zo, ne_eq, zt, qap, qaN, qaL, qaC, qa2, qbb, L60k0, qbP, qbb]) rfl ⟨_, rfl, ?_, ?_, ?_⟩
    · exact qau (2,0) rfl (by simp only[qap,zF,Nat.reduceEqDiff,zS,zD,zE]) rfl
    · exact qau (3,0) rfl (by simp only[qap,zF,Nat.reduceEqDiff,zS,zD,zE]) (qa4 _ _ _)
    · rw [show byP a 0 = fun _ => 0#8 by funext j; simp [byP]; omega]
      exact qau (4,0) rfl (by simp only[qap,zF,Nat.reduceEqDiff,zS,zD,zE]) (qa4 _ _ _)
  · rintro st ⟨H, rfl, h0, h1, h2⟩
    apply qbs
    simp (disch:=first|omega|decide|simp only[qaf,qad,qag,qae,qah,qac,qaa,qab,qai]) only[qa0,qat,qao,qan,qal,qak,qaM,qar,qay,qaJ,qaq,qaG,qaj,qaF,qaD,qas,zM,zN,zO,zP,zK,zJ,Nat.reduceAdd,zA,zB,zL,qaW,Nat.reduceAdd,zi,zL,L60b0]
    rfl
  · rintro st ⟨H, rfl, h0, h1, h2⟩ rfl
    have e:aB 16 (byP a 8)=aB 16 (qb1 a):=aB_ext 16 fun j hj=>by
      simp only[byP]
      rw[if_pos (by omega)]
    rw[e] at h2
    simp (disch:=first|omega|decide|simp only[qaf,qad,qag,qae,qah,qac,qaa,qab,qai]) only[qbI,qa0,qat,qao,qan,qal,qak,qaM,qar,qbc,qay,qaJ,qaq,qaG,qaj,qaF,qa8,qaD,qas,qbr,zM,zN,zO,zP,zK,zJ,zH,Nat.reduceAdd,zH,qap,qcN,qa5,qaR,qbv,qco,qbF,qbl,zD,zA,zB,zL,qdl,qdu,qcb,qcz,aB_outOf,zB,zA,qaW,Nat.reduceAdd,zi,zL,L60b0,h1,h2]
def ofv (c:Nat→BitVec 8):Nat→BitVec 64
  | 0=>0#64
  | i+1=>ofv c i ||| (c i).setWidth 64 <<< (8*i)
theorem ofv_bit (c:Nat→BitVec 8):∀ n j,(ofv c n).getLsbD j=(decide (j < 8*n) && decide (j < 64) && byteBit c j):=by
  intro n
  induction n with
  | zero=>intro j; simp[ofv]
  | succ n ih =>
    intro j
    rw[ofv,BitVec.getLsbD_or,ih,BitVec.getLsbD_shiftLeft,BitVec.getLsbD_setWidth]
    by_cases h64:j < 64
    · by_cases h1 : j < 8 * n
      · have h2 : j < 8 * (n + 1) := by omega
        simp[h1,h2,h64]
      · by_cases h2 : j < 8 * (n + 1)
        · have h3 : j / 8 = n := by omega
          have h4:j % 8=j - 8*n:=by omega
          have h5:j - 8*n < 64:=by omega
          simp[h1,h2,h64,byteBit,h3,h4,h5]
        · have h3 : (c n).getLsbD (j - 8 * n) = false := BitVec.getLsbD_of_ge _ _ (by omega)
          simp[h1,h2,h3]
    · simp[h64]
theorem of_app (c:Nat→BitVec 8):ofv (fun j=>c (8+j)) 8++ofv c 8=ofBits (byteBit c):=by
  apply BitVec.eq_of_getLsbD_eq
  intro j hj
  rw[ofBits_bit,BitVec.getLsbD_append]
  by_cases h:j < 64
  · rw [if_pos h, ofv_bit]
    have h2:j < 8*8:=by omega
    simp[h,hj]
  · rw [if_neg h, ofv_bit]
    have h3:j - 64 < 64:=by omega
    have h4:(j - 64) / 8=j / 8 - 8:=by omega
    have h5:(j - 64) % 8=j % 8:=by omega
    have h6:8+(j / 8 - 8)=j / 8:=by omega
    simp[h3,hj,byteBit,h4,h5,h6]
def ofI (c:Nat→BitVec 8) (i:Nat) (st:St):Prop := ∃ (H:Heap),st=⟨[.undef,.ptr (1,0) 0,.ptr (1,1) 0,.ptr (1,2) 0,.undef,.undef,N i,.undef,.undef,.undef,.undef,.undef,.undef,.undef,.undef,.undef,.undef,.undef,.undef,.undef,.undef,.undef,.undef,.undef,.undef,.undef,.undef,.undef,.undef,.undef,.undef,.undef,.undef,.undef],H,2,0⟩ ∧
  H (1,0)=some (aB 16 c)∧H (1,1)=some [B64 0#64,B64 0#64]∧H (1,2)=some [B64 (ofv c i),B64 (ofv (fun j=>c (8+j)) i)]
theorem of_round (k K:Nat) (c:Nat→BitVec 8) (i:Nat) (hi':i < 8) (st:St) (hI:ofI c i st) :
    ∃ st1,ev (envC C k) K L59b0 st=some (.normal,st1)∧ofI c (i+1) (qcr L59k0 st1):=by
  obtain ⟨H,rfl,h0,h1,h2⟩:=hI
  apply Exists.intro
  apply And.intro
  · simp (disch := first | omega | decide | simp only [qaf, qad, qag, qae, qah, qac, qaa, qab, qai]) only [qbh, qat, qaX, qao, qan, qal, qak, qaM, qar, qbc, qay, qaJ, qaq, qaH, qaG, op_cvt, qaj, qaY, qaD, qa3, qbR, zM, zN, zO, zP, zI, zR, zQ, zK, zJ, cvt_8_64, B64_or, Nat.reduceAdd, Nat.reduceSub, zk, qap, cellsOf_B64, isCell_B64, qaR, qct, qbn, qbV, qbF, qbl, qdh, op_fa, qcy, op_iaA, iaV_lt, qbC, zzE, zzA, zzD, zw, zzG, zzJ, za, zd, zU, zF, Nat.reduceEqDiff, Nat.reduceLeDiff, Nat.reduceLT, zZ, zu, zD, zE, zA, zB, Nat.le_refl, zT, aB_cell, zk, zB, zA, qbz, N_mul, qaW, qbJ, B64_shlN, Nat.reduceLT, Nat.reduceLeDiff, Nat.reduceEqDiff, Nat.reduceAdd, zT, qce, zg, ze, qa9, qbo, ordK_pure, ordK_mod, qbE, qca, qcl, qaE, zY, zW, zx, z6, z0, qbQ, qba, za, zd, Nat.testBit, Nat.reduceShiftRight, Nat.reduceAnd, Nat.reduceBEq, ze, zg, zy, zU, zj, Nat.reduceSub, Nat.reduceLT, bne, qbg, qbG, qbS, qbp, qbZ, qb0, zj, zU, L59b0, hi', h0, h2]
    rfl
  · refine qaT [(1, 0), (1, 1), (1, 2)] rfl (by simp only [qav, FUEL, qaz, qax, qaB, qaE, qbR, qaO, zV, zX, zI, zR, zQ, zz, zC, zW, zY, zF, zm, zn, zf, Nat.reduceEqDiff, zZ, zl, zD, zE, zb, zq, zp, zo, ne_eq, zt, qap, qaN, qaL, qaC, qbb, L59k0, h0, h1, h2, qbP, qbb]) rfl ⟨_, rfl, ?_, ?_, ?_⟩
    · exact qau (1,0) rfl (by simp only[qap,zF,Nat.reduceEqDiff,zZ,zE,h0]) (qa4 _ _ _)
    · exact qau (1,1) rfl (by simp only[qap,zF,Nat.reduceEqDiff,zZ,zE,h1]) rfl
    · exact qau (1,2) rfl (by simp only[qap,zD,ofv]) rfl
theorem of_F (k:Nat) (c:Nat→BitVec 8):F C (k+10) 59 [.agg (aB 16 c)] []=some (Hf (lo (ofBits (byteBit c))) (hi (ofBits (byteBit c))),[],[]):=by
  rw[qbT f59]
  simp (disch:=first|omega|decide|simp only[qaf,qad,qag,qae,qah,qac,qaa,qab,qai]) only[qbk,qat,qaX,qao,qan,qal,qak,qaM,qar,qbc,qay,qaJ,qaH,qaj,zM,zN,zO,zP,zC,zI,zR,zQ,qbd,z7,zK,zJ,qbH,Nat.reduceAdd,Nat.reduceSub,qa2,qap,qdt,qcN,qa5,isCell_B64,qcO,op_box,qcH,qbF,qbl,qdh,qb6,aggR_some,op_build,agg_Hf,qdr,qbC,zzA,zzD,zzG,za,zd,zU,zF,Nat.reduceEqDiff,zS,zu,zD,zE,zA,zB,Nat.le_refl,zB,zA,Nat.reduceEqDiff,Nat.reduceAdd,L59]
  generalize hL:qbW L59k0 _ _ _=r
  refine qby hL (ofI c) 8 (by omega) (fun i st hi hI=>of_round _ _ c i hi st hI) ?_ ?_ ?_
  · refine qaT [(2, 0), (3, 0), (5, 0)] rfl (by simp only [qav, FUEL, qaz, qax, qaB, qaE, qbR, qaO, zV, zX, zI, zR, zQ, zz, zC, zW, zY, zF, zm, zn, zf, Nat.reduceEqDiff, zS, zl, zD, zE, zq, zp, zo, ne_eq, zt, qap, qaN, qaL, qaC, qa2, qbb, L59k0, qbP, qbb]) rfl ⟨_, rfl, ?_, ?_, ?_⟩
    · exact qau (2,0) rfl (by simp only[qap,zF,Nat.reduceEqDiff,zS,zD,zE]) (qa4 _ _ _)
    · exact qau (3,0) rfl (by simp only[qap,zF,Nat.reduceEqDiff,zS,zD,zE]) rfl
    · exact qau (5,0) rfl (by simp only[qap,zF,Nat.reduceEqDiff,zS,zD,zE,ofv]) rfl
  · rintro st ⟨H, rfl, h0, h1, h2⟩
    apply qbs
    simp (disch:=first|omega|decide|simp only[qaf,qad,qag,qae,qah,qac,qaa,qab,qai]) only[qa0,qat,qao,qan,qal,qak,qaM,qar,qay,qaJ,qaq,qaG,qaj,qaF,qaD,qas,zM,zN,zO,zP,zK,zJ,Nat.reduceAdd,zA,zB,zL,qaW,Nat.reduceAdd,zi,zL,L59b0]
    rfl
  · rintro st ⟨H, rfl, h0, h1, h2⟩ rfl
    rw[←of_app,lo_app,hi_app]
    simp (disch:=first|omega|decide|simp only[qaf,qad,qag,qae,qah,qac,qaa,qab,qai]) only[qbI,qa0,qat,qao,qan,qal,qak,qaM,qar,qbc,qay,qaJ,qaq,qaG,qaj,qaF,qa8,qaD,qas,qbr,zM,zN,zO,zP,zI,zQ,zK,zJ,zH,Nat.reduceAdd,zH,qap,qcN,isCell_B64,qaR,qct,qbv,qco,qbF,qbl,qdh,agg_Hf,qdr,outOf_Hf,qbC,zzE,zzA,zzD,zw,zzG,zzJ,za,zd,zU,zu,zD,zA,zB,Nat.le_refl,zL,qdl,qdu,zB,zA,qaW,Nat.reduceAdd,zi,zL,L59b0,h1,h2]
end Xf
namespace Xf
open Go Go.LE Aes
def dP (a:BitVec 128) (i:Nat):Nat→Bool:=fun j=>decide (1≤j∧j≤i) && a.getLsbD (j - 1)
theorem dP_succ (a:BitVec 128) (i:Nat):dP a (i+1)=set1 (dP a i) (i+1) (a.getLsbD i):=by
  funext j
  simp only[set1,dP]
  by_cases h:j=i+1
  · subst h; simp
  · rw [if_neg h]
    have:(1≤j∧j≤i+1)↔(1≤j∧j≤i):=by omega
    simp only[this]
def dJ (a:BitVec 128) (i:Nat) (st:St):Prop := ∃ (H:Heap),
  st=⟨[.undef,.undef,.ptr (1,0) 0,.ptr (1,1) 0,.ptr (1,2) 0,N i,.undef,.undef,.undef,.undef,.undef,.undef,.undef,.undef,.undef,.undef,.undef,.undef,.undef,.undef,.undef,.undef,.undef,.undef,.undef,.undef,.undef,.undef,.undef,.undef,.undef,.undef,.undef,.undef,.undef,.undef,.undef,.undef],H,2,0⟩∧H (1,0)=some [B64 0#64,B64 0#64]∧H (1,1)=some (aO 128 fun j=>a.getLsbD j)∧H (1,2)=some (aO 128 (dP a i))
theorem d_round (K k0:Nat) (a:BitVec 128) (i:Nat) (hi:i < 127) (st:St) (hI:dJ a i st) :
    ∃ st1,ev (envC C k0) K L63b0 st=some (.normal,st1)∧dJ a (i+1) (qcr L63k0 st1):=by
  obtain ⟨H,rfl,hz,hp,ho⟩:=hI
  apply Exists.intro
  apply And.intro
  · simp (disch := first | omega | decide | simp only [qaf, qad, qag, qae, qah, qac, qaa, qab, qai]) only [qbh, qat, qaX, qao, qan, qal, qak, qaM, qar, qbc, qay, qaJ, qaq, qaH, qaG, qaj, qaY, qaD, qa3, zM, zN, zO, zP, zK, zJ, Nat.reduceAdd, zk, qcN, cellsOf_Bo, qaR, qbn, qbV, qbF, qbl, op_iaA, iaV_lt, zA, zB, zT, aO_cell, aO_st, zk, zB, zA, qbz, qaW, qbJ, Nat.reduceAdd, zT, L63b0, hi, hp, ho]
    rfl
  · refine qaT [(1, 0), (1, 1), (1, 2)] rfl (by simp only [qav, FUEL, qaz, qax, qaB, qaE, qbR, qaO, zV, zX, zI, zR, zQ, zz, zC, zW, zY, zF, zm, zn, zf, Nat.reduceEqDiff, zZ, zl, zD, zE, zb, zq, zp, zo, ne_eq, zt, qap, qaN, qaL, qaC, qbb, L63k0, hz, hp, ho, aO_nms, qbb]) rfl ⟨_, rfl, ?_, ?_, ?_⟩
    · exact qau (1,0) rfl (by simp only[qap,zF,Nat.reduceEqDiff,zZ,zE,hz]) rfl
    · exact qau (1,1) rfl (by simp only[qap,zF,Nat.reduceEqDiff,zZ,zE,hp]) (aO_ren _ _ _)
    · rw [dP_succ]
      exact qau (1,2) rfl (by simp only[qap,zD]) (aO_ren _ _ _)
theorem dbl_bit (a:BitVec 128) (j:Nat) (hj:j < 128):(GF.dbl 135#128 a).getLsbD j=(decide (1≤j) && a.getLsbD (j - 1)).xor (a.getLsbD 127 && (135#128).getLsbD j):=by
  rw[GF.dbl,BitVec.getLsbD_xor,BitVec.getLsbD_shiftLeft]
  congr 1
  · by_cases h : j < 1
    · have : ¬ 1 ≤ j := by omega
      simp[h,this]
    · have : 1 ≤ j := by omega
      simp[h,this,hj]
  · cases h:a.getLsbD 127 <;> simp[]
theorem r135:∀ j,j < 128→(135#128).getLsbD j=(decide (j=0) || decide (j=1) || decide (j=2) || decide (j=7)):=by decide +kernel
theorem rdbl_F (k:Nat) (a:BitVec 128):F C (k+140) 63 [Hf (lo a) (hi a)] []=some (Hf (lo (GF.dbl 135#128 a)) (hi (GF.dbl 135#128 a)),[],[]):=by
  rw[qbT f63]
  have hfa:=bits_F (k+73) a
  rw[Nat.add_assoc] at hfa
  simp only[Nat.reduceAdd] at hfa
  simp (disch:=first|omega|decide|simp only[qbU,nms_B32,qbR,nms_I,qbb,qci,qcM,qaO,nms_Hf,qaE,qaQ,qbe,qc6,qc8,qc3,zV,zX,zI,zQ,ren_B8,ren_B32,qcu,ren_I,ren_N,ren_Bo,ren_Un,qdj,ren_Hf,qbN,qc7,qc9,qcY,zG,zC,ren7_I,ren7_N,ren7_Bo,ren7_B8,ren7_B32,ren7_B64,nms7_I,nms7_N,nms7_Bo,nms7_B8,nms7_B32,nms7_B64,qcV,qb8,implies_true,l65,l66,qaf,qaP,qaK,qbw,qbO,qad,qag,qae,qah,qac,qaa,qab,qai]) only[qbk,qat,qaX,qao,qan,qal,qak,qaM,qar,qbc,qay,qaJ,qaH,qa7,qa1,qaj,zM,zN,zO,zP,zG,zC,zI,zR,qbd,z7,zK,zJ,qda,qbH,Nat.reduceAdd,Nat.reduceSub,qa2,qap,qdt,qcN,qa5,qaR,qct,qbv,qco,qcO,op_box,qcH,qbF,qbl,agg_Hf,qdr,zzE,zw,zzJ,zF,Nat.reduceEqDiff,zS,zD,zE,zA,zB,Nat.le_refl,aO_rep,aO_st_all,aO_calK,zB,zA,Nat.reduceEqDiff,Nat.reduceAdd,Nat.reduceSub,L63,hfa]
  generalize hL:qbW L63k0 _ _ _=r
  refine qby hL (dJ a) 127 (by omega) (fun i st hi hI=>d_round _ _ a i hi st hI) ?_ ?_ ?_
  · refine qaT [(3, 0), (6, 0), (8, 0)] rfl (by simp only [qav, FUEL, qaz, qax, qaB, qaE, qbR, qaO, zV, zX, zI, zR, zQ, zz, zC, zW, zY, zF, zm, zn, zf, Nat.reduceEqDiff, zS, zl, zD, zE, zq, zp, zo, ne_eq, zt, qap, qaN, qaL, qaC, qa2, qbb, L63k0, aO_nms, qbb]) rfl ⟨_, rfl, ?_, ?_, ?_⟩
    · exact qau (3,0) rfl (by simp only[qap,zF,Nat.reduceEqDiff,zS,zD,zE]) rfl
    · exact qau (6,0) rfl (by simp only[qap,zF,Nat.reduceEqDiff,zS,zD,zE]) (aO_ren _ _ _)
    · rw [show dP a 0 = fun _ => false by funext j; simp [dP]; omega]
      exact qau (8,0) rfl (by simp only[qap,zF,Nat.reduceEqDiff,zS,zD,zE]) (aO_ren _ _ _)
  · rintro st ⟨H, rfl, hz, hp, ho⟩
    apply qbs
    simp (disch:=first|omega|decide|simp only[qaf,qad,qag,qae,qah,qac,qaa,qab,qai]) only[qa0,qat,qao,qan,qal,qak,qaM,qar,qay,qaJ,qaq,qaH,qaG,qaj,qaF,qaD,qas,zM,zN,zO,zP,zK,zJ,Nat.reduceAdd,zA,zB,zL,qaW,Nat.reduceAdd,zi,zL,L63b0]
    rfl
  · rintro st ⟨H, rfl, hz, hp, ho⟩ rfl
    cases h127:a.getLsbD 127
    · have e:ofBits (dP a 127)=GF.dbl 135#128 a:=by
        apply BitVec.eq_of_getLsbD_eq
        intro j hj
        rw[ofBits_bit,dbl_bit a j hj,h127]
        have:(1≤j∧j≤127)↔(1≤j):=by omega
        simp[hj,dP,this]
      have hf:=fromBits_F (k+73) (dP a 127)
      rw[Nat.add_assoc,e] at hf
      simp only[Nat.reduceAdd] at hf
      simp (disch:=first|omega|decide|simp only[qbU,nms_B32,qbR,nms_I,qbb,qci,qcM,qaO,nms_Hf,qaE,qaQ,qbe,qc6,qc8,qc3,zV,zX,zI,zQ,ren_B8,ren_B32,qcu,ren_I,ren_N,ren_Bo,ren_Un,qdj,ren_Hf,qbN,qc7,qc9,qcY,zG,zC,ren7_I,ren7_N,ren7_Bo,ren7_B8,ren7_B32,ren7_B64,nms7_I,nms7_N,nms7_Bo,nms7_B8,nms7_B32,nms7_B64,qcV,qb8,implies_true,l65,l66,qaf,qaP,qaK,qbw,qbO,qad,qag,qae,qah,qac,qaa,qab,qai]) only[qbh,qbI,qa0,qat,qao,qan,qal,qak,qaM,qar,qbc,qay,qaJ,qaq,qaH,qaG,qa7,qa1,qaj,qaF,qa8,qaD,qas,qbr,zM,zN,zO,zP,zG,zC,zI,zQ,zK,zJ,qda,zH,Nat.reduceAdd,zH,zk,qap,qcN,isCell_B64,qaR,qct,qbn,qbv,qbV,qco,qbF,qbl,qdh,op_iaA,iaV_lt,agg_Hf,qdr,calK_Hf,outOf_Hf,qbC,zzE,zzA,zzD,zw,zzG,zzJ,za,zd,zU,zu,zD,zA,zB,Nat.le_refl,zL,qdl,qdu,aO_cell,aO_cells,zk,zB,zA,qaW,qbJ,Nat.reduceAdd,zi,zL,L63b0,hz,hp,ho,hf,h127]
    · generalize hq : set1 (set1 (set1 (set1 (dP a 127) 0 (!dP a 127 0)) 1 (!set1 (dP a 127) 0 (!dP a 127 0) 1)) 2 (!set1 (set1 (dP a 127) 0 (!dP a 127 0)) 1 (!set1 (dP a 127) 0 (!dP a 127 0) 1) 2)) 7 (!set1 (set1 (set1 (dP a 127) 0 (!dP a 127 0)) 1 (!set1 (dP a 127) 0 (!dP a 127 0) 1)) 2 (!set1 (set1 (dP a 127) 0 (!dP a 127 0)) 1 (!set1 (dP a 127) 0 (!dP a 127 0) 1) 2) 7) = q
      have e:ofBits q=GF.dbl 135#128 a:=by
        subst hq
        apply BitVec.eq_of_getLsbD_eq
        intro j hj
        rw[ofBits_bit,dbl_bit a j hj,h127,r135 j hj]
        have:(1≤j∧j≤127)↔(1≤j):=by omega
        by_cases h0:j=0
        · subst h0; simp[set1,dP]
        · by_cases h1 : j = 1
          · subst h1; simp[set1,dP]
          · by_cases h2 : j = 2
            · subst h2; simp[set1,dP]
            · by_cases h7 : j = 7
              · subst h7; simp[set1,dP]
              · simp[set1,dP,h0,h1,h2,h7,hj,this]
      have hf:=fromBits_F (k+73) q
      rw[Nat.add_assoc,e] at hf
      simp only[Nat.reduceAdd] at hf
      simp (disch:=first|omega|decide|simp only[qbU,nms_B32,qbR,nms_I,qbb,qci,qcM,qaO,nms_Hf,qaE,qaQ,qbe,qc6,qc8,qc3,zV,zX,zI,zQ,ren_B8,ren_B32,qcu,ren_I,ren_N,ren_Bo,ren_Un,qdj,ren_Hf,qbN,qc7,qc9,qcY,zG,zC,ren7_I,ren7_N,ren7_Bo,ren7_B8,ren7_B32,ren7_B64,nms7_I,nms7_N,nms7_Bo,nms7_B8,nms7_B32,nms7_B64,qcV,qb8,implies_true,l65,l66,qaf,qaP,qaK,qbw,qbO,qad,qag,qae,qah,qac,qaa,qab,qai]) only[qbI,qa0,qat,qao,qan,qal,qak,qaM,qar,qbc,qay,qaJ,qaq,qaH,qaG,op_un,qa7,qa1,qaj,qaF,qa8,qaD,qa3,qas,qbr,zM,zN,zO,zP,zG,zC,zI,zQ,zK,zJ,Bo_not,qda,zH,Nat.reduceAdd,zH,zk,qap,qcN,cellsOf_Bo,isCell_B64,qaR,qct,qbn,qbv,qbV,qco,qbF,qbl,qdh,op_iaA,iaV_lt,agg_Hf,qdr,calK_Hf,outOf_Hf,qbC,zzE,zzA,zzD,zw,zzG,zzJ,za,zd,zU,zF,Nat.reduceEqDiff,zZ,zu,zD,zE,zA,zB,Nat.le_refl,zL,qdl,qdu,aO_cell,aO_cells,aO_st,zk,zB,zA,qaW,qbJ,Nat.reduceEqDiff,Nat.reduceAdd,zi,zL,L63b0,hz,hp,ho,h127,hq,hf]
end Xf
namespace Aes
open Go Go.LE Xf
set_option maxRecDepth 20000
def wt (E:R→R) (t:BitVec 128) (x:R):R:=fun j=>E (fun i=>x i ^^^ qb1 t i) j ^^^ qb1 t j
def xr (x y:R) (i:Nat):R:=fun j=>if j < i then x j ^^^ y j else x j
theorem xr_0 (x y:R):xr x y 0=x:=funext fun j=>if_neg (Nat.not_lt_zero j)
theorem xr_succ (x y:R) (i:Nat):set1 (xr x y i) i (x i ^^^ y i)=xr x y (i+1):=by
  funext j
  simp only[set1,xr]
  by_cases h:j=i
  · subst h; rw[if_pos rfl,if_pos (Nat.lt_succ_self _)]
  · rw [if_neg h]
    by_cases h':j < i
    · rw[if_pos h',if_pos (by omega)]
    · rw[if_neg h',if_neg (by omega)]
theorem xr_at (x y:R) (i:Nat):xr x y i i=x i:=if_neg (zi i)
theorem xr_all (x y:R):aB 16 (xr x y 16)=aB 16 (fun j=>x j ^^^ y j):=aB_ext _ fun j hj=>if_pos hj
theorem nms_fn1 (g:FuncId) (m:Nm) (o:Nat):nms D (.fn (.func g) [.ptr m o] [])=[m]:=rfl
theorem ren_fn1 (π:Nm→Option Nm) (g:FuncId) (m:Nm) (o:Nat):ren D π (.fn (.func g) [.ptr m o] []) = .fn (.func g) [ren 7 π (.ptr m o)] []:=rfl
theorem callV_fn1 {E:Env} {H:Heap} {b:Nat} (g:FuncId) (x:LV) (args:List LV):callV E H b args (.fn (.func g) [x] [])=qbD E H b g (x::args):=by simp[callV]
def wJ1 (g n:Nat) (l:List (BitVec 8)) (x y:R) (i:Nat) (st:St):Prop := ∃ (H:Heap),st=⟨[.fn (.func g) [.ptr (0,0) 0] [],.undef,.undef,.undef,.undef,.undef,.undef,.ptr (1,0) 0,.ptr (1,1) 0,.undef,.undef,.undef,.undef,.undef,.undef,.undef,N i,.undef,.undef,.undef,.undef,.undef,.undef,.undef,.undef,.undef,.undef,.undef,.undef,.undef,.undef,.undef,.undef,.undef,.undef,.undef,.undef,.undef,.undef,.undef,.undef,.undef,.undef,.undef],H,2,2⟩ ∧
  H (0,0)=some (KO n)∧H (0,1)=some (bs l)∧H (1,0)=some (aB 16 y)∧H (1,1)=some (aB 16 (xr x y i))
def wJ0 (n:Nat) (l:List (BitVec 8)) (x y:R) (i:Nat) (st:St):Prop := ∃ (H:Heap),st=⟨[.undef,.undef,.undef,.undef,.undef,.undef,.undef,.ptr (1,0) 0,.ptr (1,1) 0,.undef,.undef,.undef,.undef,.undef,.undef,.undef,.undef,.undef,.undef,.undef,.undef,.undef,.undef,.undef,.undef,.undef,.undef,.undef,.undef,.undef,.undef,N i,.undef,.undef,.undef,.undef,.undef,.undef,.undef,.undef,.undef,.undef,.undef,.undef],H,2,2⟩ ∧
  H (0,0)=some (KO n)∧H (0,1)=some (bs l)∧H (1,0)=some (aB 16 y)∧H (1,1)=some (aB 16 (xr x y i))
theorem w1_round (k g n:Nat) (l:List (BitVec 8)) (x y:R) (i:Nat) (hi:i < 16) (st:St) (hJ:wJ1 g n l x y i st) :
    ∃ st1,ev (envC C k) k L52b1 st=some (.normal,st1)∧wJ1 g n l x y (i+1) (qcr L52k1 st1):=by
  obtain ⟨H,rfl,h0,h1,h2,h3⟩:=hJ
  simp (disch:=first|omega|decide|simp only[qaf,qad,qag,qae,qah,qac,qaa,qab,qai]) only[qbh,qat,qaX,qao,qan,qal,qak,qar,qbc,qay,qaJ,qaq,qaH,qaG,qaj,qaY,qaD,qa3,qbU,zM,zN,zO,zP,zG,zC,zQ,zK,zJ,B8_xor,Nat.reduceAdd,Nat.reduceSub,qb5,qaR,qbn,qbV,qbF,qbl,op_iaA,iaV_lt,za,zd,zU,Nat.reduceLT,zD,zA,zB,zT,aB_cell,aB_st,zk,zB,zA,qbz,qaW,qbJ,Nat.reduceLT,Nat.reduceAdd,zT,qce,zg,ze,qaI,qaA,qa6,zk,qa9,qbo,qbE,qca,qcl,qaE,zY,zW,zx,z6,z0,qbQ,qba,za,zd,Nat.testBit,Nat.reduceShiftRight,Nat.reduceAnd,Nat.reduceBEq,ze,zg,zy,zU,zj,Nat.reduceSub,Nat.reduceLT,bne,qbg,qbG,qbS,qbp,qbZ,qb0,zj,zU,qaU,qam,qam,qaU,L52b1,h2,h3,hi,xr_at,xr_succ]
  refine ⟨_,rfl,?_⟩
  refine qaT [(1,0),(1,1)] rfl (by simp only[qav,FUEL,qaz,qax,qaB,qaE,qaO,zV,zX,zI,zR,zQ,zC,zG,zW,zY,zF,zm,zn,zf,zS,zZ,zl,zzC,zD,zE,zb,zh,zq,zp,zo,ne_eq,zt,z9,qap,qaN,qaL,qaC,qcc,qbb,L52k1,nms_fn1,qbP,KO_nms,qaP,h0,h1,h2,h3]) (by simp only[zC,zG,qaN,qaL,qaC,L52k1,zG,zC,ren_fn1]; rfl) ⟨_,rfl,?_,?_,?_,?_⟩
  · rw[qbX]; simp (disch:=first|omega|decide|simp only[qaf,qad,qag,qae,qah,qac,qaa,qab,qai]) only[zH,qap,zF,zu,zE,zh,zH,h0,KO_ren]
  · rw[qbX]; simp (disch:=first|omega|decide|simp only[qaf,qad,qag,qae,qah,qac,qaa,qab,qai]) only[zH,qap,zF,zS,zE,zh,zH,qaK,h1]
  · exact qau (1,0) rfl (by simp (disch:=first|omega|decide|simp only[qaf,qad,qag,qae,qah,qac,qaa,qab,qai]) only[qap,zF,zZ,zE,zh,h2]) (qa4 _ _ _)
  · exact qau (1,1) rfl (by simp (disch:=first|omega|decide|simp only[qaf,qad,qag,qae,qah,qac,qaa,qab,qai]) only[qap,zD]) (qa4 _ _ _)
theorem w0_round (k n:Nat) (l:List (BitVec 8)) (x y:R) (i:Nat) (hi:i < 16) (st:St) (hJ:wJ0 n l x y i st) :
    ∃ st1,ev (envC C k) k L52b0 st=some (.normal,st1)∧wJ0 n l x y (i+1) (qcr L52k0 st1):=by
  obtain ⟨H,rfl,h0,h1,h2,h3⟩:=hJ
  simp (disch:=first|omega|decide|simp only[qaf,qad,qag,qae,qah,qac,qaa,qab,qai]) only[qbh,qat,qaX,qao,qan,qal,qak,qar,qbc,qay,qaJ,qaq,qaH,qaG,qaj,qaY,qaD,qa3,qbU,zM,zN,zO,zP,zG,zC,zQ,zK,zJ,B8_xor,Nat.reduceAdd,Nat.reduceSub,qb5,qaR,qbn,qbV,qbF,qbl,op_iaA,iaV_lt,za,zd,zU,Nat.reduceLT,zD,zA,zB,zT,aB_cell,aB_st,zk,zB,zA,qbz,qaW,qbJ,Nat.reduceLT,Nat.reduceAdd,zT,qce,zg,ze,qaI,qaA,qa6,zk,qa9,qbo,qbE,qca,qcl,qaE,zY,zW,zx,z6,z0,qbQ,qba,za,zd,Nat.testBit,Nat.reduceShiftRight,Nat.reduceAnd,Nat.reduceBEq,ze,zg,zy,zU,zj,Nat.reduceSub,Nat.reduceLT,bne,qbg,qbG,qbS,qbp,qbZ,qb0,zj,zU,qaU,qam,qam,qaU,L52b0,h2,h3,hi,xr_at,xr_succ]
  refine ⟨_,rfl,?_⟩
  refine qaT [(1,0),(1,1)] rfl (by simp only[qav,FUEL,qaz,qax,qaB,qaE,qaO,zV,zX,zI,zR,zQ,zC,zG,zW,zY,zF,zm,zn,zf,zS,zZ,zl,zzC,zD,zE,zb,zh,zq,zp,zo,ne_eq,zt,z9,qap,qaN,qaL,qaC,qcc,qbb,L52k0,qbP,KO_nms,qaP,h0,h1,h2,h3]) rfl ⟨_,rfl,?_,?_,?_,?_⟩
  · rw[qbX]; simp (disch:=first|omega|decide|simp only[qaf,qad,qag,qae,qah,qac,qaa,qab,qai]) only[zH,qap,zF,zu,zE,zh,zH,h0,KO_ren]
  · rw[qbX]; simp (disch:=first|omega|decide|simp only[qaf,qad,qag,qae,qah,qac,qaa,qab,qai]) only[zH,qap,zF,zS,zE,zh,zH,qaK,h1]
  · exact qau (1,0) rfl (by simp (disch:=first|omega|decide|simp only[qaf,qad,qag,qae,qah,qac,qaa,qab,qai]) only[qap,zF,zZ,zE,zh,h2]) (qa4 _ _ _)
  · exact qau (1,1) rfl (by simp (disch:=first|omega|decide|simp only[qaf,qad,qag,qae,qah,qac,qaa,qab,qai]) only[qap,zD]) (qa4 _ _ _)
def Way (g:FuncId) (n:Nat) (l:List (BitVec 8)) (E:R→R):Prop :=
  ∀ (k b:Nat) (H:Heap) (c m:Nm),KG H c m (n+2) none l→∀ s,qbD (envC C (k+60)) H b g [.ptr c 0,.agg (aB 16 s)]=some ⟨.agg (aB 16 (E s)),[],[(c,some (CF (.sl m 0 (n+2) none 16) TB)),(m,some (bs l))]⟩
theorem way_enc (n:Nat) (hn:n≤20) (l:List (BitVec 8)) (hl:l.length=16*(n+2)):Way 17 n l (enc (kf l) n):=fun k b H c m h s=>c_enc k n b hn H c m l h hl s
theorem way_dec (n:Nat) (hn:n≤20) (l:List (BitVec 8)) (hl:l.length=16*(n+2)):Way 19 n l (dec (kf l) n):=fun k b H c m h s=>c_dec k n b hn H c m l h hl s
theorem bsb16 (b:List (BitVec 8)) (h:b.length=16) (H:Heap):cellAt H 16 (.ipt (bs b))=some (aB 16 (fl b)):=by
  rw[cellAt,if_pos (by rw[qad]; omega),qcF,List.take_of_length_le (by omega),bs_aB _ 16 h]; rfl
theorem with_F (k g n:Nat) (l:List (BitVec 8)) (E:R→R) (hE:Way g n l E) (t:BitVec 128) (b:List (BitVec 8)) (hb:b.length=16) :
    F C (k+80) 52 [.fn (.func g) [.ptr (0,0) 0] [],Hf (lo t) (hi t),.isl (bs b) 16] [KO n,bs l]=some (.sl (1,0) 0 16 (some 16) 1,[some (KO n),some (bs l)],[aB 16 (wt E t (fl b))]):=by
  rw[qbT f52]
  have hby:F C (k+79) 60 [Hf (lo t) (hi t)] []=some (.agg (aB 16 (qb1 t)),[],[]):=Xf.bytes_F (k+69) t
  simp (disch:=first|omega|decide|simp only[qbU,nms_B32,qbR,nms_I,qbb,qci,qcM,qaO,nms_Hf,qaE,qaQ,qbe,qc6,qc8,qc3,zV,zX,zI,zQ,ren_B8,ren_B32,qcu,ren_I,ren_N,ren_Bo,ren_Un,qdj,ren_Hf,qbN,qc7,qc9,qcY,zG,zC,ren7_I,ren7_N,ren7_Bo,ren7_B8,ren7_B32,ren7_B64,nms7_I,nms7_N,nms7_Bo,nms7_B8,nms7_B32,nms7_B64,qcV,qb8,implies_true,l60,qaf,qaP,qaK,qbw,qbO,qad,qag,qae,qah,qac,qaa,qab,qai]) only[qbk,qat,qaX,qao,qan,qal,qak,qar,qbc,qay,qaJ,qaq,qaH,qa7,qa1,qaj,zM,zN,zO,zP,zG,zC,zI,zR,qbd,z7,zK,zJ,qda,qbH,Nat.reduceAdd,Nat.reduceSub,qap,qa5,qaR,qct,qbv,qco,qcO,op_box,qcH,qbF,qbl,agg_Hf,qdr,zzE,zw,zzJ,zF,Nat.reduceEqDiff,zS,zD,zE,zA,zB,Nat.le_refl,qcU,qcz,aB_calK,zB,zA,Nat.reduceEqDiff,Nat.reduceAdd,op_arrp,arrpV_isl,qaI,qaZ,qaA,qa6,qa2,Nat.reduceSub,qam,qam,L52,hby,bsb16 b hb]
  generalize hL:qbW L52k1 _ _ _=r
  refine qby hL (wJ1 g n l (fl b) (qb1 t)) 16 (by omega) (fun i st hi hJ=>w1_round _ g n l _ _ i hi st hJ) ?_ ?_ ?_
  · refine qaT [(6, 0), (11, 0)] rfl (by simp only [qav, FUEL, qaz, qax, qaB, qaE, qaO, zV, zX, zI, zR, zQ, zC, zG, zW, zY, zF, zm, zn, zf, Nat.reduceEqDiff, zS, zZ, zl, zzC, zD, zE, zb, zh, zq, zp, zo, ne_eq, zt, z9, qap, qaN, qaL, qaC, qck, qa2, qcc, List.getElem?_cons_zero, List.getElem?_cons_succ, qbb, L52k1, nms_fn1, qbP, KO_nms, qaP]) (by simp only [zC, zG, qaN, qaL, qaC, L52k1, zG, zC, ren_fn1]; rfl) ⟨_, rfl, ?_, ?_, ?_, ?_⟩
    · rw[qbX]; simp (disch:=first|omega|decide|simp only[qaf,qad,qag,qae,qah,qac,qaa,qab,qai]) only[zH,qap,zF,Nat.reduceEqDiff,zS,zE,zH,qck,List.getElem?_cons_zero,KO_ren]
    · rw[qbX]; simp (disch:=first|omega|decide|simp only[qaf,qad,qag,qae,qah,qac,qaa,qab,qai]) only[zH,qap,zF,Nat.reduceEqDiff,zu,zE,zb,zH,qaK,qck,List.getElem?_cons_zero,List.getElem?_cons_succ]
    · exact qau (6,0) rfl (by simp (disch:=first|omega|decide|simp only[qaf,qad,qag,qae,qah,qac,qaa,qab,qai]) only[qap,zF,Nat.reduceEqDiff,zS,zD,zE,qa2]) (qa4 _ _ _)
    · rw[xr_0]; exact qau (11,0) rfl (by simp (disch:=first|omega|decide|simp only[qaf,qad,qag,qae,qah,qac,qaa,qab,qai]) only[qap,zF,Nat.reduceEqDiff,zS,zD,zE,qa2]) (qa4 _ _ _)
  · rintro st ⟨H, rfl, h0, h1, h2, h3⟩
    apply qbs
    simp (disch:=first|omega|decide|simp only[qaf,qad,qag,qae,qah,qac,qaa,qab,qai]) only[qa0,qat,qao,qan,qal,qak,qaM,qar,qay,qaJ,qaq,qaG,qaj,qaF,qaD,qas,zM,zN,zO,zP,zK,zJ,Nat.reduceAdd,zA,zB,zL,zB,zA,qaW,Nat.reduceAdd,zi,zL,L52b1]
    rfl
  · rintro st ⟨H, rfl, h0, h1, h2, h3⟩ rfl
    rw[xr_all] at h3
    simp (disch:=first|omega|decide|simp only[qaf,qad,qag,qae,qah,qac,qaa,qab,qai]) only[qa0,qat,qao,qan,qal,qak,qar,qay,qaJ,qaq,qaH,qaG,qa7,qaj,qaF,qa8,qaD,qas,zM,zN,zO,zP,zG,zC,zK,zJ,Nat.reduceAdd,qaR,qbv,qco,zD,zA,zB,zL,qcb,zB,zA,qaW,Nat.reduceAdd,zi,zL,qaI,qaA,qam,qam,L52b1,h3,callV_fn1]
    rw[hE (k+19) _ H (0,0) (0,1) ⟨h0,h1,by decide⟩]
    simp (disch:=first|omega|decide|simp only[qaf,qad,qag,qae,qah,qac,qaa,qab,qai]) only[qat,qaX,qao,qan,qal,qak,qar,qbc,qay,qaJ,qaH,qaj,zM,zN,zO,zP,zK,zJ,qbH,Nat.reduceAdd,qap,qa5,qbF,qbl,zF,zS,zu,zE,zA,zB,zb,qcz,zB,zA,Nat.reduceAdd,qaI,qaA,qa6,qam,qam,h3]
    clear hL
    generalize hL:qbW L52k0 _ _ _=r
    refine qby hL (wJ0 n l (E fun j=>fl b j ^^^ qb1 t j) (qb1 t)) 16 (by omega) (fun i st hi hJ=>w0_round _ n l _ _ i hi st hJ) ?_ ?_ ?_
    · refine qaT [(1, 0), (1, 1)] rfl (by simp only [qav, FUEL, qaz, qax, qaB, qaE, qaQ, qaO, zV, zX, zI, zR, zQ, zC, zG, zW, zY, zF, zm, zn, zf, zS, zZ, zl, zzC, zD, zE, zb, zh, zq, zp, zo, ne_eq, zt, z9, qap, qaN, qaL, qaC, qcc, qbb, L52k0, qbP, qbu, qaQ, qaP, h0, h1, h2, h3]) rfl ⟨_, rfl, ?_, ?_, ?_, ?_⟩
      · rw[qbX]; simp (disch:=first|omega|decide|simp only[qaf,qad,qag,qae,qah,qac,qaa,qab,qai]) only[zH,qap,zF,zZ,zu,zD,zE,zh,qcK,zH,qbq,qbK,qbt]; rfl
      · rw[qbX]; simp (disch:=first|omega|decide|simp only[qaf,qad,qag,qae,qah,qac,qaa,qab,qai]) only[zH,qap,zF,zS,zZ,zD,zE,zb,zh,zH,qaK]
      · exact qau (1,0) rfl (by simp (disch:=first|omega|decide|simp only[qaf,qad,qag,qae,qah,qac,qaa,qab,qai]) only[qap,zF,zS,zZ,zu,zE,zb,zh,h2]) (qa4 _ _ _)
      · rw[xr_0]; exact qau (1,1) rfl (by simp (disch:=first|omega|decide|simp only[qaf,qad,qag,qae,qah,qac,qaa,qab,qai]) only[qap,zF,zS,zu,zD,zE,zb]) (qa4 _ _ _)
    · rintro st ⟨H, rfl, h0, h1, h2, h3⟩
      apply qbs
      simp (disch:=first|omega|decide|simp only[qaf,qad,qag,qae,qah,qac,qaa,qab,qai]) only[qa0,qat,qao,qan,qal,qak,qaM,qar,qay,qaJ,qaq,qaG,qaj,qaF,qaD,qas,zM,zN,zO,zP,zK,zJ,Nat.reduceAdd,zA,zB,zL,zB,zA,qaW,Nat.reduceAdd,zi,zL,L52b0]
      rfl
    · rintro st ⟨H, rfl, h0, h1, h2, h3⟩ rfl
      rw[xr_all] at h3
      simp (disch:=first|omega|decide|simp only[qaf,qad,qag,qae,qah,qac,qaa,qab,qai]) only[qbI,qa0,qat,qao,qan,qal,qak,qar,qay,qaJ,qaq,qaH,qaG,qaj,qaF,qa8,qaD,qas,qbr,qcI,zM,zN,zO,zP,zK,zJ,zH,Nat.reduceAdd,zD,zA,zB,zL,zk,zB,zA,qaW,Nat.reduceAdd,zi,zL,qdi,op_slcAV,slcAV_ptr,qaI,qaA,zH,Nat.sub_zero,zk,qam,qam,L52b0]
      rw[qdk 2 _ _ [(1,1)] (by simp only[qav,FUEL,qaz,qax,qaB,qaQ,zV,zX,zI,zR,zQ,zC,zG,zW,zY,zF,zm,zn,zf,zS,zZ,zl,zzC,zD,zE,zb,zq,zp,zo,ne_eq,zt,z9,qcc,KO_nms,qaP,qbP,qaQ,h0,h1,h3])]
      simp (disch:=first|omega|decide|simp only[qaf,qad,qag,qae,qah,qac,qaa,qab,qai]) only[zG,zC,zH,zD,zA,idx_cons,canonMap_ne,zzB,zH,qaK,qcc,List.filterMap_cons,qbq,qbK,KO_ren,qaK,qa4,h0,h1,h3,qbq]
      rfl
end Aes
namespace Aes
open Go Go.LE Xf
set_option maxRecDepth 20000
theorem xnew_bad (k:Nat) (key:List (BitVec 8)) (hk:key.length < 9223372036854775808) (h:key.length≠32) (h2:key.length≠64):F C (k+1) 21 [.isl (bs key) key.length] []=some (.tup [NilP,N 20],[],[]):=by
  rw[qbT f21]
  simp (disch:=first|omega|decide|simp only[qaf,qad,qag,qae,qah,qac,qaa,qab,qai]) only[qbk,qbI,qat,qao,qan,qal,qak,qbm,qaM,guardK_true,qar,qay,qaJ,qaq,qdv,qaH,qcx,qaG,qaj,qdx,qaD,qa3,qbr,zM,zN,zO,zP,zI,zR,qbd,z7,zK,zJ,zH,Nat.reduceAdd,Nat.reduceSub,zA,zB,zL,qc4,zB,zA,N_quo,N_neq,decide_not,Nat.reduceAdd,zL,zg,qcm,qbA,qcT,zH,zg,Nat.reduceSub,L21,h,h2]
  rw[outOf_plain rfl (fun _=>rfl)]
theorem xrnew_bad (k:Nat) (key:List (BitVec 8)) (hk:key.length < 9223372036854775808) (h:key.length≠32) (h2:key.length≠64):F C (k+1) 24 [.isl (bs key) key.length] []=some (.tup [NilP,N 20],[],[]):=by
  rw[qbT f24]
  simp (disch:=first|omega|decide|simp only[qaf,qad,qag,qae,qah,qac,qaa,qab,qai]) only[qbk,qbI,qat,qao,qan,qal,qak,qbm,qaM,guardK_true,qar,qay,qaJ,qaq,qdv,qaH,qcx,qaG,qaj,qdx,qaD,qa3,qbr,zM,zN,zO,zP,zI,zR,qbd,z7,zK,zJ,zH,Nat.reduceAdd,Nat.reduceSub,zA,zB,zL,qc4,zB,zA,N_neq,decide_not,Nat.reduceAdd,zL,zg,qcm,qbA,qcT,zH,zg,Nat.reduceSub,L24,h,h2]
  rw[outOf_plain rfl (fun _=>rfl)]
theorem xnew_F (k n:Nat) (hn:n=4∨n=8) (key:List (BitVec 8)) (hk:key.length=8*n):F C (k+401) 21 [.isl (bs key) key.length] [] =
    some (.tup [.ptr (1,0) 0,N 0],[],[[.ptr (1,1) 0,.ptr (1,3) 0],CF (.sl (1,2) 0 (n+7) none 16) TB,bs (W n (key.take (4*n))),CF (.sl (1,4) 0 (n+7) none 16) TB,bs (W n (key.drop (4*n)))]):=by
  rw[qbT f21]
  have hd:8*n / 2=4*n:=by omega
  have hle:4*n≤8*n:=by omega
  have hs:8*n - 4*n=4*n:=by omega
  have h16:(8*n=32)=(n=4):=by apply propext; omega
  have h32:(8*n=64)=(n=8):=by apply propext; omega
  have hn8:n≠4→n=8:=fun h=>hn.resolve_left h
  have ht:(key.take (4*n)).length=4*n:=by rw[zzL]; omega
  have hdr:(key.drop (4*n)).length=4*n:=by rw[zzH]; omega
  have hs1:∀ H,snap H D (.isl (bs (key.take (4*n))) (4*n))=some (.isl (bs (key.take (4*n))) (key.take (4*n)).length,[]):=fun H=>by rw[ht]; rfl
  have hs2:∀ H,snap H D (.isl (bs (key.drop (4*n))) (4*n))=some (.isl (bs (key.drop (4*n))) (key.drop (4*n)).length,[]):=fun H=>by rw[hdr]; rfl
  have hc1:∀ b H,qbD (envC C (k+400)) H b 12 [.isl (bs (key.take (4*n))) (4*n)]=_:=fun b H=>c_new k n b hn H _ _ ht [] (hs1 H)
  have hc2:∀ b H,qbD (envC C (k+400)) H b 12 [.isl (bs (key.drop (4*n))) (4*n)]=_:=fun b H=>c_new k n b hn H _ _ hdr [] (hs2 H)
  have htd:(key.drop (4*n)).take (4*n)=key.drop (4*n):=List.take_of_length_le (by omega)
  rcases hn with rfl | rfl
  all_goals
    simp (disch:=first|omega|decide|simp only[qaf,qad,qag,qae,qah,qac,qaa,qab,qai]) only[qbk,qbh,qbI,qat,qao,qan,qal,qak,qbm,guardK_true,guardK_false,qar,qay,qaJ,qaq,qdv,qcd,qaH,qcx,qaG,qa7,qa1,qaj,qaD,qas,qbr,zM,zN,zO,zP,zG,zC,zI,zR,zQ,qbd,z7,zK,zJ,zH,Nat.reduceAdd,Nat.reduceSub,qa5,op_box,qcH,qb6,qcZ,qcR,aggR_some,op_build,qbC,zzE,zzA,zzD,zw,zzG,Nat.reduceEqDiff,Nat.reduceLeDiff,zu,zD,zA,zB,Nat.le_refl,zT,zL,qc4,zk,zB,zA,N_quo,N_neq,qbJ,decide_not,Nat.reduceLeDiff,Nat.reduceEqDiff,Nat.reduceMul,Nat.reduceAdd,Nat.reduceDiv,zL,zT,zg,ze,qcm,qbA,qcT,cellsOf_ptr,qdi,qcg,op_slcS,slcV_isl,qcn,qaI,qaZ,qaA,zH,Nat.sub_zero,zk,List.getElem?_cons_zero,List.getElem?_cons_succ,qcJ,qcp,List.getElem?_cons_zero,List.getElem?_cons_succ,ze,zg,Nat.reduceSub,qam,qam,L21,hk,qcF,bs_drop,hc1,hc2,htd]
    rw[qdk 0 _ _ [(37,0),(19,0),(19,1),(28,0),(28,1)] (by simp only[qav,FUEL,qaz,qax,qaB,qaE,qaQ,zV,zX,zI,zR,zQ,zz,zC,zW,zY,zF,zm,zn,zf,Nat.reduceEqDiff,zS,zZ,zl,zD,zE,zb,zh,zq,zp,zo,ne_eq,zt,qap,qa2,qbu,qaP,qcV,nms7_ptr,nms7_N,qaQ])]
    simp (disch:=first|omega|decide|simp only[qaf,qad,qag,qae,qah,qac,qaa,qab,qai]) only[zG,zC,zH,Nat.reduceAdd,qap,zF,Nat.reduceEqDiff,zS,zZ,false_and,zu,zD,zE,zA,zb,zh,idx_cons,canonMap_ne,zzB,zH,qaK,qck,qa2,List.filterMap_cons,zz,qb2,qbq,qcE,qbK,qbt,qaK,qb8]
    rfl
theorem xrnew_F (k n:Nat) (hn:n=4∨n=8) (key:List (BitVec 8)) (hk:key.length=8*n):F C (k+401) 24 [.isl (bs key) key.length] [] =
    some (.tup [.ptr (1,0) 0,N 0],[],[[.ptr (1,1) 0,.ptr (1,3) 0],RF (.sl (1,2) 0 (n+7) none 16) TB,bs (W n (key.take (4*n))),RF (.sl (1,4) 0 (n+7) none 16) TB,bs (W n (key.drop (4*n)))]):=by
  rw[qbT f24]
  have hd:8*n / 2=4*n:=by omega
  have hle:4*n≤8*n:=by omega
  have hs:8*n - 4*n=4*n:=by omega
  have h16:(8*n=32)=(n=4):=by apply propext; omega
  have h32:(8*n=64)=(n=8):=by apply propext; omega
  have hn8:n≠4→n=8:=fun h=>hn.resolve_left h
  have ht:(key.take (4*n)).length=4*n:=by rw[zzL]; omega
  have hdr:(key.drop (4*n)).length=4*n:=by rw[zzH]; omega
  have hs1:∀ H,snap H D (.isl (bs (key.take (4*n))) (4*n))=some (.isl (bs (key.take (4*n))) (key.take (4*n)).length,[]):=fun H=>by rw[ht]; rfl
  have hs2:∀ H,snap H D (.isl (bs (key.drop (4*n))) (4*n))=some (.isl (bs (key.drop (4*n))) (key.drop (4*n)).length,[]):=fun H=>by rw[hdr]; rfl
  have hc1:∀ b H,qbD (envC C (k+400)) H b 16 [.isl (bs (key.take (4*n))) (4*n)]=_:=fun b H=>c_rnew k n b hn H _ _ ht [] (hs1 H)
  have hc2:∀ b H,qbD (envC C (k+400)) H b 16 [.isl (bs (key.drop (4*n))) (4*n)]=_:=fun b H=>c_rnew k n b hn H _ _ hdr [] (hs2 H)
  have htd:(key.drop (4*n)).take (4*n)=key.drop (4*n):=List.take_of_length_le (by omega)
  rcases hn with rfl | rfl
  all_goals
    simp (disch:=first|omega|decide|simp only[qaf,qad,qag,qae,qah,qac,qaa,qab,qai]) only[qbk,qbh,qbI,qat,qao,qan,qal,qak,qbm,guardK_true,guardK_false,qar,qay,qaJ,qaq,qdv,qcd,qaH,qcx,qaG,qa7,qa1,qaj,qaD,qas,qbr,zM,zN,zO,zP,zG,zC,zI,zR,zQ,qbd,z7,zK,zJ,zH,Nat.reduceAdd,Nat.reduceSub,qa5,op_box,qcH,qb6,qcZ,qcR,aggR_some,op_build,qbC,zzE,zzA,zzD,zw,zzG,Nat.reduceEqDiff,Nat.reduceLeDiff,zu,zD,zA,zB,Nat.le_refl,zT,zL,qc4,zk,zB,zA,N_quo,N_neq,qbJ,decide_not,Nat.reduceLeDiff,Nat.reduceEqDiff,Nat.reduceMul,Nat.reduceAdd,Nat.reduceDiv,zL,zT,zg,ze,qcm,qbA,qcT,cellsOf_ptr,qdi,qcg,op_slcS,slcV_isl,qcn,qaI,qaZ,qaA,zH,Nat.sub_zero,zk,List.getElem?_cons_zero,List.getElem?_cons_succ,qcJ,qcp,List.getElem?_cons_zero,List.getElem?_cons_succ,ze,zg,Nat.reduceSub,qam,qam,L24,hk,qcF,bs_drop,hc1,hc2,htd]
    rw[qdk 0 _ _ [(37,0),(17,0),(17,1),(28,0),(28,1)] (by simp only[qav,FUEL,qaz,qax,qaB,qaE,qaQ,zV,zX,zI,zR,zQ,zz,zC,zW,zY,zF,zm,zn,zf,Nat.reduceEqDiff,zS,zZ,zl,zD,zE,zb,zh,zq,zp,zo,ne_eq,zt,qap,qa2,RF_nms,qaP,qcV,nms7_ptr,nms7_N,qaQ])]
    simp (disch:=first|omega|decide|simp only[qaf,qad,qag,qae,qah,qac,qaa,qab,qai]) only[zG,zC,zH,Nat.reduceAdd,qap,zF,Nat.reduceEqDiff,zS,zZ,false_and,zu,zD,zE,zA,zb,zh,idx_cons,canonMap_ne,zzB,zH,qaK,qck,qa2,List.filterMap_cons,zz,qb2,qbq,qcE,qbK,qcS,qaK,qb8]
    rfl
end Aes
namespace Aes
open Go Go.LE Xf
set_option maxRecDepth 20000
theorem xclone_F (k:Nat) (d:List (BitVec 8)) (h0:d.length≠0) (hb:d.length≤211106232532992):F C (k+5) 50 [.isl (bs d) d.length] []=some (.sl (1,0) 0 d.length none 1,[],[bs d]):=by
  rw[qbT f50]
  have hfr:∀ H,front H 1 d.length (.isl (bs d) d.length)=some (bs d):=fun H=>qdw d d.length rfl
  have hap:∀ b H m,appX b 1 1 d.length H [] (bs d) (.sl m 0 0 (some 0) 1)=some ⟨.sl (b,0) 0 d.length none 1,[bs d],[]⟩:=fun b H m=>appX_e b d.length H m (bs d) h0 (by omega)
  have hnil:binV .eql .slice (.isl (bs d) d.length) Nil=some (Bo false):=by
    simp only[binV,eqV,nilCS,nilS,if_pos (Nat.pos_of_ne_zero h0)]
    rfl
  simp (disch:=first|omega|decide|simp only[qaf,qad,qag,qae,qah,qac,qaa,qab,qai]) only[qbk,qbh,qbI,qat,qao,qan,qal,qak,qar,qay,qaJ,qaq,qaH,qaG,qaj,qaD,qas,qbr,qcI,zM,zN,zO,zP,zC,zI,zR,qbd,z7,zK,zJ,zH,Nat.reduceAdd,Nat.reduceSub,qb6,zA,zB,zB,zA,Nat.reduceAdd,lenOf_isl,qcA,qcB,qcC,qdd,qcX,qaI,qaZ,qaA,zH,Nat.reduceSub,qam,qam,L50,hnil,hfr,hap]
  rw[qdk 0 _ _ [(7,0)] (by simp only[qav,FUEL,qaz,qax,qaB,qaQ,zV,zX,zI,zQ,zz,zC,zW,zF,zf,Nat.reduceEqDiff,zS,zD,zE,zq,zp,zo,ne_eq,zt,qap,qa2,qaP])]
  simp (disch:=first|omega|decide|simp only[qaf,qad,qag,qae,qah,qac,qaa,qab,qai]) only[zG,zC,zH,qap,zF,Nat.reduceEqDiff,zS,false_and,zD,zE,zA,idx_cons,canonMap_ne,zzB,zH,qaK,qck,qa2,List.filterMap_cons,zz,qbq,qbK,qaK]
def U128 (u:BitVec 64):BitVec 128:=u.setWidth 128
theorem lo_U (u:BitVec 64):lo (U128 u)=u:=by
  apply BitVec.eq_of_getLsbD_eq; intro i hi
  rw[lo_bit,U128,BitVec.getLsbD_setWidth]; simp[hi]; omega
theorem hi_U (u:BitVec 64):Xf.hi (U128 u)=0#64:=by
  apply BitVec.eq_of_getLsbD_eq; intro i hi'
  rw[hi_bit,U128,BitVec.getLsbD_setWidth]; simp
def PO:qaV:=[.ptr (0,1) 0,.ptr (0,3) 0]
def tw0 (n:Nat) (lb:List (BitVec 8)) (u:BitVec 64):BitVec 128:=ofBits (byteBit (enc (kf lb) n (qb1 (U128 u))))
theorem PO_k0:cellK 0 1 (some PO)=some [.ptr (0,1) 0]:=rfl
theorem PO_k1:cellK 1 1 (some PO)=some [.ptr (0,3) 0]:=rfl
theorem qbB:List.range 5=[0,1,2,3,4]:=rfl
theorem PO_nms:PO.flatMap (nms D)=[(0,1),(0,3)]:=rfl
theorem PO_ren (names:List Nm):PO.map (ren D (qdg names))=PO:=by simp only[PO,zG,zC,qb2,qcK]; rfl
def KA (i n:Nat):qaV:=CF (.sl (0,i) 0 (n+2) none 16) TB
theorem KA_nms (i n:Nat):(KA i n).flatMap (nms D)=[(0,i)]:=by rw[KA,qbu]; rfl
theorem KA_ren (i n:Nat) (names:List Nm):(KA i n).map (ren D (qdg names))=KA i n:=by rw[KA,qbt,qbq,qcK]; rfl
theorem xfirst_F (k n:Nat) (hn:n≤20) (la lb:List (BitVec 8)) (hb:lb.length=16*(n+2)) (u:BitVec 64) :
    F C (k+80) 51 [.ptr (0,0) 0,B64 u] [PO,KA 2 n,bs la,KA 4 n,bs lb]=some (Hf (lo (tw0 n lb u)) (Xf.hi (tw0 n lb u)),[some PO,some (KA 2 n),some (bs la),some (KA 4 n),some (bs lb)],[]):=by
  rw[qbT f51]
  have hby:F C (k+79) 60 [Hf (lo (U128 u)) (Xf.hi (U128 u))] []=some (.agg (aB 16 (qb1 (U128 u))),[],[]):=Xf.bytes_F (k+69) (U128 u)
  rw[lo_U,hi_U] at hby
  have hof:=Xf.of_F (k+69) (enc (kf lb) n (qb1 (U128 u)))
  rw[Nat.add_assoc] at hof
  simp only[Nat.reduceAdd] at hof
  simp (disch:=first|omega|decide|simp only[qbU,nms_B32,qbR,nms_I,qbb,qci,qcM,qaO,nms_Hf,qaE,qaQ,qbe,qc6,qc8,qc3,zV,zX,zI,zQ,ren_B8,ren_B32,qcu,ren_I,ren_N,ren_Bo,ren_Un,qdj,ren_Hf,qbN,qc7,qc9,qcY,zG,zC,ren7_I,ren7_N,ren7_Bo,ren7_B8,ren7_B32,ren7_B64,nms7_I,nms7_N,nms7_Bo,nms7_B8,nms7_B32,nms7_B64,qcV,qb8,implies_true,l17,l59,l60,qaf,qaP,qaK,qbw,qbO,qad,qag,qae,qah,qac,qaa,qab,qai]) only[qbk,qat,qao,qan,qal,qak,qar,qay,qaJ,qaq,qaH,qa7,qa1,qaj,zM,zN,zO,zP,zG,zC,zV,zX,zI,zR,zQ,qbd,z7,zK,zJ,qda,Nat.reduceAdd,Nat.reduceSub,qap,cellsOf_B64,qaR,qbn,qbV,qcO,op_fa,qcy,qb6,qcZ,qcR,aggR_some,op_build,agg_Hf,nms_Hf,qbC,zzA,zzD,zw,za,zd,zU,zF,Nat.reduceEqDiff,Nat.reduceLeDiff,Nat.reduceLT,zS,zu,zD,zE,zA,zB,zT,qbe,aB_calK,zB,zA,Nat.reduceLT,Nat.reduceLeDiff,Nat.reduceEqDiff,Nat.reduceAdd,zT,zg,ze,op_chk,qcq,qaI,qaZ,qaA,qck,List.getElem?_cons_zero,List.getElem?_cons_zero,qa9,qbo,qbE,qca,qb7,qds,nms_fn,qaE,zY,zW,zx,z6,z0,qbQ,qba,za,zd,Nat.testBit,Nat.reduceShiftRight,Nat.reduceAnd,Nat.reduceBEq,ze,zg,zy,zU,zj,Nat.reduceSub,Nat.reduceLT,bne,qbg,qbG,qbp,qbZ,qbY,zj,zU,qaU,qam,qam,qaU,L51,PO_k1,hby]
  generalize hG:upd (qb4 _) (2,0) _=G
  have g0:G (0,0)=some PO:=by rw[←hG]; rfl
  have g1:G (0,1)=some (KA 2 n):=by rw[←hG]; rfl
  have g2:G (0,2)=some (bs la):=by rw[←hG]; rfl
  have g3:G (0,3)=some (KA 4 n):=by rw[←hG]; rfl
  have g4:G (0,4)=some (bs lb):=by rw[←hG]; rfl
  have g5:G (2,0)=some [B64 0#64,B64 0#64]:=by rw[←hG]; rfl
  clear hG
  have K:KG G (0,3) (0,4) (n+2) none lb:=⟨g3,g4,by decide⟩
  have hr:=reach_KG K
  have he:∀ b s,_:=fun b s=>c_enc (k+19) n b hn _ (0,3) (0,4) lb K.only hb s
  have ht:∀ v,_:=fun v=>tr_KG _ v (0,3) (0,4) (n+2) none lb K.only
  simp (disch:=first|omega|decide|simp only[qbU,nms_B32,qbR,nms_I,qbb,qci,qcM,qaO,nms_Hf,qaE,qaQ,qbe,qc6,qc8,qc3,zV,zX,zI,zQ,ren_B8,ren_B32,qcu,ren_I,ren_N,ren_Bo,ren_Un,qdj,ren_Hf,qbN,qc7,qc9,qcY,zG,zC,ren7_I,ren7_N,ren7_Bo,ren7_B8,ren7_B32,ren7_B64,nms7_I,nms7_N,nms7_Bo,nms7_B8,nms7_B32,nms7_B64,qcV,qb8,implies_true,l17,l59,l60,qaf,qaP,qaK,qbw,qbO,qad,qag,qae,qah,qac,qaa,qab,qai]) only[qbI,qan,qal,qar,qbc,qay,qaJ,qa7,qa1,qaj,qbr,zM,zN,zO,zP,zG,zC,zV,zX,zI,zQ,zK,zJ,qda,zH,Nat.reduceAdd,Nat.reduceSub,qap,isCell_B64,qaR,qct,qbF,qbl,qdh,agg_Hf,qdr,nms_Hf,calK_Hf,qbC,zzE,zzA,zzD,zw,zzG,zzJ,za,zd,zU,Nat.reduceLT,zu,zD,zA,Nat.le_refl,zT,qdl,qdu,qbe,zA,Nat.reduceLT,Nat.reduceAdd,zT,qce,zg,qaI,qaA,qa6,zH,qa9,qbo,qbE,qcl,qb7,qds,nms_fn,qaE,zY,zW,zx,z6,z0,qbQ,qba,za,zd,Nat.testBit,Nat.reduceShiftRight,Nat.reduceAnd,Nat.reduceBEq,zg,zy,zU,zj,Nat.reduceSub,Nat.reduceLT,bne,qbg,qbG,qbS,qbp,qb0,qbY,zj,zU,qaU,qaU,hr,he,ht,hof,g5,nms_Hf]
  rw[qdk 5 _ _ [] (by simp only[qav,FUEL,qaz,qax,qaB,nms_Hf,zV,zX,zI,zR,zQ,zC,zG,zW,zY,zF,zm,zn,zf,Nat.reduceEqDiff,zS,zZ,zl,zzC,zD,zE,zb,zq,zp,zo,ne_eq,z9,qap,nms_Hf,qbB,PO_nms,KA_nms,qaP,g0,g1,g2,g3,g4])]
  simp (disch:=first|omega|decide|simp only[qaf,qad,qag,qae,qah,qac,qaa,qab,qai]) only[zG,zC,zH,qap,ren_Hf,zF,Nat.reduceEqDiff,false_and,zE,zzB,zH,qaK,qbB,PO_ren,KA_ren,qaK,ren_Hf,g0,g1,g2,g3,g4,tw0]
end Aes
namespace Aes
open Go Go.LE Xf
def blk (d:List (BitVec 8)) (i:Nat):List (BitVec 8):=(d.drop (16*i)).take 16
def wtl (E:R→R) (t:BitVec 128) (b:List (BitVec 8)):List (BitVec 8):=(List.range 16).map (wt E t (fl b))
def tws (t0:BitVec 128):Nat→BitVec 128
  | 0=>t0
  | i+1=>GF.dbl 135#128 (tws t0 i)
def done (E:R→R) (t0:BitVec 128) (d:List (BitVec 8)):Nat→List (BitVec 8)
  | 0=>[]
  | i+1=>done E t0 d i++wtl E (tws t0 i) (blk d i)
theorem qdm (E:R→R) (t:BitVec 128) (b:List (BitVec 8)):(wtl E t b).length=16:=by rw[wtl,zzK,List.length_range]
theorem qdn (E:R→R) (t0:BitVec 128) (d:List (BitVec 8)):∀ i,(done E t0 d i).length=16*i:=by
  intro i
  induction i with
  | zero=>rfl
  | succ i ih=>rw[done,zzI,ih,qdm]; omega
theorem blk_length (d:List (BitVec 8)) (i:Nat) (h:16*(i+1)≤d.length):(blk d i).length=16:=by rw[blk,zzL,zzH]; omega
def tw1 (t0:BitVec 128) (m:Nat) (turned:Bool):BitVec 128:=if turned then tws t0 (m+1) else tws t0 m
def tw2 (t0:BitVec 128) (m:Nat) (turned:Bool):BitVec 128:=if turned then tws t0 m else tws t0 (m+1)
def stolen (E:R→R) (t0:BitVec 128) (d:List (BitVec 8)) (turned:Bool) (m:Nat):List (BitVec 8):=wtl E (tw1 t0 m turned) (blk d m)
def lastB (E:R→R) (t0:BitVec 128) (d:List (BitVec 8)) (turned:Bool) (m:Nat):List (BitVec 8):=d.drop (16*m+16)++(stolen E t0 d turned m).drop (d.length % 16)
def qb3 (E:R→R) (t0:BitVec 128) (d:List (BitVec 8)) (turned:Bool):List (BitVec 8) :=
  if d.length % 16=0 then done E t0 d (d.length / 16)
  else done E t0 d (d.length / 16 - 1)++wtl E (tw2 t0 (d.length / 16 - 1) turned) (lastB E t0 d turned (d.length / 16 - 1))++(stolen E t0 d turned (d.length / 16 - 1)).take (d.length % 16)
theorem unitP_length (E:R→R) (t0:BitVec 128) (d:List (BitVec 8)) (turned:Bool) (h:16≤d.length):(qb3 E t0 d turned).length=d.length:=by
  unfold qb3
  by_cases h0:d.length % 16=0
  · rw[if_pos h0,qdn]; omega
  · rw[if_neg h0,zzI,zzI,qdn,qdm,zzL,stolen,qdm]; omega
def outI (E:R→R) (t0:BitVec 128) (d:List (BitVec 8)) (i:Nat):List (BitVec 8):=done E t0 d i++d.drop (16*i)
theorem outI_length (E:R→R) (t0:BitVec 128) (d:List (BitVec 8)) (i:Nat) (h:16*i≤d.length):(outI E t0 d i).length=d.length:=by
  rw[outI,zzI,qdn,zzH]; omega
theorem outI_0 (E:R→R) (t0:BitVec 128) (d:List (BitVec 8)):outI E t0 d 0=d:=by rw[outI,done,zI,Nat.mul_zero,zw]
theorem outI_drop (E:R→R) (t0:BitVec 128) (d:List (BitVec 8)) (i:Nat):(outI E t0 d i).drop (16*i)=d.drop (16*i):=by
  rw[outI,List.drop_append,qdn,Nat.sub_self,zw,List.drop_of_length_le (by rw[qdn]; exact Nat.le_refl _),zI]
theorem outI_blk (E:R→R) (t0:BitVec 128) (d:List (BitVec 8)) (i:Nat):((outI E t0 d i).drop (16*i)).take 16=blk d i:=by rw[outI_drop,blk]
theorem outI_drop16 (E:R→R) (t0:BitVec 128) (d:List (BitVec 8)) (i:Nat):(outI E t0 d i).drop (16*i+16)=d.drop (16*i+16):=by
  rw[←List.drop_drop,outI_drop,List.drop_drop]
theorem outI_succ (E:R→R) (t0:BitVec 128) (d:List (BitVec 8)) (i:Nat) (h:16*(i+1)≤d.length) :
    (outI E t0 d i).take (16*i)++wtl E (tws t0 i) (blk d i)++(outI E t0 d i).drop (16*i+16)=outI E t0 d (i+1):=by
  have e1:(outI E t0 d i).take (16*i)=done E t0 d i:=by
    rw[outI,List.take_append,qdn,Nat.sub_self,zzA,zQ,List.take_of_length_le (by rw[qdn]; exact Nat.le_refl _)]
  have e2:(outI E t0 d i).drop (16*i+16)=d.drop (16*(i+1)):=by
    rw[←List.drop_drop,outI_drop,List.drop_drop]; congr 1
  rw[e1,e2,outI,done]
theorem outI_whole (E:R→R) (t0:BitVec 128) (d:List (BitVec 8)) (h:d.length % 16=0):outI E t0 d (d.length / 16)=qb3 E t0 d false:=by
  rw[outI,qb3,if_pos h,List.drop_of_length_le (by omega),zQ]
theorem unitP_whole (E:R→R) (t0:BitVec 128) (d:List (BitVec 8)) (a b:Bool) (h:d.length % 16=0):qb3 E t0 d a=qb3 E t0 d b:=by
  rw[qb3,qb3,if_pos h,if_pos h]
end Aes
namespace Aes
open Go Go.LE Xf
structure Inv (E D:R→R):Prop where
  ed:∀ s,E16 (D (E s)) s
  de:∀ s,E16 (E (D s)) s
  ec:∀ s t,E16 s t→E16 (E s) (E t)
  dc:∀ s t,E16 s t→E16 (D s) (D t)
theorem Inv.symm {E D:R→R} (h:Inv E D):Inv D E:=⟨h.de,h.ed,h.dc,h.ec⟩
theorem inv_aes (K:Nat→R) (n:Nat):Inv (enc K n) (dec K n):=⟨dec_enc K n,enc_dec K n,fun _ _ h=>enc_c K n h,fun _ _ h=>dec_c K n h⟩
theorem fl_map (w:R):E16 (fl ((List.range 16).map w)) w:=fun j hj=>by
  simp[fl,List.getD_eq_getElem?_getD,hj]
theorem list16 {a b:List (BitVec 8)} (ha:a.length=16) (hb:b.length=16) (h:E16 (fl a) (fl b)):a=b:=by
  apply List.ext_getElem (by rw[ha,hb])
  intro j h1 h2
  have:=h j (by omega)
  simpa [fl,List.getD_eq_getElem?_getD,h1,h2] using this
theorem wt_inv {E D:R→R} (h:Inv E D) (t:BitVec 128) (x:R):E16 (wt D t (wt E t x)) x:=by
  have e:(fun i=>wt E t x i ^^^ qb1 t i)=E (fun i=>x i ^^^ qb1 t i):=by
    funext i
    rw[wt,BitVec.xor_assoc,BitVec.xor_self,BitVec.xor_zero]
  intro j hj
  show D (fun i=>wt E t x i ^^^ qb1 t i) j ^^^ qb1 t j=x j
  rw[e,h.ed _ j hj,BitVec.xor_assoc,BitVec.xor_self,BitVec.xor_zero]
theorem wt_c {E D:R→R} (h:Inv E D) (t:BitVec 128) {x y:R} (hx:E16 x y):E16 (wt E t x) (wt E t y):=by
  intro j hj
  have:E16 (fun i=>x i ^^^ qb1 t i) (fun i=>y i ^^^ qb1 t i):=fun i hi=>by
    show x i ^^^ _=y i ^^^ _
    rw[hx i hi]
  show E _ j ^^^ _=E _ j ^^^ _
  rw[h.ec _ _ this j hj]
theorem wtl_inv {E D:R→R} (h:Inv E D) (t:BitVec 128) (b:List (BitVec 8)) (hb:b.length=16):wtl D t (wtl E t b)=b:=by
  apply list16 (qdm _ _ _) hb
  refine (fl_map _).trans ?_
  have:E16 (fl (wtl E t b)) (wt E t (fl b)):=fl_map _
  exact (wt_c h.symm t this).trans (wt_inv h t _)
theorem blk_done (E:R→R) (t0:BitVec 128) (d X:List (BitVec 8)) (w:Nat) (hX:done E t0 d w <+: X) (i:Nat) (hi:i < w):blk X i=wtl E (tws t0 i) (blk d i):=by
  have hpre:∀ w,i < w→∃ r,done E t0 d w=done E t0 d i++wtl E (tws t0 i) (blk d i)++r:=by
    intro w
    induction w with
    | zero=>intro h; omega
    | succ w ih =>
      intro h
      by_cases h':i < w
      · obtain ⟨r, hr⟩ := ih h'
        exact ⟨r++wtl E (tws t0 w) (blk d w),by rw[done,hr]; simp only[List.append_assoc]⟩
      · obtain rfl : w = i := by omega
        exact ⟨[],by rw[done,zQ]⟩
  obtain ⟨r,hr⟩:=hpre w hi
  obtain ⟨s,rfl⟩:=hX
  rw[blk,hr]
  simp only[List.append_assoc]
  rw[List.drop_append,qdn,Nat.sub_self,zw,List.drop_of_length_le (by rw[qdn]; exact Nat.le_refl _),zI,List.take_append_of_le_length (by rw[qdm]; exact Nat.le_refl _),List.take_of_length_le (by rw[qdm]; exact Nat.le_refl _)]
theorem wtl_eq {E D:R→R} (h:Inv E D) (t:BitVec 128) (a b:List (BitVec 8)) (ha:a.length=16) (hb:b.length=16):(wtl E t a=wtl E t b)↔a=b:=by
  constructor
  · intro e
    rw[←wtl_inv h t a ha,e,wtl_inv h t b hb]
  · rintro rfl; rfl
theorem unit_blk (E:R→R) (t0:BitVec 128) (d:List (BitVec 8)) (tu:Bool) (h0:d.length % 16=0) (i:Nat) (hi:i < d.length / 16):blk (qb3 E t0 d tu) i=wtl E (tws t0 i) (blk d i):=by
  rw[qb3,if_pos h0]
  exact blk_done E t0 d _ (d.length / 16) (List.prefix_refl _) i hi
end Aes
