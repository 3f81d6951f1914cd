/- Doubling a tweak, evaluated. -/
import Derived.Test.YtbdjmicabfclcaaGreatDoorLeX
set_option linter.unusedVariables false
set_option linter.unusedSimpArgs false
open List renaming reduceReplicate → rR
open Nat renaming reduceSubDiff → rS
namespace Xf
open Go Go.LE Aes Tb
theorem double_F (k:Nat) (lo hi:BitVec 64):F C (k+1) 59 [Hf lo hi] []=some (Hf (lo <<< 1 ^^^ (hi >>> 63)*135#64) (hi <<< 1 ||| lo >>> 63),[],[]):=by
  rw[qaL f59]
  simp (disch:=first|omega|decide|simp only[nmsB,lB]) only[simprocAttr,-rR,-rS,leB,qaf,memB,L59,qae,qad,qab,qaa,qac]
def lo (x:BitVec 128):BitVec 64:=x.setWidth 64
def hi (x:BitVec 128):BitVec 64:=(x >>> 64).setWidth 64
def hc (x:BitVec 128):qan:=[B64 (lo x),B64 (hi x)]
theorem qg1 (x:BitVec 128) (i:Nat):(lo x).getLsbD i=(decide (i < 64) && x.getLsbD i):=by simp[lo,BitVec.getLsbD_setWidth]
theorem qg2 (x:BitVec 128) (i:Nat):(hi x).getLsbD i=(decide (i < 64) && x.getLsbD (64+i)):=by simp[hi,BitVec.getLsbD_setWidth,BitVec.getLsbD_ushiftRight]
theorem lo_xor (x y:BitVec 128):lo x ^^^ lo y=lo (x ^^^ y):=by simp[lo]
theorem dbl_lo (x:BitVec 128):lo x <<< 1 ^^^ (hi x >>> 63)*135#64=lo (GF.dbl 135#128 x):=by
  have ht:hi x >>> 63=if x.getLsbD 127=true then 1#64 else 0#64:=by
    have bit:∀ i,(hi x >>> 63).getLsbD i=(decide (i=0) && x.getLsbD 127):=by
      intro i
      rw[BitVec.getLsbD_ushiftRight,qg2]
      by_cases h0:i=0
      · subst h0; rfl
      · have h1 : ¬ 63 + i < 64 := by omega
        rw[decide_eq_false h0,decide_eq_false h1,Bool.false_and,Bool.false_and]
    apply BitVec.eq_of_getLsbD_eq; intro i h
    rw[bit]
    by_cases hx:x.getLsbD 127=true
    · rw[if_pos hx,hx,BitVec.getLsbD_one]; simp
    · have hx' : x.getLsbD 127 = false := by simpa using hx
      rw[if_neg hx,hx']; simp
  unfold GF.dbl
  rw[ht,←lo_xor]
  congr 1
  · apply BitVec.eq_of_getLsbD_eq; intro i h
    simp only[BitVec.getLsbD_shiftLeft,qg1,h,decide_true,Bool.true_and]
    have h1:i < 128:=by omega
    have h2:i - 1 < 64:=by omega
    simp[h1,h2]
  · by_cases hx : x.getLsbD 127 = true
    · rw[if_pos hx,if_pos hx]; rfl
    · rw[if_neg hx,if_neg hx]; rfl
theorem dbl_hi (x:BitVec 128):hi x <<< 1 ||| lo x >>> 63=hi (GF.dbl 135#128 x):=by
  have h135:∀ i,(135#128).getLsbD (64+i)=false:=by
    intro i
    have:(135#128).toNat < 2 ^ (64+i):=Nat.lt_of_lt_of_le (by decide:(135#128).toNat < 2 ^ 64) (Nat.pow_le_pow_right (by decide) (by omega))
    rw[BitVec.getLsbD]
    exact Nat.testBit_lt_two_pow this
  apply BitVec.eq_of_getLsbD_eq; intro i h
  unfold GF.dbl
  simp only[BitVec.getLsbD_or,BitVec.getLsbD_shiftLeft,BitVec.getLsbD_ushiftRight,qg2,qg1,BitVec.getLsbD_xor,h,decide_true,Bool.true_and]
  have h0:((if x.getLsbD (128 - 1)=true then 135#128 else 0#128):BitVec 128).getLsbD (64+i)=false:=by
    split
    · exact h135 i
    · simp
  rw[h0,Bool.xor_false]
  have h3:64+i < 128:=by omega
  by_cases hi0:i=0
  · subst hi0; simp
  · have h1 : ¬ 63 + i < 64 := by omega
    have h2:i - 1 < 64:=by omega
    have h4:64+(i - 1)=64+i - 1:=by omega
    have h5:¬ i < 1:=by omega
    have h6:¬ 64+i < 1:=by omega
    simp[h1,h2,h3,h4,h5,h6]
theorem dbl_F (k:Nat) (x:BitVec 128):F C (k+1) 59 [Hf (lo x) (hi x)] []=some (Hf (lo (GF.dbl 135#128 x)) (hi (GF.dbl 135#128 x)),[],[]):=by
  rw[double_F,dbl_lo,dbl_hi]
end Xf
namespace Xf
open Go Go.LE Aes Tb
theorem and_one_mod (x:BitVec 64):(x % 2#64 == 1#64)=x.getLsbD 0:=by
  rw[Bool.eq_iff_iff,beq_iff_eq]
  constructor
  · intro h
    have:=congrArg BitVec.toNat h
    simp at this
    simp[BitVec.getLsbD,Nat.testBit,this]
  · intro h
    apply BitVec.eq_of_toNat_eq
    simp[BitVec.getLsbD,Nat.testBit_zero] at h
    simpa using h
theorem bit_at (x:BitVec 64) (i:Nat):(x >>> i % 2#64 == 1#64)=x.getLsbD i:=by
  rw[and_one_mod]; simp
def bitsP (a:BitVec 128) (i:Nat):Nat→Bool:=fun j=>(decide (j < i) || decide (64≤j∧j < 64+i)) && a.getLsbD j
theorem bits_succ (a:BitVec 128) (i:Nat) (h:i < 64):bitsP a (i+1)=set1 (set1 (bitsP a i) i ((lo a).getLsbD i)) (64+i) ((hi a).getLsbD i):=by
  funext j
  simp only[set1,bitsP,qg1,qg2,h,decide_true,Bool.true_and]
  by_cases h1:j=64+i
  · subst h1; simp
  · by_cases h2 : j = i
    · subst h2; simp[h1]
    · rw [if_neg h1, if_neg h2]
      congr 1
      have e1:(j < i+1)↔(j < i):=by omega
      have e2:(64≤j∧j < 64+(i+1))↔(64≤j∧j < 64+i):=by omega
      simp only[e1,e2]
def bI (a:BitVec 128) (i:Nat) (st:St):Prop := ∃ (H:Heap),st=⟨[.undef,.ptr (1,0) 0,.ptr (1,1) 0,.ptr (1,2) 0,N i,.undef,.undef,.undef,.undef,.undef,.undef,.undef,.undef,.undef,.undef,.undef,.undef,.undef,.undef,.undef,.undef,.undef,.undef,.undef,.undef,.undef,.undef],H,2,0⟩ ∧
  H (1,0)=some [B64 (lo a),B64 (hi a)]∧H (1,1)=some (aO 128 fun _=>false)∧H (1,2)=some (aO 128 (bitsP a i))
theorem bits_round (k K:Nat) (a:BitVec 128) (i:Nat) (hi':i < 64) (st:St) (hI:bI a i st) :
    ∃ st1,ev (envC C k) K L106b0 st=some (.normal,st1)∧bI a (i+1) (qaT L106k0 st1):=by
  obtain ⟨H,rfl,h0,h1,h2⟩:=hI
  apply Exists.intro
  apply And.intro
  · simp (disch := first | omega | decide | simp only [nmsB, lB]) only [simprocAttr, -rR, -rS, leB, qaf, memB, arrB, numB, L106b0, hi', h0, h2, bit_at, qae, qad, qab, qaa, qac]
    rfl
  · refine qal [(1, 0), (1, 1), (1, 2)] rfl (by simp only [simprocAttr, -rR, -rS, qaj, L106k0, h0, h1, qdX, qcj, qag, qab, qaa]) rfl ⟨_, rfl, ?_, ?_, ?_⟩
    · exact qai (1,0) rfl (by simp only[simprocAttr,-rR,-rS,memB,h0,qac]) rfl
    · exact qai (1,1) rfl (by simp only[simprocAttr,-rR,-rS,memB,h1,qac]) (qdY _ _ _)
    · rw [bits_succ a i hi']
      exact qai (1,2) rfl (by simp only[simprocAttr,-rR,-rS,memB,qac]) (qdY _ _ _)
theorem bits_F (k:Nat) (a:BitVec 128):F C (k+66) 106 [Hf (lo a) (hi a)] []=some (.agg (aO 128 fun j=>a.getLsbD j),[],[]):=by
  rw[qaL f106]
  simp (disch:=first|omega|decide|simp only[nmsB,lB]) only[simprocAttr,-rR,-rS,leB,qaf,memB,arrB,numB,L106,qae,qad,qab,qaa,qac]
  generalize hL:qaP L106k0 _ _ _=r
  refine qaK hL (bI a) 64 (by omega) (fun i st hi hI=>bits_round _ _ a i hi st hI) ?_ ?_ ?_
  · refine qal [(2, 0), (3, 0), (4, 0)] rfl (by simp only [simprocAttr, -rR, -rS, qaj, L106k0, qdX, qcj, qag, qab, qaa]) rfl ⟨_, rfl, ?_, ?_, ?_⟩
    · exact qai (2,0) rfl (by simp only[simprocAttr,-rR,-rS,memB,qac]) rfl
    · exact qai (3,0) rfl (by simp only[simprocAttr,-rR,-rS,memB,qac]) (qdY _ _ _)
    · rw [show bitsP a 0 = fun _ => false by funext j; simp [bitsP]; omega]
      exact qai (4,0) rfl (by simp only[simprocAttr,-rR,-rS,memB,qac]) (qdY _ _ _)
  · rintro st ⟨H, rfl, h0, h1, h2⟩
    apply qaG
    simp (disch:=first|omega|decide|simp only[nmsB,lB]) only[simprocAttr,-rR,-rS,leB,qaf,memB,numB,L106b0,qae,qad,qab,qaa,qac]
    rfl
  · rintro st ⟨H, rfl, h0, h1, h2⟩ rfl
    have e:bitsP a 64=fun j=>a.getLsbD j:=by
      funext j
      by_cases h:j < 128
      · simp only [bitsP]
        have:(decide (j < 64) || decide (64≤j∧j < 64+64))=true:=by simp; omega
        rw[this,Bool.true_and]
      · simp only[bitsP,BitVec.getLsbD_of_ge a j (by omega),Bool.and_false]
    rw[e] at h2
    simp (disch:=first|omega|decide|simp only[nmsB,lB]) only[simprocAttr,-rR,-rS,leB,qaf,memB,arrB,numB,L106b0,h0,h1,h2,qae,qad,qab,qaa,qac]
end Xf
namespace Xf
open Go Go.LE Aes Tb
def fbv (b:Nat→Bool):Nat→BitVec 64
  | 0=>0#64
  | i+1=>if b i=true then fbv b i ||| 1#64 <<< i else fbv b i
theorem fbv_bit (b:Nat→Bool):∀ n j,(fbv b n).getLsbD j=(decide (j < n) && decide (j < 64) && b j):=by
  intro n
  induction n with
  | zero=>intro j; simp[fbv]
  | succ n ih =>
    intro j
    simp only[fbv]
    split
    · rename_i h
      rw[BitVec.getLsbD_or,ih,BitVec.getLsbD_shiftLeft]
      by_cases hj:j=n
      · subst hj; simp[h]
      · by_cases hj2 : j < n
        · simp[hj2,show j < n+1 by omega]
        · have h3 : ¬ j < n + 1 := by omega
          have h4:¬ j - n=0:=by omega
          simp[hj2,h3,h4]
    · rename_i h
      rw[ih]
      by_cases hj:j=n
      · subst hj; simp[h]
      · have : (j < n + 1) ↔ (j < n) := by omega
        simp only[this]
def qdM (b:Nat→Bool):BitVec 128:=fbv (fun j=>b (64+j)) 64++fbv b 64
theorem qeI (b:Nat→Bool) (j:Nat):(qdM b).getLsbD j=(decide (j < 128) && b j):=by
  rw[qdM,BitVec.getLsbD_append]
  by_cases h:j < 64
  · rw [if_pos h, fbv_bit]
    have:j < 128:=by omega
    simp[h,this]
  · rw [if_neg h, fbv_bit]
    by_cases h2:j < 128
    · have h3 : j - 64 < 64 := by omega
      have h4:64+(j - 64)=j:=by omega
      simp[h2,h3,h4]
    · have h3 : ¬ j - 64 < 64 := by omega
      simp[h2,h3]
theorem lo_app (x y:BitVec 64):lo (y++x)=x:=by
  apply BitVec.eq_of_getLsbD_eq; intro i hi
  rw[qg1,BitVec.getLsbD_append]
  simp[hi]
theorem hi_app (x y:BitVec 64):hi (y++x)=y:=by
  apply BitVec.eq_of_getLsbD_eq; intro i hi
  rw[qg2,BitVec.getLsbD_append]
  have h1:¬ 64+i < 64:=by omega
  simp[hi,h1]
def fI (b:Nat→Bool) (i:Nat) (st:St):Prop := ∃ (H:Heap),st=⟨[.undef,.ptr (1,0) 0,.ptr (1,1) 0,.ptr (1,2) 0,N i,.undef,.undef,.undef,.undef,.undef,.undef,.undef,.undef,.undef,.undef,.undef,.undef,.undef,.undef,.undef,.undef,.undef,.undef,.undef,.undef,.undef,.undef,.undef,.undef,.undef],H,2,0⟩ ∧
  H (1,0)=some (aO 128 b)∧H (1,1)=some [B64 0#64,B64 0#64]∧H (1,2)=some [B64 (fbv b i),B64 (fbv (fun j=>b (64+j)) i)]
theorem fb_round (k K:Nat) (b:Nat→Bool) (i:Nat) (hi':i < 64) (st:St) (hI:fI b i st) :
    ∃ st1,ev (envC C k) K L102b0 st=some (.normal,st1)∧fI b (i+1) (qaT L102k0 st1):=by
  obtain ⟨H,rfl,h0,h1,h2⟩:=hI
  cases hb:b i <;> cases hc:b (64+i)
  all_goals
    apply Exists.intro
    apply And.intro
    · simp (disch := first | omega | decide | simp only [nmsB, lB]) only [simprocAttr, -rR, -rS, leB, qaf, memB, arrB, numB, ordB, L102b0, hi', h0, h2, hb, hc, qae, qad, qab, qaa, qac, qaq]
      rfl
    · refine qal [(1, 0), (1, 1), (1, 2)] rfl (by simp only [simprocAttr, -rR, -rS, qaj, L102k0, h0, h1, h2, qdX, qcj, qag, qab, qaa]) rfl ⟨_, rfl, ?_, ?_, ?_⟩
      · exact qai (1,0) rfl (by simp only[simprocAttr,-rR,-rS,memB,h0,qac]) (qdY _ _ _)
      · exact qai (1,1) rfl (by simp only[simprocAttr,-rR,-rS,memB,h1,qac]) rfl
      · simp only [fbv, hb, hc, zF, zP, zL]
        exact qai (1,2) rfl (by simp only[simprocAttr,-rR,-rS,memB,h2,qac]) rfl
theorem qhn (k:Nat) (b:Nat→Bool):F C (k+66) 102 [.agg (aO 128 b)] []=some (Hf (lo (qdM b)) (hi (qdM b)),[],[]):=by
  rw[qaL f102]
  simp (disch:=first|omega|decide|simp only[nmsB,lB]) only[simprocAttr,-rR,-rS,leB,qaf,memB,arrB,numB,L102,qae,qad,qab,qaa,qac]
  generalize hL:qaP L102k0 _ _ _=r
  refine qaK hL (fI b) 64 (by omega) (fun i st hi hI=>fb_round _ _ b i hi st hI) ?_ ?_ ?_
  · refine qal [(2, 0), (3, 0), (5, 0)] rfl (by simp only [simprocAttr, -rR, -rS, qaj, L102k0, qdX, qcj, qag, qab, qaa]) rfl ⟨_, rfl, ?_, ?_, ?_⟩
    · exact qai (2,0) rfl (by simp only[simprocAttr,-rR,-rS,memB,qac]) (qdY _ _ _)
    · exact qai (3,0) rfl (by simp only[simprocAttr,-rR,-rS,memB,qac]) rfl
    · exact qai (5,0) rfl (by simp only[simprocAttr,-rR,-rS,memB,fbv,qac]) rfl
  · rintro st ⟨H, rfl, h0, h1, h2⟩
    apply qaG
    simp (disch:=first|omega|decide|simp only[nmsB,lB]) only[simprocAttr,-rR,-rS,leB,qaf,memB,numB,L102b0,qae,qad,qab,qaa,qac]
    rfl
  · rintro st ⟨H, rfl, h0, h1, h2⟩ rfl
    rw[qdM,lo_app,hi_app]
    simp (disch:=first|omega|decide|simp only[nmsB,lB]) only[simprocAttr,-rR,-rS,leB,qaf,memB,arrB,numB,L102b0,h0,h1,h2,qae,qad,qab,qaa,qac]
end Xf
namespace Xf
open Go Go.LE Aes Tb
theorem bit8_at (x:BitVec 8) (i:Nat):(x >>> i % 2#8 == 1#8)=x.getLsbD i:=by
  rw[Bool.eq_iff_iff,beq_iff_eq]
  have e:x.getLsbD i=(x >>> i).getLsbD 0:=by simp
  rw[e]
  generalize x >>> i=y
  constructor
  · intro h
    have:=congrArg BitVec.toNat h
    simp at this
    simp[BitVec.getLsbD,Nat.testBit,this]
  · intro h
    apply BitVec.eq_of_toNat_eq
    simp[BitVec.getLsbD,Nat.testBit_zero] at h
    simpa using h
def qcZ (c:Nat→BitVec 8) (j:Nat):Bool:=(c (j / 8)).getLsbD (j % 8)
def ofP (c:Nat→BitVec 8) (i:Nat):Nat→Bool:=fun j=>decide (j < i) && qcZ c j
theorem ofP_succ (c:Nat→BitVec 8) (i:Nat):ofP c (i+1)=set1 (ofP c i) i ((c (i / 8)).getLsbD (i % 8)):=by
  funext j
  simp only[set1,ofP]
  by_cases h:j=i
  · subst h; simp[qcZ]
  · rw [if_neg h]
    have:(j < i+1)↔(j < i):=by omega
    simp only[this]
def oI (c:Nat→BitVec 8) (i:Nat) (st:St):Prop := ∃ (H:Heap),st=⟨[.undef,.ptr (1,0) 0,.ptr (1,1) 0,.ptr (1,2) 0,N i,.undef,.undef,.undef,.undef,.undef,.undef,.undef,.undef,.undef,.undef,.undef,.undef,.undef,.undef,.undef,.undef,.undef],H,2,0⟩ ∧
  H (1,0)=some (aB 16 c)∧H (1,1)=some [B64 0#64,B64 0#64]∧H (1,2)=some (aO 128 (ofP c i))
theorem rof_round (k K:Nat) (c:Nat→BitVec 8) (i:Nat) (hi':i < 128) (st:St) (hI:oI c i st) :
    ∃ st1,ev (envC C k) K L88b0 st=some (.normal,st1)∧oI c (i+1) (qaT L88k0 st1):=by
  obtain ⟨H,rfl,h0,h1,h2⟩:=hI
  have h16:i / 8 < 16:=by omega
  apply Exists.intro
  apply And.intro
  · simp (disch := first | omega | decide | simp only [nmsB, lB]) only [simprocAttr, -rR, -rS, leB, qaf, memB, arrB, numB, L88b0, hi', h0, h2, bit8_at, qae, qad, qab, qaa, qac]
    rfl
  · refine qal [(1, 0), (1, 1), (1, 2)] rfl (by simp only [simprocAttr, -rR, -rS, qaj, L88k0, h0, h1, qaD, qdX, qcj, qag, qab, qaa]) rfl ⟨_, rfl, ?_, ?_, ?_⟩
    · exact qai (1,0) rfl (by simp only[simprocAttr,-rR,-rS,memB,h0,qac]) (qap _ _ _)
    · exact qai (1,1) rfl (by simp only[simprocAttr,-rR,-rS,memB,h1,qac]) rfl
    · rw [ofP_succ]
      exact qai (1,2) rfl (by simp only[simprocAttr,-rR,-rS,memB,qac]) (qdY _ _ _)
theorem rof_F (k:Nat) (c:Nat→BitVec 8):F C (k+130) 88 [.agg (aB 16 c)] []=some (Hf (lo (qdM (qcZ c))) (hi (qdM (qcZ c))),[],[]):=by
  rw[qaL f88]
  simp (disch:=first|omega|decide|simp only[nmsB,lB]) only[simprocAttr,-rR,-rS,leB,qaf,memB,arrB,numB,L88,qae,qad,qab,qaa,qac]
  generalize hL:qaP L88k0 _ _ _=r
  refine qaK hL (oI c) 128 (by omega) (fun i st hi hI=>rof_round _ _ c i hi st hI) ?_ ?_ ?_
  · refine qal [(2, 0), (3, 0), (4, 0)] rfl (by simp only [simprocAttr, -rR, -rS, qaj, L88k0, qaD, qdX, qcj, qag, qab, qaa]) rfl ⟨_, rfl, ?_, ?_, ?_⟩
    · exact qai (2,0) rfl (by simp only[simprocAttr,-rR,-rS,memB,qac]) (qap _ _ _)
    · exact qai (3,0) rfl (by simp only[simprocAttr,-rR,-rS,memB,qac]) rfl
    · rw [show ofP c 0 = fun _ => false by funext j; simp [ofP]]
      exact qai (4,0) rfl (by simp only[simprocAttr,-rR,-rS,memB,qac]) (qdY _ _ _)
  · rintro st ⟨H, rfl, h0, h1, h2⟩
    apply qaG
    simp (disch:=first|omega|decide|simp only[nmsB,lB]) only[simprocAttr,-rR,-rS,leB,qaf,memB,numB,L88b0,qae,qad,qab,qaa,qac]
    rfl
  · rintro st ⟨H, rfl, h0, h1, h2⟩ rfl
    have e:aO 128 (ofP c 128)=aO 128 (qcZ c):=aO_ext 128 fun j hj=>by simp[ofP,hj]
    rw[e] at h2
    have hf:=qhn (k+63) (qcZ c)
    rw[Nat.add_assoc] at hf
    simp only[Nat.reduceAdd] at hf
    simp (disch:=first|omega|decide|simp only[nmsB,lB]) only[simprocAttr,-rR,-rS,leB,qaf,memB,arrB,numB,L88b0,h0,h1,h2,hf,qae,qad,qab,qaa,qac]
def qa6 (a:BitVec 128) (j:Nat):BitVec 8:=(a >>> (8*j)).setWidth 8
def rbP (a:BitVec 128) (i j:Nat):BitVec 8:=qa6 (a &&& (BitVec.ofNat 128 (2 ^ i - 1))) j
theorem qeJ (a:BitVec 128) (j n:Nat):(qa6 a j).getLsbD n=(decide (n < 8) && a.getLsbD (8*j+n)):=by
  simp[qa6,BitVec.getLsbD_setWidth,BitVec.getLsbD_ushiftRight]
theorem qfz (a:BitVec 128) (i j n:Nat):(rbP a i j).getLsbD n=(decide (n < 8) && (decide (8*j+n < i) && a.getLsbD (8*j+n))):=by
  rw[rbP,qeJ,BitVec.getLsbD_and]
  congr 1
  rw[Bool.and_comm]
  by_cases h:8*j+n < 128
  · congr 1
    rw[BitVec.getLsbD_ofNat,Nat.testBit_two_pow_sub_one]
    simp[h]
  · simp[BitVec.getLsbD_of_ge a _ (Nat.le_of_not_lt h)]
theorem rbP_succ (a:BitVec 128) (i:Nat) (hi:i < 128):rbP a (i+1)=if a.getLsbD i then set1 (rbP a i) (i / 8) (rbP a i (i / 8) ||| 1#8 <<< (i % 8)) else rbP a i:=by
  funext j
  apply BitVec.eq_of_getLsbD_eq
  intro n hn
  by_cases hb:a.getLsbD i=true
  · rw [if_pos hb]
    simp only[set1]
    by_cases hj:j=i / 8
    · subst hj
      rw[if_pos rfl,BitVec.getLsbD_or,qfz,qfz,BitVec.getLsbD_shiftLeft]
      by_cases h1:n=i % 8
      · have h2 : 8 * (i / 8) + n = i := by omega
        simp only[h2,hb,hn]
        simp[h1]
      · have h3 : (8 * (i / 8) + n < i + 1) ↔ (8 * (i / 8) + n < i) := by omega
        have h4:(decide (n < 8) && !decide (n < i % 8) && (1#8).getLsbD (n - i % 8))=false:=by
          by_cases h5:n < i % 8
          · simp[h5]
          · have h6 : ¬ n - i % 8 = 0 := by omega
            simp[h6]
        rw[h4,Bool.or_false]
        simp only[h3]
    · rw [if_neg hj, qfz, qfz]
      have h3:(8*j+n < i+1)↔(8*j+n < i):=by omega
      simp only[h3]
  · rw [if_neg hb, qfz, qfz]
    by_cases h1:8*j+n=i
    · simp[h1,hb]
    · have h3 : (8 * j + n < i + 1) ↔ (8 * j + n < i) := by omega
      simp only[h3]
def rbI (a:BitVec 128) (i:Nat) (st:St):Prop := ∃ (H:Heap),st=⟨[.undef,.undef,.ptr (1,0) 0,.ptr (1,1) 0,.ptr (1,2) 0,N i,.undef,.undef,.undef,.undef,.undef,.undef,.undef,.undef,.undef,.undef,.undef,.undef,.undef,.undef,.undef,.undef,.undef,.undef,.undef,.undef,.undef],H,2,0⟩ ∧
  H (1,0)=some (aB 16 fun _=>0#8)∧H (1,1)=some (aB 16 (rbP a i))∧H (1,2)=some (aO 128 fun j=>a.getLsbD j)
theorem rb_round (k K:Nat) (a:BitVec 128) (i:Nat) (hi':i < 128) (st:St) (hI:rbI a i st) :
    ∃ st1,ev (envC C k) K L90b0 st=some (.normal,st1)∧rbI a (i+1) (qaT L90k0 st1):=by
  obtain ⟨H,rfl,h0,h1,h2⟩:=hI
  have h16:i / 8 < 16:=by omega
  cases hb:a.getLsbD i
  all_goals
    apply Exists.intro
    apply And.intro
    · simp (disch := first | omega | decide | simp only [nmsB, lB]) only [simprocAttr, -rR, -rS, leB, qaf, memB, arrB, numB, ordB, L90b0, hi', h0, h1, h2, hb, qae, qad, qab, qaa, qac, qaq]
      rfl
    · refine qal [(1, 0), (1, 1), (1, 2)] rfl (by simp only [simprocAttr, -rR, -rS, qaj, L90k0, h0, h1, h2, qaD, qdX, qcj, qag, qab, qaa]) rfl ⟨_, rfl, ?_, ?_, ?_⟩
      · exact qai (1,0) rfl (by simp only[simprocAttr,-rR,-rS,memB,h0,qac]) (qap _ _ _)
      · rw [rbP_succ a i hi', hb]
        simp only[zF,zP,zL]
        exact qai (1,1) rfl (by simp only[simprocAttr,-rR,-rS,memB,h1,qac]) (qap _ _ _)
      · exact qai (1,2) rfl (by simp only[simprocAttr,-rR,-rS,memB,h2,qac]) (qdY _ _ _)
theorem rbytes_F (k:Nat) (a:BitVec 128):F C (k+130) 90 [Hf (lo a) (hi a)] []=some (.agg (aB 16 (qa6 a)),[],[]):=by
  rw[qaL f90]
  have hf:=bits_F (k+63) a
  rw[Nat.add_assoc] at hf
  simp only[Nat.reduceAdd] at hf
  simp (disch:=first|omega|decide|simp only[nmsB,lB]) only[simprocAttr,-rR,-rS,leB,qaf,memB,arrB,numB,L90,hf,qae,qad,qab,qaa,qac]
  generalize hL:qaP L90k0 _ _ _=r
  refine qaK hL (rbI a) 128 (by omega) (fun i st hi hI=>rb_round _ _ a i hi st hI) ?_ ?_ ?_
  · refine qal [(3, 0), (4, 0), (7, 0)] rfl (by simp only [simprocAttr, -rR, -rS, qaj, L90k0, qaD, qdX, qcj, qag, qab, qaa]) rfl ⟨_, rfl, ?_, ?_, ?_⟩
    · exact qai (3,0) rfl (by simp only[simprocAttr,-rR,-rS,memB,qac]) (qap _ _ _)
    · rw [show rbP a 0 = fun _ => 0#8 by funext j; simp [rbP, qa6]]
      exact qai (4,0) rfl (by simp only[simprocAttr,-rR,-rS,memB,qac]) (qap _ _ _)
    · exact qai (7,0) rfl (by simp only[simprocAttr,-rR,-rS,memB,qac]) (qdY _ _ _)
  · rintro st ⟨H, rfl, h0, h1, h2⟩
    apply qaG
    simp (disch:=first|omega|decide|simp only[nmsB,lB]) only[simprocAttr,-rR,-rS,leB,qaf,memB,numB,L90b0,qae,qad,qab,qaa,qac]
    rfl
  · rintro st ⟨H, rfl, h0, h1, h2⟩ rfl
    have e:aB 16 (rbP a 128)=aB 16 (qa6 a):=qbR 16 fun j hj=>by
      apply BitVec.eq_of_getLsbD_eq
      intro n hn
      rw[qfz,qeJ]
      simp[show 8*j+n < 128 by omega]
    rw[e] at h1
    simp (disch:=first|omega|decide|simp only[nmsB,lB]) only[simprocAttr,-rR,-rS,leB,qaf,memB,arrB,numB,L90b0,h0,h1,h2,qae,qad,qab,qaa,qac]
end Xf
namespace Xf
open Go Go.LE Aes Tb
theorem byte_lo (a:BitVec 128) (i:Nat) (h:i < 8):(lo a >>> (8*i)).setWidth 8=qa6 a i:=by
  apply BitVec.eq_of_getLsbD_eq
  intro n hn
  rw[qeJ,BitVec.getLsbD_setWidth,BitVec.getLsbD_ushiftRight,qg1]
  have:8*i+n < 64:=by omega
  simp[this]
theorem byte_hi (a:BitVec 128) (i:Nat) (h:i < 8):(hi a >>> (8*i)).setWidth 8=qa6 a (8+i):=by
  apply BitVec.eq_of_getLsbD_eq
  intro n hn
  rw[qeJ,BitVec.getLsbD_setWidth,BitVec.getLsbD_ushiftRight,qg2]
  have:8*i+n < 64:=by omega
  have e:64+(8*i+n)=8*(8+i)+n:=by omega
  simp[this,e]
def byP (a:BitVec 128) (i j:Nat):BitVec 8:=if j < i∨(8≤j∧j < 8+i) then qa6 a j else 0#8
theorem byP_succ (a:BitVec 128) (i:Nat) (h:i < 8):byP a (i+1)=set1 (set1 (byP a i) i (qa6 a i)) (8+i) (qa6 a (8+i)):=by
  funext j
  simp only[set1,byP]
  by_cases h1:j=8+i
  · subst h1
    rw[if_pos (by omega),if_pos rfl]
  · rw [if_neg h1]
    by_cases h2:j=i
    · subst h2
      rw[if_pos (by omega),if_pos rfl]
    · rw [if_neg h2]
      have:(j < i+1∨8≤j∧j < 8+(i+1))↔(j < i∨8≤j∧j < 8+i):=by omega
      simp only[this]
def byI (a:BitVec 128) (i:Nat) (st:St):Prop := ∃ (H:Heap),st=⟨[.undef,.ptr (1,0) 0,.ptr (1,1) 0,.ptr (1,2) 0,.undef,N i,.undef,.undef,.undef,.undef,.undef,.undef,.undef,.undef,.undef,.undef,.undef,.undef,.undef,.undef,.undef,.undef,.undef,.undef,.undef,.undef,.undef],H,2,0⟩ ∧
  H (1,0)=some [B64 (lo a),B64 (hi a)]∧H (1,1)=some (aB 16 fun _=>0#8)∧H (1,2)=some (aB 16 (byP a i))
theorem by_round (k K:Nat) (a:BitVec 128) (i:Nat) (hi':i < 8) (st:St) (hI:byI a i st) :
    ∃ st1,ev (envC C k) K L81b0 st=some (.normal,st1)∧byI a (i+1) (qaT L81k0 st1):=by
  obtain ⟨H,rfl,h0,h1,h2⟩:=hI
  apply Exists.intro
  apply And.intro
  · simp (disch := first | omega | decide | simp only [nmsB, lB]) only [simprocAttr, -rR, -rS, leB, qaf, memB, arrB, numB, ordB, L81b0, hi', h0, h1, h2, byte_lo, byte_hi, qae, qad, qab, qaa, qac, qaq]
    rfl
  · refine qal [(1, 0), (1, 1), (1, 2)] rfl (by simp only [simprocAttr, -rR, -rS, qaj, L81k0, h0, h1, h2, qaD, qdX, qcj, qag, qab, qaa]) rfl ⟨_, rfl, ?_, ?_, ?_⟩
    · exact qai (1,0) rfl (by simp only[simprocAttr,-rR,-rS,memB,h0,qac]) rfl
    · exact qai (1,1) rfl (by simp only[simprocAttr,-rR,-rS,memB,h1,qac]) (qap _ _ _)
    · rw [byP_succ a i hi']
      exact qai (1,2) rfl (by simp only[simprocAttr,-rR,-rS,memB,qac]) (qap _ _ _)
theorem bytes_F (k:Nat) (a:BitVec 128):F C (k+10) 81 [Hf (lo a) (hi a)] []=some (.agg (aB 16 (qa6 a)),[],[]):=by
  rw[qaL f81]
  simp (disch:=first|omega|decide|simp only[nmsB,lB]) only[simprocAttr,-rR,-rS,leB,qaf,memB,arrB,numB,L81,qae,qad,qab,qaa,qac]
  generalize hL:qaP L81k0 _ _ _=r
  refine qaK hL (byI a) 8 (by omega) (fun i st hi hI=>by_round _ _ a i hi st hI) ?_ ?_ ?_
  · refine qal [(2, 0), (3, 0), (4, 0)] rfl (by simp only [simprocAttr, -rR, -rS, qaj, L81k0, qaD, qdX, qcj, qag, qab, qaa]) rfl ⟨_, rfl, ?_, ?_, ?_⟩
    · exact qai (2,0) rfl (by simp only[simprocAttr,-rR,-rS,memB,qac]) rfl
    · exact qai (3,0) rfl (by simp only[simprocAttr,-rR,-rS,memB,qac]) (qap _ _ _)
    · rw [show byP a 0 = fun _ => 0#8 by funext j; simp [byP]; omega]
      exact qai (4,0) rfl (by simp only[simprocAttr,-rR,-rS,memB,qac]) (qap _ _ _)
  · rintro st ⟨H, rfl, h0, h1, h2⟩
    apply qaG
    simp (disch:=first|omega|decide|simp only[nmsB,lB]) only[simprocAttr,-rR,-rS,leB,qaf,memB,numB,L81b0,qae,qad,qab,qaa,qac]
    rfl
  · rintro st ⟨H, rfl, h0, h1, h2⟩ rfl
    have e:aB 16 (byP a 8)=aB 16 (qa6 a):=qbR 16 fun j hj=>by
      simp only[byP]
      rw[if_pos (by omega)]
    rw[e] at h2
    simp (disch:=first|omega|decide|simp only[nmsB,lB]) only[simprocAttr,-rR,-rS,leB,qaf,memB,arrB,numB,L81b0,h0,h1,h2,qae,qad,qab,qaa,qac]
def ofv (c:Nat→BitVec 8):Nat→BitVec 64
  | 0=>0#64
  | i+1=>ofv c i ||| (c i).setWidth 64 <<< (8*i)
theorem ofv_bit (c:Nat→BitVec 8):∀ n j,(ofv c n).getLsbD j=(decide (j < 8*n) && decide (j < 64) && qcZ c j):=by
  intro n
  induction n with
  | zero=>intro j; simp[ofv]
  | succ n ih =>
    intro j
    rw[ofv,BitVec.getLsbD_or,ih,BitVec.getLsbD_shiftLeft,BitVec.getLsbD_setWidth]
    by_cases h64:j < 64
    · by_cases h1 : j < 8 * n
      · have h2 : j < 8 * (n + 1) := by omega
        simp[h1,h2,h64]
      · by_cases h2 : j < 8 * (n + 1)
        · have h3 : j / 8 = n := by omega
          have h4:j % 8=j - 8*n:=by omega
          have h5:j - 8*n < 64:=by omega
          simp[h1,h2,h64,qcZ,h3,h4,h5]
        · have h3 : (c n).getLsbD (j - 8 * n) = false := BitVec.getLsbD_of_ge _ _ (by omega)
          simp[h1,h2,h3]
    · simp[h64]
theorem of_app (c:Nat→BitVec 8):ofv (fun j=>c (8+j)) 8++ofv c 8=qdM (qcZ c):=by
  apply BitVec.eq_of_getLsbD_eq
  intro j hj
  rw[qeI,BitVec.getLsbD_append]
  by_cases h:j < 64
  · rw [if_pos h, ofv_bit]
    have h2:j < 8*8:=by omega
    simp[h,h2,hj]
  · rw [if_neg h, ofv_bit]
    have h3:j - 64 < 64:=by omega
    have h4:(j - 64) / 8=j / 8 - 8:=by omega
    have h5:(j - 64) % 8=j % 8:=by omega
    have h6:8+(j / 8 - 8)=j / 8:=by omega
    simp[h3,hj,qcZ,h4,h5,h6]
def ofI (c:Nat→BitVec 8) (i:Nat) (st:St):Prop := ∃ (H:Heap),st=⟨[.undef,.ptr (1,0) 0,.ptr (1,1) 0,.ptr (1,2) 0,.undef,.undef,N i,.undef,.undef,.undef,.undef,.undef,.undef,.undef,.undef,.undef,.undef,.undef,.undef,.undef,.undef,.undef,.undef,.undef,.undef,.undef,.undef,.undef,.undef,.undef,.undef,.undef,.undef,.undef],H,2,0⟩ ∧
  H (1,0)=some (aB 16 c)∧H (1,1)=some [B64 0#64,B64 0#64]∧H (1,2)=some [B64 (ofv c i),B64 (ofv (fun j=>c (8+j)) i)]
theorem of_round (k K:Nat) (c:Nat→BitVec 8) (i:Nat) (hi':i < 8) (st:St) (hI:ofI c i st) :
    ∃ st1,ev (envC C k) K L80b0 st=some (.normal,st1)∧ofI c (i+1) (qaT L80k0 st1):=by
  obtain ⟨H,rfl,h0,h1,h2⟩:=hI
  apply Exists.intro
  apply And.intro
  · simp (disch := first | omega | decide | simp only [nmsB, lB]) only [simprocAttr, -rR, -rS, leB, qaf, memB, arrB, numB, ordB, L80b0, hi', h0, h1, h2, qae, qad, qab, qaa, qac, qaq]
    rfl
  · refine qal [(1, 0), (1, 1), (1, 2)] rfl (by simp only [simprocAttr, -rR, -rS, qaj, L80k0, h0, h1, h2, qaD, qdX, qcj, qag, qab, qaa]) rfl ⟨_, rfl, ?_, ?_, ?_⟩
    · exact qai (1,0) rfl (by simp only[simprocAttr,-rR,-rS,memB,h0,qac]) (qap _ _ _)
    · exact qai (1,1) rfl (by simp only[simprocAttr,-rR,-rS,memB,h1,qac]) rfl
    · exact qai (1,2) rfl (by simp only[simprocAttr,-rR,-rS,memB,ofv,qac]) rfl
theorem of_F (k:Nat) (c:Nat→BitVec 8):F C (k+10) 80 [.agg (aB 16 c)] []=some (Hf (lo (qdM (qcZ c))) (hi (qdM (qcZ c))),[],[]):=by
  rw[qaL f80]
  simp (disch:=first|omega|decide|simp only[nmsB,lB]) only[simprocAttr,-rR,-rS,leB,qaf,memB,arrB,numB,L80,qae,qad,qab,qaa,qac]
  generalize hL:qaP L80k0 _ _ _=r
  refine qaK hL (ofI c) 8 (by omega) (fun i st hi hI=>of_round _ _ c i hi st hI) ?_ ?_ ?_
  · refine qal [(2, 0), (3, 0), (5, 0)] rfl (by simp only [simprocAttr, -rR, -rS, qaj, L80k0, qaD, qdX, qcj, qag, qab, qaa]) rfl ⟨_, rfl, ?_, ?_, ?_⟩
    · exact qai (2,0) rfl (by simp only[simprocAttr,-rR,-rS,memB,qac]) (qap _ _ _)
    · exact qai (3,0) rfl (by simp only[simprocAttr,-rR,-rS,memB,qac]) rfl
    · exact qai (5,0) rfl (by simp only[simprocAttr,-rR,-rS,memB,ofv,qac]) rfl
  · rintro st ⟨H, rfl, h0, h1, h2⟩
    apply qaG
    simp (disch:=first|omega|decide|simp only[nmsB,lB]) only[simprocAttr,-rR,-rS,leB,qaf,memB,numB,L80b0,qae,qad,qab,qaa,qac]
    rfl
  · rintro st ⟨H, rfl, h0, h1, h2⟩ rfl
    rw[←of_app,lo_app,hi_app]
    simp (disch:=first|omega|decide|simp only[nmsB,lB]) only[simprocAttr,-rR,-rS,leB,qaf,memB,arrB,numB,L80b0,h0,h1,h2,qae,qad,qab,qaa,qac]
end Xf
namespace Xf
open Go Go.LE Aes Tb
def dP (a:BitVec 128) (i:Nat):Nat→Bool:=fun j=>decide (1≤j∧j≤i) && a.getLsbD (j - 1)
theorem dP_succ (a:BitVec 128) (i:Nat):dP a (i+1)=set1 (dP a i) (i+1) (a.getLsbD i):=by
  funext j
  simp only[set1,dP]
  by_cases h:j=i+1
  · subst h; simp
  · rw [if_neg h]
    have:(1≤j∧j≤i+1)↔(1≤j∧j≤i):=by omega
    simp only[this]
def dJ (a:BitVec 128) (i:Nat) (st:St):Prop := ∃ (H:Heap),
  st=⟨[.undef,.undef,.ptr (1,0) 0,.ptr (1,1) 0,.ptr (1,2) 0,N i,.undef,.undef,.undef,.undef,.undef,.undef,.undef,.undef,.undef,.undef,.undef,.undef,.undef,.undef,.undef,.undef,.undef,.undef,.undef,.undef,.undef,.undef,.undef,.undef,.undef,.undef,.undef,.undef,.undef,.undef,.undef,.undef],H,2,0⟩∧H (1,0)=some [B64 0#64,B64 0#64]∧H (1,1)=some (aO 128 fun j=>a.getLsbD j)∧H (1,2)=some (aO 128 (dP a i))
theorem d_round (K k0:Nat) (a:BitVec 128) (i:Nat) (hi:i < 127) (st:St) (hI:dJ a i st) :
    ∃ st1,ev (envC C k0) K L91b0 st=some (.normal,st1)∧dJ a (i+1) (qaT L91k0 st1):=by
  obtain ⟨H,rfl,hz,hp,ho⟩:=hI
  apply Exists.intro
  apply And.intro
  · simp (disch := first | omega | decide | simp only [nmsB, lB]) only [simprocAttr, -rR, -rS, leB, qaf, memB, arrB, numB, L91b0, hi, hp, ho, qae, qad, qab, qaa, qac]
    rfl
  · refine qal [(1, 0), (1, 1), (1, 2)] rfl (by simp only [simprocAttr, -rR, -rS, qaj, L91k0, hz, hp, ho, qdX, qcj, qag, qab, qaa]) rfl ⟨_, rfl, ?_, ?_, ?_⟩
    · exact qai (1,0) rfl (by simp only[simprocAttr,-rR,-rS,memB,hz,qac]) rfl
    · exact qai (1,1) rfl (by simp only[simprocAttr,-rR,-rS,memB,hp,qac]) (qdY _ _ _)
    · rw [dP_succ]
      exact qai (1,2) rfl (by simp only[simprocAttr,-rR,-rS,memB,qac]) (qdY _ _ _)
theorem dbl_bit (a:BitVec 128) (j:Nat) (hj:j < 128):(GF.dbl 135#128 a).getLsbD j=(decide (1≤j) && a.getLsbD (j - 1)).xor (a.getLsbD 127 && (135#128).getLsbD j):=by
  rw[GF.dbl,BitVec.getLsbD_xor,BitVec.getLsbD_shiftLeft]
  congr 1
  · by_cases h : j < 1
    · have : ¬ 1 ≤ j := by omega
      simp[h,this]
    · have : 1 ≤ j := by omega
      simp[h,this,hj]
  · cases h:a.getLsbD 127 <;> simp[h]
theorem r135:∀ j,j < 128→(135#128).getLsbD j=(decide (j=0) || decide (j=1) || decide (j=2) || decide (j=7)):=by decide +kernel
theorem rdbl_F (k:Nat) (a:BitVec 128):F C (k+140) 91 [Hf (lo a) (hi a)] []=some (Hf (lo (GF.dbl 135#128 a)) (hi (GF.dbl 135#128 a)),[],[]):=by
  rw[qaL f91]
  have hfa:=bits_F (k+73) a
  rw[Nat.add_assoc] at hfa
  simp only[Nat.reduceAdd] at hfa
  simp (disch:=first|omega|decide|simp only[nmsB,lB]) only[simprocAttr,-rR,-rS,leB,qaf,memB,arrB,numB,ordB,L91,hfa,qae,qad,qab,qaa,qac,qaq]
  generalize hL:qaP L91k0 _ _ _=r
  refine qaK hL (dJ a) 127 (by omega) (fun i st hi hI=>d_round _ _ a i hi st hI) ?_ ?_ ?_
  · refine qal [(3, 0), (6, 0), (8, 0)] rfl (by simp only [simprocAttr, -rR, -rS, qaj, L91k0, qdX, qcj, qag, qab, qaa]) rfl ⟨_, rfl, ?_, ?_, ?_⟩
    · exact qai (3,0) rfl (by simp only[simprocAttr,-rR,-rS,memB,qac]) rfl
    · exact qai (6,0) rfl (by simp only[simprocAttr,-rR,-rS,memB,qac]) (qdY _ _ _)
    · rw [show dP a 0 = fun _ => false by funext j; simp [dP]; omega]
      exact qai (8,0) rfl (by simp only[simprocAttr,-rR,-rS,memB,qac]) (qdY _ _ _)
  · rintro st ⟨H, rfl, hz, hp, ho⟩
    apply qaG
    simp (disch:=first|omega|decide|simp only[nmsB,lB]) only[simprocAttr,-rR,-rS,leB,qaf,memB,numB,L91b0,qae,qad,qab,qaa,qac]
    rfl
  · rintro st ⟨H, rfl, hz, hp, ho⟩ rfl
    cases h127:a.getLsbD 127
    · have e:qdM (dP a 127)=GF.dbl 135#128 a:=by
        apply BitVec.eq_of_getLsbD_eq
        intro j hj
        rw[qeI,dbl_bit a j hj,h127]
        have:(1≤j∧j≤127)↔(1≤j):=by omega
        simp[hj,dP,this]
      have hf:=qhn (k+73) (dP a 127)
      rw[Nat.add_assoc,e] at hf
      simp only[Nat.reduceAdd] at hf
      simp (disch:=first|omega|decide|simp only[nmsB,lB]) only[simprocAttr,-rR,-rS,leB,qaf,memB,arrB,numB,L91b0,hz,hp,ho,hf,h127,qae,qad,qab,qaa,qac]
    · generalize hq : set1 (set1 (set1 (set1 (dP a 127) 0 (!dP a 127 0)) 1 (!set1 (dP a 127) 0 (!dP a 127 0) 1)) 2 (!set1 (set1 (dP a 127) 0 (!dP a 127 0)) 1 (!set1 (dP a 127) 0 (!dP a 127 0) 1) 2)) 7 (!set1 (set1 (set1 (dP a 127) 0 (!dP a 127 0)) 1 (!set1 (dP a 127) 0 (!dP a 127 0) 1)) 2 (!set1 (set1 (dP a 127) 0 (!dP a 127 0)) 1 (!set1 (dP a 127) 0 (!dP a 127 0) 1) 2) 7) = q
      have e:qdM q=GF.dbl 135#128 a:=by
        subst hq
        apply BitVec.eq_of_getLsbD_eq
        intro j hj
        rw[qeI,dbl_bit a j hj,h127,r135 j hj]
        have:(1≤j∧j≤127)↔(1≤j):=by omega
        by_cases h0:j=0
        · subst h0; simp[set1,dP]
        · by_cases h1 : j = 1
          · subst h1; simp[set1,dP]
          · by_cases h2 : j = 2
            · subst h2; simp[set1,dP]
            · by_cases h7 : j = 7
              · subst h7; simp[set1,dP]
              · simp[set1,dP,h0,h1,h2,h7,hj,this]
      have hf:=qhn (k+73) q
      rw[Nat.add_assoc,e] at hf
      simp only[Nat.reduceAdd] at hf
      simp (disch:=first|omega|decide|simp only[nmsB,lB]) only[simprocAttr,-rR,-rS,leB,qaf,memB,arrB,numB,L91b0,hz,hp,ho,h127,hq,hf,qae,qad,qab,qaa,qac]
end Xf
namespace Aes
open Go Go.LE Xf Tb
set_option maxRecDepth 20000
def wt (E:R→R) (t:BitVec 128) (x:R):R:=fun j=>E (fun i=>x i ^^^ qa6 t i) j ^^^ qa6 t j
def xr (x y:R) (i:Nat):R:=fun j=>if j < i then x j ^^^ y j else x j
theorem xr_0 (x y:R):xr x y 0=x:=funext fun j=>if_neg (Nat.not_lt_zero j)
theorem xr_succ (x y:R) (i:Nat):set1 (xr x y i) i (x i ^^^ y i)=xr x y (i+1):=by
  funext j
  simp only[set1,xr]
  by_cases h:j=i
  · subst h; rw[if_pos rfl,if_pos (Nat.lt_succ_self _)]
  · rw [if_neg h]
    by_cases h':j < i
    · rw[if_pos h',if_pos (by omega)]
    · rw[if_neg h',if_neg (by omega)]
theorem xr_at (x y:R) (i:Nat):xr x y i i=x i:=if_neg (zU i)
theorem xr_all (x y:R):aB 16 (xr x y 16)=aB 16 (fun j=>x j ^^^ y j):=qbR _ fun j hj=>if_pos hj
theorem qeK (g:FuncId) (m:Nm) (o:Nat):nms D (.fn (.func g) [.ptr m o] [])=[m]:=rfl
theorem qga (π:Nm→Option Nm) (g:FuncId) (m:Nm) (o:Nat):ren D π (.fn (.func g) [.ptr m o] []) = .fn (.func g) [ren 7 π (.ptr m o)] []:=rfl
theorem callV_fn1 {E:Env} {H:Heap} {b:Nat} (g:FuncId) (x:LV) (args:List LV):callV E H b args (.fn (.func g) [x] [])=qaA E H b g (x::args):=by simp[callV]
def wJ1 (g n:Nat) (l:List (BitVec 8)) (x y:R) (i:Nat) (st:St):Prop := ∃ (H:Heap),st=⟨[.fn (.func g) [.ptr (0,0) 0] [],.undef,.undef,.undef,.undef,.undef,.undef,.ptr (1,0) 0,.ptr (1,1) 0,.undef,.undef,.undef,.undef,.undef,.undef,.undef,N i,.undef,.undef,.undef,.undef,.undef,.undef,.undef,.undef,.undef,.undef,.undef,.undef,.undef,.undef,.undef,.undef,.undef,.undef,.undef,.undef,.undef,.undef,.undef,.undef,.undef,.undef,.undef],H,2,2⟩ ∧
  H (0,0)=some (KO n)∧H (0,1)=some (bs l)∧H (1,0)=some (aB 16 y)∧H (1,1)=some (aB 16 (xr x y i))
def wJ0 (n:Nat) (l:List (BitVec 8)) (x y:R) (i:Nat) (st:St):Prop := ∃ (H:Heap),st=⟨[.undef,.undef,.undef,.undef,.undef,.undef,.undef,.ptr (1,0) 0,.ptr (1,1) 0,.undef,.undef,.undef,.undef,.undef,.undef,.undef,.undef,.undef,.undef,.undef,.undef,.undef,.undef,.undef,.undef,.undef,.undef,.undef,.undef,.undef,.undef,N i,.undef,.undef,.undef,.undef,.undef,.undef,.undef,.undef,.undef,.undef,.undef,.undef],H,2,2⟩ ∧
  H (0,0)=some (KO n)∧H (0,1)=some (bs l)∧H (1,0)=some (aB 16 y)∧H (1,1)=some (aB 16 (xr x y i))
theorem w1_round (k g n:Nat) (l:List (BitVec 8)) (x y:R) (i:Nat) (hi:i < 16) (st:St) (hJ:wJ1 g n l x y i st) :
    ∃ st1,ev (envC C k) k L58b1 st=some (.normal,st1)∧wJ1 g n l x y (i+1) (qaT L58k1 st1):=by
  obtain ⟨H,rfl,h0,h1,h2,h3⟩:=hJ
  simp (disch:=first|omega|decide|simp only[nmsB,lB]) only[simprocAttr,-rR,-rS,leB,memB,arrB,numB,qaf,ordB,qaz,qak,qaF,L58b1,h0,h1,h2,h3,hi,xr_at,xr_succ,qac,qad,qab,qaa,qaq,qah]
  refine ⟨_,rfl,?_⟩
  refine qal [(1,0),(1,1)] rfl (by simp only[simprocAttr,-rR,-rS,qaj,L58k1,qeK,qaD,qeh,qam,h0,h1,h2,h3,qag,qab,qaa]) (by simp only[simprocAttr,-rR,-rS,qaj,L58k1,zA,zB,qga,qag,qab,qaa] <;> rfl) ⟨_,rfl,?_,?_,?_,?_⟩
  · rw[qaI]; simp (disch:=first|omega|decide|simp only[nmsB,lB]) only[simprocAttr,-rR,-rS,leB,memB,qaf,h0,qeP,qae,qac,qad,qab,qaa]
  · rw[qaI]; simp (disch:=first|omega|decide|simp only[nmsB,lB]) only[simprocAttr,-rR,-rS,leB,memB,qaf,h1,qae,qac,qad,qab,qaa]
  · exact qai (1,0) rfl (by simp (disch:=first|omega|decide|simp only[nmsB,lB]) only[simprocAttr,-rR,-rS,leB,memB,qaf,h2,qae,qac,qad,qab,qaa]) (qap _ _ _)
  · exact qai (1,1) rfl (by simp (disch:=first|omega|decide|simp only[nmsB,lB]) only[simprocAttr,-rR,-rS,leB,memB,qaf,qae,qac,qad,qab,qaa]) (qap _ _ _)
theorem w0_round (k n:Nat) (l:List (BitVec 8)) (x y:R) (i:Nat) (hi:i < 16) (st:St) (hJ:wJ0 n l x y i st) :
    ∃ st1,ev (envC C k) k L58b0 st=some (.normal,st1)∧wJ0 n l x y (i+1) (qaT L58k0 st1):=by
  obtain ⟨H,rfl,h0,h1,h2,h3⟩:=hJ
  simp (disch:=first|omega|decide|simp only[nmsB,lB]) only[simprocAttr,-rR,-rS,leB,memB,arrB,numB,qaf,ordB,qaz,qak,qaF,L58b0,h0,h1,h2,h3,hi,xr_at,xr_succ,qac,qad,qab,qaa,qaq,qah]
  refine ⟨_,rfl,?_⟩
  refine qal [(1,0),(1,1)] rfl (by simp only[simprocAttr,-rR,-rS,qaj,L58k0,qaD,qeh,qam,h0,h1,h2,h3,qag,qab,qaa]) rfl ⟨_,rfl,?_,?_,?_,?_⟩
  · rw[qaI]; simp (disch:=first|omega|decide|simp only[nmsB,lB]) only[simprocAttr,-rR,-rS,leB,memB,qaf,h0,qeP,qae,qac,qad,qab,qaa]
  · rw[qaI]; simp (disch:=first|omega|decide|simp only[nmsB,lB]) only[simprocAttr,-rR,-rS,leB,memB,qaf,h1,qae,qac,qad,qab,qaa]
  · exact qai (1,0) rfl (by simp (disch:=first|omega|decide|simp only[nmsB,lB]) only[simprocAttr,-rR,-rS,leB,memB,qaf,h2,qae,qac,qad,qab,qaa]) (qap _ _ _)
  · exact qai (1,1) rfl (by simp (disch:=first|omega|decide|simp only[nmsB,lB]) only[simprocAttr,-rR,-rS,leB,memB,qaf,qae,qac,qad,qab,qaa]) (qap _ _ _)
def Way (g:FuncId) (n:Nat) (l:List (BitVec 8)) (E:R→R):Prop :=
  ∀ (k b:Nat) (H:Heap) (c m:Nm),KG H c m (n+2) none l→∀ s,qaA (envC C (k+60)) H b g [.ptr c 0,.agg (aB 16 s)]=some ⟨.agg (aB 16 (E s)),[],[(c,some (CF (.sl m 0 (n+2) none 16) TB)),(m,some (bs l))]⟩
theorem way_enc (n:Nat) (hn:n≤20) (l:List (BitVec 8)) (hl:l.length=16*(n+2)):Way 36 n l (enc (kf l) n):=fun k b H c m h s=>c_enc k n b hn H c m l h hl s
theorem way_dec (n:Nat) (hn:n≤20) (l:List (BitVec 8)) (hl:l.length=16*(n+2)):Way 49 n l (dec (kf l) n):=fun k b H c m h s=>c_dec k n b hn H c m l h hl s
theorem bsb16 (b:List (BitVec 8)) (h:b.length=16) (H:Heap):qb9 H 16 (.ipt (bs b))=some (aB 16 (fl b)):=by
  rw[qb9,if_pos (by rw[qaV]; omega),qcg,List.take_of_length_le (by omega),qeU _ 16 h]; rfl
theorem with_F (k g n:Nat) (l:List (BitVec 8)) (E:R→R) (hE:Way g n l E) (t:BitVec 128) (b:List (BitVec 8)) (hb:b.length=16) :
    F C (k+80) 58 [.fn (.func g) [.ptr (0,0) 0] [],Hf (lo t) (hi t),.isl (bs b) 16] [KO n,bs l]=some (.sl (1,0) 0 16 (some 16) 1,[some (KO n),some (bs l)],[aB 16 (wt E t (fl b))]):=by
  rw[qaL f58]
  have hby:F C (k+79) 81 [Hf (lo t) (hi t)] []=some (.agg (aB 16 (qa6 t)),[],[]):=Xf.bytes_F (k+69) t
  simp (disch:=first|omega|decide|simp only[nmsB,lB]) only[simprocAttr,-rR,-rS,leB,memB,arrB,numB,qaf,ordB,qaz,qak,qaF,L58,hby,l81,bsb16 b hb,qae,qac,qad,qab,qaa,qaq,qah]
  generalize hL:qaP L58k1 _ _ _=r
  refine qaK hL (wJ1 g n l (fl b) (qa6 t)) 16 (by omega) (fun i st hi hJ=>w1_round _ g n l _ _ i hi st hJ) ?_ ?_ ?_
  · refine qal [(6, 0), (11, 0)] rfl (by simp only [simprocAttr, -rR, -rS, qaj, L58k1, qeK, qaD, qeh, qam, qag, qab, qaa]) (by simp only [simprocAttr, -rR, -rS, qaj, L58k1, zA, zB, qga, qag, qab, qaa] <;> rfl) ⟨_, rfl, ?_, ?_, ?_, ?_⟩
    · rw[qaI]; simp (disch:=first|omega|decide|simp only[nmsB,lB]) only[simprocAttr,-rR,-rS,leB,memB,qaf,qeP,qae,qac,qad,qab,qaa]
    · rw[qaI]; simp (disch:=first|omega|decide|simp only[nmsB,lB]) only[simprocAttr,-rR,-rS,leB,memB,qaf,qae,qac,qad,qab,qaa]
    · exact qai (6,0) rfl (by simp (disch:=first|omega|decide|simp only[nmsB,lB]) only[simprocAttr,-rR,-rS,leB,memB,qaf,qae,qac,qad,qab,qaa]) (qap _ _ _)
    · rw[xr_0]; exact qai (11,0) rfl (by simp (disch:=first|omega|decide|simp only[nmsB,lB]) only[simprocAttr,-rR,-rS,leB,memB,qaf,qae,qac,qad,qab,qaa]) (qap _ _ _)
  · rintro st ⟨H, rfl, h0, h1, h2, h3⟩
    apply qaG
    simp (disch:=first|omega|decide|simp only[nmsB,lB]) only[simprocAttr,-rR,-rS,leB,memB,arrB,numB,qaf,L58b1,qae,qac,qad,qab,qaa]
    rfl
  · rintro st ⟨H, rfl, h0, h1, h2, h3⟩ rfl
    rw[xr_all] at h3
    simp (disch:=first|omega|decide|simp only[nmsB,lB]) only[simprocAttr,-rR,-rS,leB,memB,arrB,numB,qaf,ordB,qaz,qak,qaF,L58b1,h0,h1,h2,h3,callV_fn1,qac,qad,qab,qaa,qaq,qah]
    rw[hE (k+19) _ H (0,0) (0,1) ⟨h0,h1,by decide⟩]
    simp (disch:=first|omega|decide|simp only[nmsB,lB]) only[simprocAttr,-rR,-rS,leB,memB,arrB,numB,qaf,ordB,qaz,qak,qaF,h0,h1,h2,h3,qac,qad,qab,qaa,qaq,qah]
    clear hL
    generalize hL:qaP L58k0 _ _ _=r
    refine qaK hL (wJ0 n l (E fun j=>fl b j ^^^ qa6 t j) (qa6 t)) 16 (by omega) (fun i st hi hJ=>w0_round _ n l _ _ i hi st hJ) ?_ ?_ ?_
    · refine qal [(1, 0), (1, 1)] rfl (by simp only [simprocAttr, -rR, -rS, qaj, L58k0, qaD, qeh, qa5, qaN, qam, h0, h1, h2, h3, qag, qab, qaa]) rfl ⟨_, rfl, ?_, ?_, ?_, ?_⟩
      · rw[qaI]; simp (disch:=first|omega|decide|simp only[nmsB,lB]) only[simprocAttr,-rR,-rS,leB,memB,qaf,qa4,qae,qac,qad,qab,qaa]; rfl
      · rw[qaI]; simp (disch:=first|omega|decide|simp only[nmsB,lB]) only[simprocAttr,-rR,-rS,leB,memB,qaf,qae,qac,qad,qab,qaa]
      · exact qai (1,0) rfl (by simp (disch:=first|omega|decide|simp only[nmsB,lB]) only[simprocAttr,-rR,-rS,leB,memB,qaf,h2,qae,qac,qad,qab,qaa]) (qap _ _ _)
      · rw[xr_0]; exact qai (1,1) rfl (by simp (disch:=first|omega|decide|simp only[nmsB,lB]) only[simprocAttr,-rR,-rS,leB,memB,qaf,qae,qac,qad,qab,qaa]) (qap _ _ _)
    · rintro st ⟨H, rfl, h0, h1, h2, h3⟩
      apply qaG
      simp (disch:=first|omega|decide|simp only[nmsB,lB]) only[simprocAttr,-rR,-rS,leB,memB,arrB,numB,qaf,L58b0,qae,qac,qad,qab,qaa]
      rfl
    · rintro st ⟨H, rfl, h0, h1, h2, h3⟩ rfl
      rw[xr_all] at h3
      simp (disch:=first|omega|decide|simp only[nmsB,lB]) only[simprocAttr,-rR,-rS,leB,memB,arrB,numB,qaf,ordB,qaz,qak,qaF,L58b0,h0,h1,h2,h3,qac,qad,qab,qaa,qaq,qah]
      rw[qa0 2 _ _ [(1,1)] (by simp only[simprocAttr,-rR,-rS,qaj,qeh,qam,qaD,qaN,h0,h1,h3,qag,qab,qaa])]
      simp (disch:=first|omega|decide|simp only[nmsB,lB]) only[simprocAttr,-rR,-rS,leB,memB,qaf,qeP,qar,qap,h0,h1,h3,qaY,qae,qac,qad,qab,qaa]
      rfl
end Aes
namespace Aes
open Go Go.LE Xf Tb
set_option maxRecDepth 20000
theorem xnew_F (k n:Nat) (hn:n=4∨n=8) (key:List (BitVec 8)) (hk:key.length=8*n):F C (k+401) 15 [.isl (bs key) key.length] [] =
    some (.tup [.ptr (1,0) 0,N 0],[],[[.ptr (1,1) 0,.ptr (1,3) 0],CF (.sl (1,2) 0 (n+7) none 16) TB,bs (W n (key.take (4*n))),CF (.sl (1,4) 0 (n+7) none 16) TB,bs (W n (key.drop (4*n)))]):=by
  rw[qaL f15]
  have hd:8*n / 2=4*n:=by omega
  have hle:4*n≤8*n:=by omega
  have hs:8*n - 4*n=4*n:=by omega
  have h16:(8*n=32)=(n=4):=by apply propext; omega
  have h32:(8*n=64)=(n=8):=by apply propext; omega
  have hn8:n≠4→n=8:=fun h=>hn.resolve_left h
  have ht:(key.take (4*n)).length=4*n:=by rw[zT]; omega
  have hdr:(key.drop (4*n)).length=4*n:=by rw[zR]; omega
  have hs1:∀ H,snap H D (.isl (bs (key.take (4*n))) (4*n))=some (.isl (bs (key.take (4*n))) (key.take (4*n)).length,[]):=fun H=>by rw[ht]; rfl
  have hs2:∀ H,snap H D (.isl (bs (key.drop (4*n))) (4*n))=some (.isl (bs (key.drop (4*n))) (key.drop (4*n)).length,[]):=fun H=>by rw[hdr]; rfl
  have hc1:∀ b H,qaA (envC C (k+400)) H b 32 [.isl (bs (key.take (4*n))) (4*n)]=_:=fun b H=>c_new k n b hn H _ _ ht [] (hs1 H)
  have hc2:∀ b H,qaA (envC C (k+400)) H b 32 [.isl (bs (key.drop (4*n))) (4*n)]=_:=fun b H=>c_new k n b hn H _ _ hdr [] (hs2 H)
  have htd:(key.drop (4*n)).take (4*n)=key.drop (4*n):=List.take_of_length_le (by omega)
  rcases hn with rfl | rfl
  all_goals
    simp (disch:=first|omega|decide|simp only[nmsB,lB]) only[simprocAttr,-rR,-rS,leB,memB,arrB,numB,qaf,opsB,ordB,qaz,qak,qaF,L15,hk,qcg,qdt,hc1,hc2,htd,qaN,qac,qad,qab,qaa,qaq,qah]
    rw[qa0 0 _ _ [(37,0),(19,0),(19,1),(28,0),(28,1)] (by simp only[simprocAttr,-rR,-rS,qaj,qa5,qbZ,qam,qc9,qfy,qdy,qaN,qag,qab,qaa])]
    simp (disch:=first|omega|decide|simp only[nmsB,lB]) only[simprocAttr,-rR,-rS,leB,memB,qaf,qa4,qbI,qar,qbS,qae,qac,qad,qab,qaa]
    rfl
theorem xrnew_F (k n:Nat) (hn:n=4∨n=8) (key:List (BitVec 8)) (hk:key.length=8*n):F C (k+401) 19 [.isl (bs key) key.length] [] =
    some (.tup [.ptr (1,0) 0,N 0],[],[[.ptr (1,1) 0,.ptr (1,3) 0],RF (.sl (1,2) 0 (n+7) none 16) TB,bs (W n (key.take (4*n))),RF (.sl (1,4) 0 (n+7) none 16) TB,bs (W n (key.drop (4*n)))]):=by
  rw[qaL f19]
  have hd:8*n / 2=4*n:=by omega
  have hle:4*n≤8*n:=by omega
  have hs:8*n - 4*n=4*n:=by omega
  have h16:(8*n=32)=(n=4):=by apply propext; omega
  have h32:(8*n=64)=(n=8):=by apply propext; omega
  have hn8:n≠4→n=8:=fun h=>hn.resolve_left h
  have ht:(key.take (4*n)).length=4*n:=by rw[zT]; omega
  have hdr:(key.drop (4*n)).length=4*n:=by rw[zR]; omega
  have hs1:∀ H,snap H D (.isl (bs (key.take (4*n))) (4*n))=some (.isl (bs (key.take (4*n))) (key.take (4*n)).length,[]):=fun H=>by rw[ht]; rfl
  have hs2:∀ H,snap H D (.isl (bs (key.drop (4*n))) (4*n))=some (.isl (bs (key.drop (4*n))) (key.drop (4*n)).length,[]):=fun H=>by rw[hdr]; rfl
  have hc1:∀ b H,qaA (envC C (k+400)) H b 39 [.isl (bs (key.take (4*n))) (4*n)]=_:=fun b H=>c_rnew k n b hn H _ _ ht [] (hs1 H)
  have hc2:∀ b H,qaA (envC C (k+400)) H b 39 [.isl (bs (key.drop (4*n))) (4*n)]=_:=fun b H=>c_rnew k n b hn H _ _ hdr [] (hs2 H)
  have htd:(key.drop (4*n)).take (4*n)=key.drop (4*n):=List.take_of_length_le (by omega)
  rcases hn with rfl | rfl
  all_goals
    simp (disch:=first|omega|decide|simp only[nmsB,lB]) only[simprocAttr,-rR,-rS,leB,memB,arrB,numB,qaf,opsB,ordB,qaz,qak,qaF,L19,hk,qcg,qdt,hc1,hc2,htd,qaN,qac,qad,qab,qaa,qaq,qah]
    rw[qa0 0 _ _ [(37,0),(17,0),(17,1),(28,0),(28,1)] (by simp only[simprocAttr,-rR,-rS,qaj,qa5,qbZ,qam,qc9,qfy,qdy,qaN,qag,qab,qaa])]
    simp (disch:=first|omega|decide|simp only[nmsB,lB]) only[simprocAttr,-rR,-rS,leB,memB,qaf,qa4,qbI,qar,qbS,qae,qac,qad,qab,qaa]
    rfl
end Aes
namespace Aes
open Go Go.LE Xf Tb
set_option maxRecDepth 20000
theorem xclone_F (k:Nat) (d:List (BitVec 8)) (h0:d.length≠0) (hb:d.length≤211106232532992):F C (k+5) 50 [.isl (bs d) d.length] []=some (.sl (1,0) 0 d.length none 1,[],[bs d]):=by
  rw[qaL f50]
  have hfr:∀ H,qbu H 1 d.length (.isl (bs d) d.length)=some (bs d):=fun H=>qb2 d d.length rfl
  have hap:∀ b H m,appX b 1 1 d.length H [] (bs d) (.sl m 0 0 (some 0) 1)=some ⟨.sl (b,0) 0 d.length none 1,[bs d],[]⟩:=fun b H m=>appX_e b d.length H m (bs d) h0 (by omega)
  have hnil:binV .eql .slice (.isl (bs d) d.length) Nil=some (Bo false):=by
    simp only[binV,eqV,nilCS,nilS,if_pos (Nat.pos_of_ne_zero h0)]
    rfl
  simp (disch:=first|omega|decide|simp only[nmsB,lB]) only[simprocAttr,-rR,-rS,leB,memB,arrB,numB,qaf,opsB,ordB,qaz,qak,qaF,L50,h0,hnil,hfr,hap,qac,qad,qab,qaa,qaq,qah]
  rw[qa0 0 _ _ [(7,0)] (by simp only[simprocAttr,-rR,-rS,qaj,qam,qag,qab,qaa])]
  simp (disch:=first|omega|decide|simp only[nmsB,lB]) only[simprocAttr,-rR,-rS,leB,memB,qaf,qar,qae,qac,qad,qab,qaa]
def U128 (u:BitVec 64):BitVec 128:=u.setWidth 128
theorem lo_U (u:BitVec 64):lo (U128 u)=u:=by
  apply BitVec.eq_of_getLsbD_eq; intro i hi
  rw[qg1,U128,BitVec.getLsbD_setWidth]; simp[hi]; omega
theorem hi_U (u:BitVec 64):Xf.hi (U128 u)=0#64:=by
  apply BitVec.eq_of_getLsbD_eq; intro i hi'
  rw[qg2,U128,BitVec.getLsbD_setWidth]; simp
def PO:qan:=[.ptr (0,1) 0,.ptr (0,3) 0]
def tw0 (n:Nat) (lb:List (BitVec 8)) (u:BitVec 64):BitVec 128:=qdM (qcZ (enc (kf lb) n (qa6 (U128 u))))
theorem PO_k0:qbc 0 1 (some PO)=some [.ptr (0,1) 0]:=rfl
theorem PO_k1:qbc 1 1 (some PO)=some [.ptr (0,3) 0]:=rfl
theorem qbn:List.range 5=[0,1,2,3,4]:=rfl
theorem qcx:PO.flatMap (nms D)=[(0,1),(0,3)]:=rfl
theorem qeQ (names:List Nm):PO.map (ren D (qbq names))=PO:=by simp only[PO,zA,zB,qbr,qc6]; rfl
def KA (i n:Nat):qan:=CF (.sl (0,i) 0 (n+2) none 16) TB
theorem qg3 (i n:Nat):(KA i n).flatMap (nms D)=[(0,i)]:=by rw[KA,qa5]; rfl
theorem KA_ren (i n:Nat) (names:List Nm):(KA i n).map (ren D (qbq names))=KA i n:=by rw[KA,qa4,qaY,qc6]; rfl
theorem xfirst_F (k n:Nat) (hn:n≤20) (la lb:List (BitVec 8)) (hb:lb.length=16*(n+2)) (u:BitVec 64) :
    F C (k+80) 57 [.ptr (0,0) 0,B64 u] [PO,KA 2 n,bs la,KA 4 n,bs lb]=some (Hf (lo (tw0 n lb u)) (Xf.hi (tw0 n lb u)),[some PO,some (KA 2 n),some (bs la),some (KA 4 n),some (bs lb)],[]):=by
  rw[qaL f57]
  have hby:F C (k+79) 81 [Hf (lo (U128 u)) (Xf.hi (U128 u))] []=some (.agg (aB 16 (qa6 (U128 u))),[],[]):=Xf.bytes_F (k+69) (U128 u)
  rw[lo_U,hi_U] at hby
  have hof:=Xf.of_F (k+69) (enc (kf lb) n (qa6 (U128 u)))
  rw[Nat.add_assoc] at hof
  simp only[Nat.reduceAdd] at hof
  simp (disch:=first|omega|decide|simp only[nmsB,lB]) only[simprocAttr,-rR,-rS,leB,memB,arrB,numB,qaf,opsB,ordB,qaz,qak,qaF,L57,PO_k0,PO_k1,hby,hof,l81,l80,qae,qac,qad,qab,qaa,qaq,qah]
  generalize hG:upd (qaZ _) (2,0) _=G
  have g0:G (0,0)=some PO:=by rw[←hG]; rfl
  have g1:G (0,1)=some (KA 2 n):=by rw[←hG]; rfl
  have g2:G (0,2)=some (bs la):=by rw[←hG]; rfl
  have g3:G (0,3)=some (KA 4 n):=by rw[←hG]; rfl
  have g4:G (0,4)=some (bs lb):=by rw[←hG]; rfl
  have g5:G (2,0)=some [B64 0#64,B64 0#64]:=by rw[←hG]; rfl
  clear hG
  have K:KG G (0,3) (0,4) (n+2) none lb:=⟨g3,g4,by decide⟩
  have hr:=reach_KG K
  have he:∀ b s,_:=fun b s=>c_enc (k+19) n b hn _ (0,3) (0,4) lb K.only hb s
  have ht:∀ v,_:=fun v=>tr_KG _ v (0,3) (0,4) (n+2) none lb K.only
  simp (disch:=first|omega|decide|simp only[nmsB,lB]) only[simprocAttr,-rR,-rS,leB,memB,arrB,numB,qaf,opsB,ordB,qaz,qak,qaF,hr,he,ht,hof,g5,qef,qfc,l80,qae,qac,qad,qab,qaa,qaq,qah]
  rw[qa0 5 _ _ [] (by simp only[simprocAttr,-rR,-rS,qaj,qef,qbn,qcx,qg3,qam,g0,g1,g2,g3,g4,qag,qab,qaa])]
  simp (disch:=first|omega|decide|simp only[nmsB,lB]) only[simprocAttr,-rR,-rS,leB,memB,qaf,qbn,qeQ,KA_ren,qar,qfc,g0,g1,g2,g3,g4,tw0,qae,qac,qad,qab,qaa]
end Aes
namespace Aes
open Go Go.LE Xf Tb
def blk (d:List (BitVec 8)) (i:Nat):List (BitVec 8):=(d.drop (16*i)).take 16
def wtl (E:R→R) (t:BitVec 128) (b:List (BitVec 8)):List (BitVec 8):=(List.range 16).map (wt E t (fl b))
def tws (t0:BitVec 128):Nat→BitVec 128
  | 0=>t0
  | i+1=>GF.dbl 135#128 (tws t0 i)
def done (E:R→R) (t0:BitVec 128) (d:List (BitVec 8)):Nat→List (BitVec 8)
  | 0=>[]
  | i+1=>done E t0 d i++wtl E (tws t0 i) (blk d i)
theorem qcv (E:R→R) (t:BitVec 128) (b:List (BitVec 8)):(wtl E t b).length=16:=by rw[wtl,zX,List.length_range]
theorem qco (E:R→R) (t0:BitVec 128) (d:List (BitVec 8)):∀ i,(done E t0 d i).length=16*i:=by
  intro i
  induction i with
  | zero=>rfl
  | succ i ih=>rw[done,zJ,ih,qcv]; omega
theorem qfj (d:List (BitVec 8)) (i:Nat) (h:16*(i+1)≤d.length):(blk d i).length=16:=by rw[blk,zT,zR]; omega
def tw1 (t0:BitVec 128) (m:Nat) (turned:Bool):BitVec 128:=if turned then tws t0 (m+1) else tws t0 m
def tw2 (t0:BitVec 128) (m:Nat) (turned:Bool):BitVec 128:=if turned then tws t0 m else tws t0 (m+1)
def qfk (E:R→R) (t0:BitVec 128) (d:List (BitVec 8)) (turned:Bool) (m:Nat):List (BitVec 8):=wtl E (tw1 t0 m turned) (blk d m)
def lastB (E:R→R) (t0:BitVec 128) (d:List (BitVec 8)) (turned:Bool) (m:Nat):List (BitVec 8):=d.drop (16*m+16)++(qfk E t0 d turned m).drop (d.length % 16)
def qbF (E:R→R) (t0:BitVec 128) (d:List (BitVec 8)) (turned:Bool):List (BitVec 8) :=
  if d.length % 16=0 then done E t0 d (d.length / 16)
  else done E t0 d (d.length / 16 - 1)++wtl E (tw2 t0 (d.length / 16 - 1) turned) (lastB E t0 d turned (d.length / 16 - 1))++(qfk E t0 d turned (d.length / 16 - 1)).take (d.length % 16)
theorem qgs (E:R→R) (t0:BitVec 128) (d:List (BitVec 8)) (turned:Bool) (h:16≤d.length):(qbF E t0 d turned).length=d.length:=by
  unfold qbF
  by_cases h0:d.length % 16=0
  · rw[if_pos h0,qco]; omega
  · rw[if_neg h0,zJ,zJ,qco,qcv,zT,qfk,qcv]; omega
theorem lastB_length (E:R→R) (t0:BitVec 128) (d:List (BitVec 8)) (turned:Bool) (h:16≤d.length) (h0:d.length % 16≠0):(lastB E t0 d turned (d.length / 16 - 1)).length=16:=by
  rw[lastB,zJ,zR,zR,qfk,qcv]; omega
def outI (E:R→R) (t0:BitVec 128) (d:List (BitVec 8)) (i:Nat):List (BitVec 8):=done E t0 d i++d.drop (16*i)
theorem outI_length (E:R→R) (t0:BitVec 128) (d:List (BitVec 8)) (i:Nat) (h:16*i≤d.length):(outI E t0 d i).length=d.length:=by
  rw[outI,zJ,qco,zR]; omega
theorem outI_0 (E:R→R) (t0:BitVec 128) (d:List (BitVec 8)):outI E t0 d 0=d:=by rw[outI,done,zG,Nat.mul_zero,zE]
theorem outI_drop (E:R→R) (t0:BitVec 128) (d:List (BitVec 8)) (i:Nat):(outI E t0 d i).drop (16*i)=d.drop (16*i):=by
  rw[outI,List.drop_append,qco,Nat.sub_self,zE,List.drop_of_length_le (by rw[qco]; exact Nat.le_refl _),zG]
theorem outI_blk (E:R→R) (t0:BitVec 128) (d:List (BitVec 8)) (i:Nat):((outI E t0 d i).drop (16*i)).take 16=blk d i:=by rw[outI_drop,blk]
theorem outI_succ (E:R→R) (t0:BitVec 128) (d:List (BitVec 8)) (i:Nat) (h:16*(i+1)≤d.length) :
    (outI E t0 d i).take (16*i)++wtl E (tws t0 i) (blk d i)++(outI E t0 d i).drop (16*i+16)=outI E t0 d (i+1):=by
  have e1:(outI E t0 d i).take (16*i)=done E t0 d i:=by
    rw[outI,List.take_append,qco,Nat.sub_self,zZ,zD,List.take_of_length_le (by rw[qco]; exact Nat.le_refl _)]
  have e2:(outI E t0 d i).drop (16*i+16)=d.drop (16*(i+1)):=by
    rw[←List.drop_drop,outI_drop,List.drop_drop]; congr 1
  rw[e1,e2,outI,done]
theorem outI_whole (E:R→R) (t0:BitVec 128) (d:List (BitVec 8)) (h:d.length % 16=0):outI E t0 d (d.length / 16)=qbF E t0 d false:=by
  rw[outI,qbF,if_pos h,List.drop_of_length_le (by omega),zD]
theorem unitP_whole (E:R→R) (t0:BitVec 128) (d:List (BitVec 8)) (a b:Bool) (h:d.length % 16=0):qbF E t0 d a=qbF E t0 d b:=by
  rw[qbF,qbF,if_pos h,if_pos h]
end Aes
namespace Aes
open Go Go.LE Xf Tb
structure Inv (E D:R→R):Prop where
  ed:∀ s,E16 (D (E s)) s
  de:∀ s,E16 (E (D s)) s
  ec:∀ s t,E16 s t→E16 (E s) (E t)
  dc:∀ s t,E16 s t→E16 (D s) (D t)
theorem Inv.symm {E D:R→R} (h:Inv E D):Inv D E:=⟨h.de,h.ed,h.dc,h.ec⟩
theorem inv_aes (K:Nat→R) (n:Nat):Inv (enc K n) (dec K n):=⟨dec_enc K n,enc_dec K n,fun _ _ h=>enc_c K n h,fun _ _ h=>dec_c K n h⟩
theorem qei (w:R):E16 (fl ((List.range 16).map w)) w:=fun j hj=>by
  simp[fl,List.getD_eq_getElem?_getD,hj]
theorem list16 {a b:List (BitVec 8)} (ha:a.length=16) (hb:b.length=16) (h:E16 (fl a) (fl b)):a=b:=by
  apply List.ext_getElem (by rw[ha,hb])
  intro j h1 h2
  have:=h j (by omega)
  simpa [fl,List.getD_eq_getElem?_getD,h1,h2] using this
theorem wt_inv {E D:R→R} (h:Inv E D) (t:BitVec 128) (x:R):E16 (wt D t (wt E t x)) x:=by
  have e:(fun i=>wt E t x i ^^^ qa6 t i)=E (fun i=>x i ^^^ qa6 t i):=by
    funext i
    rw[wt,BitVec.xor_assoc,BitVec.xor_self,BitVec.xor_zero]
  intro j hj
  show D (fun i=>wt E t x i ^^^ qa6 t i) j ^^^ qa6 t j=x j
  rw[e,h.ed _ j hj,BitVec.xor_assoc,BitVec.xor_self,BitVec.xor_zero]
theorem wt_c {E D:R→R} (h:Inv E D) (t:BitVec 128) {x y:R} (hx:E16 x y):E16 (wt E t x) (wt E t y):=by
  intro j hj
  have:E16 (fun i=>x i ^^^ qa6 t i) (fun i=>y i ^^^ qa6 t i):=fun i hi=>by
    show x i ^^^ _=y i ^^^ _
    rw[hx i hi]
  show E _ j ^^^ _=E _ j ^^^ _
  rw[h.ec _ _ this j hj]
theorem wtl_inv {E D:R→R} (h:Inv E D) (t:BitVec 128) (b:List (BitVec 8)) (hb:b.length=16):wtl D t (wtl E t b)=b:=by
  apply list16 (qcv _ _ _) hb
  refine (qei _).trans ?_
  have:E16 (fl (wtl E t b)) (wt E t (fl b)):=qei _
  exact (wt_c h.symm t this).trans (wt_inv h t _)
theorem blk_done (E:R→R) (t0:BitVec 128) (d X:List (BitVec 8)) (w:Nat) (hX:done E t0 d w <+: X) (i:Nat) (hi:i < w):blk X i=wtl E (tws t0 i) (blk d i):=by
  have hpre:∀ w,i < w→∃ r,done E t0 d w=done E t0 d i++wtl E (tws t0 i) (blk d i)++r:=by
    intro w
    induction w with
    | zero=>intro h; omega
    | succ w ih =>
      intro h
      by_cases h':i < w
      · obtain ⟨r, hr⟩ := ih h'
        exact ⟨r++wtl E (tws t0 w) (blk d w),by rw[done,hr]; simp only[List.append_assoc]⟩
      · obtain rfl : w = i := by omega
        exact ⟨[],by rw[done,zD]⟩
  obtain ⟨r,hr⟩:=hpre w hi
  obtain ⟨s,rfl⟩:=hX
  rw[blk,hr]
  simp only[List.append_assoc]
  rw[List.drop_append,qco,Nat.sub_self,zE,List.drop_of_length_le (by rw[qco]; exact Nat.le_refl _),zG,List.take_append_of_le_length (by rw[qcv]; exact Nat.le_refl _),List.take_of_length_le (by rw[qcv]; exact Nat.le_refl _)]
theorem take_blk (d:List (BitVec 8)) (i:Nat):d.take (16*i)++blk d i=d.take (16*(i+1)):=by
  rw[blk,show 16*(i+1)=16*i+16 by omega,List.take_add]
theorem done_inv {E D:R→R} (h:Inv E D) (t0:BitVec 128) (d X:List (BitVec 8)) (w:Nat) (hw:16*w≤d.length) (hX:done E t0 d w <+: X):∀ i,i≤w→done D t0 X i=d.take (16*i):=by
  intro i
  induction i with
  | zero=>intro _; rfl
  | succ i ih =>
    intro hi
    rw[done,ih (by omega),blk_done E t0 d X w hX i (by omega),wtl_inv h _ _ (qfj d i (by omega)),take_blk]
theorem tw_not (t0:BitVec 128) (m:Nat) (tu:Bool):tw1 t0 m (!tu)=tw2 t0 m tu∧tw2 t0 m (!tu)=tw1 t0 m tu:=by
  cases tu <;> exact ⟨rfl,rfl⟩
theorem unit_inv {E D:R→R} (h:Inv E D) (t0:BitVec 128) (d:List (BitVec 8)) (tu:Bool) (h16:16≤d.length):qbF D t0 (qbF E t0 d tu) (!tu)=d:=by
  have hl:=qgs E t0 d tu h16
  by_cases h0:d.length % 16=0
  · have e : qbF E t0 d tu = done E t0 d (d.length / 16) := by rw [qbF, if_pos h0]
    rw[qbF,hl,if_pos h0,e,done_inv h t0 d _ (d.length / 16) (by omega) (List.prefix_refl _) _ (Nat.le_refl _),List.take_of_length_le (by omega)]
  · obtain ⟨m, hm⟩ : ∃ m, m = d.length / 16 - 1 := ⟨_, rfl⟩
    have hw:16*m+16+d.length % 16=d.length:=by omega
    obtain ⟨X,hX⟩:∃ X,X=qbF E t0 d tu:=⟨_,rfl⟩
    obtain ⟨s,hs⟩:∃ s,s=qfk E t0 d tu m:=⟨_,rfl⟩
    obtain ⟨la,hla⟩:∃ la,la=lastB E t0 d tu m:=⟨_,rfl⟩
    have hsl:s.length=16:=by rw[hs,qfk,qcv]
    have hlal:la.length=16:=by rw[hla,hm]; exact lastB_length E t0 d tu h16 h0
    have eX:X=done E t0 d m++wtl E (tw2 t0 m tu) la++s.take (d.length % 16):=by
      rw[hX,qbF,if_neg h0,←hm,hla,hs]
    have hXl:X.length=d.length:=by rw[hX,hl]
    have hdn:done D t0 X m=d.take (16*m):=done_inv h t0 d X m (by omega) ⟨wtl E (tw2 t0 m tu) la++s.take (d.length % 16),by rw[eX,List.append_assoc]⟩ m (Nat.le_refl _)
    have hbX:blk X m=wtl E (tw2 t0 m tu) la:=by
      rw[blk,eX,List.append_assoc,List.drop_append,qco,Nat.sub_self,zE,List.drop_of_length_le (by rw[qco]; exact Nat.le_refl _),zG,List.take_append_of_le_length (by rw[qcv]; exact Nat.le_refl _),List.take_of_length_le (by rw[qcv]; exact Nat.le_refl _)]
    have hst:qfk D t0 X (!tu) m=la:=by
      rw[qfk,(tw_not t0 m tu).1,hbX,wtl_inv h _ _ hlal]
    have hdX:X.drop (16*m+16)=s.take (d.length % 16):=by
      rw[eX,List.drop_append,zJ,qco,qcv,Nat.sub_self,zE,List.drop_of_length_le (by rw[zJ,qco,qcv]; exact Nat.le_refl _),zG]
    have ela:la=d.drop (16*m+16)++s.drop (d.length % 16):=by rw[hla,lastB,hs]
    have hrl:(d.drop (16*m+16)).length=d.length % 16:=by rw[zR]; omega
    have hld:la.drop (d.length % 16)=s.drop (d.length % 16):=by
      rw[ela,List.drop_append,hrl,Nat.sub_self,zE,List.drop_of_length_le (by omega),zG]
    have hlt:la.take (d.length % 16)=d.drop (16*m+16):=by
      rw[ela,List.take_append_of_le_length (by omega),List.take_of_length_le (by omega)]
    have hlast:lastB D t0 X (!tu) m=s:=by
      rw[lastB,hst,hdX,hXl,hld,List.take_append_drop]
    rw[←hX,qbF,hXl,if_neg h0,←hm,hdn,hlast,hst,(tw_not t0 m tu).2,hs,qfk,wtl_inv h _ _ (qfj d m (by omega)),hlt,take_blk,show 16*(m+1)=16*m+16 by omega,List.take_append_drop]
end Aes
namespace Aes
open Go Go.LE Xf Tb
set_option maxRecDepth 20000
theorem c_xclone (k b:Nat) (H:Heap) (d:List (BitVec 8)) (h0:d.length≠0) (hb:d.length≤211106232532992) :
    qaA (envC C (k+5)) H b 50 [.isl (bs d) d.length]=some ⟨.sl (b,0) 0 d.length none 1,[bs d],[]⟩:=by
  rw [qbV, qbK, qdg, l50, qdo, qbD, show ([.isl (bs d) d.length] : List LV).flatMap (nms D) = [] by simp only [zI, zN, qa1, zD], show qa2 H FUEL [] [] = [] from rfl, qbW _ _ _ _ _ rfl,
    show ([.isl (bs d) d.length]:List LV).map (ren D (qaM []))=[.isl (bs d) d.length] by simp only[zA,zB,qa9],zS,zB,qbU,xclone_F k d h0 hb,show ([]:List Nm).isEmpty=true from rfl,qeH,qaW]
  simp only[zA,zB,qar,qaY,zH,zM,qbs,zO,Nat.lt_one_iff,qbj,List.zipWith_nil_left]
structure PH (H:Heap) (n:Nat) (la lb:List (BitVec 8)):Prop where
  g0:H (0,0)=some PO
  g1:H (0,1)=some (KA 2 n)
  g2:H (0,2)=some (bs la)
  g3:H (0,3)=some (KA 4 n)
  g4:H (0,4)=some (bs lb)
theorem PH.reach {H:Heap} {n:Nat} {la lb:List (BitVec 8)} (h:PH H n la lb):qa2 H FUEL [] [(0,0)]=[(0,0),(0,1),(0,2),(0,3),(0,4)]:=by
  simp only[simprocAttr,-rR,-rS,qaj,qcx,qg3,qam,h.g0,h.g1,h.g2,h.g3,h.g4,qag,qab,qaa]
def five:List Nm:=[(0,0),(0,1),(0,2),(0,3),(0,4)]
theorem qho (j:Nat) (h:j < 5):qaM five (0,j)=some (0,j):=by
  have:j=0∨j=1∨j=2∨j=3∨j=4:=by omega
  rcases this with rfl | rfl | rfl | rfl | rfl <;> rfl
theorem five_cer (b:Nat) (j:Nat) (h:j < 5):qbh five b 0 (0,j)=some (0,j):=by
  have:j=0∨j=1∨j=2∨j=3∨j=4:=by omega
  rcases this with rfl | rfl | rfl | rfl | rfl <;> rfl
def mod5 (n:Nat) (la lb:List (BitVec 8)):List (Nm × Option qan):=[((0,0),some PO),((0,1),some (KA 2 n)),((0,2),some (bs la)),((0,3),some (KA 4 n)),((0,4),some (bs lb))]
theorem c_first (k n b:Nat) (hn:n≤20) (la lb:List (BitVec 8)) (hlb:lb.length=16*(n+2)) (u:BitVec 64) (H:Heap) (h:PH H n la lb) :
    qaA (envC C (k+80)) H b 57 [.ptr (0,0) 0,B64 u]=some ⟨Hf (lo (tw0 n lb u)) (Xf.hi (tw0 n lb u)),[],mod5 n la lb⟩:=by
  rw[qbV,qbK,qdg,l57,qdo,qbD]
  have hnm:([.ptr (0,0) 0,B64 u]:List LV).flatMap (nms D)=[(0,0)]:=rfl
  rw[hnm,h.reach,qbW _ _ _ _ _ rfl]
  have hfm:([(0,0),(0,1),(0,2),(0,3),(0,4)]:List Nm).filterMap H=[PO,KA 2 n,bs la,KA 4 n,bs lb]:=by
    simp[h.g0,h.g1,h.g2,h.g3,h.g4]
  rw[hfm]
  have e0:PO.map (ren D (qaM five))=PO:=rfl
  have e1:(KA 2 n).map (ren D (qaM five))=KA 2 n:=by rw[KA,qa4,qaY,qho 2 (by decide)]; rfl
  have e3:(KA 4 n).map (ren D (qaM five))=KA 4 n:=by rw[KA,qa4,qaY,qho 4 (by decide)]; rfl
  have ha:([.ptr (0,0) 0,B64 u]:List LV).map (ren D (qaM five))=[.ptr (0,0) 0,B64 u]:=rfl
  have f0:PO.map (ren D (qbh five b 0))=PO:=rfl
  have f1:(KA 2 n).map (ren D (qbh five b 0))=KA 2 n:=by rw[KA,qa4,qaY,five_cer b 2 (by decide)]; rfl
  have f3:(KA 4 n).map (ren D (qbh five b 0))=KA 4 n:=by rw[KA,qa4,qaY,five_cer b 4 (by decide)]; rfl
  rw[show ([(0,0),(0,1),(0,2),(0,3),(0,4)]:List Nm)=five from rfl,ha]
  rw[zA,zA,zA,zA,zA,zB,e0,e1,e3,qar,qar]
  rw[qbU,xfirst_F k n hn la lb hlb u,show ([]:List Nm).isEmpty=true from rfl,qeH,qaW]
  rw[zM,show five=[(0,0),(0,1),(0,2),(0,3),(0,4)] from rfl]
  simp only[List.zipWith_cons_cons,List.zipWith_nil_left,zC,qfc,zB,qar]
  rw[←show five=[(0,0),(0,1),(0,2),(0,3),(0,4)] from rfl,f0,f1,f3]
  rfl
theorem c_with (k b g n:Nat) (l:List (BitVec 8)) (E:R→R) (hE:Way g n l E) (t:BitVec 128) (H:Heap) (c m x:Nm) (h:KG H c m (n+2) none l) (B:LV) (bb:List (BitVec 8)) (hbl:bb.length=16)
    (hs:snap H D B=some (.isl (bs bb) 16,[x])) (hx:x≠c∧x≠m) :
    qaA (envC C (k+80)) H b 58 [.fn (.func g) [.ptr c 0] [],Hf (lo t) (Xf.hi t),B]=some ⟨.sl (b,0) 0 16 (some 16) 1,[aB 16 (wt E t (fl bb))],[(c,some (CF (.sl m 0 (n+2) none 16) TB)),(m,some (bs l))]⟩:=by
  have hlend:lend H ((envC C (k+80)).borrow 58) 0 [.fn (.func g) [.ptr c 0] [],Hf (lo t) (Xf.hi t),B]=some ([.fn (.func g) [.ptr c 0] [],Hf (lo t) (Xf.hi t),.isl (bs bb) 16],[x]):=by
    rw[qba,qba,qba,qct,qbK,qdg,if_neg (show ¬ qaJ 58 0=true by decide),if_neg (show ¬ qaJ 58 (0+1)=true by decide),if_pos (show qaJ 58 (0+1+1)=true by decide),hs,qa3,qa3,qa3]
    rfl
  have hn:([.fn (.func g) [.ptr c 0] [],Hf (lo t) (Xf.hi t),.isl (bs bb) 16]:List LV).flatMap (nms D)=[c]:=by
    simp only[zI,zN,qa1,zD,qeK,qef]
  have hre:=reach_KG h
  have hl:([x]:List Nm).any (fun n=>([c,m]:List Nm).contains n)=false:=by simp[hx.1,hx.2]
  have ha:([.fn (.func g) [.ptr c 0] [],Hf (lo t) (Xf.hi t),.isl (bs bb) 16]:List LV).map (ren D (qaM [c,m]))=[.fn (.func g) [.ptr (0,0) 0] [],Hf (lo t) (Xf.hi t),.isl (bs bb) 16]:=by
    have e:ren 7 (qaM [c,m]) (.ptr c 0) = .ptr (0,0) 0:=by
      show (match (qaM [c,m] c) with | some n=>LV.ptr n 0 | none=>_)=_
      rw[qbM,idx0]; rfl
    simp only[zA,zB,qga,e,qfc,qa9]
  have hp:qa7 (.sl (1,0) 0 16 (some 16) 1,[some (KO n),some (bs l)],[aB 16 (wt E t (fl bb))])=true:=by
    simp only[qa7,ze,zW,qcu,qhP,KO,qhm]; rfl
  rw[qbV,hlend,qbD,hn,hre,qbW _ _ _ _ _ hl,ha,show ([c,m]:List Nm).filterMap H=[CF (.sl m 0 (n+2) none 16) TB,bs l] by simp[h.hc,h.hm]]
  rw[zA,zA,zB,qa4,qaY,qbM,idx1 _ _ _ h.ne,zC,qbj,qar,qbU]
  rw[show CF (.sl (0,1) 0 (n+2) none 16) TB=KO n from rfl,with_F k g n l E hE t bb hbl,qcz _ _ _ _ hp,qaW]
  simp only[KO,zA,zB,List.zipWith_cons_cons,List.zipWith_nil_left,zC,qa4,qaY,qcL,qbs,qar,qap,qbj,List.getElem?_cons_zero,List.getElem?_cons_succ,zH,zM,zO,Nat.lt_one_iff]
end Aes
namespace Aes
open Go Go.LE Xf Tb
set_option maxRecDepth 20000
theorem PH.cn {H:Heap} {n:Nat} {la lb:List (BitVec 8)} (h:PH H n la lb) (names:List Nm):PH (cN names H) n la lb :=
  ⟨by rw[qaI,h.g0,zC,qeQ],by rw[qaI,h.g1,zC,KA_ren],by rw[qaI,h.g2,zC,qar],by rw[qaI,h.g3,zC,KA_ren],by rw[qaI,h.g4,zC,qar]⟩
theorem PH.up {H:Heap} {n:Nat} {la lb:List (BitVec 8)} (h:PH H n la lb) (m:Nm) (x:Option qan) (hm:m.1≠0):PH (upd H m x) n la lb:=by
  have e:∀ j,upd H m x (0,j)=H (0,j):=fun j=>by
    rw[qbE,if_neg (fun h=>hm (by rw[←h]))]
  exact ⟨by rw[e]; exact h.g0,by rw[e]; exact h.g1,by rw[e]; exact h.g2,by rw[e]; exact h.g3,by rw[e]; exact h.g4⟩
theorem tr_KGn (H:Heap) (v:LV) (news:List qan) (c m:Nm) (len:Nat) (cap:Option Nat) (l:List (BitVec 8)) (h:KG H c m len cap l):qdz true H (some ⟨v,news,[(c,some (CF (.sl m 0 len cap 16) TB)),(m,some (bs l))]⟩)=some ⟨v,news,[]⟩:=by
  refine qec _ _ _ _ fun q hm => ?_
  simp only[List.mem_cons,List.not_mem_nil,zV] at hm
  rcases hm with rfl | rfl
  · simp only[h.hc,qcJ,same_CF]
  · simp only[h.hm,qcJ,qe2]
theorem cp_16 (H:Heap) (m x:Nm) (o len:Nat) (c c2:Option Nat) (L:List (BitVec 8)) (w:R) (hm:H m=some (bs L)) (hx:H x=some (aB 16 w)) (hl:o+16≤L.length) (h16:16≤len) :
    cpK 1 H (.sl m o len c 1) (.sl x 0 16 c2 1) (some 16)=some ⟨N 16,[],[(m,some (bs (L.take o++(List.range 16).map w++L.drop (o+16))))]⟩:=by
  have hmin:min 16 len=16:=by omega
  rw[qcK] at hx
  have hf:qbu H 1 (min 16 len) (.sl x 0 16 c2 1)=some (bs ((List.range 16).map w)):=by
    rw[hmin,qbY x 0 16 c2 _ hx (by rw[zX,List.length_range]; exact Nat.le_refl _),zE,List.take_of_length_le (by rw[zX,List.length_range]; exact Nat.le_refl _)]
  rw[qft 16 m o len c _ L _ (by omega) hf hm (by omega),hmin,zX,List.length_range]
def runJ (g n:Nat) (la lb:List (BitVec 8)) (E:R→R) (t0:BitVec 128) (d:List (BitVec 8)) (tu:Bool) (w:Nat) (i:Nat) (st:St):Prop := ∃ (H:Heap),
  st=⟨[.undef,.undef,.undef,.fn (.func g) [.ptr (0,1) 0] [],Bo tu,.undef,.undef,.undef,.undef,.undef,.undef,.sl (1,0) 0 d.length none 1,.ptr (1,1) 0,N (d.length % 16),N (16*w),N (16*i),.undef,.undef,.undef,.undef,.undef,.undef,.undef,.undef,.undef,.undef,.undef,.undef,.undef,.undef,.undef,.undef,.undef,.undef,.undef,.undef,.undef,.undef,.undef,.undef,.undef,.undef,.undef,.undef,.undef,.undef,.undef,.undef,.undef,.undef,.undef,.undef,.undef,.undef,.undef,.undef,.undef,.undef,.undef,.undef,.undef,.undef,.undef,.undef,.undef,.undef,.undef,.undef,.undef,.undef,.undef,.undef,.undef,.undef,.undef,.undef,.undef,.undef,.undef,.undef,.undef,.undef,.undef,.undef,.undef,.undef,.undef,.undef,.undef,.undef,.undef,.undef,.undef,.undef,.undef,.undef,.undef,.undef],H,2,5⟩ ∧
  PH H n la lb∧H (1,0)=some (bs (outI E t0 d i))∧H (1,1)=some [B64 (lo (tws t0 i)),B64 (Xf.hi (tws t0 i))]
theorem run_round (k g n:Nat) (la lb:List (BitVec 8)) (E:R→R) (hE:Way g n la E) (t0:BitVec 128) (d:List (BitVec 8)) (tu:Bool) (w:Nat) (hd:16*w≤d.length) (hd2:d.length≤65536) (i:Nat) (hi:i < w) (st:St)
    (hJ:runJ g n la lb E t0 d tu w i st):∃ st1,ev (envC C (k+80)) (k+80) L35b0 st=some (.normal,st1)∧runJ g n la lb E t0 d tu w (i+1) (qaT L35k0 st1):=by
  obtain ⟨H,rfl,P,h1,h2⟩:=hJ
  have hol:=outI_length E t0 d i (by omega)
  have i0:16*i < 16*w:=by omega
  have i1:16*i≤d.length:=by omega
  have i2:16*i+16≤d.length:=by omega
  have i3:16*i+16 - 16*i=16:=by omega
  have i4:16*i≤16*i+16:=by omega
  have hdb:∀ k,F C (k+1) 59 [Hf (lo (tws t0 i)) (Xf.hi (tws t0 i))] []=some (Hf (lo (tws t0 (i+1))) (Xf.hi (tws t0 (i+1))),[],[]):=fun k=>Xf.dbl_F k (tws t0 i)
  have hsn:∀ H':Heap,H' (1,0)=some (bs (outI E t0 d i))→∀ c,snap H' D (.sl (1,0) (16*i) 16 c 1)=some (.isl (bs (blk d i)) 16,[(1,0)]):=fun H' h' c=>by
    rw[qir (1,0) (16*i) 16 c _ h' (by decide),outI_blk]
  simp (disch:=first|omega|decide|simp only[nmsB,lB]) only[simprocAttr,-rR,-rS,leB,memB,arrB,numB,qaf,opsB,ordB,qaz,qak,qaF,L35b0,h1,h2,i0,i1,i2,i3,i4,qeK,qaN,qgl,qac,qad,qab,qaa,qaq,qah]
  have hre:qa2 H FUEL [] [(0,1),(1,0)]=[(0,1),(0,2),(1,0)]:=by
    simp only[simprocAttr,-rR,-rS,qaj,qg3,qam,P.g1,P.g2,h1,qag,qab,qaa]
  have K3:KG (only [(0,1),(0,2),(1,0)] H) (0,1) (0,2) (n+2) none la:=⟨P.g1,P.g2,by decide⟩
  rw[hre,c_with k _ g n la E hE (tws t0 i) _ (0,1) (0,2) (1,0) K3 _ (blk d i) (qfj d i (by omega)) (hsn (only [(0,1),(0,2),(1,0)] H) h1 none) ⟨by decide,by decide⟩,tr_KGn _ _ _ _ _ _ _ _ K3]
  simp (disch:=first|omega|decide|simp only[nmsB,lB]) only[simprocAttr,-rR,-rS,leB,memB,arrB,numB,qaf,opsB,ordB,qaz,qak,qaF,h1,h2,qaN,qac,qad,qab,qaa,qaq,qah]
  have i5:16≤d.length - 16*i:=by omega
  rw [cp_16 (only [(1, 0), (15, 0)] (upd H (15, 0) _)) (1, 0) (15, 0) (16 * i) (d.length - 16 * i) none (some 16) (outI E t0 d i) (wt E (tws t0 i) (fl (blk d i))) h1 rfl (by omega) i5,
    show (List.range 16).map (wt E (tws t0 i) (fl (blk d i)))=wtl E (tws t0 i) (blk d i) from rfl,outI_succ E t0 d i (by omega)]
  have hd1:=hdb (k+79)
  simp (disch:=first|omega|decide|simp only[nmsB,lB]) only[simprocAttr,-rR,-rS,leB,memB,arrB,numB,qaf,opsB,ordB,qaz,qak,qaF,h2,hd1,qgl,l59,qef,qfc,qae,qac,qad,qab,qaa,qaq,qah]
  refine ⟨_,rfl,?_⟩
  refine qal [(1,0),(1,1)] rfl (by simp only[simprocAttr,-rR,-rS,qaj,L35k0,qeK,qbn,qcx,qg3,qam,qaN,P.g0,P.g1,P.g2,P.g3,P.g4,h2,qag,qab,qaa]) (by simp only[simprocAttr,-rR,-rS,qaj,L35k0,zA,zB,qga,qag,qab,qaa] <;> rfl) ⟨_,rfl,?_,?_,?_⟩
  · exact PH.cn (((P.up (15,0) _ (by decide)).up (1,0) _ (by decide)).up (1,1) _ (by decide)) _
  · exact qai (1,0) rfl (by simp (disch:=first|omega|decide|simp only[nmsB,lB]) only[simprocAttr,-rR,-rS,leB,memB,qaf,qae,qac,qad,qab,qaa]) (qar _ _)
  · exact qai (1,1) rfl (by simp (disch:=first|omega|decide|simp only[nmsB,lB]) only[simprocAttr,-rR,-rS,leB,memB,qaf,qae,qac,qad,qab,qaa]) rfl
end Aes
namespace Aes
open Go Go.LE Xf Tb
set_option maxRecDepth 20000
theorem qa8 {H:Heap} {m:Nm} {x:Option qan} (h:H m=x):upd H m x=H:=by
  funext q
  rw[qbE]
  by_cases e:q=m
  · rw[if_pos e,e,h]
  · rw[if_neg e]
theorem PH.same {H:Heap} {n:Nat} {la lb:List (BitVec 8)} (h:PH H n la lb):modN (mod5 n la lb) H=H:=by
  simp only[mod5,qb8,qcc,qa8 h.g4,qa8 h.g3,qa8 h.g2,qa8 h.g1,qa8 h.g0]
theorem run_whole (k g n:Nat) (hn:n≤20) (la lb:List (BitVec 8)) (hlb:lb.length=16*(n+2)) (E:R→R) (hE:Way g n la E) (u:BitVec 64) (d:List (BitVec 8)) (h16:16≤d.length) (hd2:d.length≤65536) (tu:Bool) (hr:d.length % 16=0) :
    F C (k+5000) 35 [.ptr (0,0) 0,B64 u,.isl (bs d) d.length,.fn (.func g) [.ptr (0,1) 0] [],Bo tu] [PO,KA 2 n,bs la,KA 4 n,bs lb] =
    some (.sl (1,0) 0 d.length none 1,[some PO,some (KA 2 n),some (bs la),some (KA 4 n),some (bs lb)],[bs (qbF E (tw0 n lb u) d tu)]):=by
  rw[qaL f35]
  have P0:PH (qaZ [PO,KA 2 n,bs la,KA 4 n,bs lb]) n la lb:=⟨rfl,rfl,rfl,rfl,rfl⟩
  generalize hI:qaZ [PO,KA 2 n,bs la,KA 4 n,bs lb]=H0 at P0
  have hcl:∀ b H,qaA (envC C (k+4999)) H b 50 [.isl (bs d) d.length]=some ⟨.sl (b,0) 0 d.length none 1,[bs d],[]⟩:=fun b H=>c_xclone (k+4994) b H d (by omega) (by omega)
  simp (disch:=first|omega|decide|simp only[nmsB,lB]) only[simprocAttr,-rR,-rS,leB,memB,arrB,numB,qaf,opsB,ordB,qaz,qak,qaF,L35,hcl,qac,qad,qab,qaa,qaq,qah]
  rw[hI]
  have P1:=P0.up (4,0) (some (bs d)) (by decide)
  have hm:=P1.same
  rw[c_first (k+4919) n _ hn la lb hlb u _ P1]
  simp (disch:=first|omega|decide|simp only[nmsB,lB]) only[simprocAttr,-rR,-rS,leB,memB,arrB,numB,qaf,opsB,ordB,qaz,qak,qaF,hm,qgl,qac,qad,qab,qaa,qaq,qah]
  have e0:d.length - d.length % 16=16*(d.length / 16):=by omega
  rw[e0]
  generalize hG:upd (upd (upd H0 (4,0) _) (9,0) _) (9,0) _=G
  have PG:PH G n la lb:=by rw[←hG]; exact (P1.up _ _ (by decide)).up _ _ (by decide)
  have ga:G (4,0)=some (bs d):=by rw[←hG]; rfl
  have gb:G (9,0)=some [B64 (lo (tw0 n lb u)),B64 (Xf.hi (tw0 n lb u))]:=by rw[←hG]; rfl
  clear hG
  have d0:decide (0 < d.length % 16)=false:=decide_eq_false (by omega)
  rw[d0]
  simp (disch:=first|omega|decide|simp only[nmsB,lB]) only[simprocAttr,-rR,-rS,leB,memB,arrB,numB,qaf,opsB,ordB,qaz,qak,qaF,qac,qad,qab,qaa,qaq,qah]
  generalize hL:qaP L35k0 _ _ _=r
  refine qaK hL (runJ g n la lb E (tw0 n lb u) d tu (d.length / 16)) (d.length / 16) (by omega) (fun i st hi hJ=>run_round (k+4919) g n la lb E hE _ d tu (d.length / 16) (by omega) hd2 i hi st hJ) ?_ ?_ ?_
  · refine qal [(4, 0), (9, 0)] rfl (by simp only [simprocAttr, -rR, -rS, qaj, L35k0, qeK, qbn, qcx, qg3, qam, qaN, PG.g0, PG.g1, PG.g2, PG.g3, PG.g4, ga, gb, qag, qab, qaa]) (by simp only [simprocAttr, -rR, -rS, qaj, L35k0, zA, zB, qga, qag, qab, qaa] <;> rfl) ⟨_, rfl, ?_, ?_, ?_⟩
    · exact PH.cn PG _
    · rw[outI_0]; exact qai (4,0) rfl (by simp (disch:=first|omega|decide|simp only[nmsB,lB]) only[simprocAttr,-rR,-rS,leB,memB,qaf,ga,qae,qac,qad,qab,qaa]) (qar _ _)
    · exact qai (9,0) rfl (by simp (disch:=first|omega|decide|simp only[nmsB,lB]) only[simprocAttr,-rR,-rS,leB,memB,qaf,gb,qae,qac,qad,qab,qaa] <;> rfl) rfl
  · rintro st ⟨H, rfl, P, h1, h2⟩
    apply qaG
    simp (disch:=first|omega|decide|simp only[nmsB,lB]) only[simprocAttr,-rR,-rS,leB,memB,arrB,numB,qaf,L35b0,zU,qae,qac,qad,qab,qaa]
    rfl
  · rintro st ⟨H, rfl, P, h1, h2⟩ rfl
    rw[outI_whole _ _ _ hr,unitP_whole _ _ _ false tu hr] at h1
    simp (disch:=first|omega|decide|simp only[nmsB,lB]) only[simprocAttr,-rR,-rS,leB,memB,arrB,numB,qaf,opsB,ordB,qaz,qak,qaF,L35b0,zU,hr,h1,qac,qad,qab,qaa,qaq,qah]
    rw[qa0 5 _ _ [(1,0)] (by simp only[simprocAttr,-rR,-rS,qaj,qbn,qcx,qg3,qam,qaN,P.g0,P.g1,P.g2,P.g3,P.g4,h1,qag,qab,qaa])]
    simp (disch:=first|omega|decide|simp only[nmsB,lB]) only[simprocAttr,-rR,-rS,leB,memB,qaf,qbn,qeQ,KA_ren,qar,qaY,P.g0,P.g1,P.g2,P.g3,P.g4,h1,qae,qac,qad,qab,qaa]
end Aes
namespace Aes
open Go Go.LE Xf Tb
set_option maxRecDepth 20000
theorem qe0 (K b g:Nat) (H:Heap) (args args1 args':List LV) (ns lent:List Nm) (objs':List qan) (res:qce) (hl:lend H (qaJ g) 0 args=some (args1,lent)) (hr:qa2 H FUEL [] (args1.flatMap (nms D))=ns)
    (hd:lent.any (fun n=>ns.contains n)=false) (ha:args1.map (ren D (qaM ns))=args') (ho:(ns.filterMap H).map (fun cs=>cs.map (ren D (qaM ns)))=objs') (hF:F C K g args' objs'=some res) (hp:qa7 res=true) :
    qaA (envC C K) H b g args=some (qcA ns b res):=by
  rw[qbV,qbK,qdg,hl,qbD,hr,qbW _ _ _ _ _ hd,ha,ho,qbU,hF,qcz _ _ _ _ hp]
structure XG (H:Heap) (p a ka b kb:Nm) (n:Nat) (la lb:List (BitVec 8)):Prop where
  hp:H p=some [.ptr a 0,.ptr b 0]
  ha:H a=some (CF (.sl ka 0 (n+2) none 16) TB)
  hka:H ka=some (bs la)
  hb:H b=some (CF (.sl kb 0 (n+2) none 16) TB)
  hkb:H kb=some (bs lb)
  nd:[p,a,ka,b,kb].Nodup
def modX (p a ka b kb:Nm) (n:Nat) (la lb:List (BitVec 8)):List (Nm × Option qan) :=
  [(p,some [.ptr a 0,.ptr b 0]),(a,some (CF (.sl ka 0 (n+2) none 16) TB)),(ka,some (bs la)),(b,some (CF (.sl kb 0 (n+2) none 16) TB)),(kb,some (bs lb))]
theorem XG.same {H:Heap} {p a ka b kb:Nm} {n:Nat} {la lb:List (BitVec 8)} (h:XG H p a ka b kb n la lb):modN (modX p a ka b kb n la lb) H=H:=by
  simp only[modX,qb8,qcc,qa8 h.hkb,qa8 h.hb,qa8 h.hka,qa8 h.ha,qa8 h.hp]
theorem XG.tr {H:Heap} {p a ka b kb:Nm} {n:Nat} {la lb:List (BitVec 8)} (h:XG H p a ka b kb n la lb) (v:LV) (news:List qan):qdz true H (some ⟨v,news,modX p a ka b kb n la lb⟩)=some ⟨v,news,[]⟩:=by
  refine qec _ _ _ _ fun q hm => ?_
  simp only[modX,List.mem_cons,List.not_mem_nil,zV] at hm
  rcases hm with rfl | rfl | rfl | rfl | rfl
  · simp only[h.hp,qcJ]; simp[qdU,qeS]
  · simp only[h.ha,qcJ,same_CF]
  · simp only[h.hka,qcJ,qe2]
  · simp only[h.hb,qcJ,same_CF]
  · simp only[h.hkb,qcJ,qe2]
theorem XG.ne {H:Heap} {p a ka b kb:Nm} {n:Nat} {la lb:List (BitVec 8)} (h:XG H p a ka b kb n la lb):(a≠p∧ka≠p∧b≠p∧kb≠p)∧(ka≠a∧b≠a∧kb≠a)∧(b≠ka∧kb≠ka)∧kb≠b:=by
  have:=h.nd
  simp only[List.nodup_cons,List.mem_cons,List.not_mem_nil,zV,not_or,List.nodup_nil,not_false_eq_true,and_true] at this
  obtain ⟨⟨h1,h2,h3,h4⟩,⟨h5,h6,h7⟩,⟨h8,h9⟩,h10⟩:=this
  exact ⟨⟨fun e=>h1 e.symm,fun e=>h2 e.symm,fun e=>h3 e.symm,fun e=>h4 e.symm⟩,⟨fun e=>h5 e.symm,fun e=>h6 e.symm,fun e=>h7 e.symm⟩,⟨fun e=>h8 e.symm,fun e=>h9 e.symm⟩,fun e=>h10 e.symm⟩
theorem XG.reach {H:Heap} {p a ka b kb:Nm} {n:Nat} {la lb:List (BitVec 8)} (h:XG H p a ka b kb n la lb):qa2 H FUEL [] [p]=[p,a,ka,b,kb]:=by
  obtain ⟨⟨h1,h2,h3,h4⟩,⟨h5,h6,h7⟩,⟨h8,h9⟩,h10⟩:=h.ne
  simp only[FUEL,qag,zf,zP,zL,h.hp,qbL,qb5,qa5,qaN,qam,zI,zN,zG,zQ,zD,List.contains_cons,beq_iff_eq,h1,h2,h3,h4,h5,h6,h7,h8,h9,h10,Bool.or_false,Bool.or_eq_true,or_self,h.ha,h.hka,h.hb,h.hkb,qbm]
theorem XG.reach2 {H:Heap} {p a ka b kb:Nm} {n:Nat} {la lb:List (BitVec 8)} (h:XG H p a ka b kb n la lb):Go.LE.qa2 H FUEL [] [p,a]=[p,a,ka,b,kb]:=by
  obtain ⟨⟨h1,h2,h3,h4⟩,⟨h5,h6,h7⟩,⟨h8,h9⟩,h10⟩:=h.ne
  simp only[FUEL,qag,zf,zP,zL,h.hp,qbL,qb5,qa5,qaN,qam,zI,zN,zG,zQ,zD,List.contains_cons,beq_iff_eq,h1,h2,h3,h4,h5,h6,h7,h8,h9,h10,Bool.or_false,Bool.or_eq_true,or_self,h.ha,h.hka,h.hb,h.hkb,qbm,beq_self_eq_true,Bool.or_true,Bool.true_or,true_or,or_true,zF]
theorem XG.cee {H:Heap} {p a ka b kb:Nm} {n:Nat} {la lb:List (BitVec 8)} (h:XG H p a ka b kb n la lb):qaM [p,a,ka,b,kb] p=some (0,0)∧qaM [p,a,ka,b,kb] a=some (0,1)∧qaM [p,a,ka,b,kb] ka=some (0,2)∧qaM [p,a,ka,b,kb] b=some (0,3)∧qaM [p,a,ka,b,kb] kb=some (0,4):=by
  obtain ⟨⟨h1,h2,h3,h4⟩,⟨h5,h6,h7⟩,⟨h8,h9⟩,h10⟩:=h.ne
  refine ⟨?_,?_,?_,?_,?_⟩ <;> simp[qaM,idx,h1,h2,h3,h4,h5,h6,h7,h8,h9,h10,Ne.symm h1,Ne.symm h2,Ne.symm h3,Ne.symm h4,Ne.symm h5,Ne.symm h6,Ne.symm h7,Ne.symm h8,Ne.symm h9,Ne.symm h10]
theorem c_run (k g n base:Nat) (hn:n≤20) (H:Heap) (p a ka b kb:Nm) (la lb:List (BitVec 8)) (X:XG H p a ka b kb n la lb) (hlb:lb.length=16*(n+2)) (E:R→R) (hE:Way g n la E) (u:BitVec 64) (V:LV) (d:List (BitVec 8)) (lent:List Nm)
    (hs:snap H D V=some (.isl (bs d) d.length,lent)) (hx:∀ x ∈ lent,x ∉ [p,a,ka,b,kb]) (h16:16≤d.length) (hd2:d.length≤65536) (hw:d.length % 16=0) (tu:Bool) :
    qaA (envC C (k+5000)) H base 35 [.ptr p 0,B64 u,V,.fn (.func g) [.ptr a 0] [],Bo tu]=some ⟨.sl (base,0) 0 d.length none 1,[bs (qbF E (tw0 n lb u) d tu)],modX p a ka b kb n la lb⟩:=by
  obtain ⟨c0,c1,c2,c3,c4⟩:=X.cee
  have hl:lend H (qaJ 35) 0 [.ptr p 0,B64 u,V,.fn (.func g) [.ptr a 0] [],Bo tu]=some ([.ptr p 0,B64 u,.isl (bs d) d.length,.fn (.func g) [.ptr a 0] [],Bo tu],lent):=by
    rw[qba,qba,qba,qba,qba,qct,if_neg (show ¬ qaJ 35 0=true by decide),if_neg (show ¬ qaJ 35 (0+1)=true by decide),if_pos (show qaJ 35 (0+1+1)=true by decide),if_neg (show ¬ qaJ 35 (0+1+1+1)=true by decide),if_neg (show ¬ qaJ 35 (0+1+1+1+1)=true by decide),hs,qa3,qa3,qa3,qa3,qa3]
    simp
  have hr:Go.LE.qa2 H FUEL [] (([.ptr p 0,B64 u,.isl (bs d) d.length,.fn (.func g) [.ptr a 0] [],Bo tu]:List LV).flatMap (nms D))=[p,a,ka,b,kb]:=by
    have e:([.ptr p 0,B64 u,.isl (bs d) d.length,.fn (.func g) [.ptr a 0] [],Bo tu]:List LV).flatMap (nms D)=[p,a]:=by
      simp only[zI,zN,qa1,zD,qeK,qb5,qfr,qfG,zG,zQ]
    rw[e,X.reach2]
  have hd:lent.any (fun n=>[p,a,ka,b,kb].contains n)=false:=by
    rw[List.any_eq_false]; intro x h; have:=hx x h; simpa using this
  have ha:([.ptr p 0,B64 u,.isl (bs d) d.length,.fn (.func g) [.ptr a 0] [],Bo tu]:List LV).map (ren D (qaM [p,a,ka,b,kb]))=[.ptr (0,0) 0,B64 u,.isl (bs d) d.length,.fn (.func g) [.ptr (0,1) 0] [],Bo tu]:=by
    have e:ren 7 (qaM [p,a,ka,b,kb]) (.ptr a 0) = .ptr (0,1) 0:=by
      show (match (qaM [p,a,ka,b,kb] a) with | some n=>LV.ptr n 0 | none=>_)=_
      rw[c1]
    simp only[zA,zB,qbr,c0,qbw,qga,e,qds,qfH,qa9]
  have ho:([p,a,ka,b,kb].filterMap H).map (fun cs=>cs.map (ren D (qaM [p,a,ka,b,kb])))=[PO,KA 2 n,bs la,KA 4 n,bs lb]:=by
    simp only[List.filterMap_cons,zS,X.hp,X.ha,X.hka,X.hb,X.hkb,zA,zB,qbr,c1,c3,qbw,qa4,qaY,c2,c4,qbj,qar,PO,KA]
  have hp:qa7 (.sl (1,0) 0 d.length none 1,[some PO,some (KA 2 n),some (bs la),some (KA 4 n),some (bs lb)],[bs (qbF E (tw0 n lb u) d tu)])=true:=by
    simp only[qa7,ze,zW,qcu,KA,qhm]; rfl
  rw[qe0 _ base 35 H _ _ _ _ _ _ _ hl hr hd ha ho (run_whole k g n hn la lb hlb E hE u d h16 hd2 tu hw) hp,qaW]
  simp only[PO,KA,modX,List.zipWith_cons_cons,List.zipWith_nil_left,zC,zA,zB,qbr,qaY,qa4,qar,qcL,qbs,List.getElem?_cons_zero,List.getElem?_cons_succ,qbw,qbj,zH,zM,zO,Nat.lt_one_iff]
end Aes
namespace Aes
open Go Go.LE Xf Tb
set_option maxRecDepth 20000
theorem qaE {H:Heap} {f:Nat} {seen:List Nm} {n:Nm} {todo:List Nm} {cs:qan} {ns:List Nm} (hs:seen.contains n=false) (hH:H n=some cs) (hN:cs.flatMap (nms D)=ns):qa2 H (f+1) seen (n::todo)=qa2 H f (seen++[n]) (ns++todo):=by
  rw[qag,hs,hH,qbL,hN]; rfl
theorem qbz {H:Heap} {f:Nat} {seen:List Nm} {n:Nm} {todo:List Nm} (hs:seen.contains n=true):qa2 H (f+1) seen (n::todo)=qa2 H f seen todo:=by
  rw[qag,hs]; rfl
theorem qey {H:Heap} {np:Nat} {ret:LV} {l ns names:List Nm} (hl:(List.range np).map (fun i=>(0,i))++[ret].flatMap (nms D)=l) (h:qa2 H FUEL [] l=ns) (hf:ns.filter (fun n=>n.1 != 0)=names):qbO H np [ret]=names:=by
  rw[qbO,hl,h,hf]
theorem qb3 {np:Nat} {st:St} {ret:LV} {names:List Nm} {o:qce} (h:qbO st.H np [ret]=names)
    (e:(ren D (qbq names) ret,(List.range np).map (fun i=>(st.H (0,i)).map fun cs=>cs.map (ren D (qbq names))),(names.filterMap st.H).map fun cs=>cs.map (ren D (qbq names)))=o):some (qcb np st ret)=some o:=by
  rw[qa0 np st ret names h,e]
theorem dn (d:List (BitVec 8)) {n:Nat}:([.isl (bs d) n]:qan).flatMap (nms D)=[]:=by
  rw[zI,qa1]; rfl
theorem callV_fn3 {E:Env} {H:Heap} {b:Nat} (g:FuncId) (x y z:LV):callV E H b [] (.fn (.func g) [] [x,y,z])=qaA E H b g [x,y,z]:=by simp[callV]
theorem qcG (K b g:Nat) (hg:qaJ g=fun _=>false) (H:Heap) (args args':List LV) (l ns:List Nm) (objs':List qan) (res:qce) (hn:args.flatMap (nms D)=l) (hr:qa2 H FUEL [] l=ns)
    (ha:args.map (ren D (qaM ns))=args') (ho:(ns.filterMap H).map (fun cs=>cs.map (ren D (qaM ns)))=objs') (hF:F C K g args' objs'=some res) :
    qaA (envC C K) H b g args=some (qcA ns b res):=by
  rw[qbV,qbK,qdg,hg,qdo,qbD,hn,hr,qbW _ _ _ _ _ rfl,ha,ho,qbU,hF]; rfl
theorem op_fn {E:Env} {tm:List LV} {H:Heap} {b:Nat} (f:Fn) (xs ys:List LX):qbg E tm H b (.fn f xs ys)=some ⟨.fn f (xs.map (evX E.gl tm)) (ys.map (evX E.gl tm)),[],[]⟩:=rfl
theorem range_8:List.range 8=[0,1,2,3,4,5,6,7]:=rfl
theorem fn3_nms (g:FuncId) (a b c:Nm):nms D (.fn (.func g) [] [.ptr a 0,.ptr b 0,.ptr c 0])=[a,b,c]:=rfl
theorem clo43I_F (k n:Nat) (hn:n≤20) (la lb:List (BitVec 8)) (hla:la.length=16*(n+2)) (hlb:lb.length=16*(n+2)) (u:BitVec 64) (d:List (BitVec 8)) (h16:16≤d.length) (hd2:d.length≤65536) (hw:d.length % 16=0) :
    F C (k+5001) 34 [.ptr (0,0) 0,.ptr (0,6) 0,.ptr (0,7) 0] [[.ptr (0,1) 0],[.ptr (0,2) 0,.ptr (0,4) 0],CF (.sl (0,3) 0 (n+2) none 16) TB,bs la,CF (.sl (0,5) 0 (n+2) none 16) TB,bs lb,[B64 u],[.isl (bs d) d.length]]=some (.sl (1,0) 0 d.length none 1,[some ([.ptr (0,1) 0]),some ([.ptr (0,2) 0,.ptr (0,4) 0]),some (CF (.sl (0,3) 0 (n+2) none 16) TB),some (bs la),some (CF (.sl (0,5) 0 (n+2) none 16) TB),some (bs lb),some ([B64 u]),some ([.isl (bs d) d.length])],[bs (qbF (enc (kf la) n) (tw0 n lb u) d false)]):=by
  rw[qaL f34]
  generalize hG:qaZ [[.ptr (0,1) 0],[.ptr (0,2) 0,.ptr (0,4) 0],CF (.sl (0,3) 0 (n+2) none 16) TB,bs la,CF (.sl (0,5) 0 (n+2) none 16) TB,bs lb,[B64 u],[.isl (bs d) d.length]]=G
  have x00:G (0,0)=some ([.ptr (0,1) 0]):=by rw[←hG]; rfl
  have x01:G (0,1)=some ([.ptr (0,2) 0,.ptr (0,4) 0]):=by rw[←hG]; rfl
  have x02:G (0,2)=some (CF (.sl (0,3) 0 (n+2) none 16) TB):=by rw[←hG]; rfl
  have x03:G (0,3)=some (bs la):=by rw[←hG]; rfl
  have x04:G (0,4)=some (CF (.sl (0,5) 0 (n+2) none 16) TB):=by rw[←hG]; rfl
  have x05:G (0,5)=some (bs lb):=by rw[←hG]; rfl
  have x06:G (0,6)=some ([B64 u]):=by rw[←hG]; rfl
  have x07:G (0,7)=some ([.isl (bs d) d.length]):=by rw[←hG]; rfl
  have X:XG G (0,1) (0,2) (0,3) (0,4) (0,5) n la lb:=⟨x01,x02,x03,x04,x05,by decide⟩
  have X':XG (only [(0,1),(0,2),(0,3),(0,4),(0,5)] G) (0,1) (0,2) (0,3) (0,4) (0,5) n la lb:=⟨x01,x02,x03,x04,x05,by decide⟩
  have hre:qa2 G FUEL [] [(0,1),(0,2)]=[(0,1),(0,2),(0,3),(0,4),(0,5)]:=(qaE rfl x01 rfl).trans ((qaE rfl x02 (qa5 _ _)).trans ((qaE rfl x03 (qam _)).trans ((qaE rfl x04 (qa5 _ _)).trans ((qaE rfl x05 (qam _)).trans ((qbz rfl).trans (qbm _ _ _))))))
  have hc:∀ b,_:=fun b=>c_run k 36 n b hn (only [(0,1),(0,2),(0,3),(0,4),(0,5)] G) (0,1) (0,2) (0,3) (0,4) (0,5) la lb X' hlb (enc (kf la) n) (way_enc n hn la hla) u (.isl (bs d) d.length) d [] (qeZ _ _) (by decide) h16 hd2 hw false
  have ht:∀ v news,_:=fun v news=>X'.tr v news
  simp (disch:=first|omega|decide|simp only[nmsB,lB]) only[simprocAttr,-rR,-rS,leB,memB,arrB,numB,qaf,opsB,ordB,qaz,qak,qaF,L34,hG,op_fn,x00,x01,x02,x03,x04,x05,x06,x07,qeK,qa1,qaN,hre,hc,ht,zG,zQ,qac,qad,qab,qaa,qaq,qah]
  generalize hQ:upd G (11,0) (some (bs (qbF (enc (kf la) n) (tw0 n lb u) d false)))=Q
  have y00:Q (0,0)=some ([.ptr (0,1) 0]):=by rw[←hQ]; exact x00
  have y01:Q (0,1)=some ([.ptr (0,2) 0,.ptr (0,4) 0]):=by rw[←hQ]; exact x01
  have y02:Q (0,2)=some (CF (.sl (0,3) 0 (n+2) none 16) TB):=by rw[←hQ]; exact x02
  have y03:Q (0,3)=some (bs la):=by rw[←hQ]; exact x03
  have y04:Q (0,4)=some (CF (.sl (0,5) 0 (n+2) none 16) TB):=by rw[←hQ]; exact x04
  have y05:Q (0,5)=some (bs lb):=by rw[←hQ]; exact x05
  have y06:Q (0,6)=some ([B64 u]):=by rw[←hQ]; exact x06
  have y07:Q (0,7)=some ([.isl (bs d) d.length]):=by rw[←hQ]; exact x07
  have yn:Q (11,0)=some (bs (qbF (enc (kf la) n) (tw0 n lb u) d false)):=by rw[←hQ]; rfl
  have hch:qa2 Q FUEL [] [(0,0),(0,1),(0,2),(0,3),(0,4),(0,5),(0,6),(0,7),(11,0)]=[(0,0),(0,1),(0,2),(0,3),(0,4),(0,5),(0,6),(0,7),(11,0)]:=(qaE rfl y00 rfl).trans ((qaE rfl y01 rfl).trans ((qaE rfl y02 (qa5 _ _)).trans ((qaE rfl y03 (qam _)).trans ((qaE rfl y04 (qa5 _ _)).trans ((qaE rfl y05 (qam _)).trans ((qbz rfl).trans ((qbz rfl).trans ((qbz rfl).trans ((qbz rfl).trans ((qbz rfl).trans ((qaE rfl y06 rfl).trans ((qaE rfl y07 (dn _)).trans ((qaE rfl yn (qam _)).trans (qbm _ _ _))))))))))))))
  have hcn:qbO Q 8 [.sl (11,0) 0 d.length none 1]=[(11,0)]:=qey rfl hch rfl
  refine qb3 hcn ?_
  simp (disch:=first|omega|decide|simp only[nmsB,lB]) only[simprocAttr,-rR,-rS,leB,memB,qaf,range_8,qa4,qar,qa9,qaY,qbr,qds,qbS,y00,y01,y02,y03,y04,y05,y06,y07,yn,qae,qac,qad,qab,qaa]
theorem clo46I_F (k n:Nat) (hn:n≤20) (la lb:List (BitVec 8)) (hla:la.length=16*(n+2)) (hlb:lb.length=16*(n+2)) (u:BitVec 64) (d:List (BitVec 8)) (h16:16≤d.length) (hd2:d.length≤65536) (hw:d.length % 16=0) :
    F C (k+5001) 48 [.ptr (0,0) 0,.ptr (0,6) 0,.ptr (0,7) 0] [[.ptr (0,1) 0],[.ptr (0,2) 0,.ptr (0,4) 0],CF (.sl (0,3) 0 (n+2) none 16) TB,bs la,CF (.sl (0,5) 0 (n+2) none 16) TB,bs lb,[B64 u],[.isl (bs d) d.length]]=some (.sl (1,0) 0 d.length none 1,[some ([.ptr (0,1) 0]),some ([.ptr (0,2) 0,.ptr (0,4) 0]),some (CF (.sl (0,3) 0 (n+2) none 16) TB),some (bs la),some (CF (.sl (0,5) 0 (n+2) none 16) TB),some (bs lb),some ([B64 u]),some ([.isl (bs d) d.length])],[bs (qbF (dec (kf la) n) (tw0 n lb u) d true)]):=by
  rw[qaL f48]
  generalize hG:qaZ [[.ptr (0,1) 0],[.ptr (0,2) 0,.ptr (0,4) 0],CF (.sl (0,3) 0 (n+2) none 16) TB,bs la,CF (.sl (0,5) 0 (n+2) none 16) TB,bs lb,[B64 u],[.isl (bs d) d.length]]=G
  have x00:G (0,0)=some ([.ptr (0,1) 0]):=by rw[←hG]; rfl
  have x01:G (0,1)=some ([.ptr (0,2) 0,.ptr (0,4) 0]):=by rw[←hG]; rfl
  have x02:G (0,2)=some (CF (.sl (0,3) 0 (n+2) none 16) TB):=by rw[←hG]; rfl
  have x03:G (0,3)=some (bs la):=by rw[←hG]; rfl
  have x04:G (0,4)=some (CF (.sl (0,5) 0 (n+2) none 16) TB):=by rw[←hG]; rfl
  have x05:G (0,5)=some (bs lb):=by rw[←hG]; rfl
  have x06:G (0,6)=some ([B64 u]):=by rw[←hG]; rfl
  have x07:G (0,7)=some ([.isl (bs d) d.length]):=by rw[←hG]; rfl
  have X:XG G (0,1) (0,2) (0,3) (0,4) (0,5) n la lb:=⟨x01,x02,x03,x04,x05,by decide⟩
  have X':XG (only [(0,1),(0,2),(0,3),(0,4),(0,5)] G) (0,1) (0,2) (0,3) (0,4) (0,5) n la lb:=⟨x01,x02,x03,x04,x05,by decide⟩
  have hre:qa2 G FUEL [] [(0,1),(0,2)]=[(0,1),(0,2),(0,3),(0,4),(0,5)]:=(qaE rfl x01 rfl).trans ((qaE rfl x02 (qa5 _ _)).trans ((qaE rfl x03 (qam _)).trans ((qaE rfl x04 (qa5 _ _)).trans ((qaE rfl x05 (qam _)).trans ((qbz rfl).trans (qbm _ _ _))))))
  have hc:∀ b,_:=fun b=>c_run k 49 n b hn (only [(0,1),(0,2),(0,3),(0,4),(0,5)] G) (0,1) (0,2) (0,3) (0,4) (0,5) la lb X' hlb (dec (kf la) n) (way_dec n hn la hla) u (.isl (bs d) d.length) d [] (qeZ _ _) (by decide) h16 hd2 hw true
  have ht:∀ v news,_:=fun v news=>X'.tr v news
  simp (disch:=first|omega|decide|simp only[nmsB,lB]) only[simprocAttr,-rR,-rS,leB,memB,arrB,numB,qaf,opsB,ordB,qaz,qak,qaF,L48,hG,op_fn,x00,x01,x02,x03,x04,x05,x06,x07,qeK,qa1,qaN,hre,hc,ht,zG,zQ,qac,qad,qab,qaa,qaq,qah]
  generalize hQ:upd G (11,0) (some (bs (qbF (dec (kf la) n) (tw0 n lb u) d true)))=Q
  have y00:Q (0,0)=some ([.ptr (0,1) 0]):=by rw[←hQ]; exact x00
  have y01:Q (0,1)=some ([.ptr (0,2) 0,.ptr (0,4) 0]):=by rw[←hQ]; exact x01
  have y02:Q (0,2)=some (CF (.sl (0,3) 0 (n+2) none 16) TB):=by rw[←hQ]; exact x02
  have y03:Q (0,3)=some (bs la):=by rw[←hQ]; exact x03
  have y04:Q (0,4)=some (CF (.sl (0,5) 0 (n+2) none 16) TB):=by rw[←hQ]; exact x04
  have y05:Q (0,5)=some (bs lb):=by rw[←hQ]; exact x05
  have y06:Q (0,6)=some ([B64 u]):=by rw[←hQ]; exact x06
  have y07:Q (0,7)=some ([.isl (bs d) d.length]):=by rw[←hQ]; exact x07
  have yn:Q (11,0)=some (bs (qbF (dec (kf la) n) (tw0 n lb u) d true)):=by rw[←hQ]; rfl
  have hch:qa2 Q FUEL [] [(0,0),(0,1),(0,2),(0,3),(0,4),(0,5),(0,6),(0,7),(11,0)]=[(0,0),(0,1),(0,2),(0,3),(0,4),(0,5),(0,6),(0,7),(11,0)]:=(qaE rfl y00 rfl).trans ((qaE rfl y01 rfl).trans ((qaE rfl y02 (qa5 _ _)).trans ((qaE rfl y03 (qam _)).trans ((qaE rfl y04 (qa5 _ _)).trans ((qaE rfl y05 (qam _)).trans ((qbz rfl).trans ((qbz rfl).trans ((qbz rfl).trans ((qbz rfl).trans ((qbz rfl).trans ((qaE rfl y06 rfl).trans ((qaE rfl y07 (dn _)).trans ((qaE rfl yn (qam _)).trans (qbm _ _ _))))))))))))))
  have hcn:qbO Q 8 [.sl (11,0) 0 d.length none 1]=[(11,0)]:=qey rfl hch rfl
  refine qb3 hcn ?_
  simp (disch:=first|omega|decide|simp only[nmsB,lB]) only[simprocAttr,-rR,-rS,leB,memB,qaf,range_8,qa4,qar,qa9,qaY,qbr,qds,qbS,y00,y01,y02,y03,y04,y05,y06,y07,yn,qae,qac,qad,qab,qaa]
end Aes
namespace Aes
open Go Go.LE Xf Tb
set_option maxRecDepth 20000
theorem unit43I_F (k n:Nat) (hn:n≤20) (la lb:List (BitVec 8)) (hla:la.length=16*(n+2)) (hlb:lb.length=16*(n+2)) (u:BitVec 64) (d:List (BitVec 8)) (h16:16≤d.length) (hd2:d.length≤65536) (hw:d.length % 16=0) :
    F C (k+5002) 33 [.ptr (0,0) 0,.isl (bs d) d.length,.fn (.func 34) [] [.ptr (0,5) 0,.ptr (0,6) 0,.ptr (0,7) 0]] [[.ptr (0,1) 0,.ptr (0,3) 0],CF (.sl (0,2) 0 (n+2) none 16) TB,bs la,CF (.sl (0,4) 0 (n+2) none 16) TB,bs lb,[.ptr (0,0) 0],[B64 u],[.isl (bs d) d.length]]=some (.tup [.sl (1,0) 0 d.length none 1,N 0],[some ([.ptr (0,1) 0,.ptr (0,3) 0]),some (CF (.sl (0,2) 0 (n+2) none 16) TB),some (bs la),some (CF (.sl (0,4) 0 (n+2) none 16) TB),some (bs lb),some ([.ptr (0,0) 0]),some ([B64 u]),some ([.isl (bs d) d.length])],[bs (qbF (enc (kf la) n) (tw0 n lb u) d false)]):=by
  rw[qaL f33]
  generalize hG:qaZ [[.ptr (0,1) 0,.ptr (0,3) 0],CF (.sl (0,2) 0 (n+2) none 16) TB,bs la,CF (.sl (0,4) 0 (n+2) none 16) TB,bs lb,[.ptr (0,0) 0],[B64 u],[.isl (bs d) d.length]]=G
  have x00:G (0,0)=some ([.ptr (0,1) 0,.ptr (0,3) 0]):=by rw[←hG]; rfl
  have x01:G (0,1)=some (CF (.sl (0,2) 0 (n+2) none 16) TB):=by rw[←hG]; rfl
  have x02:G (0,2)=some (bs la):=by rw[←hG]; rfl
  have x03:G (0,3)=some (CF (.sl (0,4) 0 (n+2) none 16) TB):=by rw[←hG]; rfl
  have x04:G (0,4)=some (bs lb):=by rw[←hG]; rfl
  have x05:G (0,5)=some ([.ptr (0,0) 0]):=by rw[←hG]; rfl
  have x06:G (0,6)=some ([B64 u]):=by rw[←hG]; rfl
  have x07:G (0,7)=some ([.isl (bs d) d.length]):=by rw[←hG]; rfl
  have hr:qa2 G FUEL [] [(0,5),(0,6),(0,7)]=[(0,5),(0,0),(0,1),(0,2),(0,3),(0,4),(0,6),(0,7)]:=(qaE rfl x05 rfl).trans ((qaE rfl x00 rfl).trans ((qaE rfl x01 (qa5 _ _)).trans ((qaE rfl x02 (qam _)).trans ((qaE rfl x03 (qa5 _ _)).trans ((qaE rfl x04 (qam _)).trans ((qaE rfl x06 rfl).trans ((qaE rfl x07 (dn _)).trans (qbm _ _ _))))))))
  have ho:(([(0,5),(0,0),(0,1),(0,2),(0,3),(0,4),(0,6),(0,7)]:List Nm).filterMap G).map (fun cs=>cs.map (ren D (qaM [(0,5),(0,0),(0,1),(0,2),(0,3),(0,4),(0,6),(0,7)])))=[[.ptr (0,1) 0],[.ptr (0,2) 0,.ptr (0,4) 0],CF (.sl (0,3) 0 (n+2) none 16) TB,bs la,CF (.sl (0,5) 0 (n+2) none 16) TB,bs lb,[B64 u],[.isl (bs d) d.length]]:=by
    rw[show ([(0,5),(0,0),(0,1),(0,2),(0,3),(0,4),(0,6),(0,7)]:List Nm).filterMap G=[[.ptr (0,0) 0],[.ptr (0,1) 0,.ptr (0,3) 0],CF (.sl (0,2) 0 (n+2) none 16) TB,bs la,CF (.sl (0,4) 0 (n+2) none 16) TB,bs lb,[B64 u],[.isl (bs d) d.length]] by simp only[List.filterMap_cons,zS,x00,x01,x02,x03,x04,x05,x06,x07]]
    simp only[zA,zB,qa4,qar,qa9]
    rfl
  have hc:∀ b,qaA (envC C (k+5001)) G b 34 [.ptr (0,5) 0,.ptr (0,6) 0,.ptr (0,7) 0]=some ⟨.sl (b,0) 0 d.length none 1,[bs (qbF (enc (kf la) n) (tw0 n lb u) d false)],[((0,5),some ([.ptr (0,0) 0])),((0,0),some ([.ptr (0,1) 0,.ptr (0,3) 0])),((0,1),some (CF (.sl (0,2) 0 (n+2) none 16) TB)),((0,2),some (bs la)),((0,3),some (CF (.sl (0,4) 0 (n+2) none 16) TB)),((0,4),some (bs lb)),((0,6),some ([B64 u])),((0,7),some ([.isl (bs d) d.length]))]⟩:=by
    intro b
    rw[qcG (k+5001) b 34 l34 G _ [.ptr (0,0) 0,.ptr (0,6) 0,.ptr (0,7) 0] [(0,5),(0,6),(0,7)] _ _ _ (by simp only[zI,zN,qb5,qa1,qaN,fn3_nms,zG,zQ,zD]) hr (by simp only[zA,zB,qa9] <;> rfl) ho (clo43I_F k n hn la lb hla hlb u d h16 hd2 hw),qaW]
    simp only[zA,zB,List.zipWith_cons_cons,List.zipWith_nil_left,zC,qa4,qar,qa9]
    rfl
  have hm:modN [((0,5),some ([.ptr (0,0) 0])),((0,0),some ([.ptr (0,1) 0,.ptr (0,3) 0])),((0,1),some (CF (.sl (0,2) 0 (n+2) none 16) TB)),((0,2),some (bs la)),((0,3),some (CF (.sl (0,4) 0 (n+2) none 16) TB)),((0,4),some (bs lb)),((0,6),some ([B64 u])),((0,7),some ([.isl (bs d) d.length]))] G=G:=by
    simp only[qb8,qcc,qa8 x07,qa8 x06,qa8 x04,qa8 x03,qa8 x02,qa8 x01,qa8 x00,qa8 x05]
  have hle:¬ d.length < 16:=by omega
  have hle2:¬ 65536 < d.length:=by omega
  have hpo:qbc 0 1 (some [.ptr (0,1) 0,.ptr (0,3) 0])=some [.ptr (0,1) 0]:=rfl
  simp (disch:=first|omega|decide|simp only[nmsB,lB]) only[simprocAttr,-rR,-rS,leB,memB,arrB,numB,qaf,opsB,ordB,qaz,qak,qaF,L33,hG,x00,x01,x02,x03,x04,x05,x06,x07,hle,hle2,eqp_ptr,callV_fn3,hc,hm,qac,qad,qab,qaa,qaq,qah]
  generalize hQ:upd G (24,0) (some (bs (qbF (enc (kf la) n) (tw0 n lb u) d false)))=Q
  have y00:Q (0,0)=some ([.ptr (0,1) 0,.ptr (0,3) 0]):=by rw[←hQ]; exact x00
  have y01:Q (0,1)=some (CF (.sl (0,2) 0 (n+2) none 16) TB):=by rw[←hQ]; exact x01
  have y02:Q (0,2)=some (bs la):=by rw[←hQ]; exact x02
  have y03:Q (0,3)=some (CF (.sl (0,4) 0 (n+2) none 16) TB):=by rw[←hQ]; exact x03
  have y04:Q (0,4)=some (bs lb):=by rw[←hQ]; exact x04
  have y05:Q (0,5)=some ([.ptr (0,0) 0]):=by rw[←hQ]; exact x05
  have y06:Q (0,6)=some ([B64 u]):=by rw[←hQ]; exact x06
  have y07:Q (0,7)=some ([.isl (bs d) d.length]):=by rw[←hQ]; exact x07
  have yn:Q (24,0)=some (bs (qbF (enc (kf la) n) (tw0 n lb u) d false)):=by rw[←hQ]; rfl
  have hch:qa2 Q FUEL [] [(0,0),(0,1),(0,2),(0,3),(0,4),(0,5),(0,6),(0,7),(24,0)]=[(0,0),(0,1),(0,2),(0,3),(0,4),(0,5),(0,6),(0,7),(24,0)]:=(qaE rfl y00 rfl).trans ((qaE rfl y01 (qa5 _ _)).trans ((qaE rfl y02 (qam _)).trans ((qaE rfl y03 (qa5 _ _)).trans ((qaE rfl y04 (qam _)).trans ((qbz rfl).trans ((qbz rfl).trans ((qbz rfl).trans ((qbz rfl).trans ((qaE rfl y05 rfl).trans ((qbz rfl).trans ((qaE rfl y06 rfl).trans ((qaE rfl y07 (dn _)).trans ((qaE rfl yn (qam _)).trans (qbm _ _ _))))))))))))))
  have hcn:qbO Q 8 [.tup [.sl (24,0) 0 d.length none 1,N 0]]=[(24,0)]:=qey rfl hch rfl
  refine qb3 hcn ?_
  simp (disch:=first|omega|decide|simp only[nmsB,lB]) only[simprocAttr,-rR,-rS,leB,memB,qaf,range_8,qa4,qar,qa9,qaY,qbr,qds,qbS,y00,y01,y02,y03,y04,y05,y06,y07,yn,qae,qac,qad,qab,qaa]
  rfl
theorem unit46I_F (k n:Nat) (hn:n≤20) (la lb:List (BitVec 8)) (hla:la.length=16*(n+2)) (hlb:lb.length=16*(n+2)) (u:BitVec 64) (d:List (BitVec 8)) (h16:16≤d.length) (hd2:d.length≤65536) (hw:d.length % 16=0) :
    F C (k+5002) 33 [.ptr (0,0) 0,.isl (bs d) d.length,.fn (.func 48) [] [.ptr (0,5) 0,.ptr (0,6) 0,.ptr (0,7) 0]] [[.ptr (0,1) 0,.ptr (0,3) 0],CF (.sl (0,2) 0 (n+2) none 16) TB,bs la,CF (.sl (0,4) 0 (n+2) none 16) TB,bs lb,[.ptr (0,0) 0],[B64 u],[.isl (bs d) d.length]]=some (.tup [.sl (1,0) 0 d.length none 1,N 0],[some ([.ptr (0,1) 0,.ptr (0,3) 0]),some (CF (.sl (0,2) 0 (n+2) none 16) TB),some (bs la),some (CF (.sl (0,4) 0 (n+2) none 16) TB),some (bs lb),some ([.ptr (0,0) 0]),some ([B64 u]),some ([.isl (bs d) d.length])],[bs (qbF (dec (kf la) n) (tw0 n lb u) d true)]):=by
  rw[qaL f33]
  generalize hG:qaZ [[.ptr (0,1) 0,.ptr (0,3) 0],CF (.sl (0,2) 0 (n+2) none 16) TB,bs la,CF (.sl (0,4) 0 (n+2) none 16) TB,bs lb,[.ptr (0,0) 0],[B64 u],[.isl (bs d) d.length]]=G
  have x00:G (0,0)=some ([.ptr (0,1) 0,.ptr (0,3) 0]):=by rw[←hG]; rfl
  have x01:G (0,1)=some (CF (.sl (0,2) 0 (n+2) none 16) TB):=by rw[←hG]; rfl
  have x02:G (0,2)=some (bs la):=by rw[←hG]; rfl
  have x03:G (0,3)=some (CF (.sl (0,4) 0 (n+2) none 16) TB):=by rw[←hG]; rfl
  have x04:G (0,4)=some (bs lb):=by rw[←hG]; rfl
  have x05:G (0,5)=some ([.ptr (0,0) 0]):=by rw[←hG]; rfl
  have x06:G (0,6)=some ([B64 u]):=by rw[←hG]; rfl
  have x07:G (0,7)=some ([.isl (bs d) d.length]):=by rw[←hG]; rfl
  have hr:qa2 G FUEL [] [(0,5),(0,6),(0,7)]=[(0,5),(0,0),(0,1),(0,2),(0,3),(0,4),(0,6),(0,7)]:=(qaE rfl x05 rfl).trans ((qaE rfl x00 rfl).trans ((qaE rfl x01 (qa5 _ _)).trans ((qaE rfl x02 (qam _)).trans ((qaE rfl x03 (qa5 _ _)).trans ((qaE rfl x04 (qam _)).trans ((qaE rfl x06 rfl).trans ((qaE rfl x07 (dn _)).trans (qbm _ _ _))))))))
  have ho:(([(0,5),(0,0),(0,1),(0,2),(0,3),(0,4),(0,6),(0,7)]:List Nm).filterMap G).map (fun cs=>cs.map (ren D (qaM [(0,5),(0,0),(0,1),(0,2),(0,3),(0,4),(0,6),(0,7)])))=[[.ptr (0,1) 0],[.ptr (0,2) 0,.ptr (0,4) 0],CF (.sl (0,3) 0 (n+2) none 16) TB,bs la,CF (.sl (0,5) 0 (n+2) none 16) TB,bs lb,[B64 u],[.isl (bs d) d.length]]:=by
    rw[show ([(0,5),(0,0),(0,1),(0,2),(0,3),(0,4),(0,6),(0,7)]:List Nm).filterMap G=[[.ptr (0,0) 0],[.ptr (0,1) 0,.ptr (0,3) 0],CF (.sl (0,2) 0 (n+2) none 16) TB,bs la,CF (.sl (0,4) 0 (n+2) none 16) TB,bs lb,[B64 u],[.isl (bs d) d.length]] by simp only[List.filterMap_cons,zS,x00,x01,x02,x03,x04,x05,x06,x07]]
    simp only[zA,zB,qa4,qar,qa9]
    rfl
  have hc:∀ b,qaA (envC C (k+5001)) G b 48 [.ptr (0,5) 0,.ptr (0,6) 0,.ptr (0,7) 0]=some ⟨.sl (b,0) 0 d.length none 1,[bs (qbF (dec (kf la) n) (tw0 n lb u) d true)],[((0,5),some ([.ptr (0,0) 0])),((0,0),some ([.ptr (0,1) 0,.ptr (0,3) 0])),((0,1),some (CF (.sl (0,2) 0 (n+2) none 16) TB)),((0,2),some (bs la)),((0,3),some (CF (.sl (0,4) 0 (n+2) none 16) TB)),((0,4),some (bs lb)),((0,6),some ([B64 u])),((0,7),some ([.isl (bs d) d.length]))]⟩:=by
    intro b
    rw[qcG (k+5001) b 48 l48 G _ [.ptr (0,0) 0,.ptr (0,6) 0,.ptr (0,7) 0] [(0,5),(0,6),(0,7)] _ _ _ (by simp only[zI,zN,qb5,qa1,qaN,fn3_nms,zG,zQ,zD]) hr (by simp only[zA,zB,qa9] <;> rfl) ho (clo46I_F k n hn la lb hla hlb u d h16 hd2 hw),qaW]
    simp only[zA,zB,List.zipWith_cons_cons,List.zipWith_nil_left,zC,qa4,qar,qa9]
    rfl
  have hm:modN [((0,5),some ([.ptr (0,0) 0])),((0,0),some ([.ptr (0,1) 0,.ptr (0,3) 0])),((0,1),some (CF (.sl (0,2) 0 (n+2) none 16) TB)),((0,2),some (bs la)),((0,3),some (CF (.sl (0,4) 0 (n+2) none 16) TB)),((0,4),some (bs lb)),((0,6),some ([B64 u])),((0,7),some ([.isl (bs d) d.length]))] G=G:=by
    simp only[qb8,qcc,qa8 x07,qa8 x06,qa8 x04,qa8 x03,qa8 x02,qa8 x01,qa8 x00,qa8 x05]
  have hle:¬ d.length < 16:=by omega
  have hle2:¬ 65536 < d.length:=by omega
  have hpo:qbc 0 1 (some [.ptr (0,1) 0,.ptr (0,3) 0])=some [.ptr (0,1) 0]:=rfl
  simp (disch:=first|omega|decide|simp only[nmsB,lB]) only[simprocAttr,-rR,-rS,leB,memB,arrB,numB,qaf,opsB,ordB,qaz,qak,qaF,L33,hG,x00,x01,x02,x03,x04,x05,x06,x07,hle,hle2,eqp_ptr,callV_fn3,hc,hm,qac,qad,qab,qaa,qaq,qah]
  generalize hQ:upd G (24,0) (some (bs (qbF (dec (kf la) n) (tw0 n lb u) d true)))=Q
  have y00:Q (0,0)=some ([.ptr (0,1) 0,.ptr (0,3) 0]):=by rw[←hQ]; exact x00
  have y01:Q (0,1)=some (CF (.sl (0,2) 0 (n+2) none 16) TB):=by rw[←hQ]; exact x01
  have y02:Q (0,2)=some (bs la):=by rw[←hQ]; exact x02
  have y03:Q (0,3)=some (CF (.sl (0,4) 0 (n+2) none 16) TB):=by rw[←hQ]; exact x03
  have y04:Q (0,4)=some (bs lb):=by rw[←hQ]; exact x04
  have y05:Q (0,5)=some ([.ptr (0,0) 0]):=by rw[←hQ]; exact x05
  have y06:Q (0,6)=some ([B64 u]):=by rw[←hQ]; exact x06
  have y07:Q (0,7)=some ([.isl (bs d) d.length]):=by rw[←hQ]; exact x07
  have yn:Q (24,0)=some (bs (qbF (dec (kf la) n) (tw0 n lb u) d true)):=by rw[←hQ]; rfl
  have hch:qa2 Q FUEL [] [(0,0),(0,1),(0,2),(0,3),(0,4),(0,5),(0,6),(0,7),(24,0)]=[(0,0),(0,1),(0,2),(0,3),(0,4),(0,5),(0,6),(0,7),(24,0)]:=(qaE rfl y00 rfl).trans ((qaE rfl y01 (qa5 _ _)).trans ((qaE rfl y02 (qam _)).trans ((qaE rfl y03 (qa5 _ _)).trans ((qaE rfl y04 (qam _)).trans ((qbz rfl).trans ((qbz rfl).trans ((qbz rfl).trans ((qbz rfl).trans ((qaE rfl y05 rfl).trans ((qbz rfl).trans ((qaE rfl y06 rfl).trans ((qaE rfl y07 (dn _)).trans ((qaE rfl yn (qam _)).trans (qbm _ _ _))))))))))))))
  have hcn:qbO Q 8 [.tup [.sl (24,0) 0 d.length none 1,N 0]]=[(24,0)]:=qey rfl hch rfl
  refine qb3 hcn ?_
  simp (disch:=first|omega|decide|simp only[nmsB,lB]) only[simprocAttr,-rR,-rS,leB,memB,qaf,range_8,qa4,qar,qa9,qaY,qbr,qds,qbS,y00,y01,y02,y03,y04,y05,y06,y07,yn,qae,qac,qad,qab,qaa]
  rfl
end Aes
namespace Aes
open Go Go.LE Xf Tb
set_option maxRecDepth 20000
theorem encr23I_F (k n:Nat) (hn:n≤20) (la lb:List (BitVec 8)) (hla:la.length=16*(n+2)) (hlb:lb.length=16*(n+2)) (u:BitVec 64) (d:List (BitVec 8)) (h16:16≤d.length) (hd2:d.length≤65536) (hw:d.length % 16=0) :
    F C (k+5003) 16 [.ptr (0,0) 0,B64 u,.isl (bs d) d.length] [[.ptr (0,1) 0,.ptr (0,3) 0],CF (.sl (0,2) 0 (n+2) none 16) TB,bs la,CF (.sl (0,4) 0 (n+2) none 16) TB,bs lb]=some (.tup [.sl (1,0) 0 d.length none 1,N 0],[some ([.ptr (0,1) 0,.ptr (0,3) 0]),some (CF (.sl (0,2) 0 (n+2) none 16) TB),some (bs la),some (CF (.sl (0,4) 0 (n+2) none 16) TB),some (bs lb)],[bs (qbF (enc (kf la) n) (tw0 n lb u) d false)]):=by
  rw[qaL f16]
  generalize hG:upd (upd (upd (qaZ [[.ptr (0,1) 0,.ptr (0,3) 0],CF (.sl (0,2) 0 (n+2) none 16) TB,bs la,CF (.sl (0,4) 0 (n+2) none 16) TB,bs lb]) (2,0) (some [.ptr (0,0) 0])) (3,0) (some [B64 u])) (4,0) (some [.isl (bs d) d.length])=G
  have x00:G (0,0)=some ([.ptr (0,1) 0,.ptr (0,3) 0]):=by rw[←hG]; rfl
  have x01:G (0,1)=some (CF (.sl (0,2) 0 (n+2) none 16) TB):=by rw[←hG]; rfl
  have x02:G (0,2)=some (bs la):=by rw[←hG]; rfl
  have x03:G (0,3)=some (CF (.sl (0,4) 0 (n+2) none 16) TB):=by rw[←hG]; rfl
  have x04:G (0,4)=some (bs lb):=by rw[←hG]; rfl
  have x20:G (2,0)=some ([.ptr (0,0) 0]):=by rw[←hG]; rfl
  have x30:G (3,0)=some ([B64 u]):=by rw[←hG]; rfl
  have x40:G (4,0)=some ([.isl (bs d) d.length]):=by rw[←hG]; rfl
  have hr:qa2 G FUEL [] [(0,0),(2,0),(3,0),(4,0)]=[(0,0),(0,1),(0,2),(0,3),(0,4),(2,0),(3,0),(4,0)]:=(qaE rfl x00 rfl).trans ((qaE rfl x01 (qa5 _ _)).trans ((qaE rfl x02 (qam _)).trans ((qaE rfl x03 (qa5 _ _)).trans ((qaE rfl x04 (qam _)).trans ((qaE rfl x20 rfl).trans ((qbz rfl).trans ((qaE rfl x30 rfl).trans ((qaE rfl x40 (dn _)).trans (qbm _ _ _)))))))))
  have ho:(([(0,0),(0,1),(0,2),(0,3),(0,4),(2,0),(3,0),(4,0)]:List Nm).filterMap G).map (fun cs=>cs.map (ren D (qaM [(0,0),(0,1),(0,2),(0,3),(0,4),(2,0),(3,0),(4,0)])))=[[.ptr (0,1) 0,.ptr (0,3) 0],CF (.sl (0,2) 0 (n+2) none 16) TB,bs la,CF (.sl (0,4) 0 (n+2) none 16) TB,bs lb,[.ptr (0,0) 0],[B64 u],[.isl (bs d) d.length]]:=by
    rw[show ([(0,0),(0,1),(0,2),(0,3),(0,4),(2,0),(3,0),(4,0)]:List Nm).filterMap G=[[.ptr (0,1) 0,.ptr (0,3) 0],CF (.sl (0,2) 0 (n+2) none 16) TB,bs la,CF (.sl (0,4) 0 (n+2) none 16) TB,bs lb,[.ptr (0,0) 0],[B64 u],[.isl (bs d) d.length]] by simp only[List.filterMap_cons,zS,x00,x01,x02,x03,x04,x20,x30,x40]]
    simp only[zA,zB,qa4,qar,qa9]
    rfl
  have hc:∀ b,qaA (envC C (k+5002)) G b 33 [.ptr (0,0) 0,.isl (bs d) d.length,.fn (.func 34) [] [.ptr (2,0) 0,.ptr (3,0) 0,.ptr (4,0) 0]]=some ⟨.tup [.sl (b,0) 0 d.length none 1,N 0],[bs (qbF (enc (kf la) n) (tw0 n lb u) d false)],[((0,0),some ([.ptr (0,1) 0,.ptr (0,3) 0])),((0,1),some (CF (.sl (0,2) 0 (n+2) none 16) TB)),((0,2),some (bs la)),((0,3),some (CF (.sl (0,4) 0 (n+2) none 16) TB)),((0,4),some (bs lb)),((2,0),some ([.ptr (0,0) 0])),((3,0),some ([B64 u])),((4,0),some ([.isl (bs d) d.length]))]⟩:=by
    intro b
    rw[qcG (k+5002) b 33 l33 G _ [.ptr (0,0) 0,.isl (bs d) d.length,.fn (.func 34) [] [.ptr (0,5) 0,.ptr (0,6) 0,.ptr (0,7) 0]] [(0,0),(2,0),(3,0),(4,0)] _ _ _ (by simp only[zI,zN,qb5,qa1,qaN,fn3_nms,zG,zQ,zD]) hr (by simp only[zA,zB,qa9] <;> rfl) ho (unit43I_F k n hn la lb hla hlb u d h16 hd2 hw),qaW]
    simp only[zA,zB,List.zipWith_cons_cons,List.zipWith_nil_left,zC,qa4,qar,qa9]
    rfl
  have hm:modN [((0,0),some ([.ptr (0,1) 0,.ptr (0,3) 0])),((0,1),some (CF (.sl (0,2) 0 (n+2) none 16) TB)),((0,2),some (bs la)),((0,3),some (CF (.sl (0,4) 0 (n+2) none 16) TB)),((0,4),some (bs lb)),((2,0),some ([.ptr (0,0) 0])),((3,0),some ([B64 u])),((4,0),some ([.isl (bs d) d.length]))] G=G:=by
    simp only[qb8,qcc,qa8 x40,qa8 x30,qa8 x20,qa8 x04,qa8 x03,qa8 x02,qa8 x01,qa8 x00]
  simp (disch:=first|omega|decide|simp only[nmsB,lB]) only[simprocAttr,-rR,-rS,leB,memB,arrB,numB,qaf,opsB,ordB,qaz,qak,qaF,L16,hG,op_fn,x00,x01,x02,x03,x04,x20,x30,x40,hc,hm,qgK,qac,qad,qab,qaa,qaq,qah]
  generalize hQ:upd G (10,0) (some (bs (qbF (enc (kf la) n) (tw0 n lb u) d false)))=Q
  have y00:Q (0,0)=some ([.ptr (0,1) 0,.ptr (0,3) 0]):=by rw[←hQ]; exact x00
  have y01:Q (0,1)=some (CF (.sl (0,2) 0 (n+2) none 16) TB):=by rw[←hQ]; exact x01
  have y02:Q (0,2)=some (bs la):=by rw[←hQ]; exact x02
  have y03:Q (0,3)=some (CF (.sl (0,4) 0 (n+2) none 16) TB):=by rw[←hQ]; exact x03
  have y04:Q (0,4)=some (bs lb):=by rw[←hQ]; exact x04
  have y20:Q (2,0)=some ([.ptr (0,0) 0]):=by rw[←hQ]; exact x20
  have y30:Q (3,0)=some ([B64 u]):=by rw[←hQ]; exact x30
  have y40:Q (4,0)=some ([.isl (bs d) d.length]):=by rw[←hQ]; exact x40
  have yn:Q (10,0)=some (bs (qbF (enc (kf la) n) (tw0 n lb u) d false)):=by rw[←hQ]; rfl
  have hch:qa2 Q FUEL [] [(0,0),(0,1),(0,2),(0,3),(0,4),(10,0)]=[(0,0),(0,1),(0,2),(0,3),(0,4),(10,0)]:=(qaE rfl y00 rfl).trans ((qaE rfl y01 (qa5 _ _)).trans ((qaE rfl y02 (qam _)).trans ((qaE rfl y03 (qa5 _ _)).trans ((qaE rfl y04 (qam _)).trans ((qbz rfl).trans ((qbz rfl).trans ((qbz rfl).trans ((qbz rfl).trans ((qaE rfl yn (qam _)).trans (qbm _ _ _))))))))))
  have hcn:qbO Q 5 [.tup [.sl (10,0) 0 d.length none 1,N 0]]=[(10,0)]:=qey rfl hch rfl
  refine qb3 hcn ?_
  simp (disch:=first|omega|decide|simp only[nmsB,lB]) only[simprocAttr,-rR,-rS,leB,memB,qaf,qbn,qa4,qar,qa9,qaY,qbr,qds,qbS,y00,y01,y02,y03,y04,yn,qae,qac,qad,qab,qaa]
  rfl
theorem encr26I_F (k n:Nat) (hn:n≤20) (la lb:List (BitVec 8)) (hla:la.length=16*(n+2)) (hlb:lb.length=16*(n+2)) (u:BitVec 64) (d:List (BitVec 8)) (h16:16≤d.length) (hd2:d.length≤65536) (hw:d.length % 16=0) :
    F C (k+5003) 26 [.ptr (0,0) 0,B64 u,.isl (bs d) d.length] [[.ptr (0,1) 0,.ptr (0,3) 0],CF (.sl (0,2) 0 (n+2) none 16) TB,bs la,CF (.sl (0,4) 0 (n+2) none 16) TB,bs lb]=some (.tup [.sl (1,0) 0 d.length none 1,N 0],[some ([.ptr (0,1) 0,.ptr (0,3) 0]),some (CF (.sl (0,2) 0 (n+2) none 16) TB),some (bs la),some (CF (.sl (0,4) 0 (n+2) none 16) TB),some (bs lb)],[bs (qbF (dec (kf la) n) (tw0 n lb u) d true)]):=by
  rw[qaL f26]
  generalize hG:upd (upd (upd (qaZ [[.ptr (0,1) 0,.ptr (0,3) 0],CF (.sl (0,2) 0 (n+2) none 16) TB,bs la,CF (.sl (0,4) 0 (n+2) none 16) TB,bs lb]) (2,0) (some [.ptr (0,0) 0])) (3,0) (some [B64 u])) (4,0) (some [.isl (bs d) d.length])=G
  have x00:G (0,0)=some ([.ptr (0,1) 0,.ptr (0,3) 0]):=by rw[←hG]; rfl
  have x01:G (0,1)=some (CF (.sl (0,2) 0 (n+2) none 16) TB):=by rw[←hG]; rfl
  have x02:G (0,2)=some (bs la):=by rw[←hG]; rfl
  have x03:G (0,3)=some (CF (.sl (0,4) 0 (n+2) none 16) TB):=by rw[←hG]; rfl
  have x04:G (0,4)=some (bs lb):=by rw[←hG]; rfl
  have x20:G (2,0)=some ([.ptr (0,0) 0]):=by rw[←hG]; rfl
  have x30:G (3,0)=some ([B64 u]):=by rw[←hG]; rfl
  have x40:G (4,0)=some ([.isl (bs d) d.length]):=by rw[←hG]; rfl
  have hr:qa2 G FUEL [] [(0,0),(2,0),(3,0),(4,0)]=[(0,0),(0,1),(0,2),(0,3),(0,4),(2,0),(3,0),(4,0)]:=(qaE rfl x00 rfl).trans ((qaE rfl x01 (qa5 _ _)).trans ((qaE rfl x02 (qam _)).trans ((qaE rfl x03 (qa5 _ _)).trans ((qaE rfl x04 (qam _)).trans ((qaE rfl x20 rfl).trans ((qbz rfl).trans ((qaE rfl x30 rfl).trans ((qaE rfl x40 (dn _)).trans (qbm _ _ _)))))))))
  have ho:(([(0,0),(0,1),(0,2),(0,3),(0,4),(2,0),(3,0),(4,0)]:List Nm).filterMap G).map (fun cs=>cs.map (ren D (qaM [(0,0),(0,1),(0,2),(0,3),(0,4),(2,0),(3,0),(4,0)])))=[[.ptr (0,1) 0,.ptr (0,3) 0],CF (.sl (0,2) 0 (n+2) none 16) TB,bs la,CF (.sl (0,4) 0 (n+2) none 16) TB,bs lb,[.ptr (0,0) 0],[B64 u],[.isl (bs d) d.length]]:=by
    rw[show ([(0,0),(0,1),(0,2),(0,3),(0,4),(2,0),(3,0),(4,0)]:List Nm).filterMap G=[[.ptr (0,1) 0,.ptr (0,3) 0],CF (.sl (0,2) 0 (n+2) none 16) TB,bs la,CF (.sl (0,4) 0 (n+2) none 16) TB,bs lb,[.ptr (0,0) 0],[B64 u],[.isl (bs d) d.length]] by simp only[List.filterMap_cons,zS,x00,x01,x02,x03,x04,x20,x30,x40]]
    simp only[zA,zB,qa4,qar,qa9]
    rfl
  have hc:∀ b,qaA (envC C (k+5002)) G b 33 [.ptr (0,0) 0,.isl (bs d) d.length,.fn (.func 48) [] [.ptr (2,0) 0,.ptr (3,0) 0,.ptr (4,0) 0]]=some ⟨.tup [.sl (b,0) 0 d.length none 1,N 0],[bs (qbF (dec (kf la) n) (tw0 n lb u) d true)],[((0,0),some ([.ptr (0,1) 0,.ptr (0,3) 0])),((0,1),some (CF (.sl (0,2) 0 (n+2) none 16) TB)),((0,2),some (bs la)),((0,3),some (CF (.sl (0,4) 0 (n+2) none 16) TB)),((0,4),some (bs lb)),((2,0),some ([.ptr (0,0) 0])),((3,0),some ([B64 u])),((4,0),some ([.isl (bs d) d.length]))]⟩:=by
    intro b
    rw[qcG (k+5002) b 33 l33 G _ [.ptr (0,0) 0,.isl (bs d) d.length,.fn (.func 48) [] [.ptr (0,5) 0,.ptr (0,6) 0,.ptr (0,7) 0]] [(0,0),(2,0),(3,0),(4,0)] _ _ _ (by simp only[zI,zN,qb5,qa1,qaN,fn3_nms,zG,zQ,zD]) hr (by simp only[zA,zB,qa9] <;> rfl) ho (unit46I_F k n hn la lb hla hlb u d h16 hd2 hw),qaW]
    simp only[zA,zB,List.zipWith_cons_cons,List.zipWith_nil_left,zC,qa4,qar,qa9]
    rfl
  have hm:modN [((0,0),some ([.ptr (0,1) 0,.ptr (0,3) 0])),((0,1),some (CF (.sl (0,2) 0 (n+2) none 16) TB)),((0,2),some (bs la)),((0,3),some (CF (.sl (0,4) 0 (n+2) none 16) TB)),((0,4),some (bs lb)),((2,0),some ([.ptr (0,0) 0])),((3,0),some ([B64 u])),((4,0),some ([.isl (bs d) d.length]))] G=G:=by
    simp only[qb8,qcc,qa8 x40,qa8 x30,qa8 x20,qa8 x04,qa8 x03,qa8 x02,qa8 x01,qa8 x00]
  simp (disch:=first|omega|decide|simp only[nmsB,lB]) only[simprocAttr,-rR,-rS,leB,memB,arrB,numB,qaf,opsB,ordB,qaz,qak,qaF,L26,hG,op_fn,x00,x01,x02,x03,x04,x20,x30,x40,hc,hm,qgK,qac,qad,qab,qaa,qaq,qah]
  generalize hQ:upd G (10,0) (some (bs (qbF (dec (kf la) n) (tw0 n lb u) d true)))=Q
  have y00:Q (0,0)=some ([.ptr (0,1) 0,.ptr (0,3) 0]):=by rw[←hQ]; exact x00
  have y01:Q (0,1)=some (CF (.sl (0,2) 0 (n+2) none 16) TB):=by rw[←hQ]; exact x01
  have y02:Q (0,2)=some (bs la):=by rw[←hQ]; exact x02
  have y03:Q (0,3)=some (CF (.sl (0,4) 0 (n+2) none 16) TB):=by rw[←hQ]; exact x03
  have y04:Q (0,4)=some (bs lb):=by rw[←hQ]; exact x04
  have y20:Q (2,0)=some ([.ptr (0,0) 0]):=by rw[←hQ]; exact x20
  have y30:Q (3,0)=some ([B64 u]):=by rw[←hQ]; exact x30
  have y40:Q (4,0)=some ([.isl (bs d) d.length]):=by rw[←hQ]; exact x40
  have yn:Q (10,0)=some (bs (qbF (dec (kf la) n) (tw0 n lb u) d true)):=by rw[←hQ]; rfl
  have hch:qa2 Q FUEL [] [(0,0),(0,1),(0,2),(0,3),(0,4),(10,0)]=[(0,0),(0,1),(0,2),(0,3),(0,4),(10,0)]:=(qaE rfl y00 rfl).trans ((qaE rfl y01 (qa5 _ _)).trans ((qaE rfl y02 (qam _)).trans ((qaE rfl y03 (qa5 _ _)).trans ((qaE rfl y04 (qam _)).trans ((qbz rfl).trans ((qbz rfl).trans ((qbz rfl).trans ((qbz rfl).trans ((qaE rfl yn (qam _)).trans (qbm _ _ _))))))))))
  have hcn:qbO Q 5 [.tup [.sl (10,0) 0 d.length none 1,N 0]]=[(10,0)]:=qey rfl hch rfl
  refine qb3 hcn ?_
  simp (disch:=first|omega|decide|simp only[nmsB,lB]) only[simprocAttr,-rR,-rS,leB,memB,qaf,qbn,qa4,qar,qa9,qaY,qbr,qds,qbS,y00,y01,y02,y03,y04,yn,qae,qac,qad,qab,qaa]
  rfl
end Aes
namespace Aes
open Go Go.LE Xf Tb
set_option maxRecDepth 20000
theorem c_enI (K g n base:Nat) (hg:qaJ g=fun _=>false) (H:Heap) (p a ka b kb:Nm) (la lb:List (BitVec 8)) (X:XG H p a ka b kb n la lb) (u:BitVec 64) (d R0:List (BitVec 8)) (len:Nat)
    (hF:F C K g [.ptr (0,0) 0,B64 u,.isl (bs d) d.length] [PO,KA 2 n,bs la,KA 4 n,bs lb]=some (.tup [.sl (1,0) 0 len none 1,N 0],[some PO,some (KA 2 n),some (bs la),some (KA 4 n),some (bs lb)],[bs R0])) :
    qaA (envC C K) H base g [.ptr p 0,B64 u,.isl (bs d) d.length]=some ⟨.tup [.sl (base,0) 0 len none 1,N 0],[bs R0],modX p a ka b kb n la lb⟩:=by
  obtain ⟨c0,c1,c2,c3,c4⟩:=X.cee
  have hr:Go.LE.qa2 H FUEL [] [p]=[p,a,ka,b,kb]:=X.reach
  have ho:([p,a,ka,b,kb].filterMap H).map (fun cs=>cs.map (ren D (qaM [p,a,ka,b,kb])))=[PO,KA 2 n,bs la,KA 4 n,bs lb]:=by
    simp only[List.filterMap_cons,zS,X.hp,X.ha,X.hka,X.hb,X.hkb,zA,zB,qbr,c1,c3,qbw,qa4,qaY,c2,c4,qbj,qar,PO,KA]
  rw[qcG K base g hg H _ [.ptr (0,0) 0,B64 u,.isl (bs d) d.length] [p] _ _ _ (by simp only[zI,zN,qb5,qfr,qa1,qaN,zG,zQ,zD]) hr (by simp only[zA,zB,qbr,qaY,c0,qbw,qbj,qds,qa9]) ho hF,qaW]
  simp only[PO,KA,modX,List.zipWith_cons_cons,List.zipWith_nil_left,zC,zA,zB,qbr,qaY,qa4,qar,qcL,qbs,List.getElem?_cons_zero,List.getElem?_cons_succ,qbw,qbj,zH,zM,zO,Nat.lt_one_iff,qbS,zQ,zG]
  rfl
end Aes
