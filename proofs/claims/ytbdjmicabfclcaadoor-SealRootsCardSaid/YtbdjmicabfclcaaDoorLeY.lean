/- Doubling a tweak, evaluated. -/
import Derived.Test.YtbdjmicabfclcaaDoorLeX
set_option linter.unusedVariables false
set_option linter.unusedSimpArgs false
open List renaming reduceReplicate → rR
open Nat renaming reduceSubDiff → rS
namespace Xf
open Go Go.LE Aes Tb
theorem double_F (k:Nat) (lo hi:BitVec 64):F C (k+1) 78 [Hf lo hi] []=some (Hf (lo <<< 1 ^^^ (hi >>> 63)*135#64) (hi <<< 1 ||| lo >>> 63),[],[]):=by
  rw[qaK f78]
  simp (disch:=first|omega|decide|simp only[nmsB,lB]) only[simprocAttr,-rR,-rS,leB,qaf,memB,L78,qae,qad,qac,qaa,qab]
def lo (x:BitVec 128):BitVec 64:=x.setWidth 64
def hi (x:BitVec 128):BitVec 64:=(x >>> 64).setWidth 64
def hc (x:BitVec 128):qak:=[B64 (lo x),B64 (hi x)]
theorem lo_bit (x:BitVec 128) (i:Nat):(lo x).getLsbD i=(decide (i < 64) && x.getLsbD i):=by simp[lo,BitVec.getLsbD_setWidth]
theorem hi_bit (x:BitVec 128) (i:Nat):(hi x).getLsbD i=(decide (i < 64) && x.getLsbD (64+i)):=by simp[hi,BitVec.getLsbD_setWidth,BitVec.getLsbD_ushiftRight]
theorem lo_xor (x y:BitVec 128):lo x ^^^ lo y=lo (x ^^^ y):=by simp[lo]
theorem dbl_lo (x:BitVec 128):lo x <<< 1 ^^^ (hi x >>> 63)*135#64=lo (GF.dbl 135#128 x):=by
  have ht:hi x >>> 63=if x.getLsbD 127=true then 1#64 else 0#64:=by
    have bit:∀ i,(hi x >>> 63).getLsbD i=(decide (i=0) && x.getLsbD 127):=by
      intro i
      rw[BitVec.getLsbD_ushiftRight,hi_bit]
      by_cases h0:i=0
      · subst h0; rfl
      · have h1 : ¬ 63 + i < 64 := by omega
        rw[decide_eq_false h0,decide_eq_false h1,Bool.false_and,Bool.false_and]
    apply BitVec.eq_of_getLsbD_eq; intro i h
    rw[bit]
    by_cases hx:x.getLsbD 127=true
    · rw[if_pos hx,hx,BitVec.getLsbD_one]; simp
    · have hx' : x.getLsbD 127 = false := by simpa using hx
      rw[if_neg hx,hx']; simp
  unfold GF.dbl
  rw[ht,←lo_xor]
  congr 1
  · apply BitVec.eq_of_getLsbD_eq; intro i h
    simp only[BitVec.getLsbD_shiftLeft,lo_bit,h,decide_true,Bool.true_and]
    have h1:i < 128:=by omega
    have h2:i - 1 < 64:=by omega
    simp[h1,h2]
  · by_cases hx : x.getLsbD 127 = true
    · rw[if_pos hx,if_pos hx]; rfl
    · rw[if_neg hx,if_neg hx]; rfl
theorem dbl_hi (x:BitVec 128):hi x <<< 1 ||| lo x >>> 63=hi (GF.dbl 135#128 x):=by
  have h135:∀ i,(135#128).getLsbD (64+i)=false:=by
    intro i
    have:(135#128).toNat < 2 ^ (64+i):=Nat.lt_of_lt_of_le (by decide:(135#128).toNat < 2 ^ 64) (Nat.pow_le_pow_right (by decide) (by omega))
    rw[BitVec.getLsbD]
    exact Nat.testBit_lt_two_pow this
  apply BitVec.eq_of_getLsbD_eq; intro i h
  unfold GF.dbl
  simp only[BitVec.getLsbD_or,BitVec.getLsbD_shiftLeft,BitVec.getLsbD_ushiftRight,hi_bit,lo_bit,BitVec.getLsbD_xor,h,decide_true,Bool.true_and]
  have h0:((if x.getLsbD (128 - 1)=true then 135#128 else 0#128):BitVec 128).getLsbD (64+i)=false:=by
    split
    · exact h135 i
    · simp
  rw[h0,Bool.xor_false]
  have h3:64+i < 128:=by omega
  by_cases hi0:i=0
  · subst hi0; simp
  · have h1 : ¬ 63 + i < 64 := by omega
    have h2:i - 1 < 64:=by omega
    have h4:64+(i - 1)=64+i - 1:=by omega
    have h5:¬ i < 1:=by omega
    have h6:¬ 64+i < 1:=by omega
    simp[h1,h2,h3,h4,h5,h6]
theorem dbl_F (k:Nat) (x:BitVec 128):F C (k+1) 78 [Hf (lo x) (hi x)] []=some (Hf (lo (GF.dbl 135#128 x)) (hi (GF.dbl 135#128 x)),[],[]):=by
  rw[double_F,dbl_lo,dbl_hi]
end Xf
namespace Xf
open Go Go.LE Aes Tb
end Xf
namespace Xf
open Go Go.LE Aes Tb
def fbv (b:Nat→Bool):Nat→BitVec 64
  | 0=>0#64
  | i+1=>if b i=true then fbv b i ||| 1#64 <<< i else fbv b i
theorem fbv_bit (b:Nat→Bool):∀ n j,(fbv b n).getLsbD j=(decide (j < n) && decide (j < 64) && b j):=by
  intro n
  induction n with
  | zero=>intro j; simp[fbv]
  | succ n ih =>
    intro j
    simp only[fbv]
    split
    · rename_i h
      rw[BitVec.getLsbD_or,ih,BitVec.getLsbD_shiftLeft]
      by_cases hj:j=n
      · subst hj; simp[h]
      · by_cases hj2 : j < n
        · simp[hj2,show j < n+1 by omega]
        · have h3 : ¬ j < n + 1 := by omega
          have h4:¬ j - n=0:=by omega
          simp[hj2,h3,h4]
    · rename_i h
      rw[ih]
      by_cases hj:j=n
      · subst hj; simp[h]
      · have : (j < n + 1) ↔ (j < n) := by omega
        simp only[this]
def qe1 (b:Nat→Bool):BitVec 128:=fbv (fun j=>b (64+j)) 64++fbv b 64
theorem qe9 (b:Nat→Bool) (j:Nat):(qe1 b).getLsbD j=(decide (j < 128) && b j):=by
  rw[qe1,BitVec.getLsbD_append]
  by_cases h:j < 64
  · rw [if_pos h, fbv_bit]
    have:j < 128:=by omega
    simp[h,this]
  · rw [if_neg h, fbv_bit]
    by_cases h2:j < 128
    · have h3 : j - 64 < 64 := by omega
      have h4:64+(j - 64)=j:=by omega
      simp[h2,h3,h4]
    · have h3 : ¬ j - 64 < 64 := by omega
      simp[h2,h3]
theorem lo_app (x y:BitVec 64):lo (y++x)=x:=by
  apply BitVec.eq_of_getLsbD_eq; intro i hi
  rw[lo_bit,BitVec.getLsbD_append]
  simp[hi]
theorem hi_app (x y:BitVec 64):hi (y++x)=y:=by
  apply BitVec.eq_of_getLsbD_eq; intro i hi
  rw[hi_bit,BitVec.getLsbD_append]
  have h1:¬ 64+i < 64:=by omega
  simp[hi,h1]
end Xf
namespace Xf
open Go Go.LE Aes Tb
def qdL (c:Nat→BitVec 8) (j:Nat):Bool:=(c (j / 8)).getLsbD (j % 8)
def qbM (a:BitVec 128) (j:Nat):BitVec 8:=(a >>> (8*j)).setWidth 8
theorem qhu (a:BitVec 128) (j n:Nat):(qbM a j).getLsbD n=(decide (n < 8) && a.getLsbD (8*j+n)):=by
  simp[qbM,BitVec.getLsbD_setWidth,BitVec.getLsbD_ushiftRight]
end Xf
namespace Xf
open Go Go.LE Aes Tb
theorem byte_lo (a:BitVec 128) (i:Nat) (h:i < 8):(lo a >>> (8*i)).setWidth 8=qbM a i:=by
  apply BitVec.eq_of_getLsbD_eq
  intro n hn
  rw[qhu,BitVec.getLsbD_setWidth,BitVec.getLsbD_ushiftRight,lo_bit]
  have:8*i+n < 64:=by omega
  simp[this]
theorem byte_hi (a:BitVec 128) (i:Nat) (h:i < 8):(hi a >>> (8*i)).setWidth 8=qbM a (8+i):=by
  apply BitVec.eq_of_getLsbD_eq
  intro n hn
  rw[qhu,BitVec.getLsbD_setWidth,BitVec.getLsbD_ushiftRight,hi_bit]
  have:8*i+n < 64:=by omega
  have e:64+(8*i+n)=8*(8+i)+n:=by omega
  simp[this,e]
def byP (a:BitVec 128) (i j:Nat):BitVec 8:=if j < i∨(8≤j∧j < 8+i) then qbM a j else 0#8
theorem byP_succ (a:BitVec 128) (i:Nat) (h:i < 8):byP a (i+1)=set1 (set1 (byP a i) i (qbM a i)) (8+i) (qbM a (8+i)):=by
  funext j
  simp only[set1,byP]
  by_cases h1:j=8+i
  · subst h1
    rw[if_pos (by omega),if_pos rfl]
  · rw [if_neg h1]
    by_cases h2:j=i
    · subst h2
      rw[if_pos (by omega),if_pos rfl]
    · rw [if_neg h2]
      have:(j < i+1∨8≤j∧j < 8+(i+1))↔(j < i∨8≤j∧j < 8+i):=by omega
      simp only[this]
def byI (a:BitVec 128) (i:Nat) (st:St):Prop := ∃ (H:Heap),st=⟨[.undef,.ptr (1,0) 0,.ptr (1,1) 0,.ptr (1,2) 0,.undef,N i,.undef,.undef,.undef,.undef,.undef,.undef,.undef,.undef,.undef,.undef,.undef,.undef,.undef,.undef,.undef,.undef,.undef,.undef,.undef,.undef,.undef],H,2,0⟩ ∧
  H (1,0)=some [B64 (lo a),B64 (hi a)]∧H (1,1)=some (aB 16 fun _=>0#8)∧H (1,2)=some (aB 16 (byP a i))
theorem by_round (k K:Nat) (a:BitVec 128) (i:Nat) (hi':i < 8) (st:St) (hI:byI a i st) :
    ∃ st1,ev (envC C k) K L91b0 st=some (.normal,st1)∧byI a (i+1) (qa8 L91k0 st1):=by
  obtain ⟨H,rfl,h0,h1,h2⟩:=hI
  apply Exists.intro
  apply And.intro
  · simp (disch := first | omega | decide | simp only [nmsB, lB]) only [simprocAttr, -rR, -rS, leB, qaf, memB, arrB, numB, ordB, L91b0, hi', h0, h1, h2, byte_lo, byte_hi, qae, qad, qac, qaa, qab, qaA]
    rfl
  · refine qao [(1, 0), (1, 1), (1, 2)] rfl (by simp only [simprocAttr, -rR, -rS, qal, L91k0, h0, h1, h2, qaL, qcL, qag, qac, qaa]) rfl ⟨_, rfl, ?_, ?_, ?_⟩
    · exact qai (1,0) rfl (by simp only[simprocAttr,-rR,-rS,memB,h0,qab]) rfl
    · exact qai (1,1) rfl (by simp only[simprocAttr,-rR,-rS,memB,h1,qab]) (qaD _ _ _)
    · rw [byP_succ a i hi']
      exact qai (1,2) rfl (by simp only[simprocAttr,-rR,-rS,memB,qab]) (qaD _ _ _)
theorem bytes_F (k:Nat) (a:BitVec 128):F C (k+10) 91 [Hf (lo a) (hi a)] []=some (.agg (aB 16 (qbM a)),[],[]):=by
  rw[qaK f91]
  simp (disch:=first|omega|decide|simp only[nmsB,lB]) only[simprocAttr,-rR,-rS,leB,qaf,memB,arrB,numB,L91,qae,qad,qac,qaa,qab]
  generalize hL:qa2 L91k0 _ _ _=r
  refine qaR hL (byI a) 8 (by omega) (fun i st hi hI=>by_round _ _ a i hi st hI) ?_ ?_ ?_
  · refine qao [(2, 0), (3, 0), (4, 0)] rfl (by simp only [simprocAttr, -rR, -rS, qal, L91k0, qaL, qcL, qag, qac, qaa]) rfl ⟨_, rfl, ?_, ?_, ?_⟩
    · exact qai (2,0) rfl (by simp only[simprocAttr,-rR,-rS,memB,qab]) rfl
    · exact qai (3,0) rfl (by simp only[simprocAttr,-rR,-rS,memB,qab]) (qaD _ _ _)
    · rw [show byP a 0 = fun _ => 0#8 by funext j; simp [byP]; omega]
      exact qai (4,0) rfl (by simp only[simprocAttr,-rR,-rS,memB,qab]) (qaD _ _ _)
  · rintro st ⟨H, rfl, h0, h1, h2⟩
    apply qaN
    simp (disch:=first|omega|decide|simp only[nmsB,lB]) only[simprocAttr,-rR,-rS,leB,qaf,memB,numB,L91b0,qae,qad,qac,qaa,qab]
    rfl
  · rintro st ⟨H, rfl, h0, h1, h2⟩ rfl
    have e:aB 16 (byP a 8)=aB 16 (qbM a):=qco 16 fun j hj=>by
      simp only[byP]
      rw[if_pos (by omega)]
    rw[e] at h2
    simp (disch:=first|omega|decide|simp only[nmsB,lB]) only[simprocAttr,-rR,-rS,leB,qaf,memB,arrB,numB,L91b0,h0,h1,h2,qae,qad,qac,qaa,qab]
def ofv (c:Nat→BitVec 8):Nat→BitVec 64
  | 0=>0#64
  | i+1=>ofv c i ||| (c i).setWidth 64 <<< (8*i)
theorem ofv_bit (c:Nat→BitVec 8):∀ n j,(ofv c n).getLsbD j=(decide (j < 8*n) && decide (j < 64) && qdL c j):=by
  intro n
  induction n with
  | zero=>intro j; simp[ofv]
  | succ n ih =>
    intro j
    rw[ofv,BitVec.getLsbD_or,ih,BitVec.getLsbD_shiftLeft,BitVec.getLsbD_setWidth]
    by_cases h64:j < 64
    · by_cases h1 : j < 8 * n
      · have h2 : j < 8 * (n + 1) := by omega
        simp[h1,h2,h64]
      · by_cases h2 : j < 8 * (n + 1)
        · have h3 : j / 8 = n := by omega
          have h4:j % 8=j - 8*n:=by omega
          have h5:j - 8*n < 64:=by omega
          simp[h1,h2,h64,qdL,h3,h4,h5]
        · have h3 : (c n).getLsbD (j - 8 * n) = false := BitVec.getLsbD_of_ge _ _ (by omega)
          simp[h1,h2,h3]
    · simp[h64]
theorem of_app (c:Nat→BitVec 8):ofv (fun j=>c (8+j)) 8++ofv c 8=qe1 (qdL c):=by
  apply BitVec.eq_of_getLsbD_eq
  intro j hj
  rw[qe9,BitVec.getLsbD_append]
  by_cases h:j < 64
  · rw [if_pos h, ofv_bit]
    have h2:j < 8*8:=by omega
    simp[h,h2,hj]
  · rw [if_neg h, ofv_bit]
    have h3:j - 64 < 64:=by omega
    have h4:(j - 64) / 8=j / 8 - 8:=by omega
    have h5:(j - 64) % 8=j % 8:=by omega
    have h6:8+(j / 8 - 8)=j / 8:=by omega
    simp[h3,hj,qdL,h4,h5,h6]
def ofI (c:Nat→BitVec 8) (i:Nat) (st:St):Prop := ∃ (H:Heap),st=⟨[.undef,.ptr (1,0) 0,.ptr (1,1) 0,.ptr (1,2) 0,.undef,.undef,N i,.undef,.undef,.undef,.undef,.undef,.undef,.undef,.undef,.undef,.undef,.undef,.undef,.undef,.undef,.undef,.undef,.undef,.undef,.undef,.undef,.undef,.undef,.undef,.undef,.undef,.undef,.undef],H,2,0⟩ ∧
  H (1,0)=some (aB 16 c)∧H (1,1)=some [B64 0#64,B64 0#64]∧H (1,2)=some [B64 (ofv c i),B64 (ofv (fun j=>c (8+j)) i)]
theorem of_round (k K:Nat) (c:Nat→BitVec 8) (i:Nat) (hi':i < 8) (st:St) (hI:ofI c i st) :
    ∃ st1,ev (envC C k) K L90b0 st=some (.normal,st1)∧ofI c (i+1) (qa8 L90k0 st1):=by
  obtain ⟨H,rfl,h0,h1,h2⟩:=hI
  apply Exists.intro
  apply And.intro
  · simp (disch := first | omega | decide | simp only [nmsB, lB]) only [simprocAttr, -rR, -rS, leB, qaf, memB, arrB, numB, ordB, L90b0, hi', h0, h1, h2, qae, qad, qac, qaa, qab, qaA]
    rfl
  · refine qao [(1, 0), (1, 1), (1, 2)] rfl (by simp only [simprocAttr, -rR, -rS, qal, L90k0, h0, h1, h2, qaL, qcL, qag, qac, qaa]) rfl ⟨_, rfl, ?_, ?_, ?_⟩
    · exact qai (1,0) rfl (by simp only[simprocAttr,-rR,-rS,memB,h0,qab]) (qaD _ _ _)
    · exact qai (1,1) rfl (by simp only[simprocAttr,-rR,-rS,memB,h1,qab]) rfl
    · exact qai (1,2) rfl (by simp only[simprocAttr,-rR,-rS,memB,ofv,qab]) rfl
theorem of_F (k:Nat) (c:Nat→BitVec 8):F C (k+10) 90 [.agg (aB 16 c)] []=some (Hf (lo (qe1 (qdL c))) (hi (qe1 (qdL c))),[],[]):=by
  rw[qaK f90]
  simp (disch:=first|omega|decide|simp only[nmsB,lB]) only[simprocAttr,-rR,-rS,leB,qaf,memB,arrB,numB,L90,qae,qad,qac,qaa,qab]
  generalize hL:qa2 L90k0 _ _ _=r
  refine qaR hL (ofI c) 8 (by omega) (fun i st hi hI=>of_round _ _ c i hi st hI) ?_ ?_ ?_
  · refine qao [(2, 0), (3, 0), (5, 0)] rfl (by simp only [simprocAttr, -rR, -rS, qal, L90k0, qaL, qcL, qag, qac, qaa]) rfl ⟨_, rfl, ?_, ?_, ?_⟩
    · exact qai (2,0) rfl (by simp only[simprocAttr,-rR,-rS,memB,qab]) (qaD _ _ _)
    · exact qai (3,0) rfl (by simp only[simprocAttr,-rR,-rS,memB,qab]) rfl
    · exact qai (5,0) rfl (by simp only[simprocAttr,-rR,-rS,memB,ofv,qab]) rfl
  · rintro st ⟨H, rfl, h0, h1, h2⟩
    apply qaN
    simp (disch:=first|omega|decide|simp only[nmsB,lB]) only[simprocAttr,-rR,-rS,leB,qaf,memB,numB,L90b0,qae,qad,qac,qaa,qab]
    rfl
  · rintro st ⟨H, rfl, h0, h1, h2⟩ rfl
    rw[←of_app,lo_app,hi_app]
    simp (disch:=first|omega|decide|simp only[nmsB,lB]) only[simprocAttr,-rR,-rS,leB,qaf,memB,arrB,numB,L90b0,h0,h1,h2,qae,qad,qac,qaa,qab]
end Xf
namespace Xf
open Go Go.LE Aes Tb
end Xf
namespace Aes
open Go Go.LE Xf Tb
set_option maxRecDepth 20000
def wt (E:R→R) (t:BitVec 128) (x:R):R:=fun j=>E (fun i=>x i ^^^ qbM t i) j ^^^ qbM t j
def xr (x y:R) (i:Nat):R:=fun j=>if j < i then x j ^^^ y j else x j
theorem xr_0 (x y:R):xr x y 0=x:=funext fun j=>if_neg (Nat.not_lt_zero j)
theorem xr_succ (x y:R) (i:Nat):set1 (xr x y i) i (x i ^^^ y i)=xr x y (i+1):=by
  funext j
  simp only[set1,xr]
  by_cases h:j=i
  · subst h; rw[if_pos rfl,if_pos (Nat.lt_succ_self _)]
  · rw [if_neg h]
    by_cases h':j < i
    · rw[if_pos h',if_pos (by omega)]
    · rw[if_neg h',if_neg (by omega)]
theorem xr_at (x y:R) (i:Nat):xr x y i i=x i:=if_neg (zZ i)
theorem xr_all (x y:R):aB 16 (xr x y 16)=aB 16 (fun j=>x j ^^^ y j):=qco _ fun j hj=>if_pos hj
theorem qef (g:FuncId) (m:Nm) (o:Nat):nms D (.fn (.func g) [.ptr m o] [])=[m]:=rfl
theorem qfi (π:Nm→Option Nm) (g:FuncId) (m:Nm) (o:Nat):ren D π (.fn (.func g) [.ptr m o] []) = .fn (.func g) [ren 7 π (.ptr m o)] []:=rfl
theorem callV_fn1 {E:Env} {H:Heap} {b:Nat} (g:FuncId) (x:LV) (args:List LV):callV E H b args (.fn (.func g) [x] [])=qax E H b g (x::args):=by simp[callV]
def wJ1 (g n:Nat) (l:List (BitVec 8)) (x y:R) (i:Nat) (st:St):Prop := ∃ (H:Heap),st=⟨[.fn (.func g) [.ptr (0,0) 0] [],.undef,.undef,.undef,.undef,.undef,.undef,.ptr (1,0) 0,.ptr (1,1) 0,.undef,.undef,.undef,.undef,.undef,.undef,.undef,N i,.undef,.undef,.undef,.undef,.undef,.undef,.undef,.undef,.undef,.undef,.undef,.undef,.undef,.undef,.undef,.undef,.undef,.undef,.undef,.undef,.undef,.undef,.undef,.undef,.undef,.undef,.undef],H,2,2⟩ ∧
  H (0,0)=some (KO n)∧H (0,1)=some (bs l)∧H (1,0)=some (aB 16 y)∧H (1,1)=some (aB 16 (xr x y i))
def wJ0 (n:Nat) (l:List (BitVec 8)) (x y:R) (i:Nat) (st:St):Prop := ∃ (H:Heap),st=⟨[.undef,.undef,.undef,.undef,.undef,.undef,.undef,.ptr (1,0) 0,.ptr (1,1) 0,.undef,.undef,.undef,.undef,.undef,.undef,.undef,.undef,.undef,.undef,.undef,.undef,.undef,.undef,.undef,.undef,.undef,.undef,.undef,.undef,.undef,.undef,N i,.undef,.undef,.undef,.undef,.undef,.undef,.undef,.undef,.undef,.undef,.undef,.undef],H,2,2⟩ ∧
  H (0,0)=some (KO n)∧H (0,1)=some (bs l)∧H (1,0)=some (aB 16 y)∧H (1,1)=some (aB 16 (xr x y i))
theorem w1_round (k g n:Nat) (l:List (BitVec 8)) (x y:R) (i:Nat) (hi:i < 16) (st:St) (hJ:wJ1 g n l x y i st) :
    ∃ st1,ev (envC C k) k L77b1 st=some (.normal,st1)∧wJ1 g n l x y (i+1) (qa8 L77k1 st1):=by
  obtain ⟨H,rfl,h0,h1,h2,h3⟩:=hJ
  simp (disch:=first|omega|decide|simp only[nmsB,lB]) only[simprocAttr,-rR,-rS,leB,memB,arrB,numB,qaf,ordB,qay,qaj,qaP,L77b1,h0,h1,h2,h3,hi,xr_at,xr_succ,qab,qad,qac,qaa,qaA,qah]
  refine ⟨_,rfl,?_⟩
  refine qao [(1,0),(1,1)] rfl (by simp only[simprocAttr,-rR,-rS,qal,L77k1,qef,qaL,qdU,qam,h0,h1,h2,h3,qag,qac,qaa]) (by simp only[simprocAttr,-rR,-rS,qal,L77k1,zB,zA,qfi,qag,qac,qaa] <;> rfl) ⟨_,rfl,?_,?_,?_,?_⟩
  · rw[qaG]; simp (disch:=first|omega|decide|simp only[nmsB,lB]) only[simprocAttr,-rR,-rS,leB,memB,qaf,h0,qek,qae,qab,qad,qac,qaa]
  · rw[qaG]; simp (disch:=first|omega|decide|simp only[nmsB,lB]) only[simprocAttr,-rR,-rS,leB,memB,qaf,h1,qae,qab,qad,qac,qaa]
  · exact qai (1,0) rfl (by simp (disch:=first|omega|decide|simp only[nmsB,lB]) only[simprocAttr,-rR,-rS,leB,memB,qaf,h2,qae,qab,qad,qac,qaa]) (qaD _ _ _)
  · exact qai (1,1) rfl (by simp (disch:=first|omega|decide|simp only[nmsB,lB]) only[simprocAttr,-rR,-rS,leB,memB,qaf,qae,qab,qad,qac,qaa]) (qaD _ _ _)
theorem w0_round (k n:Nat) (l:List (BitVec 8)) (x y:R) (i:Nat) (hi:i < 16) (st:St) (hJ:wJ0 n l x y i st) :
    ∃ st1,ev (envC C k) k L77b0 st=some (.normal,st1)∧wJ0 n l x y (i+1) (qa8 L77k0 st1):=by
  obtain ⟨H,rfl,h0,h1,h2,h3⟩:=hJ
  simp (disch:=first|omega|decide|simp only[nmsB,lB]) only[simprocAttr,-rR,-rS,leB,memB,arrB,numB,qaf,ordB,qay,qaj,qaP,L77b0,h0,h1,h2,h3,hi,xr_at,xr_succ,qab,qad,qac,qaa,qaA,qah]
  refine ⟨_,rfl,?_⟩
  refine qao [(1,0),(1,1)] rfl (by simp only[simprocAttr,-rR,-rS,qal,L77k0,qaL,qdU,qam,h0,h1,h2,h3,qag,qac,qaa]) rfl ⟨_,rfl,?_,?_,?_,?_⟩
  · rw[qaG]; simp (disch:=first|omega|decide|simp only[nmsB,lB]) only[simprocAttr,-rR,-rS,leB,memB,qaf,h0,qek,qae,qab,qad,qac,qaa]
  · rw[qaG]; simp (disch:=first|omega|decide|simp only[nmsB,lB]) only[simprocAttr,-rR,-rS,leB,memB,qaf,h1,qae,qab,qad,qac,qaa]
  · exact qai (1,0) rfl (by simp (disch:=first|omega|decide|simp only[nmsB,lB]) only[simprocAttr,-rR,-rS,leB,memB,qaf,h2,qae,qab,qad,qac,qaa]) (qaD _ _ _)
  · exact qai (1,1) rfl (by simp (disch:=first|omega|decide|simp only[nmsB,lB]) only[simprocAttr,-rR,-rS,leB,memB,qaf,qae,qab,qad,qac,qaa]) (qaD _ _ _)
def Way (g:FuncId) (n:Nat) (l:List (BitVec 8)) (E:R→R):Prop :=
  ∀ (k b:Nat) (H:Heap) (c m:Nm),KG H c m (n+2) none l→∀ s,qax (envC C (k+60)) H b g [.ptr c 0,.agg (aB 16 s)]=some ⟨.agg (aB 16 (E s)),[],[(c,some (CF (.sl m 0 (n+2) none 16) TB)),(m,some (bs l))]⟩
theorem way_enc (n:Nat) (hn:n≤20) (l:List (BitVec 8)) (hl:l.length=16*(n+2)):Way 66 n l (enc (kf l) n):=fun k b H c m h s=>c_enc k n b hn H c m l h hl s
theorem way_dec (n:Nat) (hn:n≤20) (l:List (BitVec 8)) (hl:l.length=16*(n+2)):Way 68 n l (dec (kf l) n):=fun k b H c m h s=>c_dec k n b hn H c m l h hl s
theorem bsb16 (b:List (BitVec 8)) (h:b.length=16) (H:Heap):qcg H 16 (.ipt (bs b))=some (aB 16 (fl b)):=by
  rw[qcg,if_pos (by rw[qaQ]; omega),qdK,List.take_of_length_le (by omega),bs_aB _ 16 h]; rfl
theorem with_F (k g n:Nat) (l:List (BitVec 8)) (E:R→R) (hE:Way g n l E) (t:BitVec 128) (b:List (BitVec 8)) (hb:b.length=16) :
    F C (k+80) 77 [.fn (.func g) [.ptr (0,0) 0] [],Hf (lo t) (hi t),.isl (bs b) 16] [KO n,bs l]=some (.sl (1,0) 0 16 (some 16) 1,[some (KO n),some (bs l)],[aB 16 (wt E t (fl b))]):=by
  rw[qaK f77]
  have hby:F C (k+79) 91 [Hf (lo t) (hi t)] []=some (.agg (aB 16 (qbM t)),[],[]):=Xf.bytes_F (k+69) t
  simp (disch:=first|omega|decide|simp only[nmsB,lB]) only[simprocAttr,-rR,-rS,leB,memB,arrB,numB,qaf,ordB,qay,qaj,qaP,L77,hby,l91,bsb16 b hb,qae,qab,qad,qac,qaa,qaA,qah]
  generalize hL:qa2 L77k1 _ _ _=r
  refine qaR hL (wJ1 g n l (fl b) (qbM t)) 16 (by omega) (fun i st hi hJ=>w1_round _ g n l _ _ i hi st hJ) ?_ ?_ ?_
  · refine qao [(6, 0), (11, 0)] rfl (by simp only [simprocAttr, -rR, -rS, qal, L77k1, qef, qaL, qdU, qam, qag, qac, qaa]) (by simp only [simprocAttr, -rR, -rS, qal, L77k1, zB, zA, qfi, qag, qac, qaa] <;> rfl) ⟨_, rfl, ?_, ?_, ?_, ?_⟩
    · rw[qaG]; simp (disch:=first|omega|decide|simp only[nmsB,lB]) only[simprocAttr,-rR,-rS,leB,memB,qaf,qek,qae,qab,qad,qac,qaa]
    · rw[qaG]; simp (disch:=first|omega|decide|simp only[nmsB,lB]) only[simprocAttr,-rR,-rS,leB,memB,qaf,qae,qab,qad,qac,qaa]
    · exact qai (6,0) rfl (by simp (disch:=first|omega|decide|simp only[nmsB,lB]) only[simprocAttr,-rR,-rS,leB,memB,qaf,qae,qab,qad,qac,qaa]) (qaD _ _ _)
    · rw[xr_0]; exact qai (11,0) rfl (by simp (disch:=first|omega|decide|simp only[nmsB,lB]) only[simprocAttr,-rR,-rS,leB,memB,qaf,qae,qab,qad,qac,qaa]) (qaD _ _ _)
  · rintro st ⟨H, rfl, h0, h1, h2, h3⟩
    apply qaN
    simp (disch:=first|omega|decide|simp only[nmsB,lB]) only[simprocAttr,-rR,-rS,leB,memB,arrB,numB,qaf,L77b1,qae,qab,qad,qac,qaa]
    rfl
  · rintro st ⟨H, rfl, h0, h1, h2, h3⟩ rfl
    rw[xr_all] at h3
    simp (disch:=first|omega|decide|simp only[nmsB,lB]) only[simprocAttr,-rR,-rS,leB,memB,arrB,numB,qaf,ordB,qay,qaj,qaP,L77b1,h0,h1,h2,h3,callV_fn1,qab,qad,qac,qaa,qaA,qah]
    rw[hE (k+19) _ H (0,0) (0,1) ⟨h0,h1,by decide⟩]
    simp (disch:=first|omega|decide|simp only[nmsB,lB]) only[simprocAttr,-rR,-rS,leB,memB,arrB,numB,qaf,ordB,qay,qaj,qaP,h0,h1,h2,h3,qab,qad,qac,qaa,qaA,qah]
    clear hL
    generalize hL:qa2 L77k0 _ _ _=r
    refine qaR hL (wJ0 n l (E fun j=>fl b j ^^^ qbM t j) (qbM t)) 16 (by omega) (fun i st hi hJ=>w0_round _ n l _ _ i hi st hJ) ?_ ?_ ?_
    · refine qao [(1, 0), (1, 1)] rfl (by simp only [simprocAttr, -rR, -rS, qal, L77k0, qaL, qdU, qaV, qa5, qam, h0, h1, h2, h3, qag, qac, qaa]) rfl ⟨_, rfl, ?_, ?_, ?_, ?_⟩
      · rw[qaG]; simp (disch:=first|omega|decide|simp only[nmsB,lB]) only[simprocAttr,-rR,-rS,leB,memB,qaf,qaU,qae,qab,qad,qac,qaa]; rfl
      · rw[qaG]; simp (disch:=first|omega|decide|simp only[nmsB,lB]) only[simprocAttr,-rR,-rS,leB,memB,qaf,qae,qab,qad,qac,qaa]
      · exact qai (1,0) rfl (by simp (disch:=first|omega|decide|simp only[nmsB,lB]) only[simprocAttr,-rR,-rS,leB,memB,qaf,h2,qae,qab,qad,qac,qaa]) (qaD _ _ _)
      · rw[xr_0]; exact qai (1,1) rfl (by simp (disch:=first|omega|decide|simp only[nmsB,lB]) only[simprocAttr,-rR,-rS,leB,memB,qaf,qae,qab,qad,qac,qaa]) (qaD _ _ _)
    · rintro st ⟨H, rfl, h0, h1, h2, h3⟩
      apply qaN
      simp (disch:=first|omega|decide|simp only[nmsB,lB]) only[simprocAttr,-rR,-rS,leB,memB,arrB,numB,qaf,L77b0,qae,qab,qad,qac,qaa]
      rfl
    · rintro st ⟨H, rfl, h0, h1, h2, h3⟩ rfl
      rw[xr_all] at h3
      simp (disch:=first|omega|decide|simp only[nmsB,lB]) only[simprocAttr,-rR,-rS,leB,memB,arrB,numB,qaf,ordB,qay,qaj,qaP,L77b0,h0,h1,h2,h3,qab,qad,qac,qaa,qaA,qah]
      rw[qaW 2 _ _ [(1,1)] (by simp only[simprocAttr,-rR,-rS,qal,qdU,qam,qaL,qa5,h0,h1,h3,qag,qac,qaa])]
      simp (disch:=first|omega|decide|simp only[nmsB,lB]) only[simprocAttr,-rR,-rS,leB,memB,qaf,qek,qap,qaD,h0,h1,h3,qa3,qae,qab,qad,qac,qaa]
      rfl
end Aes
namespace Aes
open Go Go.LE Xf Tb
set_option maxRecDepth 20000
theorem xnew_F (k n:Nat) (hn:n=4∨n=8) (key:List (BitVec 8)) (hk:key.length=8*n):F C (k+401) 49 [.isl (bs key) key.length] [] =
    some (.tup [.ptr (1,0) 0,N 0],[],[[.ptr (1,1) 0,.ptr (1,3) 0],CF (.sl (1,2) 0 (n+7) none 16) TB,bs (W n (key.take (4*n))),CF (.sl (1,4) 0 (n+7) none 16) TB,bs (W n (key.drop (4*n)))]):=by
  rw[qaK f49]
  have hd:8*n / 2=4*n:=by omega
  have hle:4*n≤8*n:=by omega
  have hs:8*n - 4*n=4*n:=by omega
  have h16:(8*n=32)=(n=4):=by apply propext; omega
  have h32:(8*n=64)=(n=8):=by apply propext; omega
  have hn8:n≠4→n=8:=fun h=>hn.resolve_left h
  have ht:(key.take (4*n)).length=4*n:=by rw[zU]; omega
  have hdr:(key.drop (4*n)).length=4*n:=by rw[zQ]; omega
  have hs1:∀ H,snap H D (.isl (bs (key.take (4*n))) (4*n))=some (.isl (bs (key.take (4*n))) (key.take (4*n)).length,[]):=fun H=>by rw[ht]; rfl
  have hs2:∀ H,snap H D (.isl (bs (key.drop (4*n))) (4*n))=some (.isl (bs (key.drop (4*n))) (key.drop (4*n)).length,[]):=fun H=>by rw[hdr]; rfl
  have hc1:∀ b H,qax (envC C (k+400)) H b 62 [.isl (bs (key.take (4*n))) (4*n)]=_:=fun b H=>c_new k n b hn H _ _ ht [] (hs1 H)
  have hc2:∀ b H,qax (envC C (k+400)) H b 62 [.isl (bs (key.drop (4*n))) (4*n)]=_:=fun b H=>c_new k n b hn H _ _ hdr [] (hs2 H)
  have htd:(key.drop (4*n)).take (4*n)=key.drop (4*n):=List.take_of_length_le (by omega)
  rcases hn with rfl | rfl
  all_goals
    simp (disch:=first|omega|decide|simp only[nmsB,lB]) only[simprocAttr,-rR,-rS,leB,memB,arrB,numB,qaf,opsB,ordB,qay,qaj,qaP,L49,hk,qdK,qdZ,hc1,hc2,htd,qa5,qab,qad,qac,qaa,qaA,qah]
    rw[qaW 0 _ _ [(37,0),(19,0),(19,1),(28,0),(28,1)] (by simp only[simprocAttr,-rR,-rS,qal,qaV,qam,qeI,nms7_ptr,qfv,qa5,qag,qac,qaa])]
    simp (disch:=first|omega|decide|simp only[nmsB,lB]) only[simprocAttr,-rR,-rS,leB,memB,qaf,qaU,qap,qcr,qae,qab,qad,qac,qaa]
    rfl
end Aes
namespace Aes
open Go Go.LE Xf Tb
set_option maxRecDepth 20000
theorem xclone_F (k:Nat) (d:List (BitVec 8)) (h0:d.length≠0) (hb:d.length≤211106232532992):F C (k+5) 37 [.isl (bs d) d.length] []=some (.sl (1,0) 0 d.length none 1,[],[bs d]):=by
  rw[qaK f37]
  have hfr:∀ H,qbs H 1 d.length (.isl (bs d) d.length)=some (bs d):=fun H=>qct d d.length rfl
  have hap:∀ b H m,appX b 1 1 d.length H [] (bs d) (.sl m 0 0 (some 0) 1)=some ⟨.sl (b,0) 0 d.length none 1,[bs d],[]⟩:=fun b H m=>appX_e b d.length H m (bs d) h0 (by omega)
  have hnil:binV .eql .slice (.isl (bs d) d.length) Nil=some (Bo false):=by
    simp only[binV,eqV,nilCS,nilS,if_pos (Nat.pos_of_ne_zero h0)]
    rfl
  simp (disch:=first|omega|decide|simp only[nmsB,lB]) only[simprocAttr,-rR,-rS,leB,memB,arrB,numB,qaf,opsB,ordB,qay,qaj,qaP,L37,h0,hnil,hfr,hap,qab,qad,qac,qaa,qaA,qah]
  rw[qaW 0 _ _ [(7,0)] (by simp only[simprocAttr,-rR,-rS,qal,qam,qag,qac,qaa])]
  simp (disch:=first|omega|decide|simp only[nmsB,lB]) only[simprocAttr,-rR,-rS,leB,memB,qaf,qap,qae,qab,qad,qac,qaa]
def U128 (u:BitVec 64):BitVec 128:=u.setWidth 128
theorem lo_U (u:BitVec 64):lo (U128 u)=u:=by
  apply BitVec.eq_of_getLsbD_eq; intro i hi
  rw[lo_bit,U128,BitVec.getLsbD_setWidth]; simp[hi]; omega
theorem hi_U (u:BitVec 64):Xf.hi (U128 u)=0#64:=by
  apply BitVec.eq_of_getLsbD_eq; intro i hi'
  rw[hi_bit,U128,BitVec.getLsbD_setWidth]; simp
def PO:qak:=[.ptr (0,1) 0,.ptr (0,3) 0]
def tw0 (n:Nat) (lb:List (BitVec 8)) (u:BitVec 64):BitVec 128:=qe1 (qdL (enc (kf lb) n (qbM (U128 u))))
theorem PO_k0:qaY 0 1 (some PO)=some [.ptr (0,1) 0]:=rfl
theorem PO_k1:qaY 1 1 (some PO)=some [.ptr (0,3) 0]:=rfl
theorem qdB:List.range 5=[0,1,2,3,4]:=rfl
theorem PO_nms:PO.flatMap (nms D)=[(0,1),(0,3)]:=rfl
theorem PO_ren (names:List Nm):PO.map (ren D (qbi names))=PO:=by simp only[PO,zB,zA,qbl,qc8]; rfl
def KA (i n:Nat):qak:=CF (.sl (0,i) 0 (n+2) none 16) TB
theorem qf7 (i n:Nat):(KA i n).flatMap (nms D)=[(0,i)]:=by rw[KA,qaV]; rfl
theorem KA_ren (i n:Nat) (names:List Nm):(KA i n).map (ren D (qbi names))=KA i n:=by rw[KA,qaU,qa3,qc8]; rfl
theorem xfirst_F (k n:Nat) (hn:n≤20) (la lb:List (BitVec 8)) (hb:lb.length=16*(n+2)) (u:BitVec 64) :
    F C (k+80) 76 [.ptr (0,0) 0,B64 u] [PO,KA 2 n,bs la,KA 4 n,bs lb]=some (Hf (lo (tw0 n lb u)) (Xf.hi (tw0 n lb u)),[some PO,some (KA 2 n),some (bs la),some (KA 4 n),some (bs lb)],[]):=by
  rw[qaK f76]
  have hby:F C (k+79) 91 [Hf (lo (U128 u)) (Xf.hi (U128 u))] []=some (.agg (aB 16 (qbM (U128 u))),[],[]):=Xf.bytes_F (k+69) (U128 u)
  rw[lo_U,hi_U] at hby
  have hof:=Xf.of_F (k+69) (enc (kf lb) n (qbM (U128 u)))
  rw[Nat.add_assoc] at hof
  simp only[Nat.reduceAdd] at hof
  simp (disch:=first|omega|decide|simp only[nmsB,lB]) only[simprocAttr,-rR,-rS,leB,memB,arrB,numB,qaf,opsB,ordB,qay,qaj,qaP,L76,PO_k0,PO_k1,hby,hof,l91,l90,qae,qab,qad,qac,qaa,qaA,qah]
  generalize hG:upd (qaZ _) (2,0) _=G
  have g0:G (0,0)=some PO:=by rw[←hG]; rfl
  have g1:G (0,1)=some (KA 2 n):=by rw[←hG]; rfl
  have g2:G (0,2)=some (bs la):=by rw[←hG]; rfl
  have g3:G (0,3)=some (KA 4 n):=by rw[←hG]; rfl
  have g4:G (0,4)=some (bs lb):=by rw[←hG]; rfl
  have g5:G (2,0)=some [B64 0#64,B64 0#64]:=by rw[←hG]; rfl
  clear hG
  have K:KG G (0,3) (0,4) (n+2) none lb:=⟨g3,g4,by decide⟩
  have hr:=reach_KG K
  have he:∀ b s,_:=fun b s=>c_enc (k+19) n b hn _ (0,3) (0,4) lb K.only hb s
  have ht:∀ v,_:=fun v=>tr_KG _ v (0,3) (0,4) (n+2) none lb K.only
  simp (disch:=first|omega|decide|simp only[nmsB,lB]) only[simprocAttr,-rR,-rS,leB,memB,arrB,numB,qaf,opsB,ordB,qay,qaj,qaP,hr,he,ht,hof,g5,qfs,qft,l90,qae,qab,qad,qac,qaa,qaA,qah]
  rw[qaW 5 _ _ [] (by simp only[simprocAttr,-rR,-rS,qal,qfs,qdB,PO_nms,qf7,qam,g0,g1,g2,g3,g4,qag,qac,qaa])]
  simp (disch:=first|omega|decide|simp only[nmsB,lB]) only[simprocAttr,-rR,-rS,leB,memB,qaf,qdB,PO_ren,KA_ren,qap,qft,g0,g1,g2,g3,g4,tw0,qae,qab,qad,qac,qaa]
end Aes
namespace Aes
open Go Go.LE Xf Tb
def blk (d:List (BitVec 8)) (i:Nat):List (BitVec 8):=(d.drop (16*i)).take 16
def wtl (E:R→R) (t:BitVec 128) (b:List (BitVec 8)):List (BitVec 8):=(List.range 16).map (wt E t (fl b))
def tws (t0:BitVec 128):Nat→BitVec 128
  | 0=>t0
  | i+1=>GF.dbl 135#128 (tws t0 i)
def done (E:R→R) (t0:BitVec 128) (d:List (BitVec 8)):Nat→List (BitVec 8)
  | 0=>[]
  | i+1=>done E t0 d i++wtl E (tws t0 i) (blk d i)
theorem qcw (E:R→R) (t:BitVec 128) (b:List (BitVec 8)):(wtl E t b).length=16:=by rw[wtl,zT,List.length_range]
theorem qck (E:R→R) (t0:BitVec 128) (d:List (BitVec 8)):∀ i,(done E t0 d i).length=16*i:=by
  intro i
  induction i with
  | zero=>rfl
  | succ i ih=>rw[done,zH,ih,qcw]; omega
theorem qgr (d:List (BitVec 8)) (i:Nat) (h:16*(i+1)≤d.length):(blk d i).length=16:=by rw[blk,zU,zQ]; omega
def tw1 (t0:BitVec 128) (m:Nat) (turned:Bool):BitVec 128:=if turned then tws t0 (m+1) else tws t0 m
def tw2 (t0:BitVec 128) (m:Nat) (turned:Bool):BitVec 128:=if turned then tws t0 m else tws t0 (m+1)
def qeE (E:R→R) (t0:BitVec 128) (d:List (BitVec 8)) (turned:Bool) (m:Nat):List (BitVec 8):=wtl E (tw1 t0 m turned) (blk d m)
def lastB (E:R→R) (t0:BitVec 128) (d:List (BitVec 8)) (turned:Bool) (m:Nat):List (BitVec 8):=d.drop (16*m+16)++(qeE E t0 d turned m).drop (d.length % 16)
def qbG (E:R→R) (t0:BitVec 128) (d:List (BitVec 8)) (turned:Bool):List (BitVec 8) :=
  if d.length % 16=0 then done E t0 d (d.length / 16)
  else done E t0 d (d.length / 16 - 1)++wtl E (tw2 t0 (d.length / 16 - 1) turned) (lastB E t0 d turned (d.length / 16 - 1))++(qeE E t0 d turned (d.length / 16 - 1)).take (d.length % 16)
theorem qfz (E:R→R) (t0:BitVec 128) (d:List (BitVec 8)) (turned:Bool) (h:16≤d.length):(qbG E t0 d turned).length=d.length:=by
  unfold qbG
  by_cases h0:d.length % 16=0
  · rw[if_pos h0,qck]; omega
  · rw[if_neg h0,zH,zH,qck,qcw,zU,qeE,qcw]; omega
theorem lastB_length (E:R→R) (t0:BitVec 128) (d:List (BitVec 8)) (turned:Bool) (h:16≤d.length) (h0:d.length % 16≠0):(lastB E t0 d turned (d.length / 16 - 1)).length=16:=by
  rw[lastB,zH,zQ,zQ,qeE,qcw]; omega
def outI (E:R→R) (t0:BitVec 128) (d:List (BitVec 8)) (i:Nat):List (BitVec 8):=done E t0 d i++d.drop (16*i)
theorem outI_length (E:R→R) (t0:BitVec 128) (d:List (BitVec 8)) (i:Nat) (h:16*i≤d.length):(outI E t0 d i).length=d.length:=by
  rw[outI,zH,qck,zQ]; omega
theorem outI_0 (E:R→R) (t0:BitVec 128) (d:List (BitVec 8)):outI E t0 d 0=d:=by rw[outI,done,zI,Nat.mul_zero,zF]
theorem outI_drop (E:R→R) (t0:BitVec 128) (d:List (BitVec 8)) (i:Nat):(outI E t0 d i).drop (16*i)=d.drop (16*i):=by
  rw[outI,List.drop_append,qck,Nat.sub_self,zF,List.drop_of_length_le (by rw[qck]; exact Nat.le_refl _),zI]
theorem outI_blk (E:R→R) (t0:BitVec 128) (d:List (BitVec 8)) (i:Nat):((outI E t0 d i).drop (16*i)).take 16=blk d i:=by rw[outI_drop,blk]
theorem outI_succ (E:R→R) (t0:BitVec 128) (d:List (BitVec 8)) (i:Nat) (h:16*(i+1)≤d.length) :
    (outI E t0 d i).take (16*i)++wtl E (tws t0 i) (blk d i)++(outI E t0 d i).drop (16*i+16)=outI E t0 d (i+1):=by
  have e1:(outI E t0 d i).take (16*i)=done E t0 d i:=by
    rw[outI,List.take_append,qck,Nat.sub_self,zW,zD,List.take_of_length_le (by rw[qck]; exact Nat.le_refl _)]
  have e2:(outI E t0 d i).drop (16*i+16)=d.drop (16*(i+1)):=by
    rw[←List.drop_drop,outI_drop,List.drop_drop]; congr 1
  rw[e1,e2,outI,done]
theorem outI_whole (E:R→R) (t0:BitVec 128) (d:List (BitVec 8)) (h:d.length % 16=0):outI E t0 d (d.length / 16)=qbG E t0 d false:=by
  rw[outI,qbG,if_pos h,List.drop_of_length_le (by omega),zD]
theorem unitP_whole (E:R→R) (t0:BitVec 128) (d:List (BitVec 8)) (a b:Bool) (h:d.length % 16=0):qbG E t0 d a=qbG E t0 d b:=by
  rw[qbG,qbG,if_pos h,if_pos h]
end Aes
namespace Aes
open Go Go.LE Xf Tb
structure Inv (E D:R→R):Prop where
  ed:∀ s,E16 (D (E s)) s
  de:∀ s,E16 (E (D s)) s
  ec:∀ s t,E16 s t→E16 (E s) (E t)
  dc:∀ s t,E16 s t→E16 (D s) (D t)
theorem Inv.symm {E D:R→R} (h:Inv E D):Inv D E:=⟨h.de,h.ed,h.dc,h.ec⟩
theorem inv_aes (K:Nat→R) (n:Nat):Inv (enc K n) (dec K n):=⟨dec_enc K n,enc_dec K n,fun _ _ h=>enc_c K n h,fun _ _ h=>dec_c K n h⟩
theorem qdV (w:R):E16 (fl ((List.range 16).map w)) w:=fun j hj=>by
  simp[fl,List.getD_eq_getElem?_getD,hj]
theorem list16 {a b:List (BitVec 8)} (ha:a.length=16) (hb:b.length=16) (h:E16 (fl a) (fl b)):a=b:=by
  apply List.ext_getElem (by rw[ha,hb])
  intro j h1 h2
  have:=h j (by omega)
  simpa [fl,List.getD_eq_getElem?_getD,h1,h2] using this
theorem wt_inv {E D:R→R} (h:Inv E D) (t:BitVec 128) (x:R):E16 (wt D t (wt E t x)) x:=by
  have e:(fun i=>wt E t x i ^^^ qbM t i)=E (fun i=>x i ^^^ qbM t i):=by
    funext i
    rw[wt,BitVec.xor_assoc,BitVec.xor_self,BitVec.xor_zero]
  intro j hj
  show D (fun i=>wt E t x i ^^^ qbM t i) j ^^^ qbM t j=x j
  rw[e,h.ed _ j hj,BitVec.xor_assoc,BitVec.xor_self,BitVec.xor_zero]
theorem wt_c {E D:R→R} (h:Inv E D) (t:BitVec 128) {x y:R} (hx:E16 x y):E16 (wt E t x) (wt E t y):=by
  intro j hj
  have:E16 (fun i=>x i ^^^ qbM t i) (fun i=>y i ^^^ qbM t i):=fun i hi=>by
    show x i ^^^ _=y i ^^^ _
    rw[hx i hi]
  show E _ j ^^^ _=E _ j ^^^ _
  rw[h.ec _ _ this j hj]
theorem wtl_inv {E D:R→R} (h:Inv E D) (t:BitVec 128) (b:List (BitVec 8)) (hb:b.length=16):wtl D t (wtl E t b)=b:=by
  apply list16 (qcw _ _ _) hb
  refine (qdV _).trans ?_
  have:E16 (fl (wtl E t b)) (wt E t (fl b)):=qdV _
  exact (wt_c h.symm t this).trans (wt_inv h t _)
theorem blk_done (E:R→R) (t0:BitVec 128) (d X:List (BitVec 8)) (w:Nat) (hX:done E t0 d w <+: X) (i:Nat) (hi:i < w):blk X i=wtl E (tws t0 i) (blk d i):=by
  have hpre:∀ w,i < w→∃ r,done E t0 d w=done E t0 d i++wtl E (tws t0 i) (blk d i)++r:=by
    intro w
    induction w with
    | zero=>intro h; omega
    | succ w ih =>
      intro h
      by_cases h':i < w
      · obtain ⟨r, hr⟩ := ih h'
        exact ⟨r++wtl E (tws t0 w) (blk d w),by rw[done,hr]; simp only[List.append_assoc]⟩
      · obtain rfl : w = i := by omega
        exact ⟨[],by rw[done,zD]⟩
  obtain ⟨r,hr⟩:=hpre w hi
  obtain ⟨s,rfl⟩:=hX
  rw[blk,hr]
  simp only[List.append_assoc]
  rw[List.drop_append,qck,Nat.sub_self,zF,List.drop_of_length_le (by rw[qck]; exact Nat.le_refl _),zI,List.take_append_of_le_length (by rw[qcw]; exact Nat.le_refl _),List.take_of_length_le (by rw[qcw]; exact Nat.le_refl _)]
theorem take_blk (d:List (BitVec 8)) (i:Nat):d.take (16*i)++blk d i=d.take (16*(i+1)):=by
  rw[blk,show 16*(i+1)=16*i+16 by omega,List.take_add]
theorem done_inv {E D:R→R} (h:Inv E D) (t0:BitVec 128) (d X:List (BitVec 8)) (w:Nat) (hw:16*w≤d.length) (hX:done E t0 d w <+: X):∀ i,i≤w→done D t0 X i=d.take (16*i):=by
  intro i
  induction i with
  | zero=>intro _; rfl
  | succ i ih =>
    intro hi
    rw[done,ih (by omega),blk_done E t0 d X w hX i (by omega),wtl_inv h _ _ (qgr d i (by omega)),take_blk]
theorem tw_not (t0:BitVec 128) (m:Nat) (tu:Bool):tw1 t0 m (!tu)=tw2 t0 m tu∧tw2 t0 m (!tu)=tw1 t0 m tu:=by
  cases tu <;> exact ⟨rfl,rfl⟩
theorem unit_inv {E D:R→R} (h:Inv E D) (t0:BitVec 128) (d:List (BitVec 8)) (tu:Bool) (h16:16≤d.length):qbG D t0 (qbG E t0 d tu) (!tu)=d:=by
  have hl:=qfz E t0 d tu h16
  by_cases h0:d.length % 16=0
  · have e : qbG E t0 d tu = done E t0 d (d.length / 16) := by rw [qbG, if_pos h0]
    rw[qbG,hl,if_pos h0,e,done_inv h t0 d _ (d.length / 16) (by omega) (List.prefix_refl _) _ (Nat.le_refl _),List.take_of_length_le (by omega)]
  · obtain ⟨m, hm⟩ : ∃ m, m = d.length / 16 - 1 := ⟨_, rfl⟩
    have hw:16*m+16+d.length % 16=d.length:=by omega
    obtain ⟨X,hX⟩:∃ X,X=qbG E t0 d tu:=⟨_,rfl⟩
    obtain ⟨s,hs⟩:∃ s,s=qeE E t0 d tu m:=⟨_,rfl⟩
    obtain ⟨la,hla⟩:∃ la,la=lastB E t0 d tu m:=⟨_,rfl⟩
    have hsl:s.length=16:=by rw[hs,qeE,qcw]
    have hlal:la.length=16:=by rw[hla,hm]; exact lastB_length E t0 d tu h16 h0
    have eX:X=done E t0 d m++wtl E (tw2 t0 m tu) la++s.take (d.length % 16):=by
      rw[hX,qbG,if_neg h0,←hm,hla,hs]
    have hXl:X.length=d.length:=by rw[hX,hl]
    have hdn:done D t0 X m=d.take (16*m):=done_inv h t0 d X m (by omega) ⟨wtl E (tw2 t0 m tu) la++s.take (d.length % 16),by rw[eX,List.append_assoc]⟩ m (Nat.le_refl _)
    have hbX:blk X m=wtl E (tw2 t0 m tu) la:=by
      rw[blk,eX,List.append_assoc,List.drop_append,qck,Nat.sub_self,zF,List.drop_of_length_le (by rw[qck]; exact Nat.le_refl _),zI,List.take_append_of_le_length (by rw[qcw]; exact Nat.le_refl _),List.take_of_length_le (by rw[qcw]; exact Nat.le_refl _)]
    have hst:qeE D t0 X (!tu) m=la:=by
      rw[qeE,(tw_not t0 m tu).1,hbX,wtl_inv h _ _ hlal]
    have hdX:X.drop (16*m+16)=s.take (d.length % 16):=by
      rw[eX,List.drop_append,zH,qck,qcw,Nat.sub_self,zF,List.drop_of_length_le (by rw[zH,qck,qcw]; exact Nat.le_refl _),zI]
    have ela:la=d.drop (16*m+16)++s.drop (d.length % 16):=by rw[hla,lastB,hs]
    have hrl:(d.drop (16*m+16)).length=d.length % 16:=by rw[zQ]; omega
    have hld:la.drop (d.length % 16)=s.drop (d.length % 16):=by
      rw[ela,List.drop_append,hrl,Nat.sub_self,zF,List.drop_of_length_le (by omega),zI]
    have hlt:la.take (d.length % 16)=d.drop (16*m+16):=by
      rw[ela,List.take_append_of_le_length (by omega),List.take_of_length_le (by omega)]
    have hlast:lastB D t0 X (!tu) m=s:=by
      rw[lastB,hst,hdX,hXl,hld,List.take_append_drop]
    rw[←hX,qbG,hXl,if_neg h0,←hm,hdn,hlast,hst,(tw_not t0 m tu).2,hs,qeE,wtl_inv h _ _ (qgr d m (by omega)),hlt,take_blk,show 16*(m+1)=16*m+16 by omega,List.take_append_drop]
end Aes
namespace Aes
open Go Go.LE Xf Tb
set_option maxRecDepth 20000
theorem c_xclone (k b:Nat) (H:Heap) (d:List (BitVec 8)) (h0:d.length≠0) (hb:d.length≤211106232532992) :
    qax (envC C (k+5)) H b 37 [.isl (bs d) d.length]=some ⟨.sl (b,0) 0 d.length none 1,[bs d],[]⟩:=by
  rw [qbR, qbD, qcW, l37, qdy, qby, show ([.isl (bs d) d.length] : List LV).flatMap (nms D) = [] by simp only [zK, zN, qbk, zD], show qa6 H FUEL [] [] = [] from rfl, qbS _ _ _ _ _ rfl,
    show ([.isl (bs d) d.length]:List LV).map (ren D (qaH []))=[.isl (bs d) d.length] by simp only[zB,zA,qbn],zS,zA,qbQ,xclone_F k d h0 hb,show ([]:List Nm).isEmpty=true from rfl,qer,qaT]
  simp only[zB,zA,qap,qa3,zG,zM,qbh,zO,Nat.lt_one_iff,qbd,List.zipWith_nil_left]
structure PH (H:Heap) (n:Nat) (la lb:List (BitVec 8)):Prop where
  g0:H (0,0)=some PO
  g1:H (0,1)=some (KA 2 n)
  g2:H (0,2)=some (bs la)
  g3:H (0,3)=some (KA 4 n)
  g4:H (0,4)=some (bs lb)
theorem PH.reach {H:Heap} {n:Nat} {la lb:List (BitVec 8)} (h:PH H n la lb):qa6 H FUEL [] [(0,0)]=[(0,0),(0,1),(0,2),(0,3),(0,4)]:=by
  simp only[simprocAttr,-rR,-rS,qal,PO_nms,qf7,qam,h.g0,h.g1,h.g2,h.g3,h.g4,qag,qac,qaa]
def five:List Nm:=[(0,0),(0,1),(0,2),(0,3),(0,4)]
theorem five_cee (j:Nat) (h:j < 5):qaH five (0,j)=some (0,j):=by
  have:j=0∨j=1∨j=2∨j=3∨j=4:=by omega
  rcases this with rfl | rfl | rfl | rfl | rfl <;> rfl
theorem five_cer (b:Nat) (j:Nat) (h:j < 5):qbe five b 0 (0,j)=some (0,j):=by
  have:j=0∨j=1∨j=2∨j=3∨j=4:=by omega
  rcases this with rfl | rfl | rfl | rfl | rfl <;> rfl
def mod5 (n:Nat) (la lb:List (BitVec 8)):List (Nm × Option qak):=[((0,0),some PO),((0,1),some (KA 2 n)),((0,2),some (bs la)),((0,3),some (KA 4 n)),((0,4),some (bs lb))]
theorem c_first (k n b:Nat) (hn:n≤20) (la lb:List (BitVec 8)) (hlb:lb.length=16*(n+2)) (u:BitVec 64) (H:Heap) (h:PH H n la lb) :
    qax (envC C (k+80)) H b 76 [.ptr (0,0) 0,B64 u]=some ⟨Hf (lo (tw0 n lb u)) (Xf.hi (tw0 n lb u)),[],mod5 n la lb⟩:=by
  rw[qbR,qbD,qcW,l76,qdy,qby]
  have hnm:([.ptr (0,0) 0,B64 u]:List LV).flatMap (nms D)=[(0,0)]:=rfl
  rw[hnm,h.reach,qbS _ _ _ _ _ rfl]
  have hfm:([(0,0),(0,1),(0,2),(0,3),(0,4)]:List Nm).filterMap H=[PO,KA 2 n,bs la,KA 4 n,bs lb]:=by
    simp[h.g0,h.g1,h.g2,h.g3,h.g4]
  rw[hfm]
  have e0:PO.map (ren D (qaH five))=PO:=rfl
  have e1:(KA 2 n).map (ren D (qaH five))=KA 2 n:=by rw[KA,qaU,qa3,five_cee 2 (by decide)]; rfl
  have e3:(KA 4 n).map (ren D (qaH five))=KA 4 n:=by rw[KA,qaU,qa3,five_cee 4 (by decide)]; rfl
  have ha:([.ptr (0,0) 0,B64 u]:List LV).map (ren D (qaH five))=[.ptr (0,0) 0,B64 u]:=rfl
  have f0:PO.map (ren D (qbe five b 0))=PO:=rfl
  have f1:(KA 2 n).map (ren D (qbe five b 0))=KA 2 n:=by rw[KA,qaU,qa3,five_cer b 2 (by decide)]; rfl
  have f3:(KA 4 n).map (ren D (qbe five b 0))=KA 4 n:=by rw[KA,qaU,qa3,five_cer b 4 (by decide)]; rfl
  rw[show ([(0,0),(0,1),(0,2),(0,3),(0,4)]:List Nm)=five from rfl,ha]
  rw[zB,zB,zB,zB,zB,zA,e0,e1,e3,qap,qap]
  rw[qbQ,xfirst_F k n hn la lb hlb u,show ([]:List Nm).isEmpty=true from rfl,qer,qaT]
  rw[zM,show five=[(0,0),(0,1),(0,2),(0,3),(0,4)] from rfl]
  simp only[List.zipWith_cons_cons,List.zipWith_nil_left,zC,qft,zA,qap]
  rw[←show five=[(0,0),(0,1),(0,2),(0,3),(0,4)] from rfl,f0,f1,f3]
  rfl
theorem c_with (k b g n:Nat) (l:List (BitVec 8)) (E:R→R) (hE:Way g n l E) (t:BitVec 128) (H:Heap) (c m x:Nm) (h:KG H c m (n+2) none l) (B:LV) (bb:List (BitVec 8)) (hbl:bb.length=16)
    (hs:snap H D B=some (.isl (bs bb) 16,[x])) (hx:x≠c∧x≠m) :
    qax (envC C (k+80)) H b 77 [.fn (.func g) [.ptr c 0] [],Hf (lo t) (Xf.hi t),B]=some ⟨.sl (b,0) 0 16 (some 16) 1,[aB 16 (wt E t (fl bb))],[(c,some (CF (.sl m 0 (n+2) none 16) TB)),(m,some (bs l))]⟩:=by
  have hlend:lend H ((envC C (k+80)).borrow 77) 0 [.fn (.func g) [.ptr c 0] [],Hf (lo t) (Xf.hi t),B]=some ([.fn (.func g) [.ptr c 0] [],Hf (lo t) (Xf.hi t),.isl (bs bb) 16],[x]):=by
    rw[qbj,qbj,qbj,qcy,qbD,qcW,if_neg (show ¬ qaI 77 0=true by decide),if_neg (show ¬ qaI 77 (0+1)=true by decide),if_pos (show qaI 77 (0+1+1)=true by decide),hs,qba,qba,qba]
    rfl
  have hn:([.fn (.func g) [.ptr c 0] [],Hf (lo t) (Xf.hi t),.isl (bs bb) 16]:List LV).flatMap (nms D)=[c]:=by
    simp only[zK,zN,qbk,zD,qef,qfs]
  have hre:=reach_KG h
  have hl:([x]:List Nm).any (fun n=>([c,m]:List Nm).contains n)=false:=by simp[hx.1,hx.2]
  have ha:([.fn (.func g) [.ptr c 0] [],Hf (lo t) (Xf.hi t),.isl (bs bb) 16]:List LV).map (ren D (qaH [c,m]))=[.fn (.func g) [.ptr (0,0) 0] [],Hf (lo t) (Xf.hi t),.isl (bs bb) 16]:=by
    have e:ren 7 (qaH [c,m]) (.ptr c 0) = .ptr (0,0) 0:=by
      show (match (qaH [c,m] c) with | some n=>LV.ptr n 0 | none=>_)=_
      rw[qbJ,idx0]; rfl
    simp only[zB,zA,qfi,e,qft,qbn]
  have hp:qa7 (.sl (1,0) 0 16 (some 16) 1,[some (KO n),some (bs l)],[aB 16 (wt E t (fl bb))])=true:=by
    simp only[qa7,List.all_nil,zV,qcz,noImm_aBs,KO,qgq]; rfl
  rw[qbR,hlend,qby,hn,hre,qbS _ _ _ _ _ hl,ha,show ([c,m]:List Nm).filterMap H=[CF (.sl m 0 (n+2) none 16) TB,bs l] by simp[h.hc,h.hm]]
  rw[zB,zB,zA,qaU,qa3,qbJ,idx1 _ _ _ h.ne,zC,qbd,qap,qbQ]
  rw[show CF (.sl (0,1) 0 (n+2) none 16) TB=KO n from rfl,with_F k g n l E hE t bb hbl,qcn _ _ _ _ hp,qaT]
  simp only[KO,zB,zA,List.zipWith_cons_cons,List.zipWith_nil_left,zC,qaU,qa3,qcN,qbh,qap,qaD,qbd,List.getElem?_cons_zero,List.getElem?_cons_succ,zG,zM,zO,Nat.lt_one_iff]
end Aes
namespace Aes
open Go Go.LE Xf Tb
set_option maxRecDepth 20000
theorem PH.cn {H:Heap} {n:Nat} {la lb:List (BitVec 8)} (h:PH H n la lb) (names:List Nm):PH (cN names H) n la lb :=
  ⟨by rw[qaG,h.g0,zC,PO_ren],by rw[qaG,h.g1,zC,KA_ren],by rw[qaG,h.g2,zC,qap],by rw[qaG,h.g3,zC,KA_ren],by rw[qaG,h.g4,zC,qap]⟩
theorem PH.up {H:Heap} {n:Nat} {la lb:List (BitVec 8)} (h:PH H n la lb) (m:Nm) (x:Option qak) (hm:m.1≠0):PH (upd H m x) n la lb:=by
  have e:∀ j,upd H m x (0,j)=H (0,j):=fun j=>by
    rw[qbx,if_neg (fun h=>hm (by rw[←h]))]
  exact ⟨by rw[e]; exact h.g0,by rw[e]; exact h.g1,by rw[e]; exact h.g2,by rw[e]; exact h.g3,by rw[e]; exact h.g4⟩
theorem tr_KGn (H:Heap) (v:LV) (news:List qak) (c m:Nm) (len:Nat) (cap:Option Nat) (l:List (BitVec 8)) (h:KG H c m len cap l):qdv true H (some ⟨v,news,[(c,some (CF (.sl m 0 len cap 16) TB)),(m,some (bs l))]⟩)=some ⟨v,news,[]⟩:=by
  refine qeB _ _ _ _ fun q hm => ?_
  simp only[List.mem_cons,List.not_mem_nil,or_false] at hm
  rcases hm with rfl | rfl
  · simp only[h.hc,qc3,same_CF]
  · simp only[h.hm,qc3,qf5]
theorem cp_16 (H:Heap) (m x:Nm) (o len:Nat) (c c2:Option Nat) (L:List (BitVec 8)) (w:R) (hm:H m=some (bs L)) (hx:H x=some (aB 16 w)) (hl:o+16≤L.length) (h16:16≤len) :
    cpK 1 H (.sl m o len c 1) (.sl x 0 16 c2 1) (some 16)=some ⟨N 16,[],[(m,some (bs (L.take o++(List.range 16).map w++L.drop (o+16))))]⟩:=by
  have hmin:min 16 len=16:=by omega
  rw[qdp] at hx
  have hf:qbs H 1 (min 16 len) (.sl x 0 16 c2 1)=some (bs ((List.range 16).map w)):=by
    rw[hmin,qbN x 0 16 c2 _ hx (by rw[zT,List.length_range]; exact Nat.le_refl _),zF,List.take_of_length_le (by rw[zT,List.length_range]; exact Nat.le_refl _)]
  rw[qeJ 16 m o len c _ L _ (by omega) hf hm (by omega),hmin,zT,List.length_range]
def runJ (g n:Nat) (la lb:List (BitVec 8)) (E:R→R) (t0:BitVec 128) (d:List (BitVec 8)) (tu:Bool) (w:Nat) (i:Nat) (st:St):Prop := ∃ (H:Heap),
  st=⟨[.undef,.undef,.undef,.fn (.func g) [.ptr (0,1) 0] [],Bo tu,.undef,.undef,.undef,.undef,.undef,.undef,.sl (1,0) 0 d.length none 1,.ptr (1,1) 0,N (d.length % 16),N (16*w),N (16*i),.undef,.undef,.undef,.undef,.undef,.undef,.undef,.undef,.undef,.undef,.undef,.undef,.undef,.undef,.undef,.undef,.undef,.undef,.undef,.undef,.undef,.undef,.undef,.undef,.undef,.undef,.undef,.undef,.undef,.undef,.undef,.undef,.undef,.undef,.undef,.undef,.undef,.undef,.undef,.undef,.undef,.undef,.undef,.undef,.undef,.undef,.undef,.undef,.undef,.undef,.undef,.undef,.undef,.undef,.undef,.undef,.undef,.undef,.undef,.undef,.undef,.undef,.undef,.undef,.undef,.undef,.undef,.undef,.undef,.undef,.undef,.undef,.undef,.undef,.undef,.undef,.undef,.undef,.undef,.undef,.undef,.undef],H,2,5⟩ ∧
  PH H n la lb∧H (1,0)=some (bs (outI E t0 d i))∧H (1,1)=some [B64 (lo (tws t0 i)),B64 (Xf.hi (tws t0 i))]
theorem run_round (k g n:Nat) (la lb:List (BitVec 8)) (E:R→R) (hE:Way g n la E) (t0:BitVec 128) (d:List (BitVec 8)) (tu:Bool) (w:Nat) (hd:16*w≤d.length) (hd2:d.length≤65536) (i:Nat) (hi:i < w) (st:St)
    (hJ:runJ g n la lb E t0 d tu w i st):∃ st1,ev (envC C (k+80)) (k+80) L65b0 st=some (.normal,st1)∧runJ g n la lb E t0 d tu w (i+1) (qa8 L65k0 st1):=by
  obtain ⟨H,rfl,P,h1,h2⟩:=hJ
  have hol:=outI_length E t0 d i (by omega)
  have i0:16*i < 16*w:=by omega
  have i1:16*i≤d.length:=by omega
  have i2:16*i+16≤d.length:=by omega
  have i3:16*i+16 - 16*i=16:=by omega
  have i4:16*i≤16*i+16:=by omega
  have hdb:∀ k,F C (k+1) 78 [Hf (lo (tws t0 i)) (Xf.hi (tws t0 i))] []=some (Hf (lo (tws t0 (i+1))) (Xf.hi (tws t0 (i+1))),[],[]):=fun k=>Xf.dbl_F k (tws t0 i)
  have hsn:∀ H':Heap,H' (1,0)=some (bs (outI E t0 d i))→∀ c,snap H' D (.sl (1,0) (16*i) 16 c 1)=some (.isl (bs (blk d i)) 16,[(1,0)]):=fun H' h' c=>by
    rw[qhr (1,0) (16*i) 16 c _ h' (by decide),outI_blk]
  simp (disch:=first|omega|decide|simp only[nmsB,lB]) only[simprocAttr,-rR,-rS,leB,memB,arrB,numB,qaf,opsB,ordB,qay,qaj,qaP,L65b0,h1,h2,i0,i1,i2,i3,i4,qef,qa5,agg_Hf,qab,qad,qac,qaa,qaA,qah]
  have hre:qa6 H FUEL [] [(0,1),(1,0)]=[(0,1),(0,2),(1,0)]:=by
    simp only[simprocAttr,-rR,-rS,qal,qf7,qam,P.g1,P.g2,h1,qag,qac,qaa]
  have K3:KG (only [(0,1),(0,2),(1,0)] H) (0,1) (0,2) (n+2) none la:=⟨P.g1,P.g2,by decide⟩
  rw[hre,c_with k _ g n la E hE (tws t0 i) _ (0,1) (0,2) (1,0) K3 _ (blk d i) (qgr d i (by omega)) (hsn (only [(0,1),(0,2),(1,0)] H) h1 none) ⟨by decide,by decide⟩,tr_KGn _ _ _ _ _ _ _ _ K3]
  simp (disch:=first|omega|decide|simp only[nmsB,lB]) only[simprocAttr,-rR,-rS,leB,memB,arrB,numB,qaf,opsB,ordB,qay,qaj,qaP,h1,h2,qa5,qab,qad,qac,qaa,qaA,qah]
  have i5:16≤d.length - 16*i:=by omega
  rw [cp_16 (only [(1, 0), (15, 0)] (upd H (15, 0) _)) (1, 0) (15, 0) (16 * i) (d.length - 16 * i) none (some 16) (outI E t0 d i) (wt E (tws t0 i) (fl (blk d i))) h1 rfl (by omega) i5,
    show (List.range 16).map (wt E (tws t0 i) (fl (blk d i)))=wtl E (tws t0 i) (blk d i) from rfl,outI_succ E t0 d i (by omega)]
  have hd1:=hdb (k+79)
  simp (disch:=first|omega|decide|simp only[nmsB,lB]) only[simprocAttr,-rR,-rS,leB,memB,arrB,numB,qaf,opsB,ordB,qay,qaj,qaP,h2,hd1,agg_Hf,l78,qfs,qft,qae,qab,qad,qac,qaa,qaA,qah]
  refine ⟨_,rfl,?_⟩
  refine qao [(1,0),(1,1)] rfl (by simp only[simprocAttr,-rR,-rS,qal,L65k0,qef,qdB,PO_nms,qf7,qam,qa5,P.g0,P.g1,P.g2,P.g3,P.g4,h2,qag,qac,qaa]) (by simp only[simprocAttr,-rR,-rS,qal,L65k0,zB,zA,qfi,qag,qac,qaa] <;> rfl) ⟨_,rfl,?_,?_,?_⟩
  · exact PH.cn (((P.up (15,0) _ (by decide)).up (1,0) _ (by decide)).up (1,1) _ (by decide)) _
  · exact qai (1,0) rfl (by simp (disch:=first|omega|decide|simp only[nmsB,lB]) only[simprocAttr,-rR,-rS,leB,memB,qaf,qae,qab,qad,qac,qaa]) (qap _ _)
  · exact qai (1,1) rfl (by simp (disch:=first|omega|decide|simp only[nmsB,lB]) only[simprocAttr,-rR,-rS,leB,memB,qaf,qae,qab,qad,qac,qaa]) rfl
end Aes
namespace Aes
open Go Go.LE Xf Tb
set_option maxRecDepth 20000
theorem qa9 {H:Heap} {m:Nm} {x:Option qak} (h:H m=x):upd H m x=H:=by
  funext q
  rw[qbx]
  by_cases e:q=m
  · rw[if_pos e,e,h]
  · rw[if_neg e]
theorem PH.same {H:Heap} {n:Nat} {la lb:List (BitVec 8)} (h:PH H n la lb):modN (mod5 n la lb) H=H:=by
  simp only[mod5,qb9,qcc,qa9 h.g4,qa9 h.g3,qa9 h.g2,qa9 h.g1,qa9 h.g0]
theorem run_whole (k g n:Nat) (hn:n≤20) (la lb:List (BitVec 8)) (hlb:lb.length=16*(n+2)) (E:R→R) (hE:Way g n la E) (u:BitVec 64) (d:List (BitVec 8)) (h16:16≤d.length) (hd2:d.length≤65536) (tu:Bool) (hr:d.length % 16=0) :
    F C (k+5000) 65 [.ptr (0,0) 0,B64 u,.isl (bs d) d.length,.fn (.func g) [.ptr (0,1) 0] [],Bo tu] [PO,KA 2 n,bs la,KA 4 n,bs lb] =
    some (.sl (1,0) 0 d.length none 1,[some PO,some (KA 2 n),some (bs la),some (KA 4 n),some (bs lb)],[bs (qbG E (tw0 n lb u) d tu)]):=by
  rw[qaK f65]
  have P0:PH (qaZ [PO,KA 2 n,bs la,KA 4 n,bs lb]) n la lb:=⟨rfl,rfl,rfl,rfl,rfl⟩
  generalize hI:qaZ [PO,KA 2 n,bs la,KA 4 n,bs lb]=H0 at P0
  have hcl:∀ b H,qax (envC C (k+4999)) H b 37 [.isl (bs d) d.length]=some ⟨.sl (b,0) 0 d.length none 1,[bs d],[]⟩:=fun b H=>c_xclone (k+4994) b H d (by omega) (by omega)
  simp (disch:=first|omega|decide|simp only[nmsB,lB]) only[simprocAttr,-rR,-rS,leB,memB,arrB,numB,qaf,opsB,ordB,qay,qaj,qaP,L65,hcl,qab,qad,qac,qaa,qaA,qah]
  rw[hI]
  have P1:=P0.up (4,0) (some (bs d)) (by decide)
  have hm:=P1.same
  rw[c_first (k+4919) n _ hn la lb hlb u _ P1]
  simp (disch:=first|omega|decide|simp only[nmsB,lB]) only[simprocAttr,-rR,-rS,leB,memB,arrB,numB,qaf,opsB,ordB,qay,qaj,qaP,hm,agg_Hf,qab,qad,qac,qaa,qaA,qah]
  have e0:d.length - d.length % 16=16*(d.length / 16):=by omega
  rw[e0]
  generalize hG:upd (upd (upd H0 (4,0) _) (9,0) _) (9,0) _=G
  have PG:PH G n la lb:=by rw[←hG]; exact (P1.up _ _ (by decide)).up _ _ (by decide)
  have ga:G (4,0)=some (bs d):=by rw[←hG]; rfl
  have gb:G (9,0)=some [B64 (lo (tw0 n lb u)),B64 (Xf.hi (tw0 n lb u))]:=by rw[←hG]; rfl
  clear hG
  have d0:decide (0 < d.length % 16)=false:=decide_eq_false (by omega)
  rw[d0]
  simp (disch:=first|omega|decide|simp only[nmsB,lB]) only[simprocAttr,-rR,-rS,leB,memB,arrB,numB,qaf,opsB,ordB,qay,qaj,qaP,qab,qad,qac,qaa,qaA,qah]
  generalize hL:qa2 L65k0 _ _ _=r
  refine qaR hL (runJ g n la lb E (tw0 n lb u) d tu (d.length / 16)) (d.length / 16) (by omega) (fun i st hi hJ=>run_round (k+4919) g n la lb E hE _ d tu (d.length / 16) (by omega) hd2 i hi st hJ) ?_ ?_ ?_
  · refine qao [(4, 0), (9, 0)] rfl (by simp only [simprocAttr, -rR, -rS, qal, L65k0, qef, qdB, PO_nms, qf7, qam, qa5, PG.g0, PG.g1, PG.g2, PG.g3, PG.g4, ga, gb, qag, qac, qaa]) (by simp only [simprocAttr, -rR, -rS, qal, L65k0, zB, zA, qfi, qag, qac, qaa] <;> rfl) ⟨_, rfl, ?_, ?_, ?_⟩
    · exact PH.cn PG _
    · rw[outI_0]; exact qai (4,0) rfl (by simp (disch:=first|omega|decide|simp only[nmsB,lB]) only[simprocAttr,-rR,-rS,leB,memB,qaf,ga,qae,qab,qad,qac,qaa]) (qap _ _)
    · exact qai (9,0) rfl (by simp (disch:=first|omega|decide|simp only[nmsB,lB]) only[simprocAttr,-rR,-rS,leB,memB,qaf,gb,qae,qab,qad,qac,qaa] <;> rfl) rfl
  · rintro st ⟨H, rfl, P, h1, h2⟩
    apply qaN
    simp (disch:=first|omega|decide|simp only[nmsB,lB]) only[simprocAttr,-rR,-rS,leB,memB,arrB,numB,qaf,L65b0,zZ,qae,qab,qad,qac,qaa]
    rfl
  · rintro st ⟨H, rfl, P, h1, h2⟩ rfl
    rw[outI_whole _ _ _ hr,unitP_whole _ _ _ false tu hr] at h1
    simp (disch:=first|omega|decide|simp only[nmsB,lB]) only[simprocAttr,-rR,-rS,leB,memB,arrB,numB,qaf,opsB,ordB,qay,qaj,qaP,L65b0,zZ,hr,h1,qab,qad,qac,qaa,qaA,qah]
    rw[qaW 5 _ _ [(1,0)] (by simp only[simprocAttr,-rR,-rS,qal,qdB,PO_nms,qf7,qam,qa5,P.g0,P.g1,P.g2,P.g3,P.g4,h1,qag,qac,qaa])]
    simp (disch:=first|omega|decide|simp only[nmsB,lB]) only[simprocAttr,-rR,-rS,leB,memB,qaf,qdB,PO_ren,KA_ren,qap,qa3,P.g0,P.g1,P.g2,P.g3,P.g4,h1,qae,qab,qad,qac,qaa]
end Aes
namespace Aes
open Go Go.LE Xf Tb
set_option maxRecDepth 20000
theorem call_gen (K b g:Nat) (H:Heap) (args args1 args':List LV) (ns lent:List Nm) (objs':List qak) (res:qcb) (hl:lend H (qaI g) 0 args=some (args1,lent)) (hr:qa6 H FUEL [] (args1.flatMap (nms D))=ns)
    (hd:lent.any (fun n=>ns.contains n)=false) (ha:args1.map (ren D (qaH ns))=args') (ho:(ns.filterMap H).map (fun cs=>cs.map (ren D (qaH ns)))=objs') (hF:F C K g args' objs'=some res) (hp:qa7 res=true) :
    qax (envC C K) H b g args=some (qcB ns b res):=by
  rw[qbR,qbD,qcW,hl,qby,hr,qbS _ _ _ _ _ hd,ha,ho,qbQ,hF,qcn _ _ _ _ hp]
structure XG (H:Heap) (p a ka b kb:Nm) (n:Nat) (la lb:List (BitVec 8)):Prop where
  hp:H p=some [.ptr a 0,.ptr b 0]
  ha:H a=some (CF (.sl ka 0 (n+2) none 16) TB)
  hka:H ka=some (bs la)
  hb:H b=some (CF (.sl kb 0 (n+2) none 16) TB)
  hkb:H kb=some (bs lb)
  nd:[p,a,ka,b,kb].Nodup
def modX (p a ka b kb:Nm) (n:Nat) (la lb:List (BitVec 8)):List (Nm × Option qak) :=
  [(p,some [.ptr a 0,.ptr b 0]),(a,some (CF (.sl ka 0 (n+2) none 16) TB)),(ka,some (bs la)),(b,some (CF (.sl kb 0 (n+2) none 16) TB)),(kb,some (bs lb))]
theorem XG.same {H:Heap} {p a ka b kb:Nm} {n:Nat} {la lb:List (BitVec 8)} (h:XG H p a ka b kb n la lb):modN (modX p a ka b kb n la lb) H=H:=by
  simp only[modX,qb9,qcc,qa9 h.hkb,qa9 h.hb,qa9 h.hka,qa9 h.ha,qa9 h.hp]
theorem XG.tr {H:Heap} {p a ka b kb:Nm} {n:Nat} {la lb:List (BitVec 8)} (h:XG H p a ka b kb n la lb) (v:LV) (news:List qak):qdv true H (some ⟨v,news,modX p a ka b kb n la lb⟩)=some ⟨v,news,[]⟩:=by
  refine qeB _ _ _ _ fun q hm => ?_
  simp only[modX,List.mem_cons,List.not_mem_nil,or_false] at hm
  rcases hm with rfl | rfl | rfl | rfl | rfl
  · simp only[h.hp,qc3]; simp[qdP,qev]
  · simp only[h.ha,qc3,same_CF]
  · simp only[h.hka,qc3,qf5]
  · simp only[h.hb,qc3,same_CF]
  · simp only[h.hkb,qc3,qf5]
theorem XG.ne {H:Heap} {p a ka b kb:Nm} {n:Nat} {la lb:List (BitVec 8)} (h:XG H p a ka b kb n la lb):(a≠p∧ka≠p∧b≠p∧kb≠p)∧(ka≠a∧b≠a∧kb≠a)∧(b≠ka∧kb≠ka)∧kb≠b:=by
  have:=h.nd
  simp only[List.nodup_cons,List.mem_cons,List.not_mem_nil,or_false,not_or,List.nodup_nil,not_false_eq_true,and_true] at this
  obtain ⟨⟨h1,h2,h3,h4⟩,⟨h5,h6,h7⟩,⟨h8,h9⟩,h10⟩:=this
  exact ⟨⟨fun e=>h1 e.symm,fun e=>h2 e.symm,fun e=>h3 e.symm,fun e=>h4 e.symm⟩,⟨fun e=>h5 e.symm,fun e=>h6 e.symm,fun e=>h7 e.symm⟩,⟨fun e=>h8 e.symm,fun e=>h9 e.symm⟩,fun e=>h10 e.symm⟩
theorem XG.reach {H:Heap} {p a ka b kb:Nm} {n:Nat} {la lb:List (BitVec 8)} (h:XG H p a ka b kb n la lb):qa6 H FUEL [] [p]=[p,a,ka,b,kb]:=by
  obtain ⟨⟨h1,h2,h3,h4⟩,⟨h5,h6,h7⟩,⟨h8,h9⟩,h10⟩:=h.ne
  simp only[FUEL,qag,za,zP,zL,h.hp,qb7,qcj,qaV,qa5,qam,zK,zN,zI,zR,zD,List.contains_cons,beq_iff_eq,h1,h2,h3,h4,h5,h6,h7,h8,h9,h10,Bool.or_false,Bool.or_eq_true,or_self,h.ha,h.hka,h.hb,h.hkb,qbf]
theorem XG.reach2 {H:Heap} {p a ka b kb:Nm} {n:Nat} {la lb:List (BitVec 8)} (h:XG H p a ka b kb n la lb):Go.LE.qa6 H FUEL [] [p,a]=[p,a,ka,b,kb]:=by
  obtain ⟨⟨h1,h2,h3,h4⟩,⟨h5,h6,h7⟩,⟨h8,h9⟩,h10⟩:=h.ne
  simp only[FUEL,qag,za,zP,zL,h.hp,qb7,qcj,qaV,qa5,qam,zK,zN,zI,zR,zD,List.contains_cons,beq_iff_eq,h1,h2,h3,h4,h5,h6,h7,h8,h9,h10,Bool.or_false,Bool.or_eq_true,or_self,h.ha,h.hka,h.hb,h.hkb,qbf,beq_self_eq_true,Bool.or_true,Bool.true_or,true_or,or_true,zE]
theorem XG.cee {H:Heap} {p a ka b kb:Nm} {n:Nat} {la lb:List (BitVec 8)} (h:XG H p a ka b kb n la lb):qaH [p,a,ka,b,kb] p=some (0,0)∧qaH [p,a,ka,b,kb] a=some (0,1)∧qaH [p,a,ka,b,kb] ka=some (0,2)∧qaH [p,a,ka,b,kb] b=some (0,3)∧qaH [p,a,ka,b,kb] kb=some (0,4):=by
  obtain ⟨⟨h1,h2,h3,h4⟩,⟨h5,h6,h7⟩,⟨h8,h9⟩,h10⟩:=h.ne
  refine ⟨?_,?_,?_,?_,?_⟩ <;> simp[qaH,idx,h1,h2,h3,h4,h5,h6,h7,h8,h9,h10,Ne.symm h1,Ne.symm h2,Ne.symm h3,Ne.symm h4,Ne.symm h5,Ne.symm h6,Ne.symm h7,Ne.symm h8,Ne.symm h9,Ne.symm h10]
theorem c_run (k g n base:Nat) (hn:n≤20) (H:Heap) (p a ka b kb:Nm) (la lb:List (BitVec 8)) (X:XG H p a ka b kb n la lb) (hlb:lb.length=16*(n+2)) (E:R→R) (hE:Way g n la E) (u:BitVec 64) (V:LV) (d:List (BitVec 8)) (lent:List Nm)
    (hs:snap H D V=some (.isl (bs d) d.length,lent)) (hx:∀ x ∈ lent,x ∉ [p,a,ka,b,kb]) (h16:16≤d.length) (hd2:d.length≤65536) (hw:d.length % 16=0) (tu:Bool) :
    qax (envC C (k+5000)) H base 65 [.ptr p 0,B64 u,V,.fn (.func g) [.ptr a 0] [],Bo tu]=some ⟨.sl (base,0) 0 d.length none 1,[bs (qbG E (tw0 n lb u) d tu)],modX p a ka b kb n la lb⟩:=by
  obtain ⟨c0,c1,c2,c3,c4⟩:=X.cee
  have hl:lend H (qaI 65) 0 [.ptr p 0,B64 u,V,.fn (.func g) [.ptr a 0] [],Bo tu]=some ([.ptr p 0,B64 u,.isl (bs d) d.length,.fn (.func g) [.ptr a 0] [],Bo tu],lent):=by
    rw[qbj,qbj,qbj,qbj,qbj,qcy,if_neg (show ¬ qaI 65 0=true by decide),if_neg (show ¬ qaI 65 (0+1)=true by decide),if_pos (show qaI 65 (0+1+1)=true by decide),if_neg (show ¬ qaI 65 (0+1+1+1)=true by decide),if_neg (show ¬ qaI 65 (0+1+1+1+1)=true by decide),hs,qba,qba,qba,qba,qba]
    simp
  have hr:Go.LE.qa6 H FUEL [] (([.ptr p 0,B64 u,.isl (bs d) d.length,.fn (.func g) [.ptr a 0] [],Bo tu]:List LV).flatMap (nms D))=[p,a,ka,b,kb]:=by
    have e:([.ptr p 0,B64 u,.isl (bs d) d.length,.fn (.func g) [.ptr a 0] [],Bo tu]:List LV).flatMap (nms D)=[p,a]:=by
      simp only[zK,zN,qbk,zD,qef,qcj,qf1,nms_Bo,zI,zR]
    rw[e,X.reach2]
  have hd:lent.any (fun n=>[p,a,ka,b,kb].contains n)=false:=by
    rw[List.any_eq_false]; intro x h; have:=hx x h; simpa using this
  have ha:([.ptr p 0,B64 u,.isl (bs d) d.length,.fn (.func g) [.ptr a 0] [],Bo tu]:List LV).map (ren D (qaH [p,a,ka,b,kb]))=[.ptr (0,0) 0,B64 u,.isl (bs d) d.length,.fn (.func g) [.ptr (0,1) 0] [],Bo tu]:=by
    have e:ren 7 (qaH [p,a,ka,b,kb]) (.ptr a 0) = .ptr (0,1) 0:=by
      show (match (qaH [p,a,ka,b,kb] a) with | some n=>LV.ptr n 0 | none=>_)=_
      rw[c1]
    simp only[zB,zA,qbl,c0,qbv,qfi,e,qde,qeU,qbn]
  have ho:([p,a,ka,b,kb].filterMap H).map (fun cs=>cs.map (ren D (qaH [p,a,ka,b,kb])))=[PO,KA 2 n,bs la,KA 4 n,bs lb]:=by
    simp only[List.filterMap_cons,zS,X.hp,X.ha,X.hka,X.hb,X.hkb,zB,zA,qbl,c1,c3,qbv,qaU,qa3,c2,c4,qbd,qap,PO,KA]
  have hp:qa7 (.sl (1,0) 0 d.length none 1,[some PO,some (KA 2 n),some (bs la),some (KA 4 n),some (bs lb)],[bs (qbG E (tw0 n lb u) d tu)])=true:=by
    simp only[qa7,List.all_nil,zV,qcz,KA,qgq]; rfl
  rw[call_gen _ base 65 H _ _ _ _ _ _ _ hl hr hd ha ho (run_whole k g n hn la lb hlb E hE u d h16 hd2 tu hw) hp,qaT]
  simp only[PO,KA,modX,List.zipWith_cons_cons,List.zipWith_nil_left,zC,zB,zA,qbl,qa3,qaU,qap,qcN,qbh,List.getElem?_cons_zero,List.getElem?_cons_succ,qbv,qbd,zG,zM,zO,Nat.lt_one_iff]
end Aes
namespace Aes
open Go Go.LE Xf Tb
set_option maxRecDepth 20000
theorem qaz {H:Heap} {f:Nat} {seen:List Nm} {n:Nm} {todo:List Nm} {cs:qak} {ns:List Nm} (hs:seen.contains n=false) (hH:H n=some cs) (hN:cs.flatMap (nms D)=ns):qa6 H (f+1) seen (n::todo)=qa6 H f (seen++[n]) (ns++todo):=by
  rw[qag,hs,hH,qb7,hN]; rfl
theorem qbq {H:Heap} {f:Nat} {seen:List Nm} {n:Nm} {todo:List Nm} (hs:seen.contains n=true):qa6 H (f+1) seen (n::todo)=qa6 H f seen todo:=by
  rw[qag,hs]; rfl
theorem qd9 {H:Heap} {np:Nat} {ret:LV} {l ns names:List Nm} (hl:(List.range np).map (fun i=>(0,i))++[ret].flatMap (nms D)=l) (h:qa6 H FUEL [] l=ns) (hf:ns.filter (fun n=>n.1 != 0)=names):qbC H np [ret]=names:=by
  rw[qbC,hl,h,hf]
theorem qb0 {np:Nat} {st:St} {ret:LV} {names:List Nm} {o:qcb} (h:qbC st.H np [ret]=names)
    (e:(ren D (qbi names) ret,(List.range np).map (fun i=>(st.H (0,i)).map fun cs=>cs.map (ren D (qbi names))),(names.filterMap st.H).map fun cs=>cs.map (ren D (qbi names)))=o):some (qb2 np st ret)=some o:=by
  rw[qaW np st ret names h,e]
theorem dn (d:List (BitVec 8)) {n:Nat}:([.isl (bs d) n]:qak).flatMap (nms D)=[]:=by
  rw[zK,qbk]; rfl
theorem callV_fn3 {E:Env} {H:Heap} {b:Nat} (g:FuncId) (x y z:LV):callV E H b [] (.fn (.func g) [] [x,y,z])=qax E H b g [x,y,z]:=by simp[callV]
theorem qcl (K b g:Nat) (hg:qaI g=fun _=>false) (H:Heap) (args args':List LV) (l ns:List Nm) (objs':List qak) (res:qcb) (hn:args.flatMap (nms D)=l) (hr:qa6 H FUEL [] l=ns)
    (ha:args.map (ren D (qaH ns))=args') (ho:(ns.filterMap H).map (fun cs=>cs.map (ren D (qaH ns)))=objs') (hF:F C K g args' objs'=some res) :
    qax (envC C K) H b g args=some (qcB ns b res):=by
  rw[qbR,qbD,qcW,hg,qdy,qby,hn,hr,qbS _ _ _ _ _ rfl,ha,ho,qbQ,hF]; rfl
theorem op_fn {E:Env} {tm:List LV} {H:Heap} {b:Nat} (f:Fn) (xs ys:List LX):qa1 E tm H b (.fn f xs ys)=some ⟨.fn f (xs.map (evX E.gl tm)) (ys.map (evX E.gl tm)),[],[]⟩:=rfl
theorem range_8:List.range 8=[0,1,2,3,4,5,6,7]:=rfl
theorem fn3_nms (g:FuncId) (a b c:Nm):nms D (.fn (.func g) [] [.ptr a 0,.ptr b 0,.ptr c 0])=[a,b,c]:=rfl
theorem clo43I_F (k n:Nat) (hn:n≤20) (la lb:List (BitVec 8)) (hla:la.length=16*(n+2)) (hlb:lb.length=16*(n+2)) (u:BitVec 64) (d:List (BitVec 8)) (h16:16≤d.length) (hd2:d.length≤65536) (hw:d.length % 16=0) :
    F C (k+5001) 64 [.ptr (0,0) 0,.ptr (0,6) 0,.ptr (0,7) 0] [[.ptr (0,1) 0],[.ptr (0,2) 0,.ptr (0,4) 0],CF (.sl (0,3) 0 (n+2) none 16) TB,bs la,CF (.sl (0,5) 0 (n+2) none 16) TB,bs lb,[B64 u],[.isl (bs d) d.length]]=some (.sl (1,0) 0 d.length none 1,[some ([.ptr (0,1) 0]),some ([.ptr (0,2) 0,.ptr (0,4) 0]),some (CF (.sl (0,3) 0 (n+2) none 16) TB),some (bs la),some (CF (.sl (0,5) 0 (n+2) none 16) TB),some (bs lb),some ([B64 u]),some ([.isl (bs d) d.length])],[bs (qbG (enc (kf la) n) (tw0 n lb u) d false)]):=by
  rw[qaK f64]
  generalize hG:qaZ [[.ptr (0,1) 0],[.ptr (0,2) 0,.ptr (0,4) 0],CF (.sl (0,3) 0 (n+2) none 16) TB,bs la,CF (.sl (0,5) 0 (n+2) none 16) TB,bs lb,[B64 u],[.isl (bs d) d.length]]=G
  have x00:G (0,0)=some ([.ptr (0,1) 0]):=by rw[←hG]; rfl
  have x01:G (0,1)=some ([.ptr (0,2) 0,.ptr (0,4) 0]):=by rw[←hG]; rfl
  have x02:G (0,2)=some (CF (.sl (0,3) 0 (n+2) none 16) TB):=by rw[←hG]; rfl
  have x03:G (0,3)=some (bs la):=by rw[←hG]; rfl
  have x04:G (0,4)=some (CF (.sl (0,5) 0 (n+2) none 16) TB):=by rw[←hG]; rfl
  have x05:G (0,5)=some (bs lb):=by rw[←hG]; rfl
  have x06:G (0,6)=some ([B64 u]):=by rw[←hG]; rfl
  have x07:G (0,7)=some ([.isl (bs d) d.length]):=by rw[←hG]; rfl
  have X:XG G (0,1) (0,2) (0,3) (0,4) (0,5) n la lb:=⟨x01,x02,x03,x04,x05,by decide⟩
  have X':XG (only [(0,1),(0,2),(0,3),(0,4),(0,5)] G) (0,1) (0,2) (0,3) (0,4) (0,5) n la lb:=⟨x01,x02,x03,x04,x05,by decide⟩
  have hre:qa6 G FUEL [] [(0,1),(0,2)]=[(0,1),(0,2),(0,3),(0,4),(0,5)]:=(qaz rfl x01 rfl).trans ((qaz rfl x02 (qaV _ _)).trans ((qaz rfl x03 (qam _)).trans ((qaz rfl x04 (qaV _ _)).trans ((qaz rfl x05 (qam _)).trans ((qbq rfl).trans (qbf _ _ _))))))
  have hc:∀ b,_:=fun b=>c_run k 66 n b hn (only [(0,1),(0,2),(0,3),(0,4),(0,5)] G) (0,1) (0,2) (0,3) (0,4) (0,5) la lb X' hlb (enc (kf la) n) (way_enc n hn la hla) u (.isl (bs d) d.length) d [] (snap_isl _ _) (by decide) h16 hd2 hw false
  have ht:∀ v news,_:=fun v news=>X'.tr v news
  simp (disch:=first|omega|decide|simp only[nmsB,lB]) only[simprocAttr,-rR,-rS,leB,memB,arrB,numB,qaf,opsB,ordB,qay,qaj,qaP,L64,hG,op_fn,x00,x01,x02,x03,x04,x05,x06,x07,qef,qbk,qa5,hre,hc,ht,zI,zR,qab,qad,qac,qaa,qaA,qah]
  generalize hQ:upd G (11,0) (some (bs (qbG (enc (kf la) n) (tw0 n lb u) d false)))=Q
  have y00:Q (0,0)=some ([.ptr (0,1) 0]):=by rw[←hQ]; exact x00
  have y01:Q (0,1)=some ([.ptr (0,2) 0,.ptr (0,4) 0]):=by rw[←hQ]; exact x01
  have y02:Q (0,2)=some (CF (.sl (0,3) 0 (n+2) none 16) TB):=by rw[←hQ]; exact x02
  have y03:Q (0,3)=some (bs la):=by rw[←hQ]; exact x03
  have y04:Q (0,4)=some (CF (.sl (0,5) 0 (n+2) none 16) TB):=by rw[←hQ]; exact x04
  have y05:Q (0,5)=some (bs lb):=by rw[←hQ]; exact x05
  have y06:Q (0,6)=some ([B64 u]):=by rw[←hQ]; exact x06
  have y07:Q (0,7)=some ([.isl (bs d) d.length]):=by rw[←hQ]; exact x07
  have yn:Q (11,0)=some (bs (qbG (enc (kf la) n) (tw0 n lb u) d false)):=by rw[←hQ]; rfl
  have hch:qa6 Q FUEL [] [(0,0),(0,1),(0,2),(0,3),(0,4),(0,5),(0,6),(0,7),(11,0)]=[(0,0),(0,1),(0,2),(0,3),(0,4),(0,5),(0,6),(0,7),(11,0)]:=(qaz rfl y00 rfl).trans ((qaz rfl y01 rfl).trans ((qaz rfl y02 (qaV _ _)).trans ((qaz rfl y03 (qam _)).trans ((qaz rfl y04 (qaV _ _)).trans ((qaz rfl y05 (qam _)).trans ((qbq rfl).trans ((qbq rfl).trans ((qbq rfl).trans ((qbq rfl).trans ((qbq rfl).trans ((qaz rfl y06 rfl).trans ((qaz rfl y07 (dn _)).trans ((qaz rfl yn (qam _)).trans (qbf _ _ _))))))))))))))
  have hcn:qbC Q 8 [.sl (11,0) 0 d.length none 1]=[(11,0)]:=qd9 rfl hch rfl
  refine qb0 hcn ?_
  simp (disch:=first|omega|decide|simp only[nmsB,lB]) only[simprocAttr,-rR,-rS,leB,memB,qaf,range_8,qaU,qap,qbn,qa3,qbl,qde,qcr,y00,y01,y02,y03,y04,y05,y06,y07,yn,qae,qab,qad,qac,qaa]
theorem clo46I_F (k n:Nat) (hn:n≤20) (la lb:List (BitVec 8)) (hla:la.length=16*(n+2)) (hlb:lb.length=16*(n+2)) (u:BitVec 64) (d:List (BitVec 8)) (h16:16≤d.length) (hd2:d.length≤65536) (hw:d.length % 16=0) :
    F C (k+5001) 67 [.ptr (0,0) 0,.ptr (0,6) 0,.ptr (0,7) 0] [[.ptr (0,1) 0],[.ptr (0,2) 0,.ptr (0,4) 0],CF (.sl (0,3) 0 (n+2) none 16) TB,bs la,CF (.sl (0,5) 0 (n+2) none 16) TB,bs lb,[B64 u],[.isl (bs d) d.length]]=some (.sl (1,0) 0 d.length none 1,[some ([.ptr (0,1) 0]),some ([.ptr (0,2) 0,.ptr (0,4) 0]),some (CF (.sl (0,3) 0 (n+2) none 16) TB),some (bs la),some (CF (.sl (0,5) 0 (n+2) none 16) TB),some (bs lb),some ([B64 u]),some ([.isl (bs d) d.length])],[bs (qbG (dec (kf la) n) (tw0 n lb u) d true)]):=by
  rw[qaK f67]
  generalize hG:qaZ [[.ptr (0,1) 0],[.ptr (0,2) 0,.ptr (0,4) 0],CF (.sl (0,3) 0 (n+2) none 16) TB,bs la,CF (.sl (0,5) 0 (n+2) none 16) TB,bs lb,[B64 u],[.isl (bs d) d.length]]=G
  have x00:G (0,0)=some ([.ptr (0,1) 0]):=by rw[←hG]; rfl
  have x01:G (0,1)=some ([.ptr (0,2) 0,.ptr (0,4) 0]):=by rw[←hG]; rfl
  have x02:G (0,2)=some (CF (.sl (0,3) 0 (n+2) none 16) TB):=by rw[←hG]; rfl
  have x03:G (0,3)=some (bs la):=by rw[←hG]; rfl
  have x04:G (0,4)=some (CF (.sl (0,5) 0 (n+2) none 16) TB):=by rw[←hG]; rfl
  have x05:G (0,5)=some (bs lb):=by rw[←hG]; rfl
  have x06:G (0,6)=some ([B64 u]):=by rw[←hG]; rfl
  have x07:G (0,7)=some ([.isl (bs d) d.length]):=by rw[←hG]; rfl
  have X:XG G (0,1) (0,2) (0,3) (0,4) (0,5) n la lb:=⟨x01,x02,x03,x04,x05,by decide⟩
  have X':XG (only [(0,1),(0,2),(0,3),(0,4),(0,5)] G) (0,1) (0,2) (0,3) (0,4) (0,5) n la lb:=⟨x01,x02,x03,x04,x05,by decide⟩
  have hre:qa6 G FUEL [] [(0,1),(0,2)]=[(0,1),(0,2),(0,3),(0,4),(0,5)]:=(qaz rfl x01 rfl).trans ((qaz rfl x02 (qaV _ _)).trans ((qaz rfl x03 (qam _)).trans ((qaz rfl x04 (qaV _ _)).trans ((qaz rfl x05 (qam _)).trans ((qbq rfl).trans (qbf _ _ _))))))
  have hc:∀ b,_:=fun b=>c_run k 68 n b hn (only [(0,1),(0,2),(0,3),(0,4),(0,5)] G) (0,1) (0,2) (0,3) (0,4) (0,5) la lb X' hlb (dec (kf la) n) (way_dec n hn la hla) u (.isl (bs d) d.length) d [] (snap_isl _ _) (by decide) h16 hd2 hw true
  have ht:∀ v news,_:=fun v news=>X'.tr v news
  simp (disch:=first|omega|decide|simp only[nmsB,lB]) only[simprocAttr,-rR,-rS,leB,memB,arrB,numB,qaf,opsB,ordB,qay,qaj,qaP,L67,hG,op_fn,x00,x01,x02,x03,x04,x05,x06,x07,qef,qbk,qa5,hre,hc,ht,zI,zR,qab,qad,qac,qaa,qaA,qah]
  generalize hQ:upd G (11,0) (some (bs (qbG (dec (kf la) n) (tw0 n lb u) d true)))=Q
  have y00:Q (0,0)=some ([.ptr (0,1) 0]):=by rw[←hQ]; exact x00
  have y01:Q (0,1)=some ([.ptr (0,2) 0,.ptr (0,4) 0]):=by rw[←hQ]; exact x01
  have y02:Q (0,2)=some (CF (.sl (0,3) 0 (n+2) none 16) TB):=by rw[←hQ]; exact x02
  have y03:Q (0,3)=some (bs la):=by rw[←hQ]; exact x03
  have y04:Q (0,4)=some (CF (.sl (0,5) 0 (n+2) none 16) TB):=by rw[←hQ]; exact x04
  have y05:Q (0,5)=some (bs lb):=by rw[←hQ]; exact x05
  have y06:Q (0,6)=some ([B64 u]):=by rw[←hQ]; exact x06
  have y07:Q (0,7)=some ([.isl (bs d) d.length]):=by rw[←hQ]; exact x07
  have yn:Q (11,0)=some (bs (qbG (dec (kf la) n) (tw0 n lb u) d true)):=by rw[←hQ]; rfl
  have hch:qa6 Q FUEL [] [(0,0),(0,1),(0,2),(0,3),(0,4),(0,5),(0,6),(0,7),(11,0)]=[(0,0),(0,1),(0,2),(0,3),(0,4),(0,5),(0,6),(0,7),(11,0)]:=(qaz rfl y00 rfl).trans ((qaz rfl y01 rfl).trans ((qaz rfl y02 (qaV _ _)).trans ((qaz rfl y03 (qam _)).trans ((qaz rfl y04 (qaV _ _)).trans ((qaz rfl y05 (qam _)).trans ((qbq rfl).trans ((qbq rfl).trans ((qbq rfl).trans ((qbq rfl).trans ((qbq rfl).trans ((qaz rfl y06 rfl).trans ((qaz rfl y07 (dn _)).trans ((qaz rfl yn (qam _)).trans (qbf _ _ _))))))))))))))
  have hcn:qbC Q 8 [.sl (11,0) 0 d.length none 1]=[(11,0)]:=qd9 rfl hch rfl
  refine qb0 hcn ?_
  simp (disch:=first|omega|decide|simp only[nmsB,lB]) only[simprocAttr,-rR,-rS,leB,memB,qaf,range_8,qaU,qap,qbn,qa3,qbl,qde,qcr,y00,y01,y02,y03,y04,y05,y06,y07,yn,qae,qab,qad,qac,qaa]
end Aes
namespace Aes
open Go Go.LE Xf Tb
set_option maxRecDepth 20000
theorem unit43I_F (k n:Nat) (hn:n≤20) (la lb:List (BitVec 8)) (hla:la.length=16*(n+2)) (hlb:lb.length=16*(n+2)) (u:BitVec 64) (d:List (BitVec 8)) (h16:16≤d.length) (hd2:d.length≤65536) (hw:d.length % 16=0) :
    F C (k+5002) 63 [.ptr (0,0) 0,.isl (bs d) d.length,.fn (.func 64) [] [.ptr (0,5) 0,.ptr (0,6) 0,.ptr (0,7) 0]] [[.ptr (0,1) 0,.ptr (0,3) 0],CF (.sl (0,2) 0 (n+2) none 16) TB,bs la,CF (.sl (0,4) 0 (n+2) none 16) TB,bs lb,[.ptr (0,0) 0],[B64 u],[.isl (bs d) d.length]]=some (.tup [.sl (1,0) 0 d.length none 1,N 0],[some ([.ptr (0,1) 0,.ptr (0,3) 0]),some (CF (.sl (0,2) 0 (n+2) none 16) TB),some (bs la),some (CF (.sl (0,4) 0 (n+2) none 16) TB),some (bs lb),some ([.ptr (0,0) 0]),some ([B64 u]),some ([.isl (bs d) d.length])],[bs (qbG (enc (kf la) n) (tw0 n lb u) d false)]):=by
  rw[qaK f63]
  generalize hG:qaZ [[.ptr (0,1) 0,.ptr (0,3) 0],CF (.sl (0,2) 0 (n+2) none 16) TB,bs la,CF (.sl (0,4) 0 (n+2) none 16) TB,bs lb,[.ptr (0,0) 0],[B64 u],[.isl (bs d) d.length]]=G
  have x00:G (0,0)=some ([.ptr (0,1) 0,.ptr (0,3) 0]):=by rw[←hG]; rfl
  have x01:G (0,1)=some (CF (.sl (0,2) 0 (n+2) none 16) TB):=by rw[←hG]; rfl
  have x02:G (0,2)=some (bs la):=by rw[←hG]; rfl
  have x03:G (0,3)=some (CF (.sl (0,4) 0 (n+2) none 16) TB):=by rw[←hG]; rfl
  have x04:G (0,4)=some (bs lb):=by rw[←hG]; rfl
  have x05:G (0,5)=some ([.ptr (0,0) 0]):=by rw[←hG]; rfl
  have x06:G (0,6)=some ([B64 u]):=by rw[←hG]; rfl
  have x07:G (0,7)=some ([.isl (bs d) d.length]):=by rw[←hG]; rfl
  have hr:qa6 G FUEL [] [(0,5),(0,6),(0,7)]=[(0,5),(0,0),(0,1),(0,2),(0,3),(0,4),(0,6),(0,7)]:=(qaz rfl x05 rfl).trans ((qaz rfl x00 rfl).trans ((qaz rfl x01 (qaV _ _)).trans ((qaz rfl x02 (qam _)).trans ((qaz rfl x03 (qaV _ _)).trans ((qaz rfl x04 (qam _)).trans ((qaz rfl x06 rfl).trans ((qaz rfl x07 (dn _)).trans (qbf _ _ _))))))))
  have ho:(([(0,5),(0,0),(0,1),(0,2),(0,3),(0,4),(0,6),(0,7)]:List Nm).filterMap G).map (fun cs=>cs.map (ren D (qaH [(0,5),(0,0),(0,1),(0,2),(0,3),(0,4),(0,6),(0,7)])))=[[.ptr (0,1) 0],[.ptr (0,2) 0,.ptr (0,4) 0],CF (.sl (0,3) 0 (n+2) none 16) TB,bs la,CF (.sl (0,5) 0 (n+2) none 16) TB,bs lb,[B64 u],[.isl (bs d) d.length]]:=by
    rw[show ([(0,5),(0,0),(0,1),(0,2),(0,3),(0,4),(0,6),(0,7)]:List Nm).filterMap G=[[.ptr (0,0) 0],[.ptr (0,1) 0,.ptr (0,3) 0],CF (.sl (0,2) 0 (n+2) none 16) TB,bs la,CF (.sl (0,4) 0 (n+2) none 16) TB,bs lb,[B64 u],[.isl (bs d) d.length]] by simp only[List.filterMap_cons,zS,x00,x01,x02,x03,x04,x05,x06,x07]]
    simp only[zB,zA,qaU,qap,qbn]
    rfl
  have hc:∀ b,qax (envC C (k+5001)) G b 64 [.ptr (0,5) 0,.ptr (0,6) 0,.ptr (0,7) 0]=some ⟨.sl (b,0) 0 d.length none 1,[bs (qbG (enc (kf la) n) (tw0 n lb u) d false)],[((0,5),some ([.ptr (0,0) 0])),((0,0),some ([.ptr (0,1) 0,.ptr (0,3) 0])),((0,1),some (CF (.sl (0,2) 0 (n+2) none 16) TB)),((0,2),some (bs la)),((0,3),some (CF (.sl (0,4) 0 (n+2) none 16) TB)),((0,4),some (bs lb)),((0,6),some ([B64 u])),((0,7),some ([.isl (bs d) d.length]))]⟩:=by
    intro b
    rw[qcl (k+5001) b 64 l64 G _ [.ptr (0,0) 0,.ptr (0,6) 0,.ptr (0,7) 0] [(0,5),(0,6),(0,7)] _ _ _ (by simp only[zK,zN,qcj,qbk,qa5,fn3_nms,zI,zR,zD]) hr (by simp only[zB,zA,qbn] <;> rfl) ho (clo43I_F k n hn la lb hla hlb u d h16 hd2 hw),qaT]
    simp only[zB,zA,List.zipWith_cons_cons,List.zipWith_nil_left,zC,qaU,qap,qbn]
    rfl
  have hm:modN [((0,5),some ([.ptr (0,0) 0])),((0,0),some ([.ptr (0,1) 0,.ptr (0,3) 0])),((0,1),some (CF (.sl (0,2) 0 (n+2) none 16) TB)),((0,2),some (bs la)),((0,3),some (CF (.sl (0,4) 0 (n+2) none 16) TB)),((0,4),some (bs lb)),((0,6),some ([B64 u])),((0,7),some ([.isl (bs d) d.length]))] G=G:=by
    simp only[qb9,qcc,qa9 x07,qa9 x06,qa9 x04,qa9 x03,qa9 x02,qa9 x01,qa9 x00,qa9 x05]
  have hle:¬ d.length < 16:=by omega
  have hle2:¬ 65536 < d.length:=by omega
  have hpo:qaY 0 1 (some [.ptr (0,1) 0,.ptr (0,3) 0])=some [.ptr (0,1) 0]:=rfl
  simp (disch:=first|omega|decide|simp only[nmsB,lB]) only[simprocAttr,-rR,-rS,leB,memB,arrB,numB,qaf,opsB,ordB,qay,qaj,qaP,L63,hG,x00,x01,x02,x03,x04,x05,x06,x07,hle,hle2,eqp_ptr,callV_fn3,hc,hm,qab,qad,qac,qaa,qaA,qah]
  generalize hQ:upd G (24,0) (some (bs (qbG (enc (kf la) n) (tw0 n lb u) d false)))=Q
  have y00:Q (0,0)=some ([.ptr (0,1) 0,.ptr (0,3) 0]):=by rw[←hQ]; exact x00
  have y01:Q (0,1)=some (CF (.sl (0,2) 0 (n+2) none 16) TB):=by rw[←hQ]; exact x01
  have y02:Q (0,2)=some (bs la):=by rw[←hQ]; exact x02
  have y03:Q (0,3)=some (CF (.sl (0,4) 0 (n+2) none 16) TB):=by rw[←hQ]; exact x03
  have y04:Q (0,4)=some (bs lb):=by rw[←hQ]; exact x04
  have y05:Q (0,5)=some ([.ptr (0,0) 0]):=by rw[←hQ]; exact x05
  have y06:Q (0,6)=some ([B64 u]):=by rw[←hQ]; exact x06
  have y07:Q (0,7)=some ([.isl (bs d) d.length]):=by rw[←hQ]; exact x07
  have yn:Q (24,0)=some (bs (qbG (enc (kf la) n) (tw0 n lb u) d false)):=by rw[←hQ]; rfl
  have hch:qa6 Q FUEL [] [(0,0),(0,1),(0,2),(0,3),(0,4),(0,5),(0,6),(0,7),(24,0)]=[(0,0),(0,1),(0,2),(0,3),(0,4),(0,5),(0,6),(0,7),(24,0)]:=(qaz rfl y00 rfl).trans ((qaz rfl y01 (qaV _ _)).trans ((qaz rfl y02 (qam _)).trans ((qaz rfl y03 (qaV _ _)).trans ((qaz rfl y04 (qam _)).trans ((qbq rfl).trans ((qbq rfl).trans ((qbq rfl).trans ((qbq rfl).trans ((qaz rfl y05 rfl).trans ((qbq rfl).trans ((qaz rfl y06 rfl).trans ((qaz rfl y07 (dn _)).trans ((qaz rfl yn (qam _)).trans (qbf _ _ _))))))))))))))
  have hcn:qbC Q 8 [.tup [.sl (24,0) 0 d.length none 1,N 0]]=[(24,0)]:=qd9 rfl hch rfl
  refine qb0 hcn ?_
  simp (disch:=first|omega|decide|simp only[nmsB,lB]) only[simprocAttr,-rR,-rS,leB,memB,qaf,range_8,qaU,qap,qbn,qa3,qbl,qde,qcr,y00,y01,y02,y03,y04,y05,y06,y07,yn,qae,qab,qad,qac,qaa]
  rfl
theorem unit46I_F (k n:Nat) (hn:n≤20) (la lb:List (BitVec 8)) (hla:la.length=16*(n+2)) (hlb:lb.length=16*(n+2)) (u:BitVec 64) (d:List (BitVec 8)) (h16:16≤d.length) (hd2:d.length≤65536) (hw:d.length % 16=0) :
    F C (k+5002) 63 [.ptr (0,0) 0,.isl (bs d) d.length,.fn (.func 67) [] [.ptr (0,5) 0,.ptr (0,6) 0,.ptr (0,7) 0]] [[.ptr (0,1) 0,.ptr (0,3) 0],CF (.sl (0,2) 0 (n+2) none 16) TB,bs la,CF (.sl (0,4) 0 (n+2) none 16) TB,bs lb,[.ptr (0,0) 0],[B64 u],[.isl (bs d) d.length]]=some (.tup [.sl (1,0) 0 d.length none 1,N 0],[some ([.ptr (0,1) 0,.ptr (0,3) 0]),some (CF (.sl (0,2) 0 (n+2) none 16) TB),some (bs la),some (CF (.sl (0,4) 0 (n+2) none 16) TB),some (bs lb),some ([.ptr (0,0) 0]),some ([B64 u]),some ([.isl (bs d) d.length])],[bs (qbG (dec (kf la) n) (tw0 n lb u) d true)]):=by
  rw[qaK f63]
  generalize hG:qaZ [[.ptr (0,1) 0,.ptr (0,3) 0],CF (.sl (0,2) 0 (n+2) none 16) TB,bs la,CF (.sl (0,4) 0 (n+2) none 16) TB,bs lb,[.ptr (0,0) 0],[B64 u],[.isl (bs d) d.length]]=G
  have x00:G (0,0)=some ([.ptr (0,1) 0,.ptr (0,3) 0]):=by rw[←hG]; rfl
  have x01:G (0,1)=some (CF (.sl (0,2) 0 (n+2) none 16) TB):=by rw[←hG]; rfl
  have x02:G (0,2)=some (bs la):=by rw[←hG]; rfl
  have x03:G (0,3)=some (CF (.sl (0,4) 0 (n+2) none 16) TB):=by rw[←hG]; rfl
  have x04:G (0,4)=some (bs lb):=by rw[←hG]; rfl
  have x05:G (0,5)=some ([.ptr (0,0) 0]):=by rw[←hG]; rfl
  have x06:G (0,6)=some ([B64 u]):=by rw[←hG]; rfl
  have x07:G (0,7)=some ([.isl (bs d) d.length]):=by rw[←hG]; rfl
  have hr:qa6 G FUEL [] [(0,5),(0,6),(0,7)]=[(0,5),(0,0),(0,1),(0,2),(0,3),(0,4),(0,6),(0,7)]:=(qaz rfl x05 rfl).trans ((qaz rfl x00 rfl).trans ((qaz rfl x01 (qaV _ _)).trans ((qaz rfl x02 (qam _)).trans ((qaz rfl x03 (qaV _ _)).trans ((qaz rfl x04 (qam _)).trans ((qaz rfl x06 rfl).trans ((qaz rfl x07 (dn _)).trans (qbf _ _ _))))))))
  have ho:(([(0,5),(0,0),(0,1),(0,2),(0,3),(0,4),(0,6),(0,7)]:List Nm).filterMap G).map (fun cs=>cs.map (ren D (qaH [(0,5),(0,0),(0,1),(0,2),(0,3),(0,4),(0,6),(0,7)])))=[[.ptr (0,1) 0],[.ptr (0,2) 0,.ptr (0,4) 0],CF (.sl (0,3) 0 (n+2) none 16) TB,bs la,CF (.sl (0,5) 0 (n+2) none 16) TB,bs lb,[B64 u],[.isl (bs d) d.length]]:=by
    rw[show ([(0,5),(0,0),(0,1),(0,2),(0,3),(0,4),(0,6),(0,7)]:List Nm).filterMap G=[[.ptr (0,0) 0],[.ptr (0,1) 0,.ptr (0,3) 0],CF (.sl (0,2) 0 (n+2) none 16) TB,bs la,CF (.sl (0,4) 0 (n+2) none 16) TB,bs lb,[B64 u],[.isl (bs d) d.length]] by simp only[List.filterMap_cons,zS,x00,x01,x02,x03,x04,x05,x06,x07]]
    simp only[zB,zA,qaU,qap,qbn]
    rfl
  have hc:∀ b,qax (envC C (k+5001)) G b 67 [.ptr (0,5) 0,.ptr (0,6) 0,.ptr (0,7) 0]=some ⟨.sl (b,0) 0 d.length none 1,[bs (qbG (dec (kf la) n) (tw0 n lb u) d true)],[((0,5),some ([.ptr (0,0) 0])),((0,0),some ([.ptr (0,1) 0,.ptr (0,3) 0])),((0,1),some (CF (.sl (0,2) 0 (n+2) none 16) TB)),((0,2),some (bs la)),((0,3),some (CF (.sl (0,4) 0 (n+2) none 16) TB)),((0,4),some (bs lb)),((0,6),some ([B64 u])),((0,7),some ([.isl (bs d) d.length]))]⟩:=by
    intro b
    rw[qcl (k+5001) b 67 l67 G _ [.ptr (0,0) 0,.ptr (0,6) 0,.ptr (0,7) 0] [(0,5),(0,6),(0,7)] _ _ _ (by simp only[zK,zN,qcj,qbk,qa5,fn3_nms,zI,zR,zD]) hr (by simp only[zB,zA,qbn] <;> rfl) ho (clo46I_F k n hn la lb hla hlb u d h16 hd2 hw),qaT]
    simp only[zB,zA,List.zipWith_cons_cons,List.zipWith_nil_left,zC,qaU,qap,qbn]
    rfl
  have hm:modN [((0,5),some ([.ptr (0,0) 0])),((0,0),some ([.ptr (0,1) 0,.ptr (0,3) 0])),((0,1),some (CF (.sl (0,2) 0 (n+2) none 16) TB)),((0,2),some (bs la)),((0,3),some (CF (.sl (0,4) 0 (n+2) none 16) TB)),((0,4),some (bs lb)),((0,6),some ([B64 u])),((0,7),some ([.isl (bs d) d.length]))] G=G:=by
    simp only[qb9,qcc,qa9 x07,qa9 x06,qa9 x04,qa9 x03,qa9 x02,qa9 x01,qa9 x00,qa9 x05]
  have hle:¬ d.length < 16:=by omega
  have hle2:¬ 65536 < d.length:=by omega
  have hpo:qaY 0 1 (some [.ptr (0,1) 0,.ptr (0,3) 0])=some [.ptr (0,1) 0]:=rfl
  simp (disch:=first|omega|decide|simp only[nmsB,lB]) only[simprocAttr,-rR,-rS,leB,memB,arrB,numB,qaf,opsB,ordB,qay,qaj,qaP,L63,hG,x00,x01,x02,x03,x04,x05,x06,x07,hle,hle2,eqp_ptr,callV_fn3,hc,hm,qab,qad,qac,qaa,qaA,qah]
  generalize hQ:upd G (24,0) (some (bs (qbG (dec (kf la) n) (tw0 n lb u) d true)))=Q
  have y00:Q (0,0)=some ([.ptr (0,1) 0,.ptr (0,3) 0]):=by rw[←hQ]; exact x00
  have y01:Q (0,1)=some (CF (.sl (0,2) 0 (n+2) none 16) TB):=by rw[←hQ]; exact x01
  have y02:Q (0,2)=some (bs la):=by rw[←hQ]; exact x02
  have y03:Q (0,3)=some (CF (.sl (0,4) 0 (n+2) none 16) TB):=by rw[←hQ]; exact x03
  have y04:Q (0,4)=some (bs lb):=by rw[←hQ]; exact x04
  have y05:Q (0,5)=some ([.ptr (0,0) 0]):=by rw[←hQ]; exact x05
  have y06:Q (0,6)=some ([B64 u]):=by rw[←hQ]; exact x06
  have y07:Q (0,7)=some ([.isl (bs d) d.length]):=by rw[←hQ]; exact x07
  have yn:Q (24,0)=some (bs (qbG (dec (kf la) n) (tw0 n lb u) d true)):=by rw[←hQ]; rfl
  have hch:qa6 Q FUEL [] [(0,0),(0,1),(0,2),(0,3),(0,4),(0,5),(0,6),(0,7),(24,0)]=[(0,0),(0,1),(0,2),(0,3),(0,4),(0,5),(0,6),(0,7),(24,0)]:=(qaz rfl y00 rfl).trans ((qaz rfl y01 (qaV _ _)).trans ((qaz rfl y02 (qam _)).trans ((qaz rfl y03 (qaV _ _)).trans ((qaz rfl y04 (qam _)).trans ((qbq rfl).trans ((qbq rfl).trans ((qbq rfl).trans ((qbq rfl).trans ((qaz rfl y05 rfl).trans ((qbq rfl).trans ((qaz rfl y06 rfl).trans ((qaz rfl y07 (dn _)).trans ((qaz rfl yn (qam _)).trans (qbf _ _ _))))))))))))))
  have hcn:qbC Q 8 [.tup [.sl (24,0) 0 d.length none 1,N 0]]=[(24,0)]:=qd9 rfl hch rfl
  refine qb0 hcn ?_
  simp (disch:=first|omega|decide|simp only[nmsB,lB]) only[simprocAttr,-rR,-rS,leB,memB,qaf,range_8,qaU,qap,qbn,qa3,qbl,qde,qcr,y00,y01,y02,y03,y04,y05,y06,y07,yn,qae,qab,qad,qac,qaa]
  rfl
end Aes
namespace Aes
open Go Go.LE Xf Tb
set_option maxRecDepth 20000
theorem encr23I_F (k n:Nat) (hn:n≤20) (la lb:List (BitVec 8)) (hla:la.length=16*(n+2)) (hlb:lb.length=16*(n+2)) (u:BitVec 64) (d:List (BitVec 8)) (h16:16≤d.length) (hd2:d.length≤65536) (hw:d.length % 16=0) :
    F C (k+5003) 50 [.ptr (0,0) 0,B64 u,.isl (bs d) d.length] [[.ptr (0,1) 0,.ptr (0,3) 0],CF (.sl (0,2) 0 (n+2) none 16) TB,bs la,CF (.sl (0,4) 0 (n+2) none 16) TB,bs lb]=some (.tup [.sl (1,0) 0 d.length none 1,N 0],[some ([.ptr (0,1) 0,.ptr (0,3) 0]),some (CF (.sl (0,2) 0 (n+2) none 16) TB),some (bs la),some (CF (.sl (0,4) 0 (n+2) none 16) TB),some (bs lb)],[bs (qbG (enc (kf la) n) (tw0 n lb u) d false)]):=by
  rw[qaK f50]
  generalize hG:upd (upd (upd (qaZ [[.ptr (0,1) 0,.ptr (0,3) 0],CF (.sl (0,2) 0 (n+2) none 16) TB,bs la,CF (.sl (0,4) 0 (n+2) none 16) TB,bs lb]) (2,0) (some [.ptr (0,0) 0])) (3,0) (some [B64 u])) (4,0) (some [.isl (bs d) d.length])=G
  have x00:G (0,0)=some ([.ptr (0,1) 0,.ptr (0,3) 0]):=by rw[←hG]; rfl
  have x01:G (0,1)=some (CF (.sl (0,2) 0 (n+2) none 16) TB):=by rw[←hG]; rfl
  have x02:G (0,2)=some (bs la):=by rw[←hG]; rfl
  have x03:G (0,3)=some (CF (.sl (0,4) 0 (n+2) none 16) TB):=by rw[←hG]; rfl
  have x04:G (0,4)=some (bs lb):=by rw[←hG]; rfl
  have x20:G (2,0)=some ([.ptr (0,0) 0]):=by rw[←hG]; rfl
  have x30:G (3,0)=some ([B64 u]):=by rw[←hG]; rfl
  have x40:G (4,0)=some ([.isl (bs d) d.length]):=by rw[←hG]; rfl
  have hr:qa6 G FUEL [] [(0,0),(2,0),(3,0),(4,0)]=[(0,0),(0,1),(0,2),(0,3),(0,4),(2,0),(3,0),(4,0)]:=(qaz rfl x00 rfl).trans ((qaz rfl x01 (qaV _ _)).trans ((qaz rfl x02 (qam _)).trans ((qaz rfl x03 (qaV _ _)).trans ((qaz rfl x04 (qam _)).trans ((qaz rfl x20 rfl).trans ((qbq rfl).trans ((qaz rfl x30 rfl).trans ((qaz rfl x40 (dn _)).trans (qbf _ _ _)))))))))
  have ho:(([(0,0),(0,1),(0,2),(0,3),(0,4),(2,0),(3,0),(4,0)]:List Nm).filterMap G).map (fun cs=>cs.map (ren D (qaH [(0,0),(0,1),(0,2),(0,3),(0,4),(2,0),(3,0),(4,0)])))=[[.ptr (0,1) 0,.ptr (0,3) 0],CF (.sl (0,2) 0 (n+2) none 16) TB,bs la,CF (.sl (0,4) 0 (n+2) none 16) TB,bs lb,[.ptr (0,0) 0],[B64 u],[.isl (bs d) d.length]]:=by
    rw[show ([(0,0),(0,1),(0,2),(0,3),(0,4),(2,0),(3,0),(4,0)]:List Nm).filterMap G=[[.ptr (0,1) 0,.ptr (0,3) 0],CF (.sl (0,2) 0 (n+2) none 16) TB,bs la,CF (.sl (0,4) 0 (n+2) none 16) TB,bs lb,[.ptr (0,0) 0],[B64 u],[.isl (bs d) d.length]] by simp only[List.filterMap_cons,zS,x00,x01,x02,x03,x04,x20,x30,x40]]
    simp only[zB,zA,qaU,qap,qbn]
    rfl
  have hc:∀ b,qax (envC C (k+5002)) G b 63 [.ptr (0,0) 0,.isl (bs d) d.length,.fn (.func 64) [] [.ptr (2,0) 0,.ptr (3,0) 0,.ptr (4,0) 0]]=some ⟨.tup [.sl (b,0) 0 d.length none 1,N 0],[bs (qbG (enc (kf la) n) (tw0 n lb u) d false)],[((0,0),some ([.ptr (0,1) 0,.ptr (0,3) 0])),((0,1),some (CF (.sl (0,2) 0 (n+2) none 16) TB)),((0,2),some (bs la)),((0,3),some (CF (.sl (0,4) 0 (n+2) none 16) TB)),((0,4),some (bs lb)),((2,0),some ([.ptr (0,0) 0])),((3,0),some ([B64 u])),((4,0),some ([.isl (bs d) d.length]))]⟩:=by
    intro b
    rw[qcl (k+5002) b 63 l63 G _ [.ptr (0,0) 0,.isl (bs d) d.length,.fn (.func 64) [] [.ptr (0,5) 0,.ptr (0,6) 0,.ptr (0,7) 0]] [(0,0),(2,0),(3,0),(4,0)] _ _ _ (by simp only[zK,zN,qcj,qbk,qa5,fn3_nms,zI,zR,zD]) hr (by simp only[zB,zA,qbn] <;> rfl) ho (unit43I_F k n hn la lb hla hlb u d h16 hd2 hw),qaT]
    simp only[zB,zA,List.zipWith_cons_cons,List.zipWith_nil_left,zC,qaU,qap,qbn]
    rfl
  have hm:modN [((0,0),some ([.ptr (0,1) 0,.ptr (0,3) 0])),((0,1),some (CF (.sl (0,2) 0 (n+2) none 16) TB)),((0,2),some (bs la)),((0,3),some (CF (.sl (0,4) 0 (n+2) none 16) TB)),((0,4),some (bs lb)),((2,0),some ([.ptr (0,0) 0])),((3,0),some ([B64 u])),((4,0),some ([.isl (bs d) d.length]))] G=G:=by
    simp only[qb9,qcc,qa9 x40,qa9 x30,qa9 x20,qa9 x04,qa9 x03,qa9 x02,qa9 x01,qa9 x00]
  simp (disch:=first|omega|decide|simp only[nmsB,lB]) only[simprocAttr,-rR,-rS,leB,memB,arrB,numB,qaf,opsB,ordB,qay,qaj,qaP,L50,hG,op_fn,x00,x01,x02,x03,x04,x20,x30,x40,hc,hm,qfQ,qab,qad,qac,qaa,qaA,qah]
  generalize hQ:upd G (10,0) (some (bs (qbG (enc (kf la) n) (tw0 n lb u) d false)))=Q
  have y00:Q (0,0)=some ([.ptr (0,1) 0,.ptr (0,3) 0]):=by rw[←hQ]; exact x00
  have y01:Q (0,1)=some (CF (.sl (0,2) 0 (n+2) none 16) TB):=by rw[←hQ]; exact x01
  have y02:Q (0,2)=some (bs la):=by rw[←hQ]; exact x02
  have y03:Q (0,3)=some (CF (.sl (0,4) 0 (n+2) none 16) TB):=by rw[←hQ]; exact x03
  have y04:Q (0,4)=some (bs lb):=by rw[←hQ]; exact x04
  have y20:Q (2,0)=some ([.ptr (0,0) 0]):=by rw[←hQ]; exact x20
  have y30:Q (3,0)=some ([B64 u]):=by rw[←hQ]; exact x30
  have y40:Q (4,0)=some ([.isl (bs d) d.length]):=by rw[←hQ]; exact x40
  have yn:Q (10,0)=some (bs (qbG (enc (kf la) n) (tw0 n lb u) d false)):=by rw[←hQ]; rfl
  have hch:qa6 Q FUEL [] [(0,0),(0,1),(0,2),(0,3),(0,4),(10,0)]=[(0,0),(0,1),(0,2),(0,3),(0,4),(10,0)]:=(qaz rfl y00 rfl).trans ((qaz rfl y01 (qaV _ _)).trans ((qaz rfl y02 (qam _)).trans ((qaz rfl y03 (qaV _ _)).trans ((qaz rfl y04 (qam _)).trans ((qbq rfl).trans ((qbq rfl).trans ((qbq rfl).trans ((qbq rfl).trans ((qaz rfl yn (qam _)).trans (qbf _ _ _))))))))))
  have hcn:qbC Q 5 [.tup [.sl (10,0) 0 d.length none 1,N 0]]=[(10,0)]:=qd9 rfl hch rfl
  refine qb0 hcn ?_
  simp (disch:=first|omega|decide|simp only[nmsB,lB]) only[simprocAttr,-rR,-rS,leB,memB,qaf,qdB,qaU,qap,qbn,qa3,qbl,qde,qcr,y00,y01,y02,y03,y04,yn,qae,qab,qad,qac,qaa]
  rfl
theorem encr26I_F (k n:Nat) (hn:n≤20) (la lb:List (BitVec 8)) (hla:la.length=16*(n+2)) (hlb:lb.length=16*(n+2)) (u:BitVec 64) (d:List (BitVec 8)) (h16:16≤d.length) (hd2:d.length≤65536) (hw:d.length % 16=0) :
    F C (k+5003) 52 [.ptr (0,0) 0,B64 u,.isl (bs d) d.length] [[.ptr (0,1) 0,.ptr (0,3) 0],CF (.sl (0,2) 0 (n+2) none 16) TB,bs la,CF (.sl (0,4) 0 (n+2) none 16) TB,bs lb]=some (.tup [.sl (1,0) 0 d.length none 1,N 0],[some ([.ptr (0,1) 0,.ptr (0,3) 0]),some (CF (.sl (0,2) 0 (n+2) none 16) TB),some (bs la),some (CF (.sl (0,4) 0 (n+2) none 16) TB),some (bs lb)],[bs (qbG (dec (kf la) n) (tw0 n lb u) d true)]):=by
  rw[qaK f52]
  generalize hG:upd (upd (upd (qaZ [[.ptr (0,1) 0,.ptr (0,3) 0],CF (.sl (0,2) 0 (n+2) none 16) TB,bs la,CF (.sl (0,4) 0 (n+2) none 16) TB,bs lb]) (2,0) (some [.ptr (0,0) 0])) (3,0) (some [B64 u])) (4,0) (some [.isl (bs d) d.length])=G
  have x00:G (0,0)=some ([.ptr (0,1) 0,.ptr (0,3) 0]):=by rw[←hG]; rfl
  have x01:G (0,1)=some (CF (.sl (0,2) 0 (n+2) none 16) TB):=by rw[←hG]; rfl
  have x02:G (0,2)=some (bs la):=by rw[←hG]; rfl
  have x03:G (0,3)=some (CF (.sl (0,4) 0 (n+2) none 16) TB):=by rw[←hG]; rfl
  have x04:G (0,4)=some (bs lb):=by rw[←hG]; rfl
  have x20:G (2,0)=some ([.ptr (0,0) 0]):=by rw[←hG]; rfl
  have x30:G (3,0)=some ([B64 u]):=by rw[←hG]; rfl
  have x40:G (4,0)=some ([.isl (bs d) d.length]):=by rw[←hG]; rfl
  have hr:qa6 G FUEL [] [(0,0),(2,0),(3,0),(4,0)]=[(0,0),(0,1),(0,2),(0,3),(0,4),(2,0),(3,0),(4,0)]:=(qaz rfl x00 rfl).trans ((qaz rfl x01 (qaV _ _)).trans ((qaz rfl x02 (qam _)).trans ((qaz rfl x03 (qaV _ _)).trans ((qaz rfl x04 (qam _)).trans ((qaz rfl x20 rfl).trans ((qbq rfl).trans ((qaz rfl x30 rfl).trans ((qaz rfl x40 (dn _)).trans (qbf _ _ _)))))))))
  have ho:(([(0,0),(0,1),(0,2),(0,3),(0,4),(2,0),(3,0),(4,0)]:List Nm).filterMap G).map (fun cs=>cs.map (ren D (qaH [(0,0),(0,1),(0,2),(0,3),(0,4),(2,0),(3,0),(4,0)])))=[[.ptr (0,1) 0,.ptr (0,3) 0],CF (.sl (0,2) 0 (n+2) none 16) TB,bs la,CF (.sl (0,4) 0 (n+2) none 16) TB,bs lb,[.ptr (0,0) 0],[B64 u],[.isl (bs d) d.length]]:=by
    rw[show ([(0,0),(0,1),(0,2),(0,3),(0,4),(2,0),(3,0),(4,0)]:List Nm).filterMap G=[[.ptr (0,1) 0,.ptr (0,3) 0],CF (.sl (0,2) 0 (n+2) none 16) TB,bs la,CF (.sl (0,4) 0 (n+2) none 16) TB,bs lb,[.ptr (0,0) 0],[B64 u],[.isl (bs d) d.length]] by simp only[List.filterMap_cons,zS,x00,x01,x02,x03,x04,x20,x30,x40]]
    simp only[zB,zA,qaU,qap,qbn]
    rfl
  have hc:∀ b,qax (envC C (k+5002)) G b 63 [.ptr (0,0) 0,.isl (bs d) d.length,.fn (.func 67) [] [.ptr (2,0) 0,.ptr (3,0) 0,.ptr (4,0) 0]]=some ⟨.tup [.sl (b,0) 0 d.length none 1,N 0],[bs (qbG (dec (kf la) n) (tw0 n lb u) d true)],[((0,0),some ([.ptr (0,1) 0,.ptr (0,3) 0])),((0,1),some (CF (.sl (0,2) 0 (n+2) none 16) TB)),((0,2),some (bs la)),((0,3),some (CF (.sl (0,4) 0 (n+2) none 16) TB)),((0,4),some (bs lb)),((2,0),some ([.ptr (0,0) 0])),((3,0),some ([B64 u])),((4,0),some ([.isl (bs d) d.length]))]⟩:=by
    intro b
    rw[qcl (k+5002) b 63 l63 G _ [.ptr (0,0) 0,.isl (bs d) d.length,.fn (.func 67) [] [.ptr (0,5) 0,.ptr (0,6) 0,.ptr (0,7) 0]] [(0,0),(2,0),(3,0),(4,0)] _ _ _ (by simp only[zK,zN,qcj,qbk,qa5,fn3_nms,zI,zR,zD]) hr (by simp only[zB,zA,qbn] <;> rfl) ho (unit46I_F k n hn la lb hla hlb u d h16 hd2 hw),qaT]
    simp only[zB,zA,List.zipWith_cons_cons,List.zipWith_nil_left,zC,qaU,qap,qbn]
    rfl
  have hm:modN [((0,0),some ([.ptr (0,1) 0,.ptr (0,3) 0])),((0,1),some (CF (.sl (0,2) 0 (n+2) none 16) TB)),((0,2),some (bs la)),((0,3),some (CF (.sl (0,4) 0 (n+2) none 16) TB)),((0,4),some (bs lb)),((2,0),some ([.ptr (0,0) 0])),((3,0),some ([B64 u])),((4,0),some ([.isl (bs d) d.length]))] G=G:=by
    simp only[qb9,qcc,qa9 x40,qa9 x30,qa9 x20,qa9 x04,qa9 x03,qa9 x02,qa9 x01,qa9 x00]
  simp (disch:=first|omega|decide|simp only[nmsB,lB]) only[simprocAttr,-rR,-rS,leB,memB,arrB,numB,qaf,opsB,ordB,qay,qaj,qaP,L52,hG,op_fn,x00,x01,x02,x03,x04,x20,x30,x40,hc,hm,qfQ,qab,qad,qac,qaa,qaA,qah]
  generalize hQ:upd G (10,0) (some (bs (qbG (dec (kf la) n) (tw0 n lb u) d true)))=Q
  have y00:Q (0,0)=some ([.ptr (0,1) 0,.ptr (0,3) 0]):=by rw[←hQ]; exact x00
  have y01:Q (0,1)=some (CF (.sl (0,2) 0 (n+2) none 16) TB):=by rw[←hQ]; exact x01
  have y02:Q (0,2)=some (bs la):=by rw[←hQ]; exact x02
  have y03:Q (0,3)=some (CF (.sl (0,4) 0 (n+2) none 16) TB):=by rw[←hQ]; exact x03
  have y04:Q (0,4)=some (bs lb):=by rw[←hQ]; exact x04
  have y20:Q (2,0)=some ([.ptr (0,0) 0]):=by rw[←hQ]; exact x20
  have y30:Q (3,0)=some ([B64 u]):=by rw[←hQ]; exact x30
  have y40:Q (4,0)=some ([.isl (bs d) d.length]):=by rw[←hQ]; exact x40
  have yn:Q (10,0)=some (bs (qbG (dec (kf la) n) (tw0 n lb u) d true)):=by rw[←hQ]; rfl
  have hch:qa6 Q FUEL [] [(0,0),(0,1),(0,2),(0,3),(0,4),(10,0)]=[(0,0),(0,1),(0,2),(0,3),(0,4),(10,0)]:=(qaz rfl y00 rfl).trans ((qaz rfl y01 (qaV _ _)).trans ((qaz rfl y02 (qam _)).trans ((qaz rfl y03 (qaV _ _)).trans ((qaz rfl y04 (qam _)).trans ((qbq rfl).trans ((qbq rfl).trans ((qbq rfl).trans ((qbq rfl).trans ((qaz rfl yn (qam _)).trans (qbf _ _ _))))))))))
  have hcn:qbC Q 5 [.tup [.sl (10,0) 0 d.length none 1,N 0]]=[(10,0)]:=qd9 rfl hch rfl
  refine qb0 hcn ?_
  simp (disch:=first|omega|decide|simp only[nmsB,lB]) only[simprocAttr,-rR,-rS,leB,memB,qaf,qdB,qaU,qap,qbn,qa3,qbl,qde,qcr,y00,y01,y02,y03,y04,yn,qae,qab,qad,qac,qaa]
  rfl
end Aes
namespace Aes
open Go Go.LE Xf Tb
set_option maxRecDepth 20000
theorem c_enI (K g n base:Nat) (hg:qaI g=fun _=>false) (H:Heap) (p a ka b kb:Nm) (la lb:List (BitVec 8)) (X:XG H p a ka b kb n la lb) (u:BitVec 64) (d R0:List (BitVec 8)) (len:Nat)
    (hF:F C K g [.ptr (0,0) 0,B64 u,.isl (bs d) d.length] [PO,KA 2 n,bs la,KA 4 n,bs lb]=some (.tup [.sl (1,0) 0 len none 1,N 0],[some PO,some (KA 2 n),some (bs la),some (KA 4 n),some (bs lb)],[bs R0])) :
    qax (envC C K) H base g [.ptr p 0,B64 u,.isl (bs d) d.length]=some ⟨.tup [.sl (base,0) 0 len none 1,N 0],[bs R0],modX p a ka b kb n la lb⟩:=by
  obtain ⟨c0,c1,c2,c3,c4⟩:=X.cee
  have hr:Go.LE.qa6 H FUEL [] [p]=[p,a,ka,b,kb]:=X.reach
  have ho:([p,a,ka,b,kb].filterMap H).map (fun cs=>cs.map (ren D (qaH [p,a,ka,b,kb])))=[PO,KA 2 n,bs la,KA 4 n,bs lb]:=by
    simp only[List.filterMap_cons,zS,X.hp,X.ha,X.hka,X.hb,X.hkb,zB,zA,qbl,c1,c3,qbv,qaU,qa3,c2,c4,qbd,qap,PO,KA]
  rw[qcl K base g hg H _ [.ptr (0,0) 0,B64 u,.isl (bs d) d.length] [p] _ _ _ (by simp only[zK,zN,qcj,qf1,qbk,qa5,zI,zR,zD]) hr (by simp only[zB,zA,qbl,qa3,c0,qbv,qbd,qde,qbn]) ho hF,qaT]
  simp only[PO,KA,modX,List.zipWith_cons_cons,List.zipWith_nil_left,zC,zB,zA,qbl,qa3,qaU,qap,qcN,qbh,List.getElem?_cons_zero,List.getElem?_cons_succ,qbv,qbd,zG,zM,zO,Nat.lt_one_iff,qcr,zR,zI]
  rfl
end Aes
