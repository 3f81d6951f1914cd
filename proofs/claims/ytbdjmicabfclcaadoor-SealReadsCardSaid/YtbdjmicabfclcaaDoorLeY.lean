/- Doubling a tweak, evaluated. -/
import Derived.Test.YtbdjmicabfclcaaDoorLeX
set_option linter.unusedVariables false
set_option linter.unusedSimpArgs false
open List renaming reduceReplicate → rR
open Nat renaming reduceSubDiff → rS
namespace Xf
open Go Go.LE Aes Tb
theorem double_F (k:Nat) (lo hi:BitVec 64):F C (k+1) 78 [Hf lo hi] []=some (Hf (lo <<< 1 ^^^ (hi >>> 63)*135#64) (hi <<< 1 ||| lo >>> 63),[],[]):=by
  rw[qaH f78]
  simp (disch:=first|omega|decide|simp only[nmsB,lB]) only[simprocAttr,-rR,-rS,leB,qaf,memB,L78,qae,qad,qac,qaa,qab]
def lo (x:BitVec 128):BitVec 64:=x.setWidth 64
def hi (x:BitVec 128):BitVec 64:=(x >>> 64).setWidth 64
def hc (x:BitVec 128):qal:=[B64 (lo x),B64 (hi x)]
theorem lo_bit (x:BitVec 128) (i:Nat):(lo x).getLsbD i=(decide (i < 64) && x.getLsbD i):=by simp[lo,BitVec.getLsbD_setWidth]
theorem hi_bit (x:BitVec 128) (i:Nat):(hi x).getLsbD i=(decide (i < 64) && x.getLsbD (64+i)):=by simp[hi,BitVec.getLsbD_setWidth,BitVec.getLsbD_ushiftRight]
theorem lo_xor (x y:BitVec 128):lo x ^^^ lo y=lo (x ^^^ y):=by simp[lo]
theorem dbl_lo (x:BitVec 128):lo x <<< 1 ^^^ (hi x >>> 63)*135#64=lo (GF.dbl 135#128 x):=by
  have ht:hi x >>> 63=if x.getLsbD 127=true then 1#64 else 0#64:=by
    have bit:∀ i,(hi x >>> 63).getLsbD i=(decide (i=0) && x.getLsbD 127):=by
      intro i
      rw[BitVec.getLsbD_ushiftRight,hi_bit]
      by_cases h0:i=0
      · subst h0; rfl
      · have h1 : ¬ 63 + i < 64 := by omega
        rw[decide_eq_false h0,decide_eq_false h1,Bool.false_and,Bool.false_and]
    apply BitVec.eq_of_getLsbD_eq; intro i h
    rw[bit]
    by_cases hx:x.getLsbD 127=true
    · rw[if_pos hx,hx,BitVec.getLsbD_one]; simp
    · have hx' : x.getLsbD 127 = false := by simpa using hx
      rw[if_neg hx,hx']; simp
  unfold GF.dbl
  rw[ht,←lo_xor]
  congr 1
  · apply BitVec.eq_of_getLsbD_eq; intro i h
    simp only[BitVec.getLsbD_shiftLeft,lo_bit,h,decide_true,Bool.true_and]
    have h1:i < 128:=by omega
    have h2:i - 1 < 64:=by omega
    simp[h1,h2]
  · by_cases hx : x.getLsbD 127 = true
    · rw[if_pos hx,if_pos hx]; rfl
    · rw[if_neg hx,if_neg hx]; rfl
theorem dbl_hi (x:BitVec 128):hi x <<< 1 ||| lo x >>> 63=hi (GF.dbl 135#128 x):=by
  have h135:∀ i,(135#128).getLsbD (64+i)=false:=by
    intro i
    have:(135#128).toNat < 2 ^ (64+i):=Nat.lt_of_lt_of_le (by decide:(135#128).toNat < 2 ^ 64) (Nat.pow_le_pow_right (by decide) (by omega))
    rw[BitVec.getLsbD]
    exact Nat.testBit_lt_two_pow this
  apply BitVec.eq_of_getLsbD_eq; intro i h
  unfold GF.dbl
  simp only[BitVec.getLsbD_or,BitVec.getLsbD_shiftLeft,BitVec.getLsbD_ushiftRight,hi_bit,lo_bit,BitVec.getLsbD_xor,h,decide_true,Bool.true_and]
  have h0:((if x.getLsbD (128 - 1)=true then 135#128 else 0#128):BitVec 128).getLsbD (64+i)=false:=by
    split
    · exact h135 i
    · simp
  rw[h0,Bool.xor_false]
  have h3:64+i < 128:=by omega
  by_cases hi0:i=0
  · subst hi0; simp
  · have h1 : ¬ 63 + i < 64 := by omega
    have h2:i - 1 < 64:=by omega
    have h4:64+(i - 1)=64+i - 1:=by omega
    have h5:¬ i < 1:=by omega
    have h6:¬ 64+i < 1:=by omega
    simp[h1,h2,h3,h4,h5,h6]
theorem dbl_F (k:Nat) (x:BitVec 128):F C (k+1) 78 [Hf (lo x) (hi x)] []=some (Hf (lo (GF.dbl 135#128 x)) (hi (GF.dbl 135#128 x)),[],[]):=by
  rw[double_F,dbl_lo,dbl_hi]
end Xf
namespace Xf
open Go Go.LE Aes Tb
end Xf
namespace Xf
open Go Go.LE Aes Tb
def fbv (b:Nat→Bool):Nat→BitVec 64
  | 0=>0#64
  | i+1=>if b i=true then fbv b i ||| 1#64 <<< i else fbv b i
theorem fbv_bit (b:Nat→Bool):∀ n j,(fbv b n).getLsbD j=(decide (j < n) && decide (j < 64) && b j):=by
  intro n
  induction n with
  | zero=>intro j; simp[fbv]
  | succ n ih =>
    intro j
    simp only[fbv]
    split
    · rename_i h
      rw[BitVec.getLsbD_or,ih,BitVec.getLsbD_shiftLeft]
      by_cases hj:j=n
      · subst hj; simp[h]
      · by_cases hj2 : j < n
        · simp[hj2,show j < n+1 by omega]
        · have h3 : ¬ j < n + 1 := by omega
          have h4:¬ j - n=0:=by omega
          simp[hj2,h3,h4]
    · rename_i h
      rw[ih]
      by_cases hj:j=n
      · subst hj; simp[h]
      · have : (j < n + 1) ↔ (j < n) := by omega
        simp only[this]
def qfc (b:Nat→Bool):BitVec 128:=fbv (fun j=>b (64+j)) 64++fbv b 64
theorem qfl (b:Nat→Bool) (j:Nat):(qfc b).getLsbD j=(decide (j < 128) && b j):=by
  rw[qfc,BitVec.getLsbD_append]
  by_cases h:j < 64
  · rw [if_pos h, fbv_bit]
    have:j < 128:=by omega
    simp[h,this]
  · rw [if_neg h, fbv_bit]
    by_cases h2:j < 128
    · have h3 : j - 64 < 64 := by omega
      have h4:64+(j - 64)=j:=by omega
      simp[h2,h3,h4]
    · have h3 : ¬ j - 64 < 64 := by omega
      simp[h2,h3]
theorem lo_app (x y:BitVec 64):lo (y++x)=x:=by
  apply BitVec.eq_of_getLsbD_eq; intro i hi
  rw[lo_bit,BitVec.getLsbD_append]
  simp[hi]
theorem hi_app (x y:BitVec 64):hi (y++x)=y:=by
  apply BitVec.eq_of_getLsbD_eq; intro i hi
  rw[hi_bit,BitVec.getLsbD_append]
  have h1:¬ 64+i < 64:=by omega
  simp[hi,h1]
end Xf
namespace Xf
open Go Go.LE Aes Tb
def qdR (c:Nat→BitVec 8) (j:Nat):Bool:=(c (j / 8)).getLsbD (j % 8)
def qbO (a:BitVec 128) (j:Nat):BitVec 8:=(a >>> (8*j)).setWidth 8
theorem qhI (a:BitVec 128) (j n:Nat):(qbO a j).getLsbD n=(decide (n < 8) && a.getLsbD (8*j+n)):=by
  simp[qbO,BitVec.getLsbD_setWidth,BitVec.getLsbD_ushiftRight]
end Xf
namespace Xf
open Go Go.LE Aes Tb
theorem byte_lo (a:BitVec 128) (i:Nat) (h:i < 8):(lo a >>> (8*i)).setWidth 8=qbO a i:=by
  apply BitVec.eq_of_getLsbD_eq
  intro n hn
  rw[qhI,BitVec.getLsbD_setWidth,BitVec.getLsbD_ushiftRight,lo_bit]
  have:8*i+n < 64:=by omega
  simp[this]
theorem byte_hi (a:BitVec 128) (i:Nat) (h:i < 8):(hi a >>> (8*i)).setWidth 8=qbO a (8+i):=by
  apply BitVec.eq_of_getLsbD_eq
  intro n hn
  rw[qhI,BitVec.getLsbD_setWidth,BitVec.getLsbD_ushiftRight,hi_bit]
  have:8*i+n < 64:=by omega
  have e:64+(8*i+n)=8*(8+i)+n:=by omega
  simp[this,e]
def byP (a:BitVec 128) (i j:Nat):BitVec 8:=if j < i∨(8≤j∧j < 8+i) then qbO a j else 0#8
theorem byP_succ (a:BitVec 128) (i:Nat) (h:i < 8):byP a (i+1)=set1 (set1 (byP a i) i (qbO a i)) (8+i) (qbO a (8+i)):=by
  funext j
  simp only[set1,byP]
  by_cases h1:j=8+i
  · subst h1
    rw[if_pos (by omega),if_pos rfl]
  · rw [if_neg h1]
    by_cases h2:j=i
    · subst h2
      rw[if_pos (by omega),if_pos rfl]
    · rw [if_neg h2]
      have:(j < i+1∨8≤j∧j < 8+(i+1))↔(j < i∨8≤j∧j < 8+i):=by omega
      simp only[this]
def byI (a:BitVec 128) (i:Nat) (st:St):Prop := ∃ (H:Heap),st=⟨[.undef,.ptr (1,0) 0,.ptr (1,1) 0,.ptr (1,2) 0,.undef,N i,.undef,.undef,.undef,.undef,.undef,.undef,.undef,.undef,.undef,.undef,.undef,.undef,.undef,.undef,.undef,.undef,.undef,.undef,.undef,.undef,.undef],H,2,0⟩ ∧
  H (1,0)=some [B64 (lo a),B64 (hi a)]∧H (1,1)=some (aB 16 fun _=>0#8)∧H (1,2)=some (aB 16 (byP a i))
theorem by_round (k K:Nat) (a:BitVec 128) (i:Nat) (hi':i < 8) (st:St) (hI:byI a i st) :
    ∃ st1,ev (envC C k) K L91b0 st=some (.normal,st1)∧byI a (i+1) (qa8 L91k0 st1):=by
  obtain ⟨H,rfl,h0,h1,h2⟩:=hI
  apply Exists.intro
  apply And.intro
  · simp (disch := first | omega | decide | simp only [nmsB, lB]) only [simprocAttr, -rR, -rS, leB, qaf, memB, arrB, numB, ordB, L91b0, hi', h0, h1, h2, byte_lo, byte_hi, qae, qad, qac, qaa, qab, qas]
    rfl
  · refine qao [(1, 0), (1, 1), (1, 2)] rfl (by simp only [simprocAttr, -rR, -rS, qak, L91k0, h0, h1, h2, qaN, qcR, qah, qac, qaa]) rfl ⟨_, rfl, ?_, ?_, ?_⟩
    · exact qaj (1,0) rfl (by simp only[simprocAttr,-rR,-rS,memB,h0,qab]) rfl
    · exact qaj (1,1) rfl (by simp only[simprocAttr,-rR,-rS,memB,h1,qab]) (qaE _ _ _)
    · rw [byP_succ a i hi']
      exact qaj (1,2) rfl (by simp only[simprocAttr,-rR,-rS,memB,qab]) (qaE _ _ _)
theorem bytes_F (k:Nat) (a:BitVec 128):F C (k+10) 91 [Hf (lo a) (hi a)] []=some (.agg (aB 16 (qbO a)),[],[]):=by
  rw[qaH f91]
  simp (disch:=first|omega|decide|simp only[nmsB,lB]) only[simprocAttr,-rR,-rS,leB,qaf,memB,arrB,numB,L91,qae,qad,qac,qaa,qab]
  generalize hL:qa1 L91k0 _ _ _=r
  refine qaR hL (byI a) 8 (by omega) (fun i st hi hI=>by_round _ _ a i hi st hI) ?_ ?_ ?_
  · refine qao [(2, 0), (3, 0), (4, 0)] rfl (by simp only [simprocAttr, -rR, -rS, qak, L91k0, qaN, qcR, qah, qac, qaa]) rfl ⟨_, rfl, ?_, ?_, ?_⟩
    · exact qaj (2,0) rfl (by simp only[simprocAttr,-rR,-rS,memB,qab]) rfl
    · exact qaj (3,0) rfl (by simp only[simprocAttr,-rR,-rS,memB,qab]) (qaE _ _ _)
    · rw [show byP a 0 = fun _ => 0#8 by funext j; simp [byP]; omega]
      exact qaj (4,0) rfl (by simp only[simprocAttr,-rR,-rS,memB,qab]) (qaE _ _ _)
  · rintro st ⟨H, rfl, h0, h1, h2⟩
    apply qaO
    simp (disch:=first|omega|decide|simp only[nmsB,lB]) only[simprocAttr,-rR,-rS,leB,qaf,memB,numB,L91b0,qae,qad,qac,qaa,qab]
    rfl
  · rintro st ⟨H, rfl, h0, h1, h2⟩ rfl
    have e:aB 16 (byP a 8)=aB 16 (qbO a):=qcn 16 fun j hj=>by
      simp only[byP]
      rw[if_pos (by omega)]
    rw[e] at h2
    simp (disch:=first|omega|decide|simp only[nmsB,lB]) only[simprocAttr,-rR,-rS,leB,qaf,memB,arrB,numB,L91b0,h0,h1,h2,qae,qad,qac,qaa,qab]
def ofv (c:Nat→BitVec 8):Nat→BitVec 64
  | 0=>0#64
  | i+1=>ofv c i ||| (c i).setWidth 64 <<< (8*i)
theorem ofv_bit (c:Nat→BitVec 8):∀ n j,(ofv c n).getLsbD j=(decide (j < 8*n) && decide (j < 64) && qdR c j):=by
  intro n
  induction n with
  | zero=>intro j; simp[ofv]
  | succ n ih =>
    intro j
    rw[ofv,BitVec.getLsbD_or,ih,BitVec.getLsbD_shiftLeft,BitVec.getLsbD_setWidth]
    by_cases h64:j < 64
    · by_cases h1 : j < 8 * n
      · have h2 : j < 8 * (n + 1) := by omega
        simp[h1,h2,h64]
      · by_cases h2 : j < 8 * (n + 1)
        · have h3 : j / 8 = n := by omega
          have h4:j % 8=j - 8*n:=by omega
          have h5:j - 8*n < 64:=by omega
          simp[h1,h2,h64,qdR,h3,h4,h5]
        · have h3 : (c n).getLsbD (j - 8 * n) = false := BitVec.getLsbD_of_ge _ _ (by omega)
          simp[h1,h2,h3]
    · simp[h64]
theorem of_app (c:Nat→BitVec 8):ofv (fun j=>c (8+j)) 8++ofv c 8=qfc (qdR c):=by
  apply BitVec.eq_of_getLsbD_eq
  intro j hj
  rw[qfl,BitVec.getLsbD_append]
  by_cases h:j < 64
  · rw [if_pos h, ofv_bit]
    have h2:j < 8*8:=by omega
    simp[h,h2,hj]
  · rw [if_neg h, ofv_bit]
    have h3:j - 64 < 64:=by omega
    have h4:(j - 64) / 8=j / 8 - 8:=by omega
    have h5:(j - 64) % 8=j % 8:=by omega
    have h6:8+(j / 8 - 8)=j / 8:=by omega
    simp[h3,hj,qdR,h4,h5,h6]
def ofI (c:Nat→BitVec 8) (i:Nat) (st:St):Prop := ∃ (H:Heap),st=⟨[.undef,.ptr (1,0) 0,.ptr (1,1) 0,.ptr (1,2) 0,.undef,.undef,N i,.undef,.undef,.undef,.undef,.undef,.undef,.undef,.undef,.undef,.undef,.undef,.undef,.undef,.undef,.undef,.undef,.undef,.undef,.undef,.undef,.undef,.undef,.undef,.undef,.undef,.undef,.undef],H,2,0⟩ ∧
  H (1,0)=some (aB 16 c)∧H (1,1)=some [B64 0#64,B64 0#64]∧H (1,2)=some [B64 (ofv c i),B64 (ofv (fun j=>c (8+j)) i)]
theorem of_round (k K:Nat) (c:Nat→BitVec 8) (i:Nat) (hi':i < 8) (st:St) (hI:ofI c i st) :
    ∃ st1,ev (envC C k) K L90b0 st=some (.normal,st1)∧ofI c (i+1) (qa8 L90k0 st1):=by
  obtain ⟨H,rfl,h0,h1,h2⟩:=hI
  apply Exists.intro
  apply And.intro
  · simp (disch := first | omega | decide | simp only [nmsB, lB]) only [simprocAttr, -rR, -rS, leB, qaf, memB, arrB, numB, ordB, L90b0, hi', h0, h1, h2, qae, qad, qac, qaa, qab, qas]
    rfl
  · refine qao [(1, 0), (1, 1), (1, 2)] rfl (by simp only [simprocAttr, -rR, -rS, qak, L90k0, h0, h1, h2, qaN, qcR, qah, qac, qaa]) rfl ⟨_, rfl, ?_, ?_, ?_⟩
    · exact qaj (1,0) rfl (by simp only[simprocAttr,-rR,-rS,memB,h0,qab]) (qaE _ _ _)
    · exact qaj (1,1) rfl (by simp only[simprocAttr,-rR,-rS,memB,h1,qab]) rfl
    · exact qaj (1,2) rfl (by simp only[simprocAttr,-rR,-rS,memB,ofv,qab]) rfl
theorem of_F (k:Nat) (c:Nat→BitVec 8):F C (k+10) 90 [.agg (aB 16 c)] []=some (Hf (lo (qfc (qdR c))) (hi (qfc (qdR c))),[],[]):=by
  rw[qaH f90]
  simp (disch:=first|omega|decide|simp only[nmsB,lB]) only[simprocAttr,-rR,-rS,leB,qaf,memB,arrB,numB,L90,qae,qad,qac,qaa,qab]
  generalize hL:qa1 L90k0 _ _ _=r
  refine qaR hL (ofI c) 8 (by omega) (fun i st hi hI=>of_round _ _ c i hi st hI) ?_ ?_ ?_
  · refine qao [(2, 0), (3, 0), (5, 0)] rfl (by simp only [simprocAttr, -rR, -rS, qak, L90k0, qaN, qcR, qah, qac, qaa]) rfl ⟨_, rfl, ?_, ?_, ?_⟩
    · exact qaj (2,0) rfl (by simp only[simprocAttr,-rR,-rS,memB,qab]) (qaE _ _ _)
    · exact qaj (3,0) rfl (by simp only[simprocAttr,-rR,-rS,memB,qab]) rfl
    · exact qaj (5,0) rfl (by simp only[simprocAttr,-rR,-rS,memB,ofv,qab]) rfl
  · rintro st ⟨H, rfl, h0, h1, h2⟩
    apply qaO
    simp (disch:=first|omega|decide|simp only[nmsB,lB]) only[simprocAttr,-rR,-rS,leB,qaf,memB,numB,L90b0,qae,qad,qac,qaa,qab]
    rfl
  · rintro st ⟨H, rfl, h0, h1, h2⟩ rfl
    rw[←of_app,lo_app,hi_app]
    simp (disch:=first|omega|decide|simp only[nmsB,lB]) only[simprocAttr,-rR,-rS,leB,qaf,memB,arrB,numB,L90b0,h0,h1,h2,qae,qad,qac,qaa,qab]
end Xf
namespace Xf
open Go Go.LE Aes Tb
end Xf
namespace Aes
open Go Go.LE Xf Tb
set_option maxRecDepth 20000
def wt (E:R→R) (t:BitVec 128) (x:R):R:=fun j=>E (fun i=>x i ^^^ qbO t i) j ^^^ qbO t j
def xr (x y:R) (i:Nat):R:=fun j=>if j < i then x j ^^^ y j else x j
theorem xr_0 (x y:R):xr x y 0=x:=funext fun j=>if_neg (Nat.not_lt_zero j)
theorem xr_succ (x y:R) (i:Nat):set1 (xr x y i) i (x i ^^^ y i)=xr x y (i+1):=by
  funext j
  simp only[set1,xr]
  by_cases h:j=i
  · subst h; rw[if_pos rfl,if_pos (Nat.lt_succ_self _)]
  · rw [if_neg h]
    by_cases h':j < i
    · rw[if_pos h',if_pos (by omega)]
    · rw[if_neg h',if_neg (by omega)]
theorem xr_at (x y:R) (i:Nat):xr x y i i=x i:=if_neg (zY i)
theorem xr_all (x y:R):aB 16 (xr x y 16)=aB 16 (fun j=>x j ^^^ y j):=qcn _ fun j hj=>if_pos hj
theorem qel (g:FuncId) (m:Nm) (o:Nat):nms D (.fn (.func g) [.ptr m o] [])=[m]:=rfl
theorem qfu (π:Nm→Option Nm) (g:FuncId) (m:Nm) (o:Nat):ren D π (.fn (.func g) [.ptr m o] []) = .fn (.func g) [ren 7 π (.ptr m o)] []:=rfl
theorem callV_fn1 {E:Env} {H:Heap} {b:Nat} (g:FuncId) (x:LV) (args:List LV):callV E H b args (.fn (.func g) [x] [])=qar E H b g (x::args):=by simp[callV]
def wJ1 (g n:Nat) (l:List (BitVec 8)) (x y:R) (i:Nat) (st:St):Prop := ∃ (H:Heap),st=⟨[.fn (.func g) [.ptr (0,0) 0] [],.undef,.undef,.undef,.undef,.undef,.undef,.ptr (1,0) 0,.ptr (1,1) 0,.undef,.undef,.undef,.undef,.undef,.undef,.undef,N i,.undef,.undef,.undef,.undef,.undef,.undef,.undef,.undef,.undef,.undef,.undef,.undef,.undef,.undef,.undef,.undef,.undef,.undef,.undef,.undef,.undef,.undef,.undef,.undef,.undef,.undef,.undef],H,2,2⟩ ∧
  H (0,0)=some (KO n)∧H (0,1)=some (bs l)∧H (1,0)=some (aB 16 y)∧H (1,1)=some (aB 16 (xr x y i))
def wJ0 (n:Nat) (l:List (BitVec 8)) (x y:R) (i:Nat) (st:St):Prop := ∃ (H:Heap),st=⟨[.undef,.undef,.undef,.undef,.undef,.undef,.undef,.ptr (1,0) 0,.ptr (1,1) 0,.undef,.undef,.undef,.undef,.undef,.undef,.undef,.undef,.undef,.undef,.undef,.undef,.undef,.undef,.undef,.undef,.undef,.undef,.undef,.undef,.undef,.undef,N i,.undef,.undef,.undef,.undef,.undef,.undef,.undef,.undef,.undef,.undef,.undef,.undef],H,2,2⟩ ∧
  H (0,0)=some (KO n)∧H (0,1)=some (bs l)∧H (1,0)=some (aB 16 y)∧H (1,1)=some (aB 16 (xr x y i))
theorem w1_round (k g n:Nat) (l:List (BitVec 8)) (x y:R) (i:Nat) (hi:i < 16) (st:St) (hJ:wJ1 g n l x y i st) :
    ∃ st1,ev (envC C k) k L77b1 st=some (.normal,st1)∧wJ1 g n l x y (i+1) (qa8 L77k1 st1):=by
  obtain ⟨H,rfl,h0,h1,h2,h3⟩:=hJ
  simp (disch:=first|omega|decide|simp only[nmsB,lB]) only[simprocAttr,-rR,-rS,leB,memB,arrB,numB,qaf,ordB,qan,qai,qaI,L77b1,h0,h1,h2,h3,hi,xr_at,xr_succ,qab,qad,qac,qaa,qas,qag]
  refine ⟨_,rfl,?_⟩
  refine qao [(1,0),(1,1)] rfl (by simp only[simprocAttr,-rR,-rS,qak,L77k1,qel,qaN,qd1,qam,h0,h1,h2,h3,qah,qac,qaa]) (by simp only[simprocAttr,-rR,-rS,qak,L77k1,zB,zA,qfu,qah,qac,qaa] <;> rfl) ⟨_,rfl,?_,?_,?_,?_⟩
  · rw[qaG]; simp (disch:=first|omega|decide|simp only[nmsB,lB]) only[simprocAttr,-rR,-rS,leB,memB,qaf,h0,qer,qae,qab,qad,qac,qaa]
  · rw[qaG]; simp (disch:=first|omega|decide|simp only[nmsB,lB]) only[simprocAttr,-rR,-rS,leB,memB,qaf,h1,qae,qab,qad,qac,qaa]
  · exact qaj (1,0) rfl (by simp (disch:=first|omega|decide|simp only[nmsB,lB]) only[simprocAttr,-rR,-rS,leB,memB,qaf,h2,qae,qab,qad,qac,qaa]) (qaE _ _ _)
  · exact qaj (1,1) rfl (by simp (disch:=first|omega|decide|simp only[nmsB,lB]) only[simprocAttr,-rR,-rS,leB,memB,qaf,qae,qab,qad,qac,qaa]) (qaE _ _ _)
theorem w0_round (k n:Nat) (l:List (BitVec 8)) (x y:R) (i:Nat) (hi:i < 16) (st:St) (hJ:wJ0 n l x y i st) :
    ∃ st1,ev (envC C k) k L77b0 st=some (.normal,st1)∧wJ0 n l x y (i+1) (qa8 L77k0 st1):=by
  obtain ⟨H,rfl,h0,h1,h2,h3⟩:=hJ
  simp (disch:=first|omega|decide|simp only[nmsB,lB]) only[simprocAttr,-rR,-rS,leB,memB,arrB,numB,qaf,ordB,qan,qai,qaI,L77b0,h0,h1,h2,h3,hi,xr_at,xr_succ,qab,qad,qac,qaa,qas,qag]
  refine ⟨_,rfl,?_⟩
  refine qao [(1,0),(1,1)] rfl (by simp only[simprocAttr,-rR,-rS,qak,L77k0,qaN,qd1,qam,h0,h1,h2,h3,qah,qac,qaa]) rfl ⟨_,rfl,?_,?_,?_,?_⟩
  · rw[qaG]; simp (disch:=first|omega|decide|simp only[nmsB,lB]) only[simprocAttr,-rR,-rS,leB,memB,qaf,h0,qer,qae,qab,qad,qac,qaa]
  · rw[qaG]; simp (disch:=first|omega|decide|simp only[nmsB,lB]) only[simprocAttr,-rR,-rS,leB,memB,qaf,h1,qae,qab,qad,qac,qaa]
  · exact qaj (1,0) rfl (by simp (disch:=first|omega|decide|simp only[nmsB,lB]) only[simprocAttr,-rR,-rS,leB,memB,qaf,h2,qae,qab,qad,qac,qaa]) (qaE _ _ _)
  · exact qaj (1,1) rfl (by simp (disch:=first|omega|decide|simp only[nmsB,lB]) only[simprocAttr,-rR,-rS,leB,memB,qaf,qae,qab,qad,qac,qaa]) (qaE _ _ _)
def Way (g:FuncId) (n:Nat) (l:List (BitVec 8)) (E:R→R):Prop :=
  ∀ (k b:Nat) (H:Heap) (c m:Nm),KG H c m (n+2) none l→∀ s,qar (envC C (k+60)) H b g [.ptr c 0,.agg (aB 16 s)]=some ⟨.agg (aB 16 (E s)),[],[(c,some (CF (.sl m 0 (n+2) none 16) TB)),(m,some (bs l))]⟩
theorem way_enc (n:Nat) (hn:n≤20) (l:List (BitVec 8)) (hl:l.length=16*(n+2)):Way 66 n l (enc (kf l) n):=fun k b H c m h s=>c_enc k n b hn H c m l h hl s
theorem way_dec (n:Nat) (hn:n≤20) (l:List (BitVec 8)) (hl:l.length=16*(n+2)):Way 68 n l (dec (kf l) n):=fun k b H c m h s=>c_dec k n b hn H c m l h hl s
theorem bsb16 (b:List (BitVec 8)) (h:b.length=16) (H:Heap):qb6 H 16 (.ipt (bs b))=some (aB 16 (fl b)):=by
  rw[qb6,if_pos (by rw[qaM]; omega),qdO,List.take_of_length_le (by omega),qe0 _ 16 h]; rfl
theorem with_F (k g n:Nat) (l:List (BitVec 8)) (E:R→R) (hE:Way g n l E) (t:BitVec 128) (b:List (BitVec 8)) (hb:b.length=16) :
    F C (k+80) 77 [.fn (.func g) [.ptr (0,0) 0] [],Hf (lo t) (hi t),.isl (bs b) 16] [KO n,bs l]=some (.sl (1,0) 0 16 (some 16) 1,[some (KO n),some (bs l)],[aB 16 (wt E t (fl b))]):=by
  rw[qaH f77]
  have hby:F C (k+79) 91 [Hf (lo t) (hi t)] []=some (.agg (aB 16 (qbO t)),[],[]):=Xf.bytes_F (k+69) t
  simp (disch:=first|omega|decide|simp only[nmsB,lB]) only[simprocAttr,-rR,-rS,leB,memB,arrB,numB,qaf,ordB,qan,qai,qaI,L77,hby,l91,bsb16 b hb,qae,qab,qad,qac,qaa,qas,qag]
  generalize hL:qa1 L77k1 _ _ _=r
  refine qaR hL (wJ1 g n l (fl b) (qbO t)) 16 (by omega) (fun i st hi hJ=>w1_round _ g n l _ _ i hi st hJ) ?_ ?_ ?_
  · refine qao [(6, 0), (11, 0)] rfl (by simp only [simprocAttr, -rR, -rS, qak, L77k1, qel, qaN, qd1, qam, qah, qac, qaa]) (by simp only [simprocAttr, -rR, -rS, qak, L77k1, zB, zA, qfu, qah, qac, qaa] <;> rfl) ⟨_, rfl, ?_, ?_, ?_, ?_⟩
    · rw[qaG]; simp (disch:=first|omega|decide|simp only[nmsB,lB]) only[simprocAttr,-rR,-rS,leB,memB,qaf,qer,qae,qab,qad,qac,qaa]
    · rw[qaG]; simp (disch:=first|omega|decide|simp only[nmsB,lB]) only[simprocAttr,-rR,-rS,leB,memB,qaf,qae,qab,qad,qac,qaa]
    · exact qaj (6,0) rfl (by simp (disch:=first|omega|decide|simp only[nmsB,lB]) only[simprocAttr,-rR,-rS,leB,memB,qaf,qae,qab,qad,qac,qaa]) (qaE _ _ _)
    · rw[xr_0]; exact qaj (11,0) rfl (by simp (disch:=first|omega|decide|simp only[nmsB,lB]) only[simprocAttr,-rR,-rS,leB,memB,qaf,qae,qab,qad,qac,qaa]) (qaE _ _ _)
  · rintro st ⟨H, rfl, h0, h1, h2, h3⟩
    apply qaO
    simp (disch:=first|omega|decide|simp only[nmsB,lB]) only[simprocAttr,-rR,-rS,leB,memB,arrB,numB,qaf,L77b1,qae,qab,qad,qac,qaa]
    rfl
  · rintro st ⟨H, rfl, h0, h1, h2, h3⟩ rfl
    rw[xr_all] at h3
    simp (disch:=first|omega|decide|simp only[nmsB,lB]) only[simprocAttr,-rR,-rS,leB,memB,arrB,numB,qaf,ordB,qan,qai,qaI,L77b1,h0,h1,h2,h3,callV_fn1,qab,qad,qac,qaa,qas,qag]
    rw[hE (k+19) _ H (0,0) (0,1) ⟨h0,h1,by decide⟩]
    simp (disch:=first|omega|decide|simp only[nmsB,lB]) only[simprocAttr,-rR,-rS,leB,memB,arrB,numB,qaf,ordB,qan,qai,qaI,h0,h1,h2,h3,qab,qad,qac,qaa,qas,qag]
    clear hL
    generalize hL:qa1 L77k0 _ _ _=r
    refine qaR hL (wJ0 n l (E fun j=>fl b j ^^^ qbO t j) (qbO t)) 16 (by omega) (fun i st hi hJ=>w0_round _ n l _ _ i hi st hJ) ?_ ?_ ?_
    · refine qao [(1, 0), (1, 1)] rfl (by simp only [simprocAttr, -rR, -rS, qak, L77k0, qaN, qd1, qaW, qa3, qam, h0, h1, h2, h3, qah, qac, qaa]) rfl ⟨_, rfl, ?_, ?_, ?_, ?_⟩
      · rw[qaG]; simp (disch:=first|omega|decide|simp only[nmsB,lB]) only[simprocAttr,-rR,-rS,leB,memB,qaf,qaV,qae,qab,qad,qac,qaa]; rfl
      · rw[qaG]; simp (disch:=first|omega|decide|simp only[nmsB,lB]) only[simprocAttr,-rR,-rS,leB,memB,qaf,qae,qab,qad,qac,qaa]
      · exact qaj (1,0) rfl (by simp (disch:=first|omega|decide|simp only[nmsB,lB]) only[simprocAttr,-rR,-rS,leB,memB,qaf,h2,qae,qab,qad,qac,qaa]) (qaE _ _ _)
      · rw[xr_0]; exact qaj (1,1) rfl (by simp (disch:=first|omega|decide|simp only[nmsB,lB]) only[simprocAttr,-rR,-rS,leB,memB,qaf,qae,qab,qad,qac,qaa]) (qaE _ _ _)
    · rintro st ⟨H, rfl, h0, h1, h2, h3⟩
      apply qaO
      simp (disch:=first|omega|decide|simp only[nmsB,lB]) only[simprocAttr,-rR,-rS,leB,memB,arrB,numB,qaf,L77b0,qae,qab,qad,qac,qaa]
      rfl
    · rintro st ⟨H, rfl, h0, h1, h2, h3⟩ rfl
      rw[xr_all] at h3
      simp (disch:=first|omega|decide|simp only[nmsB,lB]) only[simprocAttr,-rR,-rS,leB,memB,arrB,numB,qaf,ordB,qan,qai,qaI,L77b0,h0,h1,h2,h3,qab,qad,qac,qaa,qas,qag]
      rw[qaX 2 _ _ [(1,1)] (by simp only[simprocAttr,-rR,-rS,qak,qd1,qam,qaN,qa3,h0,h1,h3,qah,qac,qaa])]
      simp (disch:=first|omega|decide|simp only[nmsB,lB]) only[simprocAttr,-rR,-rS,leB,memB,qaf,qer,qaq,qaE,h0,h1,h3,qaZ,qae,qab,qad,qac,qaa]
      rfl
end Aes
namespace Aes
open Go Go.LE Xf Tb
set_option maxRecDepth 20000
theorem xnew_F (k n:Nat) (hn:n=4∨n=8) (key:List (BitVec 8)) (hk:key.length=8*n):F C (k+401) 49 [.isl (bs key) key.length] [] =
    some (.tup [.ptr (1,0) 0,N 0],[],[[.ptr (1,1) 0,.ptr (1,3) 0],CF (.sl (1,2) 0 (n+7) none 16) TB,bs (W n (key.take (4*n))),CF (.sl (1,4) 0 (n+7) none 16) TB,bs (W n (key.drop (4*n)))]):=by
  rw[qaH f49]
  have hd:8*n / 2=4*n:=by omega
  have hle:4*n≤8*n:=by omega
  have hs:8*n - 4*n=4*n:=by omega
  have h16:(8*n=32)=(n=4):=by apply propext; omega
  have h32:(8*n=64)=(n=8):=by apply propext; omega
  have hn8:n≠4→n=8:=fun h=>hn.resolve_left h
  have ht:(key.take (4*n)).length=4*n:=by rw[zU]; omega
  have hdr:(key.drop (4*n)).length=4*n:=by rw[zR]; omega
  have hs1:∀ H,snap H D (.isl (bs (key.take (4*n))) (4*n))=some (.isl (bs (key.take (4*n))) (key.take (4*n)).length,[]):=fun H=>by rw[ht]; rfl
  have hs2:∀ H,snap H D (.isl (bs (key.drop (4*n))) (4*n))=some (.isl (bs (key.drop (4*n))) (key.drop (4*n)).length,[]):=fun H=>by rw[hdr]; rfl
  have hc1:∀ b H,qar (envC C (k+400)) H b 62 [.isl (bs (key.take (4*n))) (4*n)]=_:=fun b H=>c_new k n b hn H _ _ ht [] (hs1 H)
  have hc2:∀ b H,qar (envC C (k+400)) H b 62 [.isl (bs (key.drop (4*n))) (4*n)]=_:=fun b H=>c_new k n b hn H _ _ hdr [] (hs2 H)
  have htd:(key.drop (4*n)).take (4*n)=key.drop (4*n):=List.take_of_length_le (by omega)
  rcases hn with rfl | rfl
  all_goals
    simp (disch:=first|omega|decide|simp only[nmsB,lB]) only[simprocAttr,-rR,-rS,leB,memB,arrB,numB,qaf,opsB,ordB,qan,qai,qaI,L49,hk,qdO,qd5,hc1,hc2,htd,qa3,qab,qad,qac,qaa,qas,qag]
    rw[qaX 0 _ _ [(37,0),(19,0),(19,1),(28,0),(28,1)] (by simp only[simprocAttr,-rR,-rS,qak,qaW,qam,qdx,nms7_ptr,qd0,qa3,qah,qac,qaa])]
    simp (disch:=first|omega|decide|simp only[nmsB,lB]) only[simprocAttr,-rR,-rS,leB,memB,qaf,qaV,qaq,qb0,qae,qab,qad,qac,qaa]
    rfl
end Aes
namespace Aes
open Go Go.LE Xf Tb
set_option maxRecDepth 20000
theorem xclone_F (k:Nat) (d:List (BitVec 8)) (h0:d.length≠0) (hb:d.length≤211106232532992):F C (k+5) 37 [.isl (bs d) d.length] []=some (.sl (1,0) 0 d.length none 1,[],[bs d]):=by
  rw[qaH f37]
  have hfr:∀ H,qbp H 1 d.length (.isl (bs d) d.length)=some (bs d):=fun H=>qb9 d d.length rfl
  have hap:∀ b H m,appX b 1 1 d.length H [] (bs d) (.sl m 0 0 (some 0) 1)=some ⟨.sl (b,0) 0 d.length none 1,[bs d],[]⟩:=fun b H m=>appX_e b d.length H m (bs d) h0 (by omega)
  have hnil:binV .eql .slice (.isl (bs d) d.length) Nil=some (Bo false):=by
    simp only[binV,eqV,nilCS,nilS,if_pos (Nat.pos_of_ne_zero h0)]
    rfl
  simp (disch:=first|omega|decide|simp only[nmsB,lB]) only[simprocAttr,-rR,-rS,leB,memB,arrB,numB,qaf,opsB,ordB,qan,qai,qaI,L37,h0,hnil,hfr,hap,qab,qad,qac,qaa,qas,qag]
  rw[qaX 0 _ _ [(7,0)] (by simp only[simprocAttr,-rR,-rS,qak,qam,qah,qac,qaa])]
  simp (disch:=first|omega|decide|simp only[nmsB,lB]) only[simprocAttr,-rR,-rS,leB,memB,qaf,qaq,qae,qab,qad,qac,qaa]
def U128 (u:BitVec 64):BitVec 128:=u.setWidth 128
theorem lo_U (u:BitVec 64):lo (U128 u)=u:=by
  apply BitVec.eq_of_getLsbD_eq; intro i hi
  rw[lo_bit,U128,BitVec.getLsbD_setWidth]; simp[hi]; omega
theorem hi_U (u:BitVec 64):Xf.hi (U128 u)=0#64:=by
  apply BitVec.eq_of_getLsbD_eq; intro i hi'
  rw[hi_bit,U128,BitVec.getLsbD_setWidth]; simp
def PO:qal:=[.ptr (0,1) 0,.ptr (0,3) 0]
def tw0 (n:Nat) (lb:List (BitVec 8)) (u:BitVec 64):BitVec 128:=qfc (qdR (enc (kf lb) n (qbO (U128 u))))
theorem PO_k0:qaS 0 1 (some PO)=some [.ptr (0,1) 0]:=rfl
theorem PO_k1:qaS 1 1 (some PO)=some [.ptr (0,3) 0]:=rfl
theorem qdE:List.range 5=[0,1,2,3,4]:=rfl
theorem PO_nms:PO.flatMap (nms D)=[(0,1),(0,3)]:=rfl
theorem PO_ren (names:List Nm):PO.map (ren D (qbm names))=PO:=by simp only[PO,zB,zA,qbk,qcT]; rfl
def KA (i n:Nat):qal:=CF (.sl (0,i) 0 (n+2) none 16) TB
theorem qgj (i n:Nat):(KA i n).flatMap (nms D)=[(0,i)]:=by rw[KA,qaW]; rfl
theorem KA_ren (i n:Nat) (names:List Nm):(KA i n).map (ren D (qbm names))=KA i n:=by rw[KA,qaV,qaZ,qcT]; rfl
theorem xfirst_F (k n:Nat) (hn:n≤20) (la lb:List (BitVec 8)) (hb:lb.length=16*(n+2)) (u:BitVec 64) :
    F C (k+80) 76 [.ptr (0,0) 0,B64 u] [PO,KA 2 n,bs la,KA 4 n,bs lb]=some (Hf (lo (tw0 n lb u)) (Xf.hi (tw0 n lb u)),[some PO,some (KA 2 n),some (bs la),some (KA 4 n),some (bs lb)],[]):=by
  rw[qaH f76]
  have hby:F C (k+79) 91 [Hf (lo (U128 u)) (Xf.hi (U128 u))] []=some (.agg (aB 16 (qbO (U128 u))),[],[]):=Xf.bytes_F (k+69) (U128 u)
  rw[lo_U,hi_U] at hby
  have hof:=Xf.of_F (k+69) (enc (kf lb) n (qbO (U128 u)))
  rw[Nat.add_assoc] at hof
  simp only[Nat.reduceAdd] at hof
  simp (disch:=first|omega|decide|simp only[nmsB,lB]) only[simprocAttr,-rR,-rS,leB,memB,arrB,numB,qaf,opsB,ordB,qan,qai,qaI,L76,PO_k0,PO_k1,hby,hof,l91,l90,qae,qab,qad,qac,qaa,qas,qag]
  generalize hG:upd (qaY _) (2,0) _=G
  have g0:G (0,0)=some PO:=by rw[←hG]; rfl
  have g1:G (0,1)=some (KA 2 n):=by rw[←hG]; rfl
  have g2:G (0,2)=some (bs la):=by rw[←hG]; rfl
  have g3:G (0,3)=some (KA 4 n):=by rw[←hG]; rfl
  have g4:G (0,4)=some (bs lb):=by rw[←hG]; rfl
  have g5:G (2,0)=some [B64 0#64,B64 0#64]:=by rw[←hG]; rfl
  clear hG
  have K:KG G (0,3) (0,4) (n+2) none lb:=⟨g3,g4,by decide⟩
  have hr:=reach_KG K
  have he:∀ b s,_:=fun b s=>c_enc (k+19) n b hn _ (0,3) (0,4) lb K.only hb s
  have ht:∀ v,_:=fun v=>tr_KG _ v (0,3) (0,4) (n+2) none lb K.only
  simp (disch:=first|omega|decide|simp only[nmsB,lB]) only[simprocAttr,-rR,-rS,leB,memB,arrB,numB,qaf,opsB,ordB,qan,qai,qaI,hr,he,ht,hof,g5,qfE,qfF,l90,qae,qab,qad,qac,qaa,qas,qag]
  rw[qaX 5 _ _ [] (by simp only[simprocAttr,-rR,-rS,qak,qfE,qdE,PO_nms,qgj,qam,g0,g1,g2,g3,g4,qah,qac,qaa])]
  simp (disch:=first|omega|decide|simp only[nmsB,lB]) only[simprocAttr,-rR,-rS,leB,memB,qaf,qdE,PO_ren,KA_ren,qaq,qfF,g0,g1,g2,g3,g4,tw0,qae,qab,qad,qac,qaa]
end Aes
namespace Aes
open Go Go.LE Xf Tb
def blk (d:List (BitVec 8)) (i:Nat):List (BitVec 8):=(d.drop (16*i)).take 16
def wtl (E:R→R) (t:BitVec 128) (b:List (BitVec 8)):List (BitVec 8):=(List.range 16).map (wt E t (fl b))
def tws (t0:BitVec 128):Nat→BitVec 128
  | 0=>t0
  | i+1=>GF.dbl 135#128 (tws t0 i)
def done (E:R→R) (t0:BitVec 128) (d:List (BitVec 8)):Nat→List (BitVec 8)
  | 0=>[]
  | i+1=>done E t0 d i++wtl E (tws t0 i) (blk d i)
theorem qcA (E:R→R) (t:BitVec 128) (b:List (BitVec 8)):(wtl E t b).length=16:=by rw[wtl,zV,List.length_range]
theorem qcq (E:R→R) (t0:BitVec 128) (d:List (BitVec 8)):∀ i,(done E t0 d i).length=16*i:=by
  intro i
  induction i with
  | zero=>rfl
  | succ i ih=>rw[done,zH,ih,qcA]; omega
theorem qgF (d:List (BitVec 8)) (i:Nat) (h:16*(i+1)≤d.length):(blk d i).length=16:=by rw[blk,zU,zR]; omega
def tw1 (t0:BitVec 128) (m:Nat) (turned:Bool):BitVec 128:=if turned then tws t0 (m+1) else tws t0 m
def tw2 (t0:BitVec 128) (m:Nat) (turned:Bool):BitVec 128:=if turned then tws t0 m else tws t0 (m+1)
def qeN (E:R→R) (t0:BitVec 128) (d:List (BitVec 8)) (turned:Bool) (m:Nat):List (BitVec 8):=wtl E (tw1 t0 m turned) (blk d m)
def lastB (E:R→R) (t0:BitVec 128) (d:List (BitVec 8)) (turned:Bool) (m:Nat):List (BitVec 8):=d.drop (16*m+16)++(qeN E t0 d turned m).drop (d.length % 16)
def qbI (E:R→R) (t0:BitVec 128) (d:List (BitVec 8)) (turned:Bool):List (BitVec 8) :=
  if d.length % 16=0 then done E t0 d (d.length / 16)
  else done E t0 d (d.length / 16 - 1)++wtl E (tw2 t0 (d.length / 16 - 1) turned) (lastB E t0 d turned (d.length / 16 - 1))++(qeN E t0 d turned (d.length / 16 - 1)).take (d.length % 16)
theorem qfJ (E:R→R) (t0:BitVec 128) (d:List (BitVec 8)) (turned:Bool) (h:16≤d.length):(qbI E t0 d turned).length=d.length:=by
  unfold qbI
  by_cases h0:d.length % 16=0
  · rw[if_pos h0,qcq]; omega
  · rw[if_neg h0,zH,zH,qcq,qcA,zU,qeN,qcA]; omega
theorem lastB_length (E:R→R) (t0:BitVec 128) (d:List (BitVec 8)) (turned:Bool) (h:16≤d.length) (h0:d.length % 16≠0):(lastB E t0 d turned (d.length / 16 - 1)).length=16:=by
  rw[lastB,zH,zR,zR,qeN,qcA]; omega
def outI (E:R→R) (t0:BitVec 128) (d:List (BitVec 8)) (i:Nat):List (BitVec 8):=done E t0 d i++d.drop (16*i)
theorem outI_length (E:R→R) (t0:BitVec 128) (d:List (BitVec 8)) (i:Nat) (h:16*i≤d.length):(outI E t0 d i).length=d.length:=by
  rw[outI,zH,qcq,zR]; omega
theorem outI_0 (E:R→R) (t0:BitVec 128) (d:List (BitVec 8)):outI E t0 d 0=d:=by rw[outI,done,zI,Nat.mul_zero,zF]
theorem outI_drop (E:R→R) (t0:BitVec 128) (d:List (BitVec 8)) (i:Nat):(outI E t0 d i).drop (16*i)=d.drop (16*i):=by
  rw[outI,List.drop_append,qcq,Nat.sub_self,zF,List.drop_of_length_le (by rw[qcq]; exact Nat.le_refl _),zI]
theorem outI_blk (E:R→R) (t0:BitVec 128) (d:List (BitVec 8)) (i:Nat):((outI E t0 d i).drop (16*i)).take 16=blk d i:=by rw[outI_drop,blk]
theorem outI_succ (E:R→R) (t0:BitVec 128) (d:List (BitVec 8)) (i:Nat) (h:16*(i+1)≤d.length) :
    (outI E t0 d i).take (16*i)++wtl E (tws t0 i) (blk d i)++(outI E t0 d i).drop (16*i+16)=outI E t0 d (i+1):=by
  have e1:(outI E t0 d i).take (16*i)=done E t0 d i:=by
    rw[outI,List.take_append,qcq,Nat.sub_self,zW,zD,List.take_of_length_le (by rw[qcq]; exact Nat.le_refl _)]
  have e2:(outI E t0 d i).drop (16*i+16)=d.drop (16*(i+1)):=by
    rw[←List.drop_drop,outI_drop,List.drop_drop]; congr 1
  rw[e1,e2,outI,done]
theorem outI_whole (E:R→R) (t0:BitVec 128) (d:List (BitVec 8)) (h:d.length % 16=0):outI E t0 d (d.length / 16)=qbI E t0 d false:=by
  rw[outI,qbI,if_pos h,List.drop_of_length_le (by omega),zD]
theorem unitP_whole (E:R→R) (t0:BitVec 128) (d:List (BitVec 8)) (a b:Bool) (h:d.length % 16=0):qbI E t0 d a=qbI E t0 d b:=by
  rw[qbI,qbI,if_pos h,if_pos h]
end Aes
namespace Aes
open Go Go.LE Xf Tb
structure Inv (E D:R→R):Prop where
  ed:∀ s,E16 (D (E s)) s
  de:∀ s,E16 (E (D s)) s
  ec:∀ s t,E16 s t→E16 (E s) (E t)
  dc:∀ s t,E16 s t→E16 (D s) (D t)
theorem Inv.symm {E D:R→R} (h:Inv E D):Inv D E:=⟨h.de,h.ed,h.dc,h.ec⟩
theorem inv_aes (K:Nat→R) (n:Nat):Inv (enc K n) (dec K n):=⟨dec_enc K n,enc_dec K n,fun _ _ h=>enc_c K n h,fun _ _ h=>dec_c K n h⟩
theorem qd2 (w:R):E16 (fl ((List.range 16).map w)) w:=fun j hj=>by
  simp[fl,List.getD_eq_getElem?_getD,hj]
theorem list16 {a b:List (BitVec 8)} (ha:a.length=16) (hb:b.length=16) (h:E16 (fl a) (fl b)):a=b:=by
  apply List.ext_getElem (by rw[ha,hb])
  intro j h1 h2
  have:=h j (by omega)
  simpa [fl,List.getD_eq_getElem?_getD,h1,h2] using this
theorem wt_inv {E D:R→R} (h:Inv E D) (t:BitVec 128) (x:R):E16 (wt D t (wt E t x)) x:=by
  have e:(fun i=>wt E t x i ^^^ qbO t i)=E (fun i=>x i ^^^ qbO t i):=by
    funext i
    rw[wt,BitVec.xor_assoc,BitVec.xor_self,BitVec.xor_zero]
  intro j hj
  show D (fun i=>wt E t x i ^^^ qbO t i) j ^^^ qbO t j=x j
  rw[e,h.ed _ j hj,BitVec.xor_assoc,BitVec.xor_self,BitVec.xor_zero]
theorem wt_c {E D:R→R} (h:Inv E D) (t:BitVec 128) {x y:R} (hx:E16 x y):E16 (wt E t x) (wt E t y):=by
  intro j hj
  have:E16 (fun i=>x i ^^^ qbO t i) (fun i=>y i ^^^ qbO t i):=fun i hi=>by
    show x i ^^^ _=y i ^^^ _
    rw[hx i hi]
  show E _ j ^^^ _=E _ j ^^^ _
  rw[h.ec _ _ this j hj]
theorem wtl_inv {E D:R→R} (h:Inv E D) (t:BitVec 128) (b:List (BitVec 8)) (hb:b.length=16):wtl D t (wtl E t b)=b:=by
  apply list16 (qcA _ _ _) hb
  refine (qd2 _).trans ?_
  have:E16 (fl (wtl E t b)) (wt E t (fl b)):=qd2 _
  exact (wt_c h.symm t this).trans (wt_inv h t _)
theorem blk_done (E:R→R) (t0:BitVec 128) (d X:List (BitVec 8)) (w:Nat) (hX:done E t0 d w <+: X) (i:Nat) (hi:i < w):blk X i=wtl E (tws t0 i) (blk d i):=by
  have hpre:∀ w,i < w→∃ r,done E t0 d w=done E t0 d i++wtl E (tws t0 i) (blk d i)++r:=by
    intro w
    induction w with
    | zero=>intro h; omega
    | succ w ih =>
      intro h
      by_cases h':i < w
      · obtain ⟨r, hr⟩ := ih h'
        exact ⟨r++wtl E (tws t0 w) (blk d w),by rw[done,hr]; simp only[List.append_assoc]⟩
      · obtain rfl : w = i := by omega
        exact ⟨[],by rw[done,zD]⟩
  obtain ⟨r,hr⟩:=hpre w hi
  obtain ⟨s,rfl⟩:=hX
  rw[blk,hr]
  simp only[List.append_assoc]
  rw[List.drop_append,qcq,Nat.sub_self,zF,List.drop_of_length_le (by rw[qcq]; exact Nat.le_refl _),zI,List.take_append_of_le_length (by rw[qcA]; exact Nat.le_refl _),List.take_of_length_le (by rw[qcA]; exact Nat.le_refl _)]
theorem take_blk (d:List (BitVec 8)) (i:Nat):d.take (16*i)++blk d i=d.take (16*(i+1)):=by
  rw[blk,show 16*(i+1)=16*i+16 by omega,List.take_add]
theorem done_inv {E D:R→R} (h:Inv E D) (t0:BitVec 128) (d X:List (BitVec 8)) (w:Nat) (hw:16*w≤d.length) (hX:done E t0 d w <+: X):∀ i,i≤w→done D t0 X i=d.take (16*i):=by
  intro i
  induction i with
  | zero=>intro _; rfl
  | succ i ih =>
    intro hi
    rw[done,ih (by omega),blk_done E t0 d X w hX i (by omega),wtl_inv h _ _ (qgF d i (by omega)),take_blk]
theorem tw_not (t0:BitVec 128) (m:Nat) (tu:Bool):tw1 t0 m (!tu)=tw2 t0 m tu∧tw2 t0 m (!tu)=tw1 t0 m tu:=by
  cases tu <;> exact ⟨rfl,rfl⟩
theorem unit_inv {E D:R→R} (h:Inv E D) (t0:BitVec 128) (d:List (BitVec 8)) (tu:Bool) (h16:16≤d.length):qbI D t0 (qbI E t0 d tu) (!tu)=d:=by
  have hl:=qfJ E t0 d tu h16
  by_cases h0:d.length % 16=0
  · have e : qbI E t0 d tu = done E t0 d (d.length / 16) := by rw [qbI, if_pos h0]
    rw[qbI,hl,if_pos h0,e,done_inv h t0 d _ (d.length / 16) (by omega) (List.prefix_refl _) _ (Nat.le_refl _),List.take_of_length_le (by omega)]
  · obtain ⟨m, hm⟩ : ∃ m, m = d.length / 16 - 1 := ⟨_, rfl⟩
    have hw:16*m+16+d.length % 16=d.length:=by omega
    obtain ⟨X,hX⟩:∃ X,X=qbI E t0 d tu:=⟨_,rfl⟩
    obtain ⟨s,hs⟩:∃ s,s=qeN E t0 d tu m:=⟨_,rfl⟩
    obtain ⟨la,hla⟩:∃ la,la=lastB E t0 d tu m:=⟨_,rfl⟩
    have hsl:s.length=16:=by rw[hs,qeN,qcA]
    have hlal:la.length=16:=by rw[hla,hm]; exact lastB_length E t0 d tu h16 h0
    have eX:X=done E t0 d m++wtl E (tw2 t0 m tu) la++s.take (d.length % 16):=by
      rw[hX,qbI,if_neg h0,←hm,hla,hs]
    have hXl:X.length=d.length:=by rw[hX,hl]
    have hdn:done D t0 X m=d.take (16*m):=done_inv h t0 d X m (by omega) ⟨wtl E (tw2 t0 m tu) la++s.take (d.length % 16),by rw[eX,List.append_assoc]⟩ m (Nat.le_refl _)
    have hbX:blk X m=wtl E (tw2 t0 m tu) la:=by
      rw[blk,eX,List.append_assoc,List.drop_append,qcq,Nat.sub_self,zF,List.drop_of_length_le (by rw[qcq]; exact Nat.le_refl _),zI,List.take_append_of_le_length (by rw[qcA]; exact Nat.le_refl _),List.take_of_length_le (by rw[qcA]; exact Nat.le_refl _)]
    have hst:qeN D t0 X (!tu) m=la:=by
      rw[qeN,(tw_not t0 m tu).1,hbX,wtl_inv h _ _ hlal]
    have hdX:X.drop (16*m+16)=s.take (d.length % 16):=by
      rw[eX,List.drop_append,zH,qcq,qcA,Nat.sub_self,zF,List.drop_of_length_le (by rw[zH,qcq,qcA]; exact Nat.le_refl _),zI]
    have ela:la=d.drop (16*m+16)++s.drop (d.length % 16):=by rw[hla,lastB,hs]
    have hrl:(d.drop (16*m+16)).length=d.length % 16:=by rw[zR]; omega
    have hld:la.drop (d.length % 16)=s.drop (d.length % 16):=by
      rw[ela,List.drop_append,hrl,Nat.sub_self,zF,List.drop_of_length_le (by omega),zI]
    have hlt:la.take (d.length % 16)=d.drop (16*m+16):=by
      rw[ela,List.take_append_of_le_length (by omega),List.take_of_length_le (by omega)]
    have hlast:lastB D t0 X (!tu) m=s:=by
      rw[lastB,hst,hdX,hXl,hld,List.take_append_drop]
    rw[←hX,qbI,hXl,if_neg h0,←hm,hdn,hlast,hst,(tw_not t0 m tu).2,hs,qeN,wtl_inv h _ _ (qgF d m (by omega)),hlt,take_blk,show 16*(m+1)=16*m+16 by omega,List.take_append_drop]
end Aes
namespace Aes
open Go Go.LE Xf Tb
set_option maxRecDepth 20000
theorem c_xclone (k b:Nat) (H:Heap) (d:List (BitVec 8)) (h0:d.length≠0) (hb:d.length≤211106232532992) :
    qar (envC C (k+5)) H b 37 [.isl (bs d) d.length]=some ⟨.sl (b,0) 0 d.length none 1,[bs d],[]⟩:=by
  rw [qbU, qbF, qc3, l37, qdC, qbA, show ([.isl (bs d) d.length] : List LV).flatMap (nms D) = [] by simp only [zK, zN, qbg, zD], show qa7 H FUEL [] [] = [] from rfl, qbV _ _ _ _ _ rfl,
    show ([.isl (bs d) d.length]:List LV).map (ren D (qaK []))=[.isl (bs d) d.length] by simp only[zB,zA,qbj],zQ,zA,qbT,xclone_F k d h0 hb,show ([]:List Nm).isEmpty=true from rfl,qeB,qaT]
  simp only[zB,zA,qaq,qaZ,zE,zL,qbd,zO,Nat.lt_one_iff,qa9,List.zipWith_nil_left]
structure PH (H:Heap) (n:Nat) (la lb:List (BitVec 8)):Prop where
  g0:H (0,0)=some PO
  g1:H (0,1)=some (KA 2 n)
  g2:H (0,2)=some (bs la)
  g3:H (0,3)=some (KA 4 n)
  g4:H (0,4)=some (bs lb)
theorem PH.reach {H:Heap} {n:Nat} {la lb:List (BitVec 8)} (h:PH H n la lb):qa7 H FUEL [] [(0,0)]=[(0,0),(0,1),(0,2),(0,3),(0,4)]:=by
  simp only[simprocAttr,-rR,-rS,qak,PO_nms,qgj,qam,h.g0,h.g1,h.g2,h.g3,h.g4,qah,qac,qaa]
def five:List Nm:=[(0,0),(0,1),(0,2),(0,3),(0,4)]
theorem five_cee (j:Nat) (h:j < 5):qaK five (0,j)=some (0,j):=by
  have:j=0∨j=1∨j=2∨j=3∨j=4:=by omega
  rcases this with rfl | rfl | rfl | rfl | rfl <;> rfl
theorem five_cer (b:Nat) (j:Nat) (h:j < 5):qbf five b 0 (0,j)=some (0,j):=by
  have:j=0∨j=1∨j=2∨j=3∨j=4:=by omega
  rcases this with rfl | rfl | rfl | rfl | rfl <;> rfl
def mod5 (n:Nat) (la lb:List (BitVec 8)):List (Nm × Option qal):=[((0,0),some PO),((0,1),some (KA 2 n)),((0,2),some (bs la)),((0,3),some (KA 4 n)),((0,4),some (bs lb))]
theorem c_first (k n b:Nat) (hn:n≤20) (la lb:List (BitVec 8)) (hlb:lb.length=16*(n+2)) (u:BitVec 64) (H:Heap) (h:PH H n la lb) :
    qar (envC C (k+80)) H b 76 [.ptr (0,0) 0,B64 u]=some ⟨Hf (lo (tw0 n lb u)) (Xf.hi (tw0 n lb u)),[],mod5 n la lb⟩:=by
  rw[qbU,qbF,qc3,l76,qdC,qbA]
  have hnm:([.ptr (0,0) 0,B64 u]:List LV).flatMap (nms D)=[(0,0)]:=rfl
  rw[hnm,h.reach,qbV _ _ _ _ _ rfl]
  have hfm:([(0,0),(0,1),(0,2),(0,3),(0,4)]:List Nm).filterMap H=[PO,KA 2 n,bs la,KA 4 n,bs lb]:=by
    simp[h.g0,h.g1,h.g2,h.g3,h.g4]
  rw[hfm]
  have e0:PO.map (ren D (qaK five))=PO:=rfl
  have e1:(KA 2 n).map (ren D (qaK five))=KA 2 n:=by rw[KA,qaV,qaZ,five_cee 2 (by decide)]; rfl
  have e3:(KA 4 n).map (ren D (qaK five))=KA 4 n:=by rw[KA,qaV,qaZ,five_cee 4 (by decide)]; rfl
  have ha:([.ptr (0,0) 0,B64 u]:List LV).map (ren D (qaK five))=[.ptr (0,0) 0,B64 u]:=rfl
  have f0:PO.map (ren D (qbf five b 0))=PO:=rfl
  have f1:(KA 2 n).map (ren D (qbf five b 0))=KA 2 n:=by rw[KA,qaV,qaZ,five_cer b 2 (by decide)]; rfl
  have f3:(KA 4 n).map (ren D (qbf five b 0))=KA 4 n:=by rw[KA,qaV,qaZ,five_cer b 4 (by decide)]; rfl
  rw[show ([(0,0),(0,1),(0,2),(0,3),(0,4)]:List Nm)=five from rfl,ha]
  rw[zB,zB,zB,zB,zB,zA,e0,e1,e3,qaq,qaq]
  rw[qbT,xfirst_F k n hn la lb hlb u,show ([]:List Nm).isEmpty=true from rfl,qeB,qaT]
  rw[zL,show five=[(0,0),(0,1),(0,2),(0,3),(0,4)] from rfl]
  simp only[List.zipWith_cons_cons,List.zipWith_nil_left,zC,qfF,zA,qaq]
  rw[←show five=[(0,0),(0,1),(0,2),(0,3),(0,4)] from rfl,f0,f1,f3]
  rfl
theorem c_with (k b g n:Nat) (l:List (BitVec 8)) (E:R→R) (hE:Way g n l E) (t:BitVec 128) (H:Heap) (c m x:Nm) (h:KG H c m (n+2) none l) (B:LV) (bb:List (BitVec 8)) (hbl:bb.length=16)
    (hs:snap H D B=some (.isl (bs bb) 16,[x])) (hx:x≠c∧x≠m) :
    qar (envC C (k+80)) H b 77 [.fn (.func g) [.ptr c 0] [],Hf (lo t) (Xf.hi t),B]=some ⟨.sl (b,0) 0 16 (some 16) 1,[aB 16 (wt E t (fl bb))],[(c,some (CF (.sl m 0 (n+2) none 16) TB)),(m,some (bs l))]⟩:=by
  have hlend:lend H ((envC C (k+80)).borrow 77) 0 [.fn (.func g) [.ptr c 0] [],Hf (lo t) (Xf.hi t),B]=some ([.fn (.func g) [.ptr c 0] [],Hf (lo t) (Xf.hi t),.isl (bs bb) 16],[x]):=by
    rw[qbo,qbo,qbo,qcC,qbF,qc3,if_neg (show ¬ qaJ 77 0=true by decide),if_neg (show ¬ qaJ 77 (0+1)=true by decide),if_pos (show qaJ 77 (0+1+1)=true by decide),hs,qbc,qbc,qbc]
    rfl
  have hn:([.fn (.func g) [.ptr c 0] [],Hf (lo t) (Xf.hi t),.isl (bs bb) 16]:List LV).flatMap (nms D)=[c]:=by
    simp only[zK,zN,qbg,zD,qel,qfE]
  have hre:=reach_KG h
  have hl:([x]:List Nm).any (fun n=>([c,m]:List Nm).contains n)=false:=by simp[hx.1,hx.2]
  have ha:([.fn (.func g) [.ptr c 0] [],Hf (lo t) (Xf.hi t),.isl (bs bb) 16]:List LV).map (ren D (qaK [c,m]))=[.fn (.func g) [.ptr (0,0) 0] [],Hf (lo t) (Xf.hi t),.isl (bs bb) 16]:=by
    have e:ren 7 (qaK [c,m]) (.ptr c 0) = .ptr (0,0) 0:=by
      show (match (qaK [c,m] c) with | some n=>LV.ptr n 0 | none=>_)=_
      rw[qbC,idx0]; rfl
    simp only[zB,zA,qfu,e,qfF,qbj]
  have hp:qa5 (.sl (1,0) 0 16 (some 16) 1,[some (KO n),some (bs l)],[aB 16 (wt E t (fl bb))])=true:=by
    simp only[qa5,List.all_nil,zT,qcD,noImm_aBs,KO,qgE]; rfl
  rw[qbU,hlend,qbA,hn,hre,qbV _ _ _ _ _ hl,ha,show ([c,m]:List Nm).filterMap H=[CF (.sl m 0 (n+2) none 16) TB,bs l] by simp[h.hc,h.hm]]
  rw[zB,zB,zA,qaV,qaZ,qbC,idx1 _ _ _ h.ne,zC,qa9,qaq,qbT]
  rw[show CF (.sl (0,1) 0 (n+2) none 16) TB=KO n from rfl,with_F k g n l E hE t bb hbl,qcs _ _ _ _ hp,qaT]
  simp only[KO,zB,zA,List.zipWith_cons_cons,List.zipWith_nil_left,zC,qaV,qaZ,qcI,qbd,qaq,qaE,qa9,List.getElem?_cons_zero,List.getElem?_cons_succ,zE,zL,zO,Nat.lt_one_iff]
end Aes
namespace Aes
open Go Go.LE Xf Tb
set_option maxRecDepth 20000
theorem PH.cn {H:Heap} {n:Nat} {la lb:List (BitVec 8)} (h:PH H n la lb) (names:List Nm):PH (cN names H) n la lb :=
  ⟨by rw[qaG,h.g0,zC,PO_ren],by rw[qaG,h.g1,zC,KA_ren],by rw[qaG,h.g2,zC,qaq],by rw[qaG,h.g3,zC,KA_ren],by rw[qaG,h.g4,zC,qaq]⟩
theorem PH.up {H:Heap} {n:Nat} {la lb:List (BitVec 8)} (h:PH H n la lb) (m:Nm) (x:Option qal) (hm:m.1≠0):PH (upd H m x) n la lb:=by
  have e:∀ j,upd H m x (0,j)=H (0,j):=fun j=>by
    rw[qby,if_neg (fun h=>hm (by rw[←h]))]
  exact ⟨by rw[e]; exact h.g0,by rw[e]; exact h.g1,by rw[e]; exact h.g2,by rw[e]; exact h.g3,by rw[e]; exact h.g4⟩
theorem tr_KGn (H:Heap) (v:LV) (news:List qal) (c m:Nm) (len:Nat) (cap:Option Nat) (l:List (BitVec 8)) (h:KG H c m len cap l):qdp true H (some ⟨v,news,[(c,some (CF (.sl m 0 len cap 16) TB)),(m,some (bs l))]⟩)=some ⟨v,news,[]⟩:=by
  refine qeL _ _ _ _ fun q hm => ?_
  simp only[List.mem_cons,List.not_mem_nil,or_false] at hm
  rcases hm with rfl | rfl
  · simp only[h.hc,qcY,same_CF]
  · simp only[h.hm,qcY,qgh]
theorem cp_16 (H:Heap) (m x:Nm) (o len:Nat) (c c2:Option Nat) (L:List (BitVec 8)) (w:R) (hm:H m=some (bs L)) (hx:H x=some (aB 16 w)) (hl:o+16≤L.length) (h16:16≤len) :
    cpK 1 H (.sl m o len c 1) (.sl x 0 16 c2 1) (some 16)=some ⟨N 16,[],[(m,some (bs (L.take o++(List.range 16).map w++L.drop (o+16))))]⟩:=by
  have hmin:min 16 len=16:=by omega
  rw[qdt] at hx
  have hf:qbp H 1 (min 16 len) (.sl x 0 16 c2 1)=some (bs ((List.range 16).map w)):=by
    rw[hmin,qbQ x 0 16 c2 _ hx (by rw[zV,List.length_range]; exact Nat.le_refl _),zF,List.take_of_length_le (by rw[zV,List.length_range]; exact Nat.le_refl _)]
  rw[qeT 16 m o len c _ L _ (by omega) hf hm (by omega),hmin,zV,List.length_range]
def runJ (g n:Nat) (la lb:List (BitVec 8)) (E:R→R) (t0:BitVec 128) (d:List (BitVec 8)) (tu:Bool) (w:Nat) (i:Nat) (st:St):Prop := ∃ (H:Heap),
  st=⟨[.undef,.undef,.undef,.fn (.func g) [.ptr (0,1) 0] [],Bo tu,.undef,.undef,.undef,.undef,.undef,.undef,.sl (1,0) 0 d.length none 1,.ptr (1,1) 0,N (d.length % 16),N (16*w),N (16*i),.undef,.undef,.undef,.undef,.undef,.undef,.undef,.undef,.undef,.undef,.undef,.undef,.undef,.undef,.undef,.undef,.undef,.undef,.undef,.undef,.undef,.undef,.undef,.undef,.undef,.undef,.undef,.undef,.undef,.undef,.undef,.undef,.undef,.undef,.undef,.undef,.undef,.undef,.undef,.undef,.undef,.undef,.undef,.undef,.undef,.undef,.undef,.undef,.undef,.undef,.undef,.undef,.undef,.undef,.undef,.undef,.undef,.undef,.undef,.undef,.undef,.undef,.undef,.undef,.undef,.undef,.undef,.undef,.undef,.undef,.undef,.undef,.undef,.undef,.undef,.undef,.undef,.undef,.undef,.undef,.undef,.undef],H,2,5⟩ ∧
  PH H n la lb∧H (1,0)=some (bs (outI E t0 d i))∧H (1,1)=some [B64 (lo (tws t0 i)),B64 (Xf.hi (tws t0 i))]
theorem run_round (k g n:Nat) (la lb:List (BitVec 8)) (E:R→R) (hE:Way g n la E) (t0:BitVec 128) (d:List (BitVec 8)) (tu:Bool) (w:Nat) (hd:16*w≤d.length) (hd2:d.length≤65536) (i:Nat) (hi:i < w) (st:St)
    (hJ:runJ g n la lb E t0 d tu w i st):∃ st1,ev (envC C (k+80)) (k+80) L65b0 st=some (.normal,st1)∧runJ g n la lb E t0 d tu w (i+1) (qa8 L65k0 st1):=by
  obtain ⟨H,rfl,P,h1,h2⟩:=hJ
  have hol:=outI_length E t0 d i (by omega)
  have i0:16*i < 16*w:=by omega
  have i1:16*i≤d.length:=by omega
  have i2:16*i+16≤d.length:=by omega
  have i3:16*i+16 - 16*i=16:=by omega
  have i4:16*i≤16*i+16:=by omega
  have hdb:∀ k,F C (k+1) 78 [Hf (lo (tws t0 i)) (Xf.hi (tws t0 i))] []=some (Hf (lo (tws t0 (i+1))) (Xf.hi (tws t0 (i+1))),[],[]):=fun k=>Xf.dbl_F k (tws t0 i)
  have hsn:∀ H':Heap,H' (1,0)=some (bs (outI E t0 d i))→∀ c,snap H' D (.sl (1,0) (16*i) 16 c 1)=some (.isl (bs (blk d i)) 16,[(1,0)]):=fun H' h' c=>by
    rw[qhG (1,0) (16*i) 16 c _ h' (by decide),outI_blk]
  simp (disch:=first|omega|decide|simp only[nmsB,lB]) only[simprocAttr,-rR,-rS,leB,memB,arrB,numB,qaf,opsB,ordB,qan,qai,qaI,L65b0,h1,h2,i0,i1,i2,i3,i4,qel,qa3,agg_Hf,qab,qad,qac,qaa,qas,qag]
  have hre:qa7 H FUEL [] [(0,1),(1,0)]=[(0,1),(0,2),(1,0)]:=by
    simp only[simprocAttr,-rR,-rS,qak,qgj,qam,P.g1,P.g2,h1,qah,qac,qaa]
  have K3:KG (only [(0,1),(0,2),(1,0)] H) (0,1) (0,2) (n+2) none la:=⟨P.g1,P.g2,by decide⟩
  rw[hre,c_with k _ g n la E hE (tws t0 i) _ (0,1) (0,2) (1,0) K3 _ (blk d i) (qgF d i (by omega)) (hsn (only [(0,1),(0,2),(1,0)] H) h1 none) ⟨by decide,by decide⟩,tr_KGn _ _ _ _ _ _ _ _ K3]
  simp (disch:=first|omega|decide|simp only[nmsB,lB]) only[simprocAttr,-rR,-rS,leB,memB,arrB,numB,qaf,opsB,ordB,qan,qai,qaI,h1,h2,qa3,qab,qad,qac,qaa,qas,qag]
  have i5:16≤d.length - 16*i:=by omega
  rw [cp_16 (only [(1, 0), (15, 0)] (upd H (15, 0) _)) (1, 0) (15, 0) (16 * i) (d.length - 16 * i) none (some 16) (outI E t0 d i) (wt E (tws t0 i) (fl (blk d i))) h1 rfl (by omega) i5,
    show (List.range 16).map (wt E (tws t0 i) (fl (blk d i)))=wtl E (tws t0 i) (blk d i) from rfl,outI_succ E t0 d i (by omega)]
  have hd1:=hdb (k+79)
  simp (disch:=first|omega|decide|simp only[nmsB,lB]) only[simprocAttr,-rR,-rS,leB,memB,arrB,numB,qaf,opsB,ordB,qan,qai,qaI,h2,hd1,agg_Hf,l78,qfE,qfF,qae,qab,qad,qac,qaa,qas,qag]
  refine ⟨_,rfl,?_⟩
  refine qao [(1,0),(1,1)] rfl (by simp only[simprocAttr,-rR,-rS,qak,L65k0,qel,qdE,PO_nms,qgj,qam,qa3,P.g0,P.g1,P.g2,P.g3,P.g4,h2,qah,qac,qaa]) (by simp only[simprocAttr,-rR,-rS,qak,L65k0,zB,zA,qfu,qah,qac,qaa] <;> rfl) ⟨_,rfl,?_,?_,?_⟩
  · exact PH.cn (((P.up (15,0) _ (by decide)).up (1,0) _ (by decide)).up (1,1) _ (by decide)) _
  · exact qaj (1,0) rfl (by simp (disch:=first|omega|decide|simp only[nmsB,lB]) only[simprocAttr,-rR,-rS,leB,memB,qaf,qae,qab,qad,qac,qaa]) (qaq _ _)
  · exact qaj (1,1) rfl (by simp (disch:=first|omega|decide|simp only[nmsB,lB]) only[simprocAttr,-rR,-rS,leB,memB,qaf,qae,qab,qad,qac,qaa]) rfl
end Aes
namespace Aes
open Go Go.LE Xf Tb
set_option maxRecDepth 20000
theorem qbb {H:Heap} {m:Nm} {x:Option qal} (h:H m=x):upd H m x=H:=by
  funext q
  rw[qby]
  by_cases e:q=m
  · rw[if_pos e,e,h]
  · rw[if_neg e]
theorem PH.same {H:Heap} {n:Nat} {la lb:List (BitVec 8)} (h:PH H n la lb):modN (mod5 n la lb) H=H:=by
  simp only[mod5,qce,qch,qbb h.g4,qbb h.g3,qbb h.g2,qbb h.g1,qbb h.g0]
theorem run_whole (k g n:Nat) (hn:n≤20) (la lb:List (BitVec 8)) (hlb:lb.length=16*(n+2)) (E:R→R) (hE:Way g n la E) (u:BitVec 64) (d:List (BitVec 8)) (h16:16≤d.length) (hd2:d.length≤65536) (tu:Bool) (hr:d.length % 16=0) :
    F C (k+5000) 65 [.ptr (0,0) 0,B64 u,.isl (bs d) d.length,.fn (.func g) [.ptr (0,1) 0] [],Bo tu] [PO,KA 2 n,bs la,KA 4 n,bs lb] =
    some (.sl (1,0) 0 d.length none 1,[some PO,some (KA 2 n),some (bs la),some (KA 4 n),some (bs lb)],[bs (qbI E (tw0 n lb u) d tu)]):=by
  rw[qaH f65]
  have P0:PH (qaY [PO,KA 2 n,bs la,KA 4 n,bs lb]) n la lb:=⟨rfl,rfl,rfl,rfl,rfl⟩
  generalize hI:qaY [PO,KA 2 n,bs la,KA 4 n,bs lb]=H0 at P0
  have hcl:∀ b H,qar (envC C (k+4999)) H b 37 [.isl (bs d) d.length]=some ⟨.sl (b,0) 0 d.length none 1,[bs d],[]⟩:=fun b H=>c_xclone (k+4994) b H d (by omega) (by omega)
  simp (disch:=first|omega|decide|simp only[nmsB,lB]) only[simprocAttr,-rR,-rS,leB,memB,arrB,numB,qaf,opsB,ordB,qan,qai,qaI,L65,hcl,qab,qad,qac,qaa,qas,qag]
  rw[hI]
  have P1:=P0.up (4,0) (some (bs d)) (by decide)
  have hm:=P1.same
  rw[c_first (k+4919) n _ hn la lb hlb u _ P1]
  simp (disch:=first|omega|decide|simp only[nmsB,lB]) only[simprocAttr,-rR,-rS,leB,memB,arrB,numB,qaf,opsB,ordB,qan,qai,qaI,hm,agg_Hf,qab,qad,qac,qaa,qas,qag]
  have e0:d.length - d.length % 16=16*(d.length / 16):=by omega
  rw[e0]
  generalize hG:upd (upd (upd H0 (4,0) _) (9,0) _) (9,0) _=G
  have PG:PH G n la lb:=by rw[←hG]; exact (P1.up _ _ (by decide)).up _ _ (by decide)
  have ga:G (4,0)=some (bs d):=by rw[←hG]; rfl
  have gb:G (9,0)=some [B64 (lo (tw0 n lb u)),B64 (Xf.hi (tw0 n lb u))]:=by rw[←hG]; rfl
  clear hG
  have d0:decide (0 < d.length % 16)=false:=decide_eq_false (by omega)
  rw[d0]
  simp (disch:=first|omega|decide|simp only[nmsB,lB]) only[simprocAttr,-rR,-rS,leB,memB,arrB,numB,qaf,opsB,ordB,qan,qai,qaI,qab,qad,qac,qaa,qas,qag]
  generalize hL:qa1 L65k0 _ _ _=r
  refine qaR hL (runJ g n la lb E (tw0 n lb u) d tu (d.length / 16)) (d.length / 16) (by omega) (fun i st hi hJ=>run_round (k+4919) g n la lb E hE _ d tu (d.length / 16) (by omega) hd2 i hi st hJ) ?_ ?_ ?_
  · refine qao [(4, 0), (9, 0)] rfl (by simp only [simprocAttr, -rR, -rS, qak, L65k0, qel, qdE, PO_nms, qgj, qam, qa3, PG.g0, PG.g1, PG.g2, PG.g3, PG.g4, ga, gb, qah, qac, qaa]) (by simp only [simprocAttr, -rR, -rS, qak, L65k0, zB, zA, qfu, qah, qac, qaa] <;> rfl) ⟨_, rfl, ?_, ?_, ?_⟩
    · exact PH.cn PG _
    · rw[outI_0]; exact qaj (4,0) rfl (by simp (disch:=first|omega|decide|simp only[nmsB,lB]) only[simprocAttr,-rR,-rS,leB,memB,qaf,ga,qae,qab,qad,qac,qaa]) (qaq _ _)
    · exact qaj (9,0) rfl (by simp (disch:=first|omega|decide|simp only[nmsB,lB]) only[simprocAttr,-rR,-rS,leB,memB,qaf,gb,qae,qab,qad,qac,qaa] <;> rfl) rfl
  · rintro st ⟨H, rfl, P, h1, h2⟩
    apply qaO
    simp (disch:=first|omega|decide|simp only[nmsB,lB]) only[simprocAttr,-rR,-rS,leB,memB,arrB,numB,qaf,L65b0,zY,qae,qab,qad,qac,qaa]
    rfl
  · rintro st ⟨H, rfl, P, h1, h2⟩ rfl
    rw[outI_whole _ _ _ hr,unitP_whole _ _ _ false tu hr] at h1
    simp (disch:=first|omega|decide|simp only[nmsB,lB]) only[simprocAttr,-rR,-rS,leB,memB,arrB,numB,qaf,opsB,ordB,qan,qai,qaI,L65b0,zY,hr,h1,qab,qad,qac,qaa,qas,qag]
    rw[qaX 5 _ _ [(1,0)] (by simp only[simprocAttr,-rR,-rS,qak,qdE,PO_nms,qgj,qam,qa3,P.g0,P.g1,P.g2,P.g3,P.g4,h1,qah,qac,qaa])]
    simp (disch:=first|omega|decide|simp only[nmsB,lB]) only[simprocAttr,-rR,-rS,leB,memB,qaf,qdE,PO_ren,KA_ren,qaq,qaZ,P.g0,P.g1,P.g2,P.g3,P.g4,h1,qae,qab,qad,qac,qaa]
end Aes
namespace Aes
open Go Go.LE Xf Tb
set_option maxRecDepth 20000
theorem call_gen (K b g:Nat) (H:Heap) (args args1 args':List LV) (ns lent:List Nm) (objs':List qal) (res:qcg) (hl:lend H (qaJ g) 0 args=some (args1,lent)) (hr:qa7 H FUEL [] (args1.flatMap (nms D))=ns)
    (hd:lent.any (fun n=>ns.contains n)=false) (ha:args1.map (ren D (qaK ns))=args') (ho:(ns.filterMap H).map (fun cs=>cs.map (ren D (qaK ns)))=objs') (hF:F C K g args' objs'=some res) (hp:qa5 res=true) :
    qar (envC C K) H b g args=some (qcG ns b res):=by
  rw[qbU,qbF,qc3,hl,qbA,hr,qbV _ _ _ _ _ hd,ha,ho,qbT,hF,qcs _ _ _ _ hp]
structure XG (H:Heap) (p a ka b kb:Nm) (n:Nat) (la lb:List (BitVec 8)):Prop where
  hp:H p=some [.ptr a 0,.ptr b 0]
  ha:H a=some (CF (.sl ka 0 (n+2) none 16) TB)
  hka:H ka=some (bs la)
  hb:H b=some (CF (.sl kb 0 (n+2) none 16) TB)
  hkb:H kb=some (bs lb)
  nd:[p,a,ka,b,kb].Nodup
def modX (p a ka b kb:Nm) (n:Nat) (la lb:List (BitVec 8)):List (Nm × Option qal) :=
  [(p,some [.ptr a 0,.ptr b 0]),(a,some (CF (.sl ka 0 (n+2) none 16) TB)),(ka,some (bs la)),(b,some (CF (.sl kb 0 (n+2) none 16) TB)),(kb,some (bs lb))]
theorem XG.same {H:Heap} {p a ka b kb:Nm} {n:Nat} {la lb:List (BitVec 8)} (h:XG H p a ka b kb n la lb):modN (modX p a ka b kb n la lb) H=H:=by
  simp only[modX,qce,qch,qbb h.hkb,qbb h.hb,qbb h.hka,qbb h.ha,qbb h.hp]
theorem XG.tr {H:Heap} {p a ka b kb:Nm} {n:Nat} {la lb:List (BitVec 8)} (h:XG H p a ka b kb n la lb) (v:LV) (news:List qal):qdp true H (some ⟨v,news,modX p a ka b kb n la lb⟩)=some ⟨v,news,[]⟩:=by
  refine qeL _ _ _ _ fun q hm => ?_
  simp only[modX,List.mem_cons,List.not_mem_nil,or_false] at hm
  rcases hm with rfl | rfl | rfl | rfl | rfl
  · simp only[h.hp,qcY]; simp[qdJ,qeu]
  · simp only[h.ha,qcY,same_CF]
  · simp only[h.hka,qcY,qgh]
  · simp only[h.hb,qcY,same_CF]
  · simp only[h.hkb,qcY,qgh]
theorem XG.ne {H:Heap} {p a ka b kb:Nm} {n:Nat} {la lb:List (BitVec 8)} (h:XG H p a ka b kb n la lb):(a≠p∧ka≠p∧b≠p∧kb≠p)∧(ka≠a∧b≠a∧kb≠a)∧(b≠ka∧kb≠ka)∧kb≠b:=by
  have:=h.nd
  simp only[List.nodup_cons,List.mem_cons,List.not_mem_nil,or_false,not_or,List.nodup_nil,not_false_eq_true,and_true] at this
  obtain ⟨⟨h1,h2,h3,h4⟩,⟨h5,h6,h7⟩,⟨h8,h9⟩,h10⟩:=this
  exact ⟨⟨fun e=>h1 e.symm,fun e=>h2 e.symm,fun e=>h3 e.symm,fun e=>h4 e.symm⟩,⟨fun e=>h5 e.symm,fun e=>h6 e.symm,fun e=>h7 e.symm⟩,⟨fun e=>h8 e.symm,fun e=>h9 e.symm⟩,fun e=>h10 e.symm⟩
theorem XG.reach {H:Heap} {p a ka b kb:Nm} {n:Nat} {la lb:List (BitVec 8)} (h:XG H p a ka b kb n la lb):qa7 H FUEL [] [p]=[p,a,ka,b,kb]:=by
  obtain ⟨⟨h1,h2,h3,h4⟩,⟨h5,h6,h7⟩,⟨h8,h9⟩,h10⟩:=h.ne
  simp only[FUEL,qah,ze,zP,zM,h.hp,qcc,qcp,qaW,qa3,qam,zK,zN,zI,zS,zD,List.contains_cons,beq_iff_eq,h1,h2,h3,h4,h5,h6,h7,h8,h9,h10,Bool.or_false,Bool.or_eq_true,or_self,h.ha,h.hka,h.hb,h.hkb,qba]
theorem XG.reach2 {H:Heap} {p a ka b kb:Nm} {n:Nat} {la lb:List (BitVec 8)} (h:XG H p a ka b kb n la lb):Go.LE.qa7 H FUEL [] [p,a]=[p,a,ka,b,kb]:=by
  obtain ⟨⟨h1,h2,h3,h4⟩,⟨h5,h6,h7⟩,⟨h8,h9⟩,h10⟩:=h.ne
  simp only[FUEL,qah,ze,zP,zM,h.hp,qcc,qcp,qaW,qa3,qam,zK,zN,zI,zS,zD,List.contains_cons,beq_iff_eq,h1,h2,h3,h4,h5,h6,h7,h8,h9,h10,Bool.or_false,Bool.or_eq_true,or_self,h.ha,h.hka,h.hb,h.hkb,qba,beq_self_eq_true,Bool.or_true,Bool.true_or,true_or,or_true,zG]
theorem XG.cee {H:Heap} {p a ka b kb:Nm} {n:Nat} {la lb:List (BitVec 8)} (h:XG H p a ka b kb n la lb):qaK [p,a,ka,b,kb] p=some (0,0)∧qaK [p,a,ka,b,kb] a=some (0,1)∧qaK [p,a,ka,b,kb] ka=some (0,2)∧qaK [p,a,ka,b,kb] b=some (0,3)∧qaK [p,a,ka,b,kb] kb=some (0,4):=by
  obtain ⟨⟨h1,h2,h3,h4⟩,⟨h5,h6,h7⟩,⟨h8,h9⟩,h10⟩:=h.ne
  refine ⟨?_,?_,?_,?_,?_⟩ <;> simp[qaK,idx,h1,h2,h3,h4,h5,h6,h7,h8,h9,h10,Ne.symm h1,Ne.symm h2,Ne.symm h3,Ne.symm h4,Ne.symm h5,Ne.symm h6,Ne.symm h7,Ne.symm h8,Ne.symm h9,Ne.symm h10]
theorem c_run (k g n base:Nat) (hn:n≤20) (H:Heap) (p a ka b kb:Nm) (la lb:List (BitVec 8)) (X:XG H p a ka b kb n la lb) (hlb:lb.length=16*(n+2)) (E:R→R) (hE:Way g n la E) (u:BitVec 64) (V:LV) (d:List (BitVec 8)) (lent:List Nm)
    (hs:snap H D V=some (.isl (bs d) d.length,lent)) (hx:∀ x ∈ lent,x ∉ [p,a,ka,b,kb]) (h16:16≤d.length) (hd2:d.length≤65536) (hw:d.length % 16=0) (tu:Bool) :
    qar (envC C (k+5000)) H base 65 [.ptr p 0,B64 u,V,.fn (.func g) [.ptr a 0] [],Bo tu]=some ⟨.sl (base,0) 0 d.length none 1,[bs (qbI E (tw0 n lb u) d tu)],modX p a ka b kb n la lb⟩:=by
  obtain ⟨c0,c1,c2,c3,c4⟩:=X.cee
  have hl:lend H (qaJ 65) 0 [.ptr p 0,B64 u,V,.fn (.func g) [.ptr a 0] [],Bo tu]=some ([.ptr p 0,B64 u,.isl (bs d) d.length,.fn (.func g) [.ptr a 0] [],Bo tu],lent):=by
    rw[qbo,qbo,qbo,qbo,qbo,qcC,if_neg (show ¬ qaJ 65 0=true by decide),if_neg (show ¬ qaJ 65 (0+1)=true by decide),if_pos (show qaJ 65 (0+1+1)=true by decide),if_neg (show ¬ qaJ 65 (0+1+1+1)=true by decide),if_neg (show ¬ qaJ 65 (0+1+1+1+1)=true by decide),hs,qbc,qbc,qbc,qbc,qbc]
    simp
  have hr:Go.LE.qa7 H FUEL [] (([.ptr p 0,B64 u,.isl (bs d) d.length,.fn (.func g) [.ptr a 0] [],Bo tu]:List LV).flatMap (nms D))=[p,a,ka,b,kb]:=by
    have e:([.ptr p 0,B64 u,.isl (bs d) d.length,.fn (.func g) [.ptr a 0] [],Bo tu]:List LV).flatMap (nms D)=[p,a]:=by
      simp only[zK,zN,qbg,zD,qel,qcp,qgd,nms_Bo,zI,zS]
    rw[e,X.reach2]
  have hd:lent.any (fun n=>[p,a,ka,b,kb].contains n)=false:=by
    rw[List.any_eq_false]; intro x h; have:=hx x h; simpa using this
  have ha:([.ptr p 0,B64 u,.isl (bs d) d.length,.fn (.func g) [.ptr a 0] [],Bo tu]:List LV).map (ren D (qaK [p,a,ka,b,kb]))=[.ptr (0,0) 0,B64 u,.isl (bs d) d.length,.fn (.func g) [.ptr (0,1) 0] [],Bo tu]:=by
    have e:ren 7 (qaK [p,a,ka,b,kb]) (.ptr a 0) = .ptr (0,1) 0:=by
      show (match (qaK [p,a,ka,b,kb] a) with | some n=>LV.ptr n 0 | none=>_)=_
      rw[c1]
    simp only[zB,zA,qbk,c0,qbs,qfu,e,qdb,qeK,qbj]
  have ho:([p,a,ka,b,kb].filterMap H).map (fun cs=>cs.map (ren D (qaK [p,a,ka,b,kb])))=[PO,KA 2 n,bs la,KA 4 n,bs lb]:=by
    simp only[List.filterMap_cons,zQ,X.hp,X.ha,X.hka,X.hb,X.hkb,zB,zA,qbk,c1,c3,qbs,qaV,qaZ,c2,c4,qa9,qaq,PO,KA]
  have hp:qa5 (.sl (1,0) 0 d.length none 1,[some PO,some (KA 2 n),some (bs la),some (KA 4 n),some (bs lb)],[bs (qbI E (tw0 n lb u) d tu)])=true:=by
    simp only[qa5,List.all_nil,zT,qcD,KA,qgE]; rfl
  rw[call_gen _ base 65 H _ _ _ _ _ _ _ hl hr hd ha ho (run_whole k g n hn la lb hlb E hE u d h16 hd2 tu hw) hp,qaT]
  simp only[PO,KA,modX,List.zipWith_cons_cons,List.zipWith_nil_left,zC,zB,zA,qbk,qaZ,qaV,qaq,qcI,qbd,List.getElem?_cons_zero,List.getElem?_cons_succ,qbs,qa9,zE,zL,zO,Nat.lt_one_iff]
end Aes
namespace Aes
open Go Go.LE Xf Tb
set_option maxRecDepth 20000
theorem qaA {H:Heap} {f:Nat} {seen:List Nm} {n:Nm} {todo:List Nm} {cs:qal} {ns:List Nm} (hs:seen.contains n=false) (hH:H n=some cs) (hN:cs.flatMap (nms D)=ns):qa7 H (f+1) seen (n::todo)=qa7 H f (seen++[n]) (ns++todo):=by
  rw[qah,hs,hH,qcc,hN]; rfl
theorem qbu {H:Heap} {f:Nat} {seen:List Nm} {n:Nm} {todo:List Nm} (hs:seen.contains n=true):qa7 H (f+1) seen (n::todo)=qa7 H f seen todo:=by
  rw[qah,hs]; rfl
theorem qef {H:Heap} {np:Nat} {ret:LV} {l ns names:List Nm} (hl:(List.range np).map (fun i=>(0,i))++[ret].flatMap (nms D)=l) (h:qa7 H FUEL [] l=ns) (hf:ns.filter (fun n=>n.1 != 0)=names):qbE H np [ret]=names:=by
  rw[qbE,hl,h,hf]
theorem qbK {np:Nat} {st:St} {ret:LV} {names:List Nm} {o:qcg} (h:qbE st.H np [ret]=names)
    (e:(ren D (qbm names) ret,(List.range np).map (fun i=>(st.H (0,i)).map fun cs=>cs.map (ren D (qbm names))),(names.filterMap st.H).map fun cs=>cs.map (ren D (qbm names)))=o):some (qbY np st ret)=some o:=by
  rw[qaX np st ret names h,e]
theorem dn (d:List (BitVec 8)) {n:Nat}:([.isl (bs d) n]:qal).flatMap (nms D)=[]:=by
  rw[zK,qbg]; rfl
theorem callV_fn3 {E:Env} {H:Heap} {b:Nat} (g:FuncId) (x y z:LV):callV E H b [] (.fn (.func g) [] [x,y,z])=qar E H b g [x,y,z]:=by simp[callV]
theorem qb4 (K b g:Nat) (hg:qaJ g=fun _=>false) (H:Heap) (args args':List LV) (l ns:List Nm) (objs':List qal) (res:qcg) (hn:args.flatMap (nms D)=l) (hr:qa7 H FUEL [] l=ns)
    (ha:args.map (ren D (qaK ns))=args') (ho:(ns.filterMap H).map (fun cs=>cs.map (ren D (qaK ns)))=objs') (hF:F C K g args' objs'=some res) :
    qar (envC C K) H b g args=some (qcG ns b res):=by
  rw[qbU,qbF,qc3,hg,qdC,qbA,hn,hr,qbV _ _ _ _ _ rfl,ha,ho,qbT,hF]; rfl
theorem op_fn {E:Env} {tm:List LV} {H:Heap} {b:Nat} (f:Fn) (xs ys:List LX):qa4 E tm H b (.fn f xs ys)=some ⟨.fn f (xs.map (evX E.gl tm)) (ys.map (evX E.gl tm)),[],[]⟩:=rfl
theorem range_8:List.range 8=[0,1,2,3,4,5,6,7]:=rfl
theorem fn3_nms (g:FuncId) (a b c:Nm):nms D (.fn (.func g) [] [.ptr a 0,.ptr b 0,.ptr c 0])=[a,b,c]:=rfl
theorem clo43I_F (k n:Nat) (hn:n≤20) (la lb:List (BitVec 8)) (hla:la.length=16*(n+2)) (hlb:lb.length=16*(n+2)) (u:BitVec 64) (d:List (BitVec 8)) (h16:16≤d.length) (hd2:d.length≤65536) (hw:d.length % 16=0) :
    F C (k+5001) 64 [.ptr (0,0) 0,.ptr (0,6) 0,.ptr (0,7) 0] [[.ptr (0,1) 0],[.ptr (0,2) 0,.ptr (0,4) 0],CF (.sl (0,3) 0 (n+2) none 16) TB,bs la,CF (.sl (0,5) 0 (n+2) none 16) TB,bs lb,[B64 u],[.isl (bs d) d.length]]=some (.sl (1,0) 0 d.length none 1,[some ([.ptr (0,1) 0]),some ([.ptr (0,2) 0,.ptr (0,4) 0]),some (CF (.sl (0,3) 0 (n+2) none 16) TB),some (bs la),some (CF (.sl (0,5) 0 (n+2) none 16) TB),some (bs lb),some ([B64 u]),some ([.isl (bs d) d.length])],[bs (qbI (enc (kf la) n) (tw0 n lb u) d false)]):=by
  rw[qaH f64]
  generalize hG:qaY [[.ptr (0,1) 0],[.ptr (0,2) 0,.ptr (0,4) 0],CF (.sl (0,3) 0 (n+2) none 16) TB,bs la,CF (.sl (0,5) 0 (n+2) none 16) TB,bs lb,[B64 u],[.isl (bs d) d.length]]=G
  have x00:G (0,0)=some ([.ptr (0,1) 0]):=by rw[←hG]; rfl
  have x01:G (0,1)=some ([.ptr (0,2) 0,.ptr (0,4) 0]):=by rw[←hG]; rfl
  have x02:G (0,2)=some (CF (.sl (0,3) 0 (n+2) none 16) TB):=by rw[←hG]; rfl
  have x03:G (0,3)=some (bs la):=by rw[←hG]; rfl
  have x04:G (0,4)=some (CF (.sl (0,5) 0 (n+2) none 16) TB):=by rw[←hG]; rfl
  have x05:G (0,5)=some (bs lb):=by rw[←hG]; rfl
  have x06:G (0,6)=some ([B64 u]):=by rw[←hG]; rfl
  have x07:G (0,7)=some ([.isl (bs d) d.length]):=by rw[←hG]; rfl
  have X:XG G (0,1) (0,2) (0,3) (0,4) (0,5) n la lb:=⟨x01,x02,x03,x04,x05,by decide⟩
  have X':XG (only [(0,1),(0,2),(0,3),(0,4),(0,5)] G) (0,1) (0,2) (0,3) (0,4) (0,5) n la lb:=⟨x01,x02,x03,x04,x05,by decide⟩
  have hre:qa7 G FUEL [] [(0,1),(0,2)]=[(0,1),(0,2),(0,3),(0,4),(0,5)]:=(qaA rfl x01 rfl).trans ((qaA rfl x02 (qaW _ _)).trans ((qaA rfl x03 (qam _)).trans ((qaA rfl x04 (qaW _ _)).trans ((qaA rfl x05 (qam _)).trans ((qbu rfl).trans (qba _ _ _))))))
  have hc:∀ b,_:=fun b=>c_run k 66 n b hn (only [(0,1),(0,2),(0,3),(0,4),(0,5)] G) (0,1) (0,2) (0,3) (0,4) (0,5) la lb X' hlb (enc (kf la) n) (way_enc n hn la hla) u (.isl (bs d) d.length) d [] (snap_isl _ _) (by decide) h16 hd2 hw false
  have ht:∀ v news,_:=fun v news=>X'.tr v news
  simp (disch:=first|omega|decide|simp only[nmsB,lB]) only[simprocAttr,-rR,-rS,leB,memB,arrB,numB,qaf,opsB,ordB,qan,qai,qaI,L64,hG,op_fn,x00,x01,x02,x03,x04,x05,x06,x07,qel,qbg,qa3,hre,hc,ht,zI,zS,qab,qad,qac,qaa,qas,qag]
  generalize hQ:upd G (11,0) (some (bs (qbI (enc (kf la) n) (tw0 n lb u) d false)))=Q
  have y00:Q (0,0)=some ([.ptr (0,1) 0]):=by rw[←hQ]; exact x00
  have y01:Q (0,1)=some ([.ptr (0,2) 0,.ptr (0,4) 0]):=by rw[←hQ]; exact x01
  have y02:Q (0,2)=some (CF (.sl (0,3) 0 (n+2) none 16) TB):=by rw[←hQ]; exact x02
  have y03:Q (0,3)=some (bs la):=by rw[←hQ]; exact x03
  have y04:Q (0,4)=some (CF (.sl (0,5) 0 (n+2) none 16) TB):=by rw[←hQ]; exact x04
  have y05:Q (0,5)=some (bs lb):=by rw[←hQ]; exact x05
  have y06:Q (0,6)=some ([B64 u]):=by rw[←hQ]; exact x06
  have y07:Q (0,7)=some ([.isl (bs d) d.length]):=by rw[←hQ]; exact x07
  have yn:Q (11,0)=some (bs (qbI (enc (kf la) n) (tw0 n lb u) d false)):=by rw[←hQ]; rfl
  have hch:qa7 Q FUEL [] [(0,0),(0,1),(0,2),(0,3),(0,4),(0,5),(0,6),(0,7),(11,0)]=[(0,0),(0,1),(0,2),(0,3),(0,4),(0,5),(0,6),(0,7),(11,0)]:=(qaA rfl y00 rfl).trans ((qaA rfl y01 rfl).trans ((qaA rfl y02 (qaW _ _)).trans ((qaA rfl y03 (qam _)).trans ((qaA rfl y04 (qaW _ _)).trans ((qaA rfl y05 (qam _)).trans ((qbu rfl).trans ((qbu rfl).trans ((qbu rfl).trans ((qbu rfl).trans ((qbu rfl).trans ((qaA rfl y06 rfl).trans ((qaA rfl y07 (dn _)).trans ((qaA rfl yn (qam _)).trans (qba _ _ _))))))))))))))
  have hcn:qbE Q 8 [.sl (11,0) 0 d.length none 1]=[(11,0)]:=qef rfl hch rfl
  refine qbK hcn ?_
  simp (disch:=first|omega|decide|simp only[nmsB,lB]) only[simprocAttr,-rR,-rS,leB,memB,qaf,range_8,qaV,qaq,qbj,qaZ,qbk,qdb,qb0,y00,y01,y02,y03,y04,y05,y06,y07,yn,qae,qab,qad,qac,qaa]
theorem clo46I_F (k n:Nat) (hn:n≤20) (la lb:List (BitVec 8)) (hla:la.length=16*(n+2)) (hlb:lb.length=16*(n+2)) (u:BitVec 64) (d:List (BitVec 8)) (h16:16≤d.length) (hd2:d.length≤65536) (hw:d.length % 16=0) :
    F C (k+5001) 67 [.ptr (0,0) 0,.ptr (0,6) 0,.ptr (0,7) 0] [[.ptr (0,1) 0],[.ptr (0,2) 0,.ptr (0,4) 0],CF (.sl (0,3) 0 (n+2) none 16) TB,bs la,CF (.sl (0,5) 0 (n+2) none 16) TB,bs lb,[B64 u],[.isl (bs d) d.length]]=some (.sl (1,0) 0 d.length none 1,[some ([.ptr (0,1) 0]),some ([.ptr (0,2) 0,.ptr (0,4) 0]),some (CF (.sl (0,3) 0 (n+2) none 16) TB),some (bs la),some (CF (.sl (0,5) 0 (n+2) none 16) TB),some (bs lb),some ([B64 u]),some ([.isl (bs d) d.length])],[bs (qbI (dec (kf la) n) (tw0 n lb u) d true)]):=by
  rw[qaH f67]
  generalize hG:qaY [[.ptr (0,1) 0],[.ptr (0,2) 0,.ptr (0,4) 0],CF (.sl (0,3) 0 (n+2) none 16) TB,bs la,CF (.sl (0,5) 0 (n+2) none 16) TB,bs lb,[B64 u],[.isl (bs d) d.length]]=G
  have x00:G (0,0)=some ([.ptr (0,1) 0]):=by rw[←hG]; rfl
  have x01:G (0,1)=some ([.ptr (0,2) 0,.ptr (0,4) 0]):=by rw[←hG]; rfl
  have x02:G (0,2)=some (CF (.sl (0,3) 0 (n+2) none 16) TB):=by rw[←hG]; rfl
  have x03:G (0,3)=some (bs la):=by rw[←hG]; rfl
  have x04:G (0,4)=some (CF (.sl (0,5) 0 (n+2) none 16) TB):=by rw[←hG]; rfl
  have x05:G (0,5)=some (bs lb):=by rw[←hG]; rfl
  have x06:G (0,6)=some ([B64 u]):=by rw[←hG]; rfl
  have x07:G (0,7)=some ([.isl (bs d) d.length]):=by rw[←hG]; rfl
  have X:XG G (0,1) (0,2) (0,3) (0,4) (0,5) n la lb:=⟨x01,x02,x03,x04,x05,by decide⟩
  have X':XG (only [(0,1),(0,2),(0,3),(0,4),(0,5)] G) (0,1) (0,2) (0,3) (0,4) (0,5) n la lb:=⟨x01,x02,x03,x04,x05,by decide⟩
  have hre:qa7 G FUEL [] [(0,1),(0,2)]=[(0,1),(0,2),(0,3),(0,4),(0,5)]:=(qaA rfl x01 rfl).trans ((qaA rfl x02 (qaW _ _)).trans ((qaA rfl x03 (qam _)).trans ((qaA rfl x04 (qaW _ _)).trans ((qaA rfl x05 (qam _)).trans ((qbu rfl).trans (qba _ _ _))))))
  have hc:∀ b,_:=fun b=>c_run k 68 n b hn (only [(0,1),(0,2),(0,3),(0,4),(0,5)] G) (0,1) (0,2) (0,3) (0,4) (0,5) la lb X' hlb (dec (kf la) n) (way_dec n hn la hla) u (.isl (bs d) d.length) d [] (snap_isl _ _) (by decide) h16 hd2 hw true
  have ht:∀ v news,_:=fun v news=>X'.tr v news
  simp (disch:=first|omega|decide|simp only[nmsB,lB]) only[simprocAttr,-rR,-rS,leB,memB,arrB,numB,qaf,opsB,ordB,qan,qai,qaI,L67,hG,op_fn,x00,x01,x02,x03,x04,x05,x06,x07,qel,qbg,qa3,hre,hc,ht,zI,zS,qab,qad,qac,qaa,qas,qag]
  generalize hQ:upd G (11,0) (some (bs (qbI (dec (kf la) n) (tw0 n lb u) d true)))=Q
  have y00:Q (0,0)=some ([.ptr (0,1) 0]):=by rw[←hQ]; exact x00
  have y01:Q (0,1)=some ([.ptr (0,2) 0,.ptr (0,4) 0]):=by rw[←hQ]; exact x01
  have y02:Q (0,2)=some (CF (.sl (0,3) 0 (n+2) none 16) TB):=by rw[←hQ]; exact x02
  have y03:Q (0,3)=some (bs la):=by rw[←hQ]; exact x03
  have y04:Q (0,4)=some (CF (.sl (0,5) 0 (n+2) none 16) TB):=by rw[←hQ]; exact x04
  have y05:Q (0,5)=some (bs lb):=by rw[←hQ]; exact x05
  have y06:Q (0,6)=some ([B64 u]):=by rw[←hQ]; exact x06
  have y07:Q (0,7)=some ([.isl (bs d) d.length]):=by rw[←hQ]; exact x07
  have yn:Q (11,0)=some (bs (qbI (dec (kf la) n) (tw0 n lb u) d true)):=by rw[←hQ]; rfl
  have hch:qa7 Q FUEL [] [(0,0),(0,1),(0,2),(0,3),(0,4),(0,5),(0,6),(0,7),(11,0)]=[(0,0),(0,1),(0,2),(0,3),(0,4),(0,5),(0,6),(0,7),(11,0)]:=(qaA rfl y00 rfl).trans ((qaA rfl y01 rfl).trans ((qaA rfl y02 (qaW _ _)).trans ((qaA rfl y03 (qam _)).trans ((qaA rfl y04 (qaW _ _)).trans ((qaA rfl y05 (qam _)).trans ((qbu rfl).trans ((qbu rfl).trans ((qbu rfl).trans ((qbu rfl).trans ((qbu rfl).trans ((qaA rfl y06 rfl).trans ((qaA rfl y07 (dn _)).trans ((qaA rfl yn (qam _)).trans (qba _ _ _))))))))))))))
  have hcn:qbE Q 8 [.sl (11,0) 0 d.length none 1]=[(11,0)]:=qef rfl hch rfl
  refine qbK hcn ?_
  simp (disch:=first|omega|decide|simp only[nmsB,lB]) only[simprocAttr,-rR,-rS,leB,memB,qaf,range_8,qaV,qaq,qbj,qaZ,qbk,qdb,qb0,y00,y01,y02,y03,y04,y05,y06,y07,yn,qae,qab,qad,qac,qaa]
end Aes
namespace Aes
open Go Go.LE Xf Tb
set_option maxRecDepth 20000
theorem unit43I_F (k n:Nat) (hn:n≤20) (la lb:List (BitVec 8)) (hla:la.length=16*(n+2)) (hlb:lb.length=16*(n+2)) (u:BitVec 64) (d:List (BitVec 8)) (h16:16≤d.length) (hd2:d.length≤65536) (hw:d.length % 16=0) :
    F C (k+5002) 63 [.ptr (0,0) 0,.isl (bs d) d.length,.fn (.func 64) [] [.ptr (0,5) 0,.ptr (0,6) 0,.ptr (0,7) 0]] [[.ptr (0,1) 0,.ptr (0,3) 0],CF (.sl (0,2) 0 (n+2) none 16) TB,bs la,CF (.sl (0,4) 0 (n+2) none 16) TB,bs lb,[.ptr (0,0) 0],[B64 u],[.isl (bs d) d.length]]=some (.tup [.sl (1,0) 0 d.length none 1,N 0],[some ([.ptr (0,1) 0,.ptr (0,3) 0]),some (CF (.sl (0,2) 0 (n+2) none 16) TB),some (bs la),some (CF (.sl (0,4) 0 (n+2) none 16) TB),some (bs lb),some ([.ptr (0,0) 0]),some ([B64 u]),some ([.isl (bs d) d.length])],[bs (qbI (enc (kf la) n) (tw0 n lb u) d false)]):=by
  rw[qaH f63]
  generalize hG:qaY [[.ptr (0,1) 0,.ptr (0,3) 0],CF (.sl (0,2) 0 (n+2) none 16) TB,bs la,CF (.sl (0,4) 0 (n+2) none 16) TB,bs lb,[.ptr (0,0) 0],[B64 u],[.isl (bs d) d.length]]=G
  have x00:G (0,0)=some ([.ptr (0,1) 0,.ptr (0,3) 0]):=by rw[←hG]; rfl
  have x01:G (0,1)=some (CF (.sl (0,2) 0 (n+2) none 16) TB):=by rw[←hG]; rfl
  have x02:G (0,2)=some (bs la):=by rw[←hG]; rfl
  have x03:G (0,3)=some (CF (.sl (0,4) 0 (n+2) none 16) TB):=by rw[←hG]; rfl
  have x04:G (0,4)=some (bs lb):=by rw[←hG]; rfl
  have x05:G (0,5)=some ([.ptr (0,0) 0]):=by rw[←hG]; rfl
  have x06:G (0,6)=some ([B64 u]):=by rw[←hG]; rfl
  have x07:G (0,7)=some ([.isl (bs d) d.length]):=by rw[←hG]; rfl
  have hr:qa7 G FUEL [] [(0,5),(0,6),(0,7)]=[(0,5),(0,0),(0,1),(0,2),(0,3),(0,4),(0,6),(0,7)]:=(qaA rfl x05 rfl).trans ((qaA rfl x00 rfl).trans ((qaA rfl x01 (qaW _ _)).trans ((qaA rfl x02 (qam _)).trans ((qaA rfl x03 (qaW _ _)).trans ((qaA rfl x04 (qam _)).trans ((qaA rfl x06 rfl).trans ((qaA rfl x07 (dn _)).trans (qba _ _ _))))))))
  have ho:(([(0,5),(0,0),(0,1),(0,2),(0,3),(0,4),(0,6),(0,7)]:List Nm).filterMap G).map (fun cs=>cs.map (ren D (qaK [(0,5),(0,0),(0,1),(0,2),(0,3),(0,4),(0,6),(0,7)])))=[[.ptr (0,1) 0],[.ptr (0,2) 0,.ptr (0,4) 0],CF (.sl (0,3) 0 (n+2) none 16) TB,bs la,CF (.sl (0,5) 0 (n+2) none 16) TB,bs lb,[B64 u],[.isl (bs d) d.length]]:=by
    rw[show ([(0,5),(0,0),(0,1),(0,2),(0,3),(0,4),(0,6),(0,7)]:List Nm).filterMap G=[[.ptr (0,0) 0],[.ptr (0,1) 0,.ptr (0,3) 0],CF (.sl (0,2) 0 (n+2) none 16) TB,bs la,CF (.sl (0,4) 0 (n+2) none 16) TB,bs lb,[B64 u],[.isl (bs d) d.length]] by simp only[List.filterMap_cons,zQ,x00,x01,x02,x03,x04,x05,x06,x07]]
    simp only[zB,zA,qaV,qaq,qbj]
    rfl
  have hc:∀ b,qar (envC C (k+5001)) G b 64 [.ptr (0,5) 0,.ptr (0,6) 0,.ptr (0,7) 0]=some ⟨.sl (b,0) 0 d.length none 1,[bs (qbI (enc (kf la) n) (tw0 n lb u) d false)],[((0,5),some ([.ptr (0,0) 0])),((0,0),some ([.ptr (0,1) 0,.ptr (0,3) 0])),((0,1),some (CF (.sl (0,2) 0 (n+2) none 16) TB)),((0,2),some (bs la)),((0,3),some (CF (.sl (0,4) 0 (n+2) none 16) TB)),((0,4),some (bs lb)),((0,6),some ([B64 u])),((0,7),some ([.isl (bs d) d.length]))]⟩:=by
    intro b
    rw[qb4 (k+5001) b 64 l64 G _ [.ptr (0,0) 0,.ptr (0,6) 0,.ptr (0,7) 0] [(0,5),(0,6),(0,7)] _ _ _ (by simp only[zK,zN,qcp,qbg,qa3,fn3_nms,zI,zS,zD]) hr (by simp only[zB,zA,qbj] <;> rfl) ho (clo43I_F k n hn la lb hla hlb u d h16 hd2 hw),qaT]
    simp only[zB,zA,List.zipWith_cons_cons,List.zipWith_nil_left,zC,qaV,qaq,qbj]
    rfl
  have hm:modN [((0,5),some ([.ptr (0,0) 0])),((0,0),some ([.ptr (0,1) 0,.ptr (0,3) 0])),((0,1),some (CF (.sl (0,2) 0 (n+2) none 16) TB)),((0,2),some (bs la)),((0,3),some (CF (.sl (0,4) 0 (n+2) none 16) TB)),((0,4),some (bs lb)),((0,6),some ([B64 u])),((0,7),some ([.isl (bs d) d.length]))] G=G:=by
    simp only[qce,qch,qbb x07,qbb x06,qbb x04,qbb x03,qbb x02,qbb x01,qbb x00,qbb x05]
  have hle:¬ d.length < 16:=by omega
  have hle2:¬ 65536 < d.length:=by omega
  have hpo:qaS 0 1 (some [.ptr (0,1) 0,.ptr (0,3) 0])=some [.ptr (0,1) 0]:=rfl
  simp (disch:=first|omega|decide|simp only[nmsB,lB]) only[simprocAttr,-rR,-rS,leB,memB,arrB,numB,qaf,opsB,ordB,qan,qai,qaI,L63,hG,x00,x01,x02,x03,x04,x05,x06,x07,hle,hle2,eqp_ptr,callV_fn3,hc,hm,qab,qad,qac,qaa,qas,qag]
  generalize hQ:upd G (24,0) (some (bs (qbI (enc (kf la) n) (tw0 n lb u) d false)))=Q
  have y00:Q (0,0)=some ([.ptr (0,1) 0,.ptr (0,3) 0]):=by rw[←hQ]; exact x00
  have y01:Q (0,1)=some (CF (.sl (0,2) 0 (n+2) none 16) TB):=by rw[←hQ]; exact x01
  have y02:Q (0,2)=some (bs la):=by rw[←hQ]; exact x02
  have y03:Q (0,3)=some (CF (.sl (0,4) 0 (n+2) none 16) TB):=by rw[←hQ]; exact x03
  have y04:Q (0,4)=some (bs lb):=by rw[←hQ]; exact x04
  have y05:Q (0,5)=some ([.ptr (0,0) 0]):=by rw[←hQ]; exact x05
  have y06:Q (0,6)=some ([B64 u]):=by rw[←hQ]; exact x06
  have y07:Q (0,7)=some ([.isl (bs d) d.length]):=by rw[←hQ]; exact x07
  have yn:Q (24,0)=some (bs (qbI (enc (kf la) n) (tw0 n lb u) d false)):=by rw[←hQ]; rfl
  have hch:qa7 Q FUEL [] [(0,0),(0,1),(0,2),(0,3),(0,4),(0,5),(0,6),(0,7),(24,0)]=[(0,0),(0,1),(0,2),(0,3),(0,4),(0,5),(0,6),(0,7),(24,0)]:=(qaA rfl y00 rfl).trans ((qaA rfl y01 (qaW _ _)).trans ((qaA rfl y02 (qam _)).trans ((qaA rfl y03 (qaW _ _)).trans ((qaA rfl y04 (qam _)).trans ((qbu rfl).trans ((qbu rfl).trans ((qbu rfl).trans ((qbu rfl).trans ((qaA rfl y05 rfl).trans ((qbu rfl).trans ((qaA rfl y06 rfl).trans ((qaA rfl y07 (dn _)).trans ((qaA rfl yn (qam _)).trans (qba _ _ _))))))))))))))
  have hcn:qbE Q 8 [.tup [.sl (24,0) 0 d.length none 1,N 0]]=[(24,0)]:=qef rfl hch rfl
  refine qbK hcn ?_
  simp (disch:=first|omega|decide|simp only[nmsB,lB]) only[simprocAttr,-rR,-rS,leB,memB,qaf,range_8,qaV,qaq,qbj,qaZ,qbk,qdb,qb0,y00,y01,y02,y03,y04,y05,y06,y07,yn,qae,qab,qad,qac,qaa]
  rfl
theorem unit46I_F (k n:Nat) (hn:n≤20) (la lb:List (BitVec 8)) (hla:la.length=16*(n+2)) (hlb:lb.length=16*(n+2)) (u:BitVec 64) (d:List (BitVec 8)) (h16:16≤d.length) (hd2:d.length≤65536) (hw:d.length % 16=0) :
    F C (k+5002) 63 [.ptr (0,0) 0,.isl (bs d) d.length,.fn (.func 67) [] [.ptr (0,5) 0,.ptr (0,6) 0,.ptr (0,7) 0]] [[.ptr (0,1) 0,.ptr (0,3) 0],CF (.sl (0,2) 0 (n+2) none 16) TB,bs la,CF (.sl (0,4) 0 (n+2) none 16) TB,bs lb,[.ptr (0,0) 0],[B64 u],[.isl (bs d) d.length]]=some (.tup [.sl (1,0) 0 d.length none 1,N 0],[some ([.ptr (0,1) 0,.ptr (0,3) 0]),some (CF (.sl (0,2) 0 (n+2) none 16) TB),some (bs la),some (CF (.sl (0,4) 0 (n+2) none 16) TB),some (bs lb),some ([.ptr (0,0) 0]),some ([B64 u]),some ([.isl (bs d) d.length])],[bs (qbI (dec (kf la) n) (tw0 n lb u) d true)]):=by
  rw[qaH f63]
  generalize hG:qaY [[.ptr (0,1) 0,.ptr (0,3) 0],CF (.sl (0,2) 0 (n+2) none 16) TB,bs la,CF (.sl (0,4) 0 (n+2) none 16) TB,bs lb,[.ptr (0,0) 0],[B64 u],[.isl (bs d) d.length]]=G
  have x00:G (0,0)=some ([.ptr (0,1) 0,.ptr (0,3) 0]):=by rw[←hG]; rfl
  have x01:G (0,1)=some (CF (.sl (0,2) 0 (n+2) none 16) TB):=by rw[←hG]; rfl
  have x02:G (0,2)=some (bs la):=by rw[←hG]; rfl
  have x03:G (0,3)=some (CF (.sl (0,4) 0 (n+2) none 16) TB):=by rw[←hG]; rfl
  have x04:G (0,4)=some (bs lb):=by rw[←hG]; rfl
  have x05:G (0,5)=some ([.ptr (0,0) 0]):=by rw[←hG]; rfl
  have x06:G (0,6)=some ([B64 u]):=by rw[←hG]; rfl
  have x07:G (0,7)=some ([.isl (bs d) d.length]):=by rw[←hG]; rfl
  have hr:qa7 G FUEL [] [(0,5),(0,6),(0,7)]=[(0,5),(0,0),(0,1),(0,2),(0,3),(0,4),(0,6),(0,7)]:=(qaA rfl x05 rfl).trans ((qaA rfl x00 rfl).trans ((qaA rfl x01 (qaW _ _)).trans ((qaA rfl x02 (qam _)).trans ((qaA rfl x03 (qaW _ _)).trans ((qaA rfl x04 (qam _)).trans ((qaA rfl x06 rfl).trans ((qaA rfl x07 (dn _)).trans (qba _ _ _))))))))
  have ho:(([(0,5),(0,0),(0,1),(0,2),(0,3),(0,4),(0,6),(0,7)]:List Nm).filterMap G).map (fun cs=>cs.map (ren D (qaK [(0,5),(0,0),(0,1),(0,2),(0,3),(0,4),(0,6),(0,7)])))=[[.ptr (0,1) 0],[.ptr (0,2) 0,.ptr (0,4) 0],CF (.sl (0,3) 0 (n+2) none 16) TB,bs la,CF (.sl (0,5) 0 (n+2) none 16) TB,bs lb,[B64 u],[.isl (bs d) d.length]]:=by
    rw[show ([(0,5),(0,0),(0,1),(0,2),(0,3),(0,4),(0,6),(0,7)]:List Nm).filterMap G=[[.ptr (0,0) 0],[.ptr (0,1) 0,.ptr (0,3) 0],CF (.sl (0,2) 0 (n+2) none 16) TB,bs la,CF (.sl (0,4) 0 (n+2) none 16) TB,bs lb,[B64 u],[.isl (bs d) d.length]] by simp only[List.filterMap_cons,zQ,x00,x01,x02,x03,x04,x05,x06,x07]]
    simp only[zB,zA,qaV,qaq,qbj]
    rfl
  have hc:∀ b,qar (envC C (k+5001)) G b 67 [.ptr (0,5) 0,.ptr (0,6) 0,.ptr (0,7) 0]=some ⟨.sl (b,0) 0 d.length none 1,[bs (qbI (dec (kf la) n) (tw0 n lb u) d true)],[((0,5),some ([.ptr (0,0) 0])),((0,0),some ([.ptr (0,1) 0,.ptr (0,3) 0])),((0,1),some (CF (.sl (0,2) 0 (n+2) none 16) TB)),((0,2),some (bs la)),((0,3),some (CF (.sl (0,4) 0 (n+2) none 16) TB)),((0,4),some (bs lb)),((0,6),some ([B64 u])),((0,7),some ([.isl (bs d) d.length]))]⟩:=by
    intro b
    rw[qb4 (k+5001) b 67 l67 G _ [.ptr (0,0) 0,.ptr (0,6) 0,.ptr (0,7) 0] [(0,5),(0,6),(0,7)] _ _ _ (by simp only[zK,zN,qcp,qbg,qa3,fn3_nms,zI,zS,zD]) hr (by simp only[zB,zA,qbj] <;> rfl) ho (clo46I_F k n hn la lb hla hlb u d h16 hd2 hw),qaT]
    simp only[zB,zA,List.zipWith_cons_cons,List.zipWith_nil_left,zC,qaV,qaq,qbj]
    rfl
  have hm:modN [((0,5),some ([.ptr (0,0) 0])),((0,0),some ([.ptr (0,1) 0,.ptr (0,3) 0])),((0,1),some (CF (.sl (0,2) 0 (n+2) none 16) TB)),((0,2),some (bs la)),((0,3),some (CF (.sl (0,4) 0 (n+2) none 16) TB)),((0,4),some (bs lb)),((0,6),some ([B64 u])),((0,7),some ([.isl (bs d) d.length]))] G=G:=by
    simp only[qce,qch,qbb x07,qbb x06,qbb x04,qbb x03,qbb x02,qbb x01,qbb x00,qbb x05]
  have hle:¬ d.length < 16:=by omega
  have hle2:¬ 65536 < d.length:=by omega
  have hpo:qaS 0 1 (some [.ptr (0,1) 0,.ptr (0,3) 0])=some [.ptr (0,1) 0]:=rfl
  simp (disch:=first|omega|decide|simp only[nmsB,lB]) only[simprocAttr,-rR,-rS,leB,memB,arrB,numB,qaf,opsB,ordB,qan,qai,qaI,L63,hG,x00,x01,x02,x03,x04,x05,x06,x07,hle,hle2,eqp_ptr,callV_fn3,hc,hm,qab,qad,qac,qaa,qas,qag]
  generalize hQ:upd G (24,0) (some (bs (qbI (dec (kf la) n) (tw0 n lb u) d true)))=Q
  have y00:Q (0,0)=some ([.ptr (0,1) 0,.ptr (0,3) 0]):=by rw[←hQ]; exact x00
  have y01:Q (0,1)=some (CF (.sl (0,2) 0 (n+2) none 16) TB):=by rw[←hQ]; exact x01
  have y02:Q (0,2)=some (bs la):=by rw[←hQ]; exact x02
  have y03:Q (0,3)=some (CF (.sl (0,4) 0 (n+2) none 16) TB):=by rw[←hQ]; exact x03
  have y04:Q (0,4)=some (bs lb):=by rw[←hQ]; exact x04
  have y05:Q (0,5)=some ([.ptr (0,0) 0]):=by rw[←hQ]; exact x05
  have y06:Q (0,6)=some ([B64 u]):=by rw[←hQ]; exact x06
  have y07:Q (0,7)=some ([.isl (bs d) d.length]):=by rw[←hQ]; exact x07
  have yn:Q (24,0)=some (bs (qbI (dec (kf la) n) (tw0 n lb u) d true)):=by rw[←hQ]; rfl
  have hch:qa7 Q FUEL [] [(0,0),(0,1),(0,2),(0,3),(0,4),(0,5),(0,6),(0,7),(24,0)]=[(0,0),(0,1),(0,2),(0,3),(0,4),(0,5),(0,6),(0,7),(24,0)]:=(qaA rfl y00 rfl).trans ((qaA rfl y01 (qaW _ _)).trans ((qaA rfl y02 (qam _)).trans ((qaA rfl y03 (qaW _ _)).trans ((qaA rfl y04 (qam _)).trans ((qbu rfl).trans ((qbu rfl).trans ((qbu rfl).trans ((qbu rfl).trans ((qaA rfl y05 rfl).trans ((qbu rfl).trans ((qaA rfl y06 rfl).trans ((qaA rfl y07 (dn _)).trans ((qaA rfl yn (qam _)).trans (qba _ _ _))))))))))))))
  have hcn:qbE Q 8 [.tup [.sl (24,0) 0 d.length none 1,N 0]]=[(24,0)]:=qef rfl hch rfl
  refine qbK hcn ?_
  simp (disch:=first|omega|decide|simp only[nmsB,lB]) only[simprocAttr,-rR,-rS,leB,memB,qaf,range_8,qaV,qaq,qbj,qaZ,qbk,qdb,qb0,y00,y01,y02,y03,y04,y05,y06,y07,yn,qae,qab,qad,qac,qaa]
  rfl
end Aes
namespace Aes
open Go Go.LE Xf Tb
set_option maxRecDepth 20000
theorem encr23I_F (k n:Nat) (hn:n≤20) (la lb:List (BitVec 8)) (hla:la.length=16*(n+2)) (hlb:lb.length=16*(n+2)) (u:BitVec 64) (d:List (BitVec 8)) (h16:16≤d.length) (hd2:d.length≤65536) (hw:d.length % 16=0) :
    F C (k+5003) 50 [.ptr (0,0) 0,B64 u,.isl (bs d) d.length] [[.ptr (0,1) 0,.ptr (0,3) 0],CF (.sl (0,2) 0 (n+2) none 16) TB,bs la,CF (.sl (0,4) 0 (n+2) none 16) TB,bs lb]=some (.tup [.sl (1,0) 0 d.length none 1,N 0],[some ([.ptr (0,1) 0,.ptr (0,3) 0]),some (CF (.sl (0,2) 0 (n+2) none 16) TB),some (bs la),some (CF (.sl (0,4) 0 (n+2) none 16) TB),some (bs lb)],[bs (qbI (enc (kf la) n) (tw0 n lb u) d false)]):=by
  rw[qaH f50]
  generalize hG:upd (upd (upd (qaY [[.ptr (0,1) 0,.ptr (0,3) 0],CF (.sl (0,2) 0 (n+2) none 16) TB,bs la,CF (.sl (0,4) 0 (n+2) none 16) TB,bs lb]) (2,0) (some [.ptr (0,0) 0])) (3,0) (some [B64 u])) (4,0) (some [.isl (bs d) d.length])=G
  have x00:G (0,0)=some ([.ptr (0,1) 0,.ptr (0,3) 0]):=by rw[←hG]; rfl
  have x01:G (0,1)=some (CF (.sl (0,2) 0 (n+2) none 16) TB):=by rw[←hG]; rfl
  have x02:G (0,2)=some (bs la):=by rw[←hG]; rfl
  have x03:G (0,3)=some (CF (.sl (0,4) 0 (n+2) none 16) TB):=by rw[←hG]; rfl
  have x04:G (0,4)=some (bs lb):=by rw[←hG]; rfl
  have x20:G (2,0)=some ([.ptr (0,0) 0]):=by rw[←hG]; rfl
  have x30:G (3,0)=some ([B64 u]):=by rw[←hG]; rfl
  have x40:G (4,0)=some ([.isl (bs d) d.length]):=by rw[←hG]; rfl
  have hr:qa7 G FUEL [] [(0,0),(2,0),(3,0),(4,0)]=[(0,0),(0,1),(0,2),(0,3),(0,4),(2,0),(3,0),(4,0)]:=(qaA rfl x00 rfl).trans ((qaA rfl x01 (qaW _ _)).trans ((qaA rfl x02 (qam _)).trans ((qaA rfl x03 (qaW _ _)).trans ((qaA rfl x04 (qam _)).trans ((qaA rfl x20 rfl).trans ((qbu rfl).trans ((qaA rfl x30 rfl).trans ((qaA rfl x40 (dn _)).trans (qba _ _ _)))))))))
  have ho:(([(0,0),(0,1),(0,2),(0,3),(0,4),(2,0),(3,0),(4,0)]:List Nm).filterMap G).map (fun cs=>cs.map (ren D (qaK [(0,0),(0,1),(0,2),(0,3),(0,4),(2,0),(3,0),(4,0)])))=[[.ptr (0,1) 0,.ptr (0,3) 0],CF (.sl (0,2) 0 (n+2) none 16) TB,bs la,CF (.sl (0,4) 0 (n+2) none 16) TB,bs lb,[.ptr (0,0) 0],[B64 u],[.isl (bs d) d.length]]:=by
    rw[show ([(0,0),(0,1),(0,2),(0,3),(0,4),(2,0),(3,0),(4,0)]:List Nm).filterMap G=[[.ptr (0,1) 0,.ptr (0,3) 0],CF (.sl (0,2) 0 (n+2) none 16) TB,bs la,CF (.sl (0,4) 0 (n+2) none 16) TB,bs lb,[.ptr (0,0) 0],[B64 u],[.isl (bs d) d.length]] by simp only[List.filterMap_cons,zQ,x00,x01,x02,x03,x04,x20,x30,x40]]
    simp only[zB,zA,qaV,qaq,qbj]
    rfl
  have hc:∀ b,qar (envC C (k+5002)) G b 63 [.ptr (0,0) 0,.isl (bs d) d.length,.fn (.func 64) [] [.ptr (2,0) 0,.ptr (3,0) 0,.ptr (4,0) 0]]=some ⟨.tup [.sl (b,0) 0 d.length none 1,N 0],[bs (qbI (enc (kf la) n) (tw0 n lb u) d false)],[((0,0),some ([.ptr (0,1) 0,.ptr (0,3) 0])),((0,1),some (CF (.sl (0,2) 0 (n+2) none 16) TB)),((0,2),some (bs la)),((0,3),some (CF (.sl (0,4) 0 (n+2) none 16) TB)),((0,4),some (bs lb)),((2,0),some ([.ptr (0,0) 0])),((3,0),some ([B64 u])),((4,0),some ([.isl (bs d) d.length]))]⟩:=by
    intro b
    rw[qb4 (k+5002) b 63 l63 G _ [.ptr (0,0) 0,.isl (bs d) d.length,.fn (.func 64) [] [.ptr (0,5) 0,.ptr (0,6) 0,.ptr (0,7) 0]] [(0,0),(2,0),(3,0),(4,0)] _ _ _ (by simp only[zK,zN,qcp,qbg,qa3,fn3_nms,zI,zS,zD]) hr (by simp only[zB,zA,qbj] <;> rfl) ho (unit43I_F k n hn la lb hla hlb u d h16 hd2 hw),qaT]
    simp only[zB,zA,List.zipWith_cons_cons,List.zipWith_nil_left,zC,qaV,qaq,qbj]
    rfl
  have hm:modN [((0,0),some ([.ptr (0,1) 0,.ptr (0,3) 0])),((0,1),some (CF (.sl (0,2) 0 (n+2) none 16) TB)),((0,2),some (bs la)),((0,3),some (CF (.sl (0,4) 0 (n+2) none 16) TB)),((0,4),some (bs lb)),((2,0),some ([.ptr (0,0) 0])),((3,0),some ([B64 u])),((4,0),some ([.isl (bs d) d.length]))] G=G:=by
    simp only[qce,qch,qbb x40,qbb x30,qbb x20,qbb x04,qbb x03,qbb x02,qbb x01,qbb x00]
  simp (disch:=first|omega|decide|simp only[nmsB,lB]) only[simprocAttr,-rR,-rS,leB,memB,arrB,numB,qaf,opsB,ordB,qan,qai,qaI,L50,hG,op_fn,x00,x01,x02,x03,x04,x20,x30,x40,hc,hm,qf2,qab,qad,qac,qaa,qas,qag]
  generalize hQ:upd G (10,0) (some (bs (qbI (enc (kf la) n) (tw0 n lb u) d false)))=Q
  have y00:Q (0,0)=some ([.ptr (0,1) 0,.ptr (0,3) 0]):=by rw[←hQ]; exact x00
  have y01:Q (0,1)=some (CF (.sl (0,2) 0 (n+2) none 16) TB):=by rw[←hQ]; exact x01
  have y02:Q (0,2)=some (bs la):=by rw[←hQ]; exact x02
  have y03:Q (0,3)=some (CF (.sl (0,4) 0 (n+2) none 16) TB):=by rw[←hQ]; exact x03
  have y04:Q (0,4)=some (bs lb):=by rw[←hQ]; exact x04
  have y20:Q (2,0)=some ([.ptr (0,0) 0]):=by rw[←hQ]; exact x20
  have y30:Q (3,0)=some ([B64 u]):=by rw[←hQ]; exact x30
  have y40:Q (4,0)=some ([.isl (bs d) d.length]):=by rw[←hQ]; exact x40
  have yn:Q (10,0)=some (bs (qbI (enc (kf la) n) (tw0 n lb u) d false)):=by rw[←hQ]; rfl
  have hch:qa7 Q FUEL [] [(0,0),(0,1),(0,2),(0,3),(0,4),(10,0)]=[(0,0),(0,1),(0,2),(0,3),(0,4),(10,0)]:=(qaA rfl y00 rfl).trans ((qaA rfl y01 (qaW _ _)).trans ((qaA rfl y02 (qam _)).trans ((qaA rfl y03 (qaW _ _)).trans ((qaA rfl y04 (qam _)).trans ((qbu rfl).trans ((qbu rfl).trans ((qbu rfl).trans ((qbu rfl).trans ((qaA rfl yn (qam _)).trans (qba _ _ _))))))))))
  have hcn:qbE Q 5 [.tup [.sl (10,0) 0 d.length none 1,N 0]]=[(10,0)]:=qef rfl hch rfl
  refine qbK hcn ?_
  simp (disch:=first|omega|decide|simp only[nmsB,lB]) only[simprocAttr,-rR,-rS,leB,memB,qaf,qdE,qaV,qaq,qbj,qaZ,qbk,qdb,qb0,y00,y01,y02,y03,y04,yn,qae,qab,qad,qac,qaa]
  rfl
theorem encr26I_F (k n:Nat) (hn:n≤20) (la lb:List (BitVec 8)) (hla:la.length=16*(n+2)) (hlb:lb.length=16*(n+2)) (u:BitVec 64) (d:List (BitVec 8)) (h16:16≤d.length) (hd2:d.length≤65536) (hw:d.length % 16=0) :
    F C (k+5003) 52 [.ptr (0,0) 0,B64 u,.isl (bs d) d.length] [[.ptr (0,1) 0,.ptr (0,3) 0],CF (.sl (0,2) 0 (n+2) none 16) TB,bs la,CF (.sl (0,4) 0 (n+2) none 16) TB,bs lb]=some (.tup [.sl (1,0) 0 d.length none 1,N 0],[some ([.ptr (0,1) 0,.ptr (0,3) 0]),some (CF (.sl (0,2) 0 (n+2) none 16) TB),some (bs la),some (CF (.sl (0,4) 0 (n+2) none 16) TB),some (bs lb)],[bs (qbI (dec (kf la) n) (tw0 n lb u) d true)]):=by
  rw[qaH f52]
  generalize hG:upd (upd (upd (qaY [[.ptr (0,1) 0,.ptr (0,3) 0],CF (.sl (0,2) 0 (n+2) none 16) TB,bs la,CF (.sl (0,4) 0 (n+2) none 16) TB,bs lb]) (2,0) (some [.ptr (0,0) 0])) (3,0) (some [B64 u])) (4,0) (some [.isl (bs d) d.length])=G
  have x00:G (0,0)=some ([.ptr (0,1) 0,.ptr (0,3) 0]):=by rw[←hG]; rfl
  have x01:G (0,1)=some (CF (.sl (0,2) 0 (n+2) none 16) TB):=by rw[←hG]; rfl
  have x02:G (0,2)=some (bs la):=by rw[←hG]; rfl
  have x03:G (0,3)=some (CF (.sl (0,4) 0 (n+2) none 16) TB):=by rw[←hG]; rfl
  have x04:G (0,4)=some (bs lb):=by rw[←hG]; rfl
  have x20:G (2,0)=some ([.ptr (0,0) 0]):=by rw[←hG]; rfl
  have x30:G (3,0)=some ([B64 u]):=by rw[←hG]; rfl
  have x40:G (4,0)=some ([.isl (bs d) d.length]):=by rw[←hG]; rfl
  have hr:qa7 G FUEL [] [(0,0),(2,0),(3,0),(4,0)]=[(0,0),(0,1),(0,2),(0,3),(0,4),(2,0),(3,0),(4,0)]:=(qaA rfl x00 rfl).trans ((qaA rfl x01 (qaW _ _)).trans ((qaA rfl x02 (qam _)).trans ((qaA rfl x03 (qaW _ _)).trans ((qaA rfl x04 (qam _)).trans ((qaA rfl x20 rfl).trans ((qbu rfl).trans ((qaA rfl x30 rfl).trans ((qaA rfl x40 (dn _)).trans (qba _ _ _)))))))))
  have ho:(([(0,0),(0,1),(0,2),(0,3),(0,4),(2,0),(3,0),(4,0)]:List Nm).filterMap G).map (fun cs=>cs.map (ren D (qaK [(0,0),(0,1),(0,2),(0,3),(0,4),(2,0),(3,0),(4,0)])))=[[.ptr (0,1) 0,.ptr (0,3) 0],CF (.sl (0,2) 0 (n+2) none 16) TB,bs la,CF (.sl (0,4) 0 (n+2) none 16) TB,bs lb,[.ptr (0,0) 0],[B64 u],[.isl (bs d) d.length]]:=by
    rw[show ([(0,0),(0,1),(0,2),(0,3),(0,4),(2,0),(3,0),(4,0)]:List Nm).filterMap G=[[.ptr (0,1) 0,.ptr (0,3) 0],CF (.sl (0,2) 0 (n+2) none 16) TB,bs la,CF (.sl (0,4) 0 (n+2) none 16) TB,bs lb,[.ptr (0,0) 0],[B64 u],[.isl (bs d) d.length]] by simp only[List.filterMap_cons,zQ,x00,x01,x02,x03,x04,x20,x30,x40]]
    simp only[zB,zA,qaV,qaq,qbj]
    rfl
  have hc:∀ b,qar (envC C (k+5002)) G b 63 [.ptr (0,0) 0,.isl (bs d) d.length,.fn (.func 67) [] [.ptr (2,0) 0,.ptr (3,0) 0,.ptr (4,0) 0]]=some ⟨.tup [.sl (b,0) 0 d.length none 1,N 0],[bs (qbI (dec (kf la) n) (tw0 n lb u) d true)],[((0,0),some ([.ptr (0,1) 0,.ptr (0,3) 0])),((0,1),some (CF (.sl (0,2) 0 (n+2) none 16) TB)),((0,2),some (bs la)),((0,3),some (CF (.sl (0,4) 0 (n+2) none 16) TB)),((0,4),some (bs lb)),((2,0),some ([.ptr (0,0) 0])),((3,0),some ([B64 u])),((4,0),some ([.isl (bs d) d.length]))]⟩:=by
    intro b
    rw[qb4 (k+5002) b 63 l63 G _ [.ptr (0,0) 0,.isl (bs d) d.length,.fn (.func 67) [] [.ptr (0,5) 0,.ptr (0,6) 0,.ptr (0,7) 0]] [(0,0),(2,0),(3,0),(4,0)] _ _ _ (by simp only[zK,zN,qcp,qbg,qa3,fn3_nms,zI,zS,zD]) hr (by simp only[zB,zA,qbj] <;> rfl) ho (unit46I_F k n hn la lb hla hlb u d h16 hd2 hw),qaT]
    simp only[zB,zA,List.zipWith_cons_cons,List.zipWith_nil_left,zC,qaV,qaq,qbj]
    rfl
  have hm:modN [((0,0),some ([.ptr (0,1) 0,.ptr (0,3) 0])),((0,1),some (CF (.sl (0,2) 0 (n+2) none 16) TB)),((0,2),some (bs la)),((0,3),some (CF (.sl (0,4) 0 (n+2) none 16) TB)),((0,4),some (bs lb)),((2,0),some ([.ptr (0,0) 0])),((3,0),some ([B64 u])),((4,0),some ([.isl (bs d) d.length]))] G=G:=by
    simp only[qce,qch,qbb x40,qbb x30,qbb x20,qbb x04,qbb x03,qbb x02,qbb x01,qbb x00]
  simp (disch:=first|omega|decide|simp only[nmsB,lB]) only[simprocAttr,-rR,-rS,leB,memB,arrB,numB,qaf,opsB,ordB,qan,qai,qaI,L52,hG,op_fn,x00,x01,x02,x03,x04,x20,x30,x40,hc,hm,qf2,qab,qad,qac,qaa,qas,qag]
  generalize hQ:upd G (10,0) (some (bs (qbI (dec (kf la) n) (tw0 n lb u) d true)))=Q
  have y00:Q (0,0)=some ([.ptr (0,1) 0,.ptr (0,3) 0]):=by rw[←hQ]; exact x00
  have y01:Q (0,1)=some (CF (.sl (0,2) 0 (n+2) none 16) TB):=by rw[←hQ]; exact x01
  have y02:Q (0,2)=some (bs la):=by rw[←hQ]; exact x02
  have y03:Q (0,3)=some (CF (.sl (0,4) 0 (n+2) none 16) TB):=by rw[←hQ]; exact x03
  have y04:Q (0,4)=some (bs lb):=by rw[←hQ]; exact x04
  have y20:Q (2,0)=some ([.ptr (0,0) 0]):=by rw[←hQ]; exact x20
  have y30:Q (3,0)=some ([B64 u]):=by rw[←hQ]; exact x30
  have y40:Q (4,0)=some ([.isl (bs d) d.length]):=by rw[←hQ]; exact x40
  have yn:Q (10,0)=some (bs (qbI (dec (kf la) n) (tw0 n lb u) d true)):=by rw[←hQ]; rfl
  have hch:qa7 Q FUEL [] [(0,0),(0,1),(0,2),(0,3),(0,4),(10,0)]=[(0,0),(0,1),(0,2),(0,3),(0,4),(10,0)]:=(qaA rfl y00 rfl).trans ((qaA rfl y01 (qaW _ _)).trans ((qaA rfl y02 (qam _)).trans ((qaA rfl y03 (qaW _ _)).trans ((qaA rfl y04 (qam _)).trans ((qbu rfl).trans ((qbu rfl).trans ((qbu rfl).trans ((qbu rfl).trans ((qaA rfl yn (qam _)).trans (qba _ _ _))))))))))
  have hcn:qbE Q 5 [.tup [.sl (10,0) 0 d.length none 1,N 0]]=[(10,0)]:=qef rfl hch rfl
  refine qbK hcn ?_
  simp (disch:=first|omega|decide|simp only[nmsB,lB]) only[simprocAttr,-rR,-rS,leB,memB,qaf,qdE,qaV,qaq,qbj,qaZ,qbk,qdb,qb0,y00,y01,y02,y03,y04,yn,qae,qab,qad,qac,qaa]
  rfl
end Aes
namespace Aes
open Go Go.LE Xf Tb
set_option maxRecDepth 20000
theorem c_enI (K g n base:Nat) (hg:qaJ g=fun _=>false) (H:Heap) (p a ka b kb:Nm) (la lb:List (BitVec 8)) (X:XG H p a ka b kb n la lb) (u:BitVec 64) (d R0:List (BitVec 8)) (len:Nat)
    (hF:F C K g [.ptr (0,0) 0,B64 u,.isl (bs d) d.length] [PO,KA 2 n,bs la,KA 4 n,bs lb]=some (.tup [.sl (1,0) 0 len none 1,N 0],[some PO,some (KA 2 n),some (bs la),some (KA 4 n),some (bs lb)],[bs R0])) :
    qar (envC C K) H base g [.ptr p 0,B64 u,.isl (bs d) d.length]=some ⟨.tup [.sl (base,0) 0 len none 1,N 0],[bs R0],modX p a ka b kb n la lb⟩:=by
  obtain ⟨c0,c1,c2,c3,c4⟩:=X.cee
  have hr:Go.LE.qa7 H FUEL [] [p]=[p,a,ka,b,kb]:=X.reach
  have ho:([p,a,ka,b,kb].filterMap H).map (fun cs=>cs.map (ren D (qaK [p,a,ka,b,kb])))=[PO,KA 2 n,bs la,KA 4 n,bs lb]:=by
    simp only[List.filterMap_cons,zQ,X.hp,X.ha,X.hka,X.hb,X.hkb,zB,zA,qbk,c1,c3,qbs,qaV,qaZ,c2,c4,qa9,qaq,PO,KA]
  rw[qb4 K base g hg H _ [.ptr (0,0) 0,B64 u,.isl (bs d) d.length] [p] _ _ _ (by simp only[zK,zN,qcp,qgd,qbg,qa3,zI,zS,zD]) hr (by simp only[zB,zA,qbk,qaZ,c0,qbs,qa9,qdb,qbj]) ho hF,qaT]
  simp only[PO,KA,modX,List.zipWith_cons_cons,List.zipWith_nil_left,zC,zB,zA,qbk,qaZ,qaV,qaq,qcI,qbd,List.getElem?_cons_zero,List.getElem?_cons_succ,qbs,qa9,zE,zL,zO,Nat.lt_one_iff,qb0,zS,zI]
  rfl
end Aes
