/- The document's New: the object, the first loop. -/
import Derived.Test.YtgabgpgcplkebaaLeY
set_option linter.unusedVariables false
set_option linter.unusedSimpArgs false
namespace Aes
open Go Go.LE
set_option maxRecDepth 20000
def RF (kv:LV) (f:R):qaV:=kv::aB 512 f
theorem RF_length (r:LV) (f:R):(RF r f).length=513:=by rw[RF,zK,qcj]
theorem RF_k (r:LV) (f:R):cellK 0 1 (some (RF r f))=some [r]:=by
  rw[cellK_some,if_pos (by rw[RF_length]; decide)]; rfl
theorem RF_at (r:LV) (f:R) (o:Nat) (h:o < 512):cellK (o+1) 1 (some (RF r f))=some [B8 (f o)]:=by
  have:=aB_cell 512 f o h
  rw[cellK_some,if_pos (by rw[qcj]; omega)] at this
  rw[cellK_some,if_pos (by rw[RF_length]; omega),RF,zzD]
  exact this
theorem RF_st (r:LV) (f:R) (m:Nm) (o:Nat) (x:BitVec 8) (h0:0 < o) (h:o < 513):stK 1 o m (some [B8 x]) (some (RF r f))=some ⟨Un,[],[(m,some (RF r (set1 f (o - 1) x)))]⟩:=by
  obtain ⟨p,rfl⟩:∃ p,o=p+1:=⟨o - 1,by omega⟩
  have:=aB_st p 512 m x f (by omega)
  rw[stK_some,if_pos ⟨rfl,by rw[qcj]; omega,rfl⟩] at this
  rw[stK_some,if_pos ⟨rfl,by rw[RF_length]; omega,rfl⟩]
  have e:qbC (aB 512 f) p [B8 x]=aB 512 (set1 f p x):=by simpa using this
  have e2:qbC (RF r f) (p+1) [B8 x]=r::qbC (aB 512 f) p [B8 x]:=by
    simp only[qbC,RF,zzE,zR,zK,zJ,zA]
    rw[Nat.add_right_comm,zzD]
  rw[e2,e]; rfl
theorem RF_st0 (r x:LV) (f:R) (m:Nm) (h:isCell x=true):stK 1 0 m (some [x]) (some (RF r f))=some ⟨Un,[],[(m,some (RF x f))]⟩:=by
  have e:qbC (RF r f) 0 [x]=RF x f:=by
    simp only[qbC,RF,zzA,zI,zK,zJ,zA,zzD,zw,zR]
  rw[stK_some,if_pos ⟨rfl,by rw[RF_length]; omega,by rw[za,h]; rfl⟩,e]
theorem RF_nms (r:LV) (f:R):(RF r f).flatMap (nms D)=nms D r:=by rw[RF,zV,qbP,zQ]
theorem qcS (π:Nm→Option Nm) (r:LV) (f:R):(RF r f).map (ren D π)=RF (ren D π r) f:=by rw[RF,zG,qa4]; rfl
theorem RF_congr (r:LV) {f g:R} (h:∀ i,i < 512→f i=g i):RF r f=RF r g:=by rw[RF,RF,aB_ext _ h]
def unT (i:Nat):R:=fun j=>if j < 256 then BX j else if j < 512∧(UB (j - 256)).toNat < i then UB (j - 256) else 0#8
theorem unT_succ (i:Nat) (hi:i < 256):set1 (unT i) (256+(BX i).toNat) (BitVec.ofNat 8 i)=unT (i+1):=by
  have hb:(BX i).toNat < 256:=(BX i).isLt
  funext j
  simp only[unT,set1]
  by_cases h:j=256+(BX i).toNat
  · subst h
    have e:(UB (256+(BX i).toNat - 256)).toNat=i:=by
      rw[zzM,ub_bxN i hi,BitVec.toNat_ofNat]; omega
    rw[if_pos rfl,if_neg (by omega),if_pos ⟨by omega,by omega⟩,zzM,ub_bxN i hi]
  · rw [if_neg h]
    by_cases h1:j < 256
    · rw[if_pos h1,if_pos h1]
    · rw [if_neg h1, if_neg h1]
      by_cases h2:j < 512
      · have h3:(UB (j - 256)).toNat≠i:=by
          intro h3
          have:=bx_ubN (j - 256) (by omega)
          rw[h3] at this
          have:(BX i).toNat=j - 256:=by rw[this,BitVec.toNat_ofNat]; omega
          omega
        by_cases h4:(UB (j - 256)).toNat < i
        · rw[if_pos ⟨h2,h4⟩,if_pos ⟨h2,by omega⟩]
        · rw[if_neg (fun h=>h4 h.2),if_neg (fun h=>h4 (by omega))]
      · rw[if_neg (fun h=>h2 h.1),if_neg (fun h=>h2 h.1)]
theorem unT_all (r:LV):RF r (unT 256)=RF r TB:=RF_congr r fun j hj=>by
  simp only[unT,TB]
  by_cases h1:j < 256
  · rw[if_pos h1,if_pos h1]
  · rw[if_neg h1,if_neg h1,if_pos ⟨hj,ub_lt _⟩,if_pos hj]
theorem unT_bx (i j:Nat) (h:j < 256):unT i j=BX j:=if_pos h
theorem RF_0:qbC ([Nil]++List.replicate 512 (B8 0#8)) 1 (aB 256 BX)=RF Nil (unT 0):=by
  have e:aB 256 BX++aB 256 (fun _=>0#8)=aB 512 (unT 0):=by
    apply List.ext_getElem
    · simp only[zzI,qcj]
    · intro j h1 h2
      rw[qcj] at h2
      rw[List.getElem_append]
      by_cases h:j < 256
      · rw [dif_pos (by rw [qcj]; exact h)]
        simp only[aB,arr,List.getElem_map,List.getElem_range,unT_bx 0 j h]
      · rw [dif_neg (by rw [qcj]; exact h)]
        simp only[aB,arr,List.getElem_map,List.getElem_range,unT,if_neg h,Nat.not_lt_zero,zZ,zE]
  rw[qbC,qcj,List.singleton_append,zzE,zzA,show 1+256=256+1 from rfl,zzD,List.drop_replicate,RF,←e,qcU]
  rfl
def r5J (n:Nat) (key:List (BitVec 8)) (i:Nat) (st:St):Prop := ∃ (H:Heap),st=⟨[.isl (bs key) (4*n),.undef,.undef,.undef,N n,.ptr (1,0) 0,N i,.undef,.undef,.undef,.undef,.undef,.undef,.undef,.undef,.undef,.undef,.undef,.undef,.undef,.undef,.undef,.undef,.undef,.undef,.undef,.undef,.undef,.undef,.undef,.undef,.undef,.undef,.undef,.undef,.undef,.undef,.undef,.undef,.undef,.undef,.undef,.undef,.undef,.undef,.undef,.undef,.undef,.undef,.undef,.undef,.undef,.undef,.undef,.undef,.undef,.undef,.undef,.undef,.undef,.undef,.undef,.undef,.undef,.undef,.undef,.undef,.undef,.undef,.undef,.undef,.undef,.undef,.undef,.undef,.undef,.undef,.undef,.undef,.undef,.undef,.undef,.undef,.undef,.undef,.undef,.undef,.undef,.undef,.undef,.undef,.undef,.undef,.undef,.undef,.undef,.undef,.undef,.undef,.undef,.undef,.undef,.undef,.undef,.undef,.undef,.undef,.undef,.undef,.undef,.undef,.undef,.undef,.undef,.undef,.undef,.undef,.undef,.undef,.undef,.undef,.undef,.undef,.undef,.undef,.undef,.undef,.undef,.undef,.undef,.undef,Un,Un,Un,.undef,.undef,.undef,.undef,.undef,.undef,.undef,.undef,.undef,.undef,.undef,.undef,.undef,.undef,.undef,.undef,.undef,.undef,.undef,.undef,.undef,.undef,.undef,.undef,.undef,.undef,.undef,.undef,.undef,.undef,.undef,.undef,.undef,.undef,.undef,.undef,.undef,.undef,.undef,.undef,.undef,.undef,.undef,.undef,.undef,.undef,.undef,.undef,.undef,.undef,.undef,.undef,.undef,.undef,.undef,.undef,.undef,.undef,.undef,.undef,.undef,.undef,.undef,.undef,.undef,.undef,.undef,.undef,.undef,.undef,.undef,.undef,.undef,.undef,.undef,.undef,.undef,.undef,.undef,.undef,.undef,.undef,.undef,.undef,.undef,.undef],H,2,0⟩∧H (1,0)=some (RF Nil (unT i))
theorem r5_round (k n:Nat) (key:List (BitVec 8)) (i:Nat) (hi:i < 256) (st:St) (hJ:r5J n key i st) :
    ∃ st1,ev (envC C k) k L16b5 st=some (.normal,st1)∧r5J n key (i+1) (qcr L16k5 st1):=by
  obtain ⟨H,rfl,h0⟩:=hJ
  have hb:(BX i).toNat < 256:=(BX i).isLt
  have hc:cellK (1+i) 1 (some (RF Nil (unT i)))=some [B8 (BX i)]:=by rw[Nat.add_comm,RF_at _ _ _ (by omega),unT_bx i i hi]
  have hs:∀ m,stK 1 (257+(BX i).toNat) m (some [B8 (BitVec.ofNat 8 i)]) (some (RF Nil (unT i)))=some ⟨Un,[],[(m,some (RF Nil (unT (i+1))))]⟩:=by
    intro m
    rw[RF_st _ _ _ _ _ (by omega) (by omega),show 257+(BX i).toNat - 1=256+(BX i).toNat by omega,unT_succ i hi]
  simp (disch:=first|omega|decide|simp only[qaf,qad,qag,qae,qah,qac,qaa,qab,qai]) only[qbh,qat,qaX,qao,qan,qal,qak,qar,qbc,qay,qaJ,qaq,qaH,qaG,op_cvt,qaj,qaY,qaD,qa3,qbU,zM,zN,zO,zP,zG,zC,zQ,zK,zJ,B8_nat,Nat.reduceAdd,Nat.reduceSub,qb5,qaR,qbn,qbV,qbF,qbl,op_fa,qcy,op_iaA,iaV_lt,za,zd,zU,Nat.reduceLT,zD,zA,zB,zT,zk,zB,zA,B8_nat,qbz,qaW,qbJ,cvt_N_8,Nat.reduceLT,Nat.reduceAdd,zT,zg,ze,op_chk,qcq,qaI,qaA,qa6,zk,qa9,qbo,qbE,qca,qcl,qaE,zY,zW,zx,z6,z0,qbQ,qba,za,zd,Nat.testBit,Nat.reduceShiftRight,Nat.reduceAnd,Nat.reduceBEq,ze,zg,zy,zU,zj,Nat.reduceSub,Nat.reduceLT,bne,qbg,qbG,qbS,qbp,qbZ,qb0,zj,zU,qaU,qam,qam,qaU,L16b5,h0,hi,hc,hs]
  refine ⟨_,rfl,?_⟩
  refine qaT [(1,0)] rfl (by simp only[qav,FUEL,qaz,qax,qaB,qaE,qcM,qaO,zV,zX,zI,zQ,zz,zC,zW,zf,zD,zE,zb,zq,zp,zo,ne_eq,zt,qap,qaN,qaL,qaC,qbb,qbj,L16k5,RF_nms,qbj,qbw,h0]) (by simp only[zC,zG,qaN,qaL,qaC,L16k5,zG,zC,qbO]; rfl) ⟨_,rfl,?_⟩
  exact qau (1,0) rfl (by simp (disch:=first|omega|decide|simp only[qaf,qad,qag,qae,qah,qac,qaa,qab,qai]) only[qap,zD]) (by rw[qcS,qcD])
end Aes
namespace Aes
open Go Go.LE
set_option maxRecDepth 20000
def r4J (n:Nat) (key:List (BitVec 8)) (i:Nat) (st:St):Prop := ∃ (H:Heap),
  (i=0∧st=⟨[.isl (bs key) (4*n),.undef,.undef,.undef,N n,.ptr (1,0) 0,.undef,Nil,N 0,.undef,.undef,.undef,.undef,.undef,.undef,.undef,.undef,.undef,.undef,.undef,.undef,.undef,.undef,.undef,.undef,.undef,.undef,.undef,.undef,.undef,.undef,.undef,.undef,.undef,.undef,.undef,.undef,.undef,.undef,.undef,.undef,.undef,.undef,.undef,.undef,.undef,.undef,.undef,.undef,.undef,.undef,.undef,.undef,.undef,.undef,.undef,.undef,.undef,.undef,.undef,.undef,.undef,.undef,.undef,.undef,.undef,.undef,.undef,.undef,.undef,.undef,.undef,.undef,.undef,.undef,.undef,.undef,.undef,.undef,.undef,.undef,.undef,.undef,.undef,.undef,.undef,.undef,.undef,.undef,.undef,.undef,.undef,.undef,.undef,.undef,.undef,.undef,.undef,.undef,.undef,.undef,.undef,.undef,.undef,.undef,.undef,.undef,.undef,.undef,.undef,.undef,.undef,.undef,.undef,.undef,.undef,.undef,.undef,.undef,.undef,.undef,.undef,.undef,.undef,.undef,.undef,.undef,.undef,.undef,.undef,.undef,Un,Un,Un,.undef,.undef,.undef,.undef,.undef,.undef,.undef,.undef,.undef,.undef,.undef,.undef,.undef,.undef,.undef,.undef,.undef,.undef,.undef,.undef,.undef,.undef,.undef,.undef,.undef,.undef,.undef,.undef,.undef,.undef,.undef,.undef,.undef,.undef,.undef,.undef,.undef,.undef,.undef,.undef,.undef,.undef,.undef,.undef,.undef,.undef,.undef,.undef,.undef,.undef,.undef,.undef,.undef,.undef,.undef,.undef,.undef,.undef,.undef,.undef,.undef,.undef,.undef,.undef,.undef,.undef,.undef,.undef,.undef,.undef,.undef,.undef,.undef,.undef,.undef,.undef,.undef,.undef,.undef,.undef,.undef,.undef,.undef,.undef,.undef,.undef],H,2,0⟩∧H (1,0)=some (RF Nil TB)) ∨
  (0 < i∧st=⟨[.isl (bs key) (4*n),.undef,.undef,.undef,N n,.ptr (1,0) 0,.undef,.sl (1,1) 0 i none 4,N i,.undef,.undef,.undef,.undef,.undef,.undef,.undef,.undef,.undef,.undef,.undef,.undef,.undef,.undef,.undef,.undef,.undef,.undef,.undef,.undef,.undef,.undef,.undef,.undef,.undef,.undef,.undef,.undef,.undef,.undef,.undef,.undef,.undef,.undef,.undef,.undef,.undef,.undef,.undef,.undef,.undef,.undef,.undef,.undef,.undef,.undef,.undef,.undef,.undef,.undef,.undef,.undef,.undef,.undef,.undef,.undef,.undef,.undef,.undef,.undef,.undef,.undef,.undef,.undef,.undef,.undef,.undef,.undef,.undef,.undef,.undef,.undef,.undef,.undef,.undef,.undef,.undef,.undef,.undef,.undef,.undef,.undef,.undef,.undef,.undef,.undef,.undef,.undef,.undef,.undef,.undef,.undef,.undef,.undef,.undef,.undef,.undef,.undef,.undef,.undef,.undef,.undef,.undef,.undef,.undef,.undef,.undef,.undef,.undef,.undef,.undef,.undef,.undef,.undef,.undef,.undef,.undef,.undef,.undef,.undef,.undef,.undef,Un,Un,Un,.undef,.undef,.undef,.undef,.undef,.undef,.undef,.undef,.undef,.undef,.undef,.undef,.undef,.undef,.undef,.undef,.undef,.undef,.undef,.undef,.undef,.undef,.undef,.undef,.undef,.undef,.undef,.undef,.undef,.undef,.undef,.undef,.undef,.undef,.undef,.undef,.undef,.undef,.undef,.undef,.undef,.undef,.undef,.undef,.undef,.undef,.undef,.undef,.undef,.undef,.undef,.undef,.undef,.undef,.undef,.undef,.undef,.undef,.undef,.undef,.undef,.undef,.undef,.undef,.undef,.undef,.undef,.undef,.undef,.undef,.undef,.undef,.undef,.undef,.undef,.undef,.undef,.undef,.undef,.undef,.undef,.undef,.undef,.undef,.undef,.undef],H,2,0⟩∧H (1,0)=some (RF Nil TB)∧H (1,1)=some (bs (key.take (4*i))))
theorem r4J.of_z {n:Nat} {key:List (BitVec 8)} {st:St} (h:r4J n key 0 st):∃ (H:Heap),st=⟨[.isl (bs key) (4*n),.undef,.undef,.undef,N n,.ptr (1,0) 0,.undef,Nil,N 0,.undef,.undef,.undef,.undef,.undef,.undef,.undef,.undef,.undef,.undef,.undef,.undef,.undef,.undef,.undef,.undef,.undef,.undef,.undef,.undef,.undef,.undef,.undef,.undef,.undef,.undef,.undef,.undef,.undef,.undef,.undef,.undef,.undef,.undef,.undef,.undef,.undef,.undef,.undef,.undef,.undef,.undef,.undef,.undef,.undef,.undef,.undef,.undef,.undef,.undef,.undef,.undef,.undef,.undef,.undef,.undef,.undef,.undef,.undef,.undef,.undef,.undef,.undef,.undef,.undef,.undef,.undef,.undef,.undef,.undef,.undef,.undef,.undef,.undef,.undef,.undef,.undef,.undef,.undef,.undef,.undef,.undef,.undef,.undef,.undef,.undef,.undef,.undef,.undef,.undef,.undef,.undef,.undef,.undef,.undef,.undef,.undef,.undef,.undef,.undef,.undef,.undef,.undef,.undef,.undef,.undef,.undef,.undef,.undef,.undef,.undef,.undef,.undef,.undef,.undef,.undef,.undef,.undef,.undef,.undef,.undef,.undef,Un,Un,Un,.undef,.undef,.undef,.undef,.undef,.undef,.undef,.undef,.undef,.undef,.undef,.undef,.undef,.undef,.undef,.undef,.undef,.undef,.undef,.undef,.undef,.undef,.undef,.undef,.undef,.undef,.undef,.undef,.undef,.undef,.undef,.undef,.undef,.undef,.undef,.undef,.undef,.undef,.undef,.undef,.undef,.undef,.undef,.undef,.undef,.undef,.undef,.undef,.undef,.undef,.undef,.undef,.undef,.undef,.undef,.undef,.undef,.undef,.undef,.undef,.undef,.undef,.undef,.undef,.undef,.undef,.undef,.undef,.undef,.undef,.undef,.undef,.undef,.undef,.undef,.undef,.undef,.undef,.undef,.undef,.undef,.undef,.undef,.undef,.undef,.undef],H,2,0⟩∧H (1,0)=some (RF Nil TB):=by
  obtain ⟨H,⟨_,h⟩ | ⟨h,_⟩⟩:=h
  · exact ⟨H,h⟩
  · exact absurd h (by omega)
theorem r4J.of_s {n i:Nat} {key:List (BitVec 8)} {st:St} (h:r4J n key i st) (hi:0 < i):∃ (H:Heap),st=⟨[.isl (bs key) (4*n),.undef,.undef,.undef,N n,.ptr (1,0) 0,.undef,.sl (1,1) 0 i none 4,N i,.undef,.undef,.undef,.undef,.undef,.undef,.undef,.undef,.undef,.undef,.undef,.undef,.undef,.undef,.undef,.undef,.undef,.undef,.undef,.undef,.undef,.undef,.undef,.undef,.undef,.undef,.undef,.undef,.undef,.undef,.undef,.undef,.undef,.undef,.undef,.undef,.undef,.undef,.undef,.undef,.undef,.undef,.undef,.undef,.undef,.undef,.undef,.undef,.undef,.undef,.undef,.undef,.undef,.undef,.undef,.undef,.undef,.undef,.undef,.undef,.undef,.undef,.undef,.undef,.undef,.undef,.undef,.undef,.undef,.undef,.undef,.undef,.undef,.undef,.undef,.undef,.undef,.undef,.undef,.undef,.undef,.undef,.undef,.undef,.undef,.undef,.undef,.undef,.undef,.undef,.undef,.undef,.undef,.undef,.undef,.undef,.undef,.undef,.undef,.undef,.undef,.undef,.undef,.undef,.undef,.undef,.undef,.undef,.undef,.undef,.undef,.undef,.undef,.undef,.undef,.undef,.undef,.undef,.undef,.undef,.undef,.undef,Un,Un,Un,.undef,.undef,.undef,.undef,.undef,.undef,.undef,.undef,.undef,.undef,.undef,.undef,.undef,.undef,.undef,.undef,.undef,.undef,.undef,.undef,.undef,.undef,.undef,.undef,.undef,.undef,.undef,.undef,.undef,.undef,.undef,.undef,.undef,.undef,.undef,.undef,.undef,.undef,.undef,.undef,.undef,.undef,.undef,.undef,.undef,.undef,.undef,.undef,.undef,.undef,.undef,.undef,.undef,.undef,.undef,.undef,.undef,.undef,.undef,.undef,.undef,.undef,.undef,.undef,.undef,.undef,.undef,.undef,.undef,.undef,.undef,.undef,.undef,.undef,.undef,.undef,.undef,.undef,.undef,.undef,.undef,.undef,.undef,.undef,.undef,.undef],H,2,0⟩∧H (1,0)=some (RF Nil TB)∧H (1,1)=some (bs (key.take (4*i))):=by
  obtain ⟨H,⟨h,_⟩ | ⟨_,h⟩⟩:=h
  · exact absurd h (by omega)
  · exact ⟨H,h⟩
theorem ipt_key (H:Heap) (key:List (BitVec 8)) (o:Nat) (h:o < key.length):cellAt H 1 (.ipt (List.drop o (bs key)))=some [B8 (key.getD o 0#8)]:=by
  rw[bs_drop,cellAt,if_pos (by rw[qad,zzH]; omega),qcF,List.getD_eq_getElem?_getD,List.getElem?_eq_getElem h,List.drop_eq_getElem_cons h]
  rfl
theorem r4_roundZ (k n:Nat) (hn:n≤8) (key:List (BitVec 8)) (hk:key.length=4*n) (hi:0 < n) (st:St) (hJ:r4J n key 0 st) :
    ∃ st1,ev (envC C k) k L16b4 st=some (.normal,st1)∧r4J n key (0+1) (qcr L16k4 st1):=by
  obtain ⟨H,rfl,h0⟩:=hJ.of_z
  have i0:4*0 < 4*n:=by omega
  have i1:4*0+1 < 4*n:=by omega
  have i2:4*0+2 < 4*n:=by omega
  have i3:4*0+3 < 4*n:=by omega
  have c0:∀ H,_:=fun H=>ipt_key H key 0 (by omega)
  simp only[zw] at c0
  have c1:=fun H=>ipt_key H key 1 (by omega)
  have c2:=fun H=>ipt_key H key 2 (by omega)
  have c3:=fun H=>ipt_key H key 3 (by omega)
  have n0:nms D (.ipt (bs key))=[]:=ibp_nms key 0
  have hlit:[B8 (key.getD 0 0#8),B8 (key.getD 1 0#8),B8 (key.getD 2 0#8),B8 (key.getD 3 0#8)]=aB 4 fun j=>key.getD (0+j) 0#8:=rfl
  simp (disch:=first|omega|decide|simp only[qaf,qad,qag,qae,qah,qac,qaa,qab,qai]) only[qbh,qat,qaX,qao,qan,qal,qak,qar,qay,qaJ,qaq,qaH,qaG,qaj,qaY,qaD,qa3,zM,zN,zO,zP,zG,zC,zI,zR,zQ,zK,zJ,Nat.reduceAdd,Nat.reduceSub,qap,qa5,qb5,qbn,qbV,qb6,qcZ,qcR,aggR_some,op_build,qbC,zzE,zzA,zzD,zw,zzG,za,zd,zU,Nat.reduceLeDiff,Nat.reduceLT,zu,zD,zA,zB,Nat.le_refl,zT,zL,qcj,zk,zB,zA,qbz,N_mul,qaW,qbJ,Nat.reduceLT,Nat.reduceLeDiff,Nat.reduceMul,Nat.reduceAdd,zL,zT,zg,ze,qch,qbj,qcA,qcB,qcC,appX_nil,op_iaS,iaSV_isl,qdd,qcX,qaI,qaZ,qaA,zk,qa9,qbo,qbE,qca,zY,zW,zx,z6,z0,qbQ,qba,za,zd,Nat.testBit,Nat.reduceShiftRight,Nat.reduceAnd,Nat.reduceBEq,ze,zg,zy,zU,zj,Nat.reduceSub,Nat.reduceLT,bne,qbg,qbG,qbp,qbZ,qdc,zj,zU,qcL,qaU,qam,qdo,qam,qaU,L16b4,hi,c0,c1,c2,c3,hlit,fr_w,qaQ,ibp_nms,n0]
  clear hJ
  refine ⟨_,rfl,?_⟩
  refine qaT [(1,0),(31,0)] rfl (by simp only[qav,FUEL,qaz,qax,qaB,qaE,qaQ,qcM,qaO,zV,zX,zI,zR,zQ,zz,zC,zW,zY,zF,zm,zn,zf,Nat.reduceEqDiff,zS,zl,zD,zE,zb,zq,zp,zo,ne_eq,zt,qap,qaN,qaL,qaC,qbb,qbj,L16k4,qbP,RF_nms,qaQ,qbj,qbw,h0]) (by simp only[zC,zG,qaN,qaL,qaC,L16k4,zG,zC,qbO]; rfl) ⟨_,.inr ⟨by omega,rfl,?_,?_⟩⟩
  · exact qau (1,0) rfl (by simp (disch:=first|omega|decide|simp only[qaf,qad,qag,qae,qah,qac,qaa,qab,qai]) only[qap,zF,Nat.reduceEqDiff,zS,zE,h0]) (by rw[qcS,qcD])
  · refine (qcW _ _ 1 (31, 0) _ rfl (by simp (disch := first | omega | decide | simp only [qaf, qad, qag, qae, qah, qac, qaa, qab, qai]) only [qap, zF, Nat.reduceEqDiff, zS, zD, zE]; rfl)).trans ?_
    have e:=key4 key 0 (by omega)
    simp only[Nat.mul_zero,zzA,zA] at e
    rw[qa4,aB4_bs,←e]; rfl
theorem r4_roundS (k n i:Nat) (hn:n≤8) (key:List (BitVec 8)) (hk:key.length=4*n) (hi:i < n) (h0i:0 < i) (st:St) (hJ:r4J n key i st) :
    ∃ st1,ev (envC C k) k L16b4 st=some (.normal,st1)∧r4J n key (i+1) (qcr L16k4 st1):=by
  obtain ⟨H,rfl,h0,h1⟩:=hJ.of_s h0i
  have i0:4*i < 4*n:=by omega
  have i1:4*i+1 < 4*n:=by omega
  have i2:4*i+2 < 4*n:=by omega
  have i3:4*i+3 < 4*n:=by omega
  have c0:∀ H,_:=fun H=>ipt_key H key (4*i) (by omega)
  have c1:=fun H=>ipt_key H key (4*i+1) (by omega)
  have c2:=fun H=>ipt_key H key (4*i+2) (by omega)
  have c3:=fun H=>ipt_key H key (4*i+3) (by omega)
  have hap:∀ (b:Nat),appN b 4 1 0 i (1,1) (aB 4 fun j=>key.getD (4*i+j) 0#8) (some (bs (key.take (4*i))))=some ⟨.sl (b,0) 0 (i+1) none 4,[bs (key.take (4*(i+1)))],[((1,1),none)]⟩:=by
    intro b
    rw[appN,qad,if_pos (by rw[zzL]; omega),zw,aB4_bs,qcF,bs_append,List.take_of_length_le (by rw[zzL]; omega),←key4 key i (by omega),ext4]
  have n0:nms D (.ipt (bs key))=[]:=ibp_nms key 0
  have hlit:[B8 (key.getD (4*i) 0#8),B8 (key.getD (4*i+1) 0#8),B8 (key.getD (4*i+2) 0#8),B8 (key.getD (4*i+3) 0#8)]=aB 4 fun j=>key.getD ((4*i)+j) 0#8:=rfl
  simp (disch:=first|omega|decide|simp only[qaf,qad,qag,qae,qah,qac,qaa,qab,qai]) only[qbh,qat,qaX,qao,qan,qal,qak,qar,qay,qaJ,qaq,qaH,qaG,qaj,qaY,qaD,qa3,zM,zN,zO,zP,zG,zC,zI,zR,zQ,zK,zJ,Nat.reduceAdd,Nat.reduceSub,qap,qa5,qb5,qbn,qbV,qb6,qcZ,qcR,aggR_some,op_build,qbC,zzE,zzA,zzD,zw,zzG,za,zd,zU,zF,Nat.reduceEqDiff,Nat.reduceLeDiff,Nat.reduceLT,zu,zD,zE,zA,zB,Nat.le_refl,zT,zL,zb,qcj,zk,zB,zA,qbz,N_mul,qaW,qbJ,Nat.reduceLT,Nat.reduceLeDiff,Nat.reduceEqDiff,Nat.reduceAdd,zL,zT,qce,zg,ze,qch,qcA,qcB,qcC,appX_none,op_iaS,iaSV_isl,qdd,qcX,qaI,qaZ,qaA,qa6,zk,qa9,qbo,qbE,qca,zY,zW,zx,z6,z0,qbQ,qba,za,zd,Nat.testBit,Nat.reduceShiftRight,Nat.reduceAnd,Nat.reduceBEq,ze,zg,zy,zU,zj,Nat.reduceSub,Nat.reduceLT,bne,qbg,qbG,qbS,qbp,qbZ,qdc,zj,zU,qcL,qaU,qam,qdo,qam,qaU,L16b4,h1,hi,c0,c1,c2,c3,hlit,fr_w,qaQ,ibp_nms,hap]
  clear hJ
  refine ⟨_,rfl,?_⟩
  refine qaT [(1,0),(31,0)] rfl (by simp only[qav,FUEL,qaz,qax,qaB,qaE,qaQ,qcM,qaO,zV,zX,zI,zR,zQ,zz,zC,zW,zY,zF,zm,zn,zf,Nat.reduceEqDiff,zS,zZ,zl,zD,zE,zb,zh,zq,zp,zo,ne_eq,zt,qap,qaN,qaL,qaC,qbb,qbj,L16k4,RF_nms,qaQ,qbj,qaP,qbw,h0]) (by simp only[zC,zG,qaN,qaL,qaC,L16k4,zG,zC,qbO]; rfl) ⟨_,.inr ⟨by omega,rfl,?_,?_⟩⟩
  · exact qau (1,0) rfl (by simp (disch:=first|omega|decide|simp only[qaf,qad,qag,qae,qah,qac,qaa,qab,qai]) only[qap,zF,Nat.reduceEqDiff,zS,zZ,zE,zh,h0]) (by rw[qcS,qcD])
  · refine (qcW _ _ 1 (31, 0) _ rfl (by simp (disch := first | omega | decide | simp only [qaf, qad, qag, qae, qah, qac, qaa, qab, qai]) only [qap, zF, Nat.reduceEqDiff, zS, zu, zD, zE, zh]; rfl)).trans ?_
    rw[qaK]
theorem r4_round (k n i:Nat) (hn:n≤8) (key:List (BitVec 8)) (hk:key.length=4*n) (hi:i < n) (st:St) (hJ:r4J n key i st) :
    ∃ st1,ev (envC C k) k L16b4 st=some (.normal,st1)∧r4J n key (i+1) (qcr L16k4 st1):=by
  by_cases h0:0 < i
  · exact r4_roundS k n i hn key hk hi h0 st hJ
  · obtain rfl : i = 0 := by omega
    exact r4_roundZ k n hn key hk hi st hJ
end Aes
namespace Aes
open Go Go.LE
set_option maxRecDepth 20000
def r2J (n m:Nat) (key:List (BitVec 8)) (cst:BitVec 8) (t:R) (a b d:LV) (j:Nat) (st:St):Prop := ∃ (H:Heap),
  st=⟨[.undef,.undef,.undef,.undef,N n,.ptr (1,0) 0,.undef,.sl (1,1) 0 (n+m) none 4,.undef,B8 cst,N (n+m),.ptr (1,2) 0,N j,.undef,.undef,.undef,.undef,.undef,.undef,.undef,.undef,.undef,.undef,.undef,.undef,.undef,.undef,.undef,.undef,.undef,.undef,.undef,.undef,.undef,.undef,.undef,.undef,.undef,.undef,.undef,.undef,.undef,.undef,.undef,.undef,.undef,.undef,.undef,.undef,.undef,.undef,.undef,.undef,.undef,.undef,.undef,.undef,.undef,.undef,.undef,.undef,.undef,.undef,.undef,.undef,.undef,.undef,.undef,.undef,.undef,.undef,.undef,.undef,.undef,.undef,.undef,.undef,.undef,.undef,.undef,.undef,.undef,.undef,.undef,.undef,.undef,.undef,.undef,.undef,.undef,.undef,.undef,.undef,.undef,.undef,.undef,.undef,.undef,.undef,.undef,.undef,.undef,.undef,.undef,.undef,.undef,.undef,.undef,.undef,.undef,.undef,.undef,.undef,.undef,.undef,.undef,.undef,.undef,.undef,.undef,.undef,.undef,.undef,.undef,.undef,.undef,.undef,.undef,.undef,.undef,.undef,a,b,d,.undef,.undef,.undef,.undef,.undef,.undef,.undef,.undef,.undef,.undef,.undef,.undef,.undef,.undef,.undef,.undef,.undef,.undef,.undef,.undef,.undef,.undef,.undef,.undef,.undef,.undef,.undef,.undef,.undef,.undef,.undef,.undef,.undef,.undef,.undef,.undef,.undef,.undef,.undef,.undef,.undef,.undef,.undef,.undef,.undef,.undef,.undef,.undef,.undef,.undef,.undef,.undef,.undef,.undef,.undef,.undef,.undef,.undef,.undef,.undef,.undef,.undef,.undef,.undef,.undef,.undef,.undef,.undef,.undef,.undef,.undef,.undef,.undef,.undef,.undef,.undef,.undef,.undef,.undef,.undef,.undef,.undef,.undef,.undef,.undef,.undef],H,2,0⟩ ∧
  H (1,0)=some (RF Nil TB)∧H (1,1)=some (bs (KS n key m).1)∧H (1,2)=some (aB 4 fun q=>if q < j then t q ^^^ wd (KS n key m).1 m q else t q)
theorem Pl3 {a b d:LV} (h:Pl [a,b,d]):(nms D a=[]∧nms D b=[]∧nms D d=[])∧(∀ π,ren D π a=a∧ren D π b=b∧ren D π d=d):=by
  obtain ⟨h1,h2⟩:=h
  simp only[zV,zX,List.append_eq_nil_iff,zQ] at h1
  refine ⟨h1,fun π => ?_⟩
  have:=h2 π
  simp only[zG,zC,List.cons.injEq,zS] at this
  exact this
theorem wcell1 (ws:List (BitVec 8)) (i o j:Nat) (ho:o=i*4+j) (h:i*4+j < ws.length):cellK o 1 (some (bs ws))=some [B8 (wd ws i j)]:=by
  subst ho
  rw[bs_cells _ _ 1 (by omega),List.drop_eq_getElem_cons h,wd,Nat.mul_comm 4 i,List.getD_eq_getElem?_getD,List.getElem?_eq_getElem h]
  rfl
theorem wcell0 (ws:List (BitVec 8)) (i o:Nat) (ho:o=i*4) (h:4*(i+1)≤ws.length):cellK o 4 (some (bs ws))=some (aB 4 (wd ws i)):=by
  have:=wcell ws 0 i o ho h
  rwa [z7,zQ] at this
theorem r2_round (k n m:Nat) (hn:n=4∨n=8) (hm:m < 60) (key:List (BitVec 8)) (hk:key.length=4*n) (cst:BitVec 8) (t:R) (a b d:LV) (hp:Pl [a,b,d]) (j:Nat) (hj:j < 4) (st:St) (hJ:r2J n m key cst t a b d j st) :
    ∃ st1,ev (envC C k) k L16b2 st=some (.normal,st1)∧r2J n m key cst t a b d (j+1) (qcr L16k2 st1):=by
  obtain ⟨H,rfl,h0,h1,h2⟩:=hJ
  obtain ⟨⟨na,nb,nd⟩,hr⟩:=Pl3 hp
  have hl:=KS_length n key hk m
  have hw:=wcell1 (KS n key m).1 m (m*4+j) j rfl (by omega)
  have e1:n+m - n=m:=by omega
  have hi2:m < n+m:=by omega
  have hs:set1 (fun q=>if q < j then t q ^^^ wd (KS n key m).1 m q else t q) j (t j ^^^ wd (KS n key m).1 m j)=fun q=>if q < j+1 then t q ^^^ wd (KS n key m).1 m q else t q:=by
    funext q
    simp only[set1]
    by_cases h:q=j
    · subst h; rw[if_pos rfl,if_pos (Nat.lt_succ_self _)]
    · rw [if_neg h]
      by_cases h':q < j
      · rw[if_pos h',if_pos (by omega)]
      · rw[if_neg h',if_neg (by omega)]
  simp (disch:=first|omega|decide|simp only[qaf,qad,qag,qae,qah,qac,qaa,qab,qai]) only[qbh,qat,qaX,qao,qan,qal,qak,qar,qbc,qay,qaJ,qaq,qaH,qaG,qaj,qaY,qaD,qa3,qbU,zM,zN,zO,zP,zG,zC,zQ,zK,zJ,B8_xor,Nat.reduceAdd,Nat.reduceSub,qb5,qaR,qbn,qbV,qbF,qbl,op_iaA,iaV_lt,za,zd,zU,Nat.reduceLT,zD,zE,zA,zB,zT,aB_cell,aB_st,zk,zB,zA,qbz,N_sub,qaW,qbJ,Nat.reduceLT,Nat.reduceAdd,zi,zT,qce,zg,ze,op_iaS,qdf,qaI,qaA,qa6,zk,qa9,qbo,qbE,qca,qcl,qaE,zY,zW,zx,z6,z0,qbQ,qba,za,zd,Nat.testBit,Nat.reduceShiftRight,Nat.reduceAnd,Nat.reduceBEq,ze,zg,zy,zU,zj,Nat.reduceSub,Nat.reduceLT,bne,qbg,qbG,qbS,qbp,qbZ,qb0,zj,zU,qaU,qam,qam,qaU,L16b2,h1,h2,hj,hw,e1,zi,hs]
  refine ⟨_,rfl,?_⟩
  refine qaT [(1,0),(1,1),(1,2)] rfl (by simp only[qav,FUEL,qaz,qax,qaB,qaE,qaQ,qbU,qaO,zV,zX,zI,zR,zQ,zz,zC,zW,zY,zF,zm,zn,zf,Nat.reduceEqDiff,zZ,zl,zD,zE,zb,zq,zp,zo,ne_eq,zt,qap,qaN,qaL,qaC,qbb,qbj,L16k2,qbP,RF_nms,qaQ,qbj,qaP,h0,h1,h2,na,nb,nd]) (by simp only[zC,zG,qaN,qaL,qaC,L16k2,zG,zC,hr]; rfl) ⟨_,rfl,?_,?_,?_⟩
  · exact qau (1,0) rfl (by simp (disch:=first|omega|decide|simp only[qaf,qad,qag,qae,qah,qac,qaa,qab,qai]) only[qap,zF,Nat.reduceEqDiff,zZ,zE,h0]) (by rw[qcS,qcD])
  · exact qau (1,1) rfl (by simp (disch:=first|omega|decide|simp only[qaf,qad,qag,qae,qah,qac,qaa,qab,qai]) only[qap,zF,Nat.reduceEqDiff,zZ,zE,h1]) (qaK _ _)
  · exact qau (1,2) rfl (by simp (disch:=first|omega|decide|simp only[qaf,qad,qag,qae,qah,qac,qaa,qab,qai]) only[qap,zD]) (qa4 _ _ _)
theorem RF_bx (r:LV) (x:BitVec 8):cellK (1+x.toNat) 1 (some (RF r TB))=some [B8 (BX x.toNat)]:=by
  have:=x.isLt
  rw[Nat.add_comm,RF_at r _ _ (by omega),TB_bx]
def r3J (n:Nat) (key:List (BitVec 8)) (m:Nat) (st:St):Prop := ∃ (H:Heap) (a b d:LV),Pl [a,b,d] ∧
  st=⟨[.undef,.undef,.undef,.undef,N n,.ptr (1,0) 0,.undef,.sl (1,1) 0 (n+m) none 4,.undef,B8 (KS n key m).2,N (n+m),.undef,.undef,.undef,.undef,.undef,.undef,.undef,.undef,.undef,.undef,.undef,.undef,.undef,.undef,.undef,.undef,.undef,.undef,.undef,.undef,.undef,.undef,.undef,.undef,.undef,.undef,.undef,.undef,.undef,.undef,.undef,.undef,.undef,.undef,.undef,.undef,.undef,.undef,.undef,.undef,.undef,.undef,.undef,.undef,.undef,.undef,.undef,.undef,.undef,.undef,.undef,.undef,.undef,.undef,.undef,.undef,.undef,.undef,.undef,.undef,.undef,.undef,.undef,.undef,.undef,.undef,.undef,.undef,.undef,.undef,.undef,.undef,.undef,.undef,.undef,.undef,.undef,.undef,.undef,.undef,.undef,.undef,.undef,.undef,.undef,.undef,.undef,.undef,.undef,.undef,.undef,.undef,.undef,.undef,.undef,.undef,.undef,.undef,.undef,.undef,.undef,.undef,.undef,.undef,.undef,.undef,.undef,.undef,.undef,.undef,.undef,.undef,.undef,.undef,.undef,.undef,.undef,.undef,.undef,.undef,a,b,d,.undef,.undef,.undef,.undef,.undef,.undef,.undef,.undef,.undef,.undef,.undef,.undef,.undef,.undef,.undef,.undef,.undef,.undef,.undef,.undef,.undef,.undef,.undef,.undef,.undef,.undef,.undef,.undef,.undef,.undef,.undef,.undef,.undef,.undef,.undef,.undef,.undef,.undef,.undef,.undef,.undef,.undef,.undef,.undef,.undef,.undef,.undef,.undef,.undef,.undef,.undef,.undef,.undef,.undef,.undef,.undef,.undef,.undef,.undef,.undef,.undef,.undef,.undef,.undef,.undef,.undef,.undef,.undef,.undef,.undef,.undef,.undef,.undef,.undef,.undef,.undef,.undef,.undef,.undef,.undef,.undef,.undef,.undef,.undef,.undef,.undef],H,2,0⟩ ∧
  H (1,0)=some (RF Nil TB)∧H (1,1)=some (bs (KS n key m).1)
end Aes
namespace Aes
open Go Go.LE
set_option maxRecDepth 20000
theorem r3_roundA (k n:Nat) (hn:n=4∨n=8) (key:List (BitVec 8)) (hk:key.length=4*n) (m:Nat) (hm:m < 3*n+28) (h4:(n+m) % n=0) (st:St) (hJ:r3J n key m st) :
    ∃ st1,ev (envC C (k+11)) (k+11) L16b3 st=some (.normal,st1)∧r3J n key (m+1) (qcr L16k3 st1):=by
  obtain ⟨H,a,b,d,hp,rfl,h0,h1⟩:=hJ
  obtain ⟨⟨na,nb,nd⟩,hr⟩:=Pl3 hp
  have hl:=KS_length n key hk m
  have hlt:n+m < 4*(n+7):=by omega
  have hw:=wcell0 (KS n key m).1 (n+m - 1) ((n+m - 1)*4) rfl (by omega)
  have hi1:n+m - 1 < n+m:=by omega
  have hmu:∀ a b,F C (k+11) 33 [B8 a,B8 b] []=some (B8 (mul a b),[],[]):=fun a b=>rmulF k a b
  have htw:[B8 (BX (wd (KS n key m).1 (n+m - 1) 1).toNat ^^^ (KS n key m).2),B8 (BX (wd (KS n key m).1 (n+m - 1) 2).toNat),B8 (BX (wd (KS n key m).1 (n+m - 1) 3).toNat),B8 (BX (wd (KS n key m).1 (n+m - 1) 0).toNat)]=aB 4 (tw n (KS n key m).2 (n+m) (KS n key m).1):=by
    rw[tw,if_pos h4]; simp only[aB4_bs,zD,zb,zE,show ¬ (2=0) by decide,show ¬ (3=0) by decide,BitVec.xor_zero]; rfl
  have hx:KS n key (m+1)=(ext4 (KS n key m).1 (nwd n (KS n key m).2 (n+m) (KS n key m).1),(T2 (KS n key m).2)):=by
    rw[KS,kstep,if_pos h4]
  simp (disch:=first|omega|decide|simp only[qbU,nms_B32,qbR,nms_I,qbb,qci,qcM,qaO,nms_Hf,qaE,qaQ,qbe,qc6,qc8,qc3,zV,zX,zI,zQ,ren_B8,ren_B32,qcu,ren_I,ren_N,ren_Bo,ren_Un,qdj,ren_Hf,qbN,qc7,qc9,qcY,zG,zC,ren7_I,ren7_N,ren7_Bo,ren7_B8,ren7_B32,ren7_B64,nms7_I,nms7_N,nms7_Bo,nms7_B8,nms7_B32,nms7_B64,qcV,qb8,implies_true,l32,l33,qaf,qaP,qaK,qbw,qbO,qad,qag,qae,qah,qac,qaa,qab,qai]) only[qbh,qat,qaX,qao,qan,qal,qak,qar,qbc,qay,qaJ,qaq,qaH,qaG,qa7,qa1,qaj,qaD,qa3,zM,zN,zO,zP,zG,zC,zI,zR,zQ,zK,zJ,B8_xor,B8_nat,qda,calK_B8,qbH,Nat.reduceAdd,Nat.reduceSub,qap,qa5,qb5,qaR,qbn,qbv,qbV,qco,qcO,qbF,qbl,qdh,op_fa,qcy,op_iaA,iaV_lt,qb6,qcZ,qcR,aggR_some,op_build,qbC,zzE,zzA,zzD,zw,zzG,za,zd,zU,zF,Nat.reduceEqDiff,Nat.reduceLeDiff,Nat.reduceLT,zS,zu,zD,zE,zA,zB,Nat.le_refl,zT,qcj,aB_cell,qcz,qbe,qae,zk,zB,zA,B8_nat,qbz,N_sub,N_mul,N_rem,N_eql,qaW,qbJ,Nat.reduceLT,Nat.reduceLeDiff,Nat.reduceEqDiff,Nat.reduceAdd,zT,qce,zg,ze,op_chk,qcq,op_iaS,qdf,qaI,qaZ,qaA,qa6,zk,qa9,qbo,qbE,qca,qcl,qaE,zY,zW,zx,z6,z0,qbQ,qba,za,zd,Nat.testBit,Nat.reduceShiftRight,Nat.reduceAnd,Nat.reduceBEq,ze,zg,zy,zU,zj,Nat.reduceSub,Nat.reduceLT,bne,qbg,qbG,qbS,qbp,qbZ,qb0,zj,zU,qaU,qam,qam,qaU,L16b3,h0,h1,hlt,hw,h4,hmu,mul_T2',RF_bx,htw]
  generalize hL2:qbW L16k2 _ _ _=r
  refine qby hL2 (r2J n m key (T2 (KS n key m).2) (tw n (KS n key m).2 (n+m) (KS n key m).1) a b d) 4 (by omega) (fun j st hj hJ=>r2_round _ n m hn (by omega) key hk _ _ a b d hp j hj st hJ) ?_ ?_ ?_
  · refine qaT [(1, 0), (1, 1), (12, 0)] rfl (by simp only [qav, FUEL, qaz, qax, qaB, qaE, qaQ, qbU, qaO, zV, zX, zI, zR, zQ, zz, zC, zW, zY, zF, zm, zn, zf, Nat.reduceEqDiff, zS, zZ, zl, zD, zE, zb, zh, zq, zp, zo, ne_eq, zt, qap, qaN, qaL, qaC, qbb, qbj, L16k2, qbP, RF_nms, qaQ, qbj, qaP, h0, h1, na, nb, nd]) (by simp only [zC, zG, qaN, qaL, qaC, L16k2, zG, zC, hr]; rfl) ⟨_, rfl, ?_, ?_, ?_⟩
    · exact qau (1,0) rfl (by simp (disch:=first|omega|decide|simp only[qaf,qad,qag,qae,qah,qac,qaa,qab,qai]) only[qap,zF,Nat.reduceEqDiff,zS,zE,h0]) (by rw[qcS,qcD])
    · exact qau (1,1) rfl (by simp (disch:=first|omega|decide|simp only[qaf,qad,qag,qae,qah,qac,qaa,qab,qai]) only[qap,zF,Nat.reduceEqDiff,zu,zE,zb,h1]) (qaK _ _)
    · exact qau (12,0) rfl (by simp (disch:=first|omega|decide|simp only[qaf,qad,qag,qae,qah,qac,qaa,qab,qai]) only[qap,zD]; rfl) (qa4 _ _ _)
  · rintro st ⟨H, rfl, h0, h1, h2⟩
    apply qbs
    simp (disch:=first|omega|decide|simp only[qaf,qad,qag,qae,qah,qac,qaa,qab,qai]) only[qa0,qat,qao,qan,qal,qak,qar,qay,qaJ,qaq,qaH,qaG,qaj,qaF,qaD,qas,zM,zN,zO,zP,zK,zJ,Nat.reduceAdd,zA,zB,zL,zB,zA,qaW,Nat.reduceAdd,zi,zL,qaI,qaA,qam,L16b2]
    rfl
  · rintro st ⟨H, rfl, h0, h1, h2⟩ rfl
    have hb:(aB 4 fun q=>if q < 4 then tw n (KS n key m).2 (n+m) (KS n key m).1 q ^^^ wd (KS n key m).1 m q else tw n (KS n key m).2 (n+m) (KS n key m).1 q)=aB 4 (nwd n (KS n key m).2 (n+m) (KS n key m).1):=aB_ext _ fun q hq=>by rw[if_pos hq,nwd,zzM]
    rw[hb] at h2
    have hap:∀ (b:Nat),appN b 4 1 0 (n+m) (1,1) (aB 4 (nwd n (KS n key m).2 (n+m) (KS n key m).1)) (some (bs (KS n key m).1))=some ⟨.sl (b,0) 0 (n+m+1) none 4,[bs (KS n key (m+1)).1],[((1,1),none)]⟩:=by
      intro b
      rw[appN,qad,if_pos (by omega),zw,aB4_bs,qcF,bs_append,List.take_of_length_le (by omega),hx,ext4]
    simp (disch:=first|omega|decide|simp only[qaf,qad,qag,qae,qah,qac,qaa,qab,qai]) only[qa0,qat,qao,qan,qal,qak,qar,qay,qaJ,qaq,qaH,qaG,qaj,qaF,qaY,qa8,qaD,qas,zM,zN,zO,zP,zG,zC,zI,zQ,zK,zJ,Nat.reduceAdd,qap,qa5,qaR,qbv,qco,qb6,qcZ,qcR,qbC,zzA,zzD,zzG,zF,Nat.reduceEqDiff,zu,zD,zE,zA,zB,Nat.le_refl,zL,zb,qcj,qcb,zB,zA,qbz,qaW,Nat.reduceEqDiff,Nat.reduceAdd,zi,zL,qch,qcA,qcB,qcC,appX_none,qdd,qcX,qaI,qaZ,qaA,qa6,qcL,qam,qam,L16b2,h1,h2,fr_w,hap]
    have hx2:(KS n key (m+1)).2=(T2 (KS n key m).2):=by rw[hx]
    refine ⟨_,rfl,?_⟩
    refine qaT [(1,0),(7,0)] rfl (by simp only[qav,FUEL,qaz,qax,qaB,qaE,qaQ,qbU,qaO,zV,zX,zI,zR,zQ,zz,zC,zW,zY,zF,zm,zn,zf,Nat.reduceEqDiff,zS,zZ,zl,zD,zE,zb,zh,zq,zp,zo,ne_eq,zt,qap,qaN,qaL,qaC,qbb,qbj,L16k3,RF_nms,qaQ,qbj,qaP,h0,na,nb,nd]) (by simp only[zC,zG,qaN,qaL,qaC,L16k3,zG,zC,hr]; rfl) ⟨_,a,b,d,hp,by rw[hx2]; rfl,?_,?_⟩
    · exact qau (1,0) rfl (by simp (disch:=first|omega|decide|simp only[qaf,qad,qag,qae,qah,qac,qaa,qab,qai]) only[qap,zF,Nat.reduceEqDiff,zS,zZ,zE,zh,h0]) (by rw[qcS,qcD])
    · exact qau (7,0) rfl (by simp (disch:=first|omega|decide|simp only[qaf,qad,qag,qae,qah,qac,qaa,qab,qai]) only[qap,zF,Nat.reduceEqDiff,zS,zu,zD,zE,zh]) (qaK _ _)
end Aes
namespace Aes
open Go Go.LE
set_option maxRecDepth 20000
theorem r3_roundB (k:Nat) (key:List (BitVec 8)) (hk:key.length=4*8) (m:Nat) (hm:m < 3*8+28) (h4:(8+m) % 8≠0) (h8:(8+m) % 8=4) (st:St) (hJ:r3J 8 key m st) :
    ∃ st1,ev (envC C (k+11)) (k+11) L16b3 st=some (.normal,st1)∧r3J 8 key (m+1) (qcr L16k3 st1):=by
  obtain ⟨H,a,b,d,hp,rfl,h0,h1⟩:=hJ
  obtain ⟨⟨na,nb,nd⟩,hr⟩:=Pl3 hp
  have hl:=KS_length 8 key hk m
  have hlt:8+m < 4*(8+7):=by omega
  have hw:=wcell0 (KS 8 key m).1 (8+m - 1) ((8+m - 1)*4) rfl (by omega)
  have hi1:8+m - 1 < 8+m:=by omega
  have hmu:∀ a b,F C (k+11) 33 [B8 a,B8 b] []=some (B8 (mul a b),[],[]):=fun a b=>rmulF k a b
  have htw:[B8 (BX (wd (KS 8 key m).1 (8+m - 1) 0).toNat),B8 (BX (wd (KS 8 key m).1 (8+m - 1) 1).toNat),B8 (BX (wd (KS 8 key m).1 (8+m - 1) 2).toNat),B8 (BX (wd (KS 8 key m).1 (8+m - 1) 3).toNat)]=aB 4 (tw 8 (KS 8 key m).2 (8+m) (KS 8 key m).1):=by
    rw[tw,if_neg h4,if_pos ⟨rfl,h8⟩]; rfl
  have hx:KS 8 key (m+1)=(ext4 (KS 8 key m).1 (nwd 8 (KS 8 key m).2 (8+m) (KS 8 key m).1),(KS 8 key m).2):=by
    rw[KS,kstep,if_neg h4]
  simp (disch:=first|omega|decide|simp only[qaf,qad,qag,qae,qah,qac,qaa,qab,qai]) only[qbh,qat,qaX,qao,qan,qal,qak,qbm,guardK_true,qar,qbc,qay,qaJ,qaq,qdv,qaH,qcx,qaG,qaj,qaD,qa3,qas,zM,zN,zO,zP,zG,zC,zI,zR,zQ,zK,zJ,B8_nat,qbH,Nat.reduceAdd,Nat.reduceSub,qap,qa5,qb5,qaR,qbn,qbv,qbV,qco,qcO,qbF,qbl,qdh,op_fa,qcy,op_iaA,iaV_lt,qb6,qcZ,qcR,aggR_some,op_build,qbC,zzE,zzA,zzD,zw,zzG,za,zd,zU,zF,Nat.reduceEqDiff,Nat.reduceLeDiff,Nat.reduceLT,zS,zu,zD,zE,zA,zB,Nat.le_refl,zT,zL,qcj,aB_cell,qcz,qbe,qae,zk,zB,zA,B8_nat,qbz,N_sub,N_mul,N_rem,N_eql,qaW,qbJ,Nat.reduceLT,Nat.reduceLeDiff,Nat.reduceEqDiff,Nat.reduceMul,Nat.reduceAdd,zL,zT,qce,zg,ze,op_chk,qcq,op_iaS,qdf,qaI,qaZ,qaA,qa6,zk,qa9,qbo,qbE,qca,qcl,qaE,zY,zW,zx,z6,z0,qbQ,qba,za,zd,Nat.testBit,Nat.reduceShiftRight,Nat.reduceAnd,Nat.reduceBEq,ze,zg,zy,zU,zj,Nat.reduceSub,Nat.reduceLT,bne,qbg,qbG,qbS,qbp,qbZ,qb0,zj,zU,qaU,qam,qam,qaU,L16b3,h0,h1,hlt,hw,h8,RF_bx,htw]
  generalize hL2:qbW L16k2 _ _ _=r
  refine qby hL2 (r2J 8 m key (KS 8 key m).2 (tw 8 (KS 8 key m).2 (8+m) (KS 8 key m).1) (N (8+m)) (N 4) (Bo true)) 4 (by omega) (fun j st hj hJ=>r2_round _ 8 m (.inr rfl) (by omega) key hk _ _ (N (8+m)) (N 4) (Bo true) ⟨rfl,fun _=>rfl⟩ j hj st hJ) ?_ ?_ ?_
  · refine qaT [(1, 0), (1, 1), (12, 0)] rfl (by simp only [qav, FUEL, qaz, qax, qaB, qaE, qaQ, qbU, qci, qaO, zV, zX, zI, zR, zQ, zz, zC, zW, zY, zF, zm, zn, zf, Nat.reduceEqDiff, zS, zZ, zl, zD, zE, zb, zh, zq, zp, zo, ne_eq, zt, qap, qaN, qaL, qaC, qbb, qbj, L16k2, qbP, RF_nms, qaQ, qbj, qaP, h0, h1]) (by simp only [zC, zG, qaN, qaL, qaC, L16k2, zG, zC]; rfl) ⟨_, rfl, ?_, ?_, ?_⟩
    · exact qau (1,0) rfl (by simp (disch:=first|omega|decide|simp only[qaf,qad,qag,qae,qah,qac,qaa,qab,qai]) only[qap,zF,Nat.reduceEqDiff,zS,zE,h0]) (by rw[qcS,qcD])
    · exact qau (1,1) rfl (by simp (disch:=first|omega|decide|simp only[qaf,qad,qag,qae,qah,qac,qaa,qab,qai]) only[qap,zF,Nat.reduceEqDiff,zu,zE,zb,h1]) (qaK _ _)
    · exact qau (12,0) rfl (by simp (disch:=first|omega|decide|simp only[qaf,qad,qag,qae,qah,qac,qaa,qab,qai]) only[qap,zD]; rfl) (qa4 _ _ _)
  · rintro st ⟨H, rfl, h0, h1, h2⟩
    apply qbs
    simp (disch:=first|omega|decide|simp only[qaf,qad,qag,qae,qah,qac,qaa,qab,qai]) only[qa0,qat,qao,qan,qal,qak,qar,qay,qaJ,qaq,qaH,qaG,qaj,qaF,qaD,qas,zM,zN,zO,zP,zK,zJ,Nat.reduceAdd,zA,zB,zL,zB,zA,qaW,Nat.reduceAdd,zi,zL,qaI,qaA,qam,L16b2]
    rfl
  · rintro st ⟨H, rfl, h0, h1, h2⟩ rfl
    have hb:(aB 4 fun q=>if q < 4 then tw 8 (KS 8 key m).2 (8+m) (KS 8 key m).1 q ^^^ wd (KS 8 key m).1 m q else tw 8 (KS 8 key m).2 (8+m) (KS 8 key m).1 q)=aB 4 (nwd 8 (KS 8 key m).2 (8+m) (KS 8 key m).1):=aB_ext _ fun q hq=>by rw[if_pos hq,nwd,zzM]
    rw[hb] at h2
    have hap:∀ (b:Nat),appN b 4 1 0 (8+m) (1,1) (aB 4 (nwd 8 (KS 8 key m).2 (8+m) (KS 8 key m).1)) (some (bs (KS 8 key m).1))=some ⟨.sl (b,0) 0 (8+m+1) none 4,[bs (KS 8 key (m+1)).1],[((1,1),none)]⟩:=by
      intro b
      rw[appN,qad,if_pos (by omega),zw,aB4_bs,qcF,bs_append,List.take_of_length_le (by omega),hx,ext4]
    simp (disch:=first|omega|decide|simp only[qaf,qad,qag,qae,qah,qac,qaa,qab,qai]) only[qa0,qat,qao,qan,qal,qak,qar,qay,qaJ,qaq,qaH,qaG,qaj,qaF,qaY,qa8,qaD,qas,zM,zN,zO,zP,zG,zC,zI,zQ,zK,zJ,Nat.reduceAdd,qap,qa5,qaR,qbv,qco,qb6,qcZ,qcR,qbC,zzA,zzD,zzG,zF,Nat.reduceEqDiff,zu,zD,zE,zA,zB,Nat.le_refl,zL,zb,qcj,qcb,zB,zA,qbz,qaW,Nat.reduceEqDiff,Nat.reduceAdd,zi,zL,qch,qcA,qcB,qcC,appX_none,qdd,qcX,qaI,qaZ,qaA,qa6,qcL,qam,qam,L16b2,h1,h2,fr_w,hap]
    have hx2:(KS 8 key (m+1)).2=(KS 8 key m).2:=by rw[hx]
    refine ⟨_,rfl,?_⟩
    refine qaT [(1,0),(7,0)] rfl (by simp only[qav,FUEL,qaz,qax,qaB,qaE,qaQ,qbU,qci,qaO,zV,zX,zI,zR,zQ,zz,zC,zW,zY,zF,zm,zn,zf,Nat.reduceEqDiff,zS,zZ,zl,zD,zE,zb,zh,zq,zp,zo,ne_eq,zt,qap,qaN,qaL,qaC,qbb,qbj,L16k3,RF_nms,qaQ,qbj,qaP,h0]) (by simp only[zC,zG,qaN,qaL,qaC,L16k3,zG,zC]; rfl) ⟨_,N (8+m),N 4,Bo true,⟨rfl,fun _=>rfl⟩,by rw[hx2]; rfl,?_,?_⟩
    · exact qau (1,0) rfl (by simp (disch:=first|omega|decide|simp only[qaf,qad,qag,qae,qah,qac,qaa,qab,qai]) only[qap,zF,Nat.reduceEqDiff,zS,zZ,zE,zh,h0]) (by rw[qcS,qcD])
    · exact qau (7,0) rfl (by simp (disch:=first|omega|decide|simp only[qaf,qad,qag,qae,qah,qac,qaa,qab,qai]) only[qap,zF,Nat.reduceEqDiff,zS,zu,zD,zE,zh]) (qaK _ _)
end Aes
namespace Aes
open Go Go.LE
set_option maxRecDepth 20000
theorem r3_roundC (k:Nat) (key:List (BitVec 8)) (hk:key.length=4*4) (m:Nat) (hm:m < 3*4+28) (h4:(4+m) % 4≠0) (st:St) (hJ:r3J 4 key m st) :
    ∃ st1,ev (envC C (k+11)) (k+11) L16b3 st=some (.normal,st1)∧r3J 4 key (m+1) (qcr L16k3 st1):=by
  obtain ⟨H,a,b,d,hp,rfl,h0,h1⟩:=hJ
  obtain ⟨⟨na,nb,nd⟩,hr⟩:=Pl3 hp
  have hl:=KS_length 4 key hk m
  have hlt:4+m < 4*(4+7):=by omega
  have hw:=wcell0 (KS 4 key m).1 (4+m - 1) ((4+m - 1)*4) rfl (by omega)
  have hi1:4+m - 1 < 4+m:=by omega
  have hmu:∀ a b,F C (k+11) 33 [B8 a,B8 b] []=some (B8 (mul a b),[],[]):=fun a b=>rmulF k a b
  have htw:aB 4 (wd (KS 4 key m).1 (4+m - 1))=aB 4 (tw 4 (KS 4 key m).2 (4+m) (KS 4 key m).1):=by
    rw[tw,if_neg h4,if_neg (by omega)]
  have hx:KS 4 key (m+1)=(ext4 (KS 4 key m).1 (nwd 4 (KS 4 key m).2 (4+m) (KS 4 key m).1),(KS 4 key m).2):=by
    rw[KS,kstep,if_neg h4]
  simp (disch:=first|omega|decide|simp only[qaf,qad,qag,qae,qah,qac,qaa,qab,qai]) only[qbh,qat,qaX,qao,qan,qal,qak,qbm,guardK_false,qar,qbc,qay,qaJ,qaq,qcd,qaH,qcx,qaG,qaj,qaD,qa3,qas,zM,zN,zO,zP,zI,zQ,zK,zJ,qbH,Nat.reduceAdd,qap,qa5,qaR,qbv,qco,qcO,qbF,qbl,qdh,qbC,zzA,zzD,zzG,Nat.reduceEqDiff,zu,zD,zA,zB,Nat.le_refl,zT,zL,qcj,qae,zB,zA,qbz,N_sub,N_mul,N_rem,N_eql,qaW,qbJ,Nat.reduceEqDiff,Nat.reduceMul,Nat.reduceAdd,zL,zT,op_iaS,qdf,qaI,qaZ,qaA,qa6,qam,qam,L16b3,h1,hlt,hw,h4,htw]
  generalize hL2:qbW L16k2 _ _ _=r
  refine qby hL2 (r2J 4 m key (KS 4 key m).2 (tw 4 (KS 4 key m).2 (4+m) (KS 4 key m).1) Un Un Un) 4 (by omega) (fun j st hj hJ=>r2_round _ 4 m (.inl rfl) (by omega) key hk _ _ Un Un Un ⟨rfl,fun _=>rfl⟩ j hj st hJ) ?_ ?_ ?_
  · refine qaT [(1, 0), (1, 1), (12, 0)] rfl (by simp only [qav, FUEL, qaz, qax, qaB, qaE, qaQ, qbU, qcM, qaO, zV, zX, zI, zR, zQ, zz, zC, zW, zY, zF, zm, zn, zf, Nat.reduceEqDiff, zS, zZ, zl, zD, zE, zb, zh, zq, zp, zo, ne_eq, zt, qap, qaN, qaL, qaC, qbb, qbj, L16k2, qbP, RF_nms, qaQ, qbj, qaP, h0, h1]) (by simp only [zC, zG, qaN, qaL, qaC, L16k2, zG, zC]; rfl) ⟨_, rfl, ?_, ?_, ?_⟩
    · exact qau (1,0) rfl (by simp (disch:=first|omega|decide|simp only[qaf,qad,qag,qae,qah,qac,qaa,qab,qai]) only[qap,zF,Nat.reduceEqDiff,zS,zE,h0]) (by rw[qcS,qcD])
    · exact qau (1,1) rfl (by simp (disch:=first|omega|decide|simp only[qaf,qad,qag,qae,qah,qac,qaa,qab,qai]) only[qap,zF,Nat.reduceEqDiff,zu,zE,zb,h1]) (qaK _ _)
    · exact qau (12,0) rfl (by simp (disch:=first|omega|decide|simp only[qaf,qad,qag,qae,qah,qac,qaa,qab,qai]) only[qap,zD]; rfl) (qa4 _ _ _)
  · rintro st ⟨H, rfl, h0, h1, h2⟩
    apply qbs
    simp (disch:=first|omega|decide|simp only[qaf,qad,qag,qae,qah,qac,qaa,qab,qai]) only[qa0,qat,qao,qan,qal,qak,qar,qay,qaJ,qaq,qaH,qaG,qaj,qaF,qaD,qas,zM,zN,zO,zP,zK,zJ,Nat.reduceAdd,zA,zB,zL,zB,zA,qaW,Nat.reduceAdd,zi,zL,qaI,qaA,qam,L16b2]
    rfl
  · rintro st ⟨H, rfl, h0, h1, h2⟩ rfl
    have hb:(aB 4 fun q=>if q < 4 then tw 4 (KS 4 key m).2 (4+m) (KS 4 key m).1 q ^^^ wd (KS 4 key m).1 m q else tw 4 (KS 4 key m).2 (4+m) (KS 4 key m).1 q)=aB 4 (nwd 4 (KS 4 key m).2 (4+m) (KS 4 key m).1):=aB_ext _ fun q hq=>by rw[if_pos hq,nwd,zzM]
    rw[hb] at h2
    have hap:∀ (b:Nat),appN b 4 1 0 (4+m) (1,1) (aB 4 (nwd 4 (KS 4 key m).2 (4+m) (KS 4 key m).1)) (some (bs (KS 4 key m).1))=some ⟨.sl (b,0) 0 (4+m+1) none 4,[bs (KS 4 key (m+1)).1],[((1,1),none)]⟩:=by
      intro b
      rw[appN,qad,if_pos (by omega),zw,aB4_bs,qcF,bs_append,List.take_of_length_le (by omega),hx,ext4]
    simp (disch:=first|omega|decide|simp only[qaf,qad,qag,qae,qah,qac,qaa,qab,qai]) only[qa0,qat,qao,qan,qal,qak,qar,qay,qaJ,qaq,qaH,qaG,qaj,qaF,qaY,qa8,qaD,qas,zM,zN,zO,zP,zG,zC,zI,zQ,zK,zJ,Nat.reduceAdd,qap,qa5,qaR,qbv,qco,qb6,qcZ,qcR,qbC,zzA,zzD,zzG,zF,Nat.reduceEqDiff,zu,zD,zE,zA,zB,Nat.le_refl,zL,zb,qcj,qcb,zB,zA,qbz,qaW,Nat.reduceEqDiff,Nat.reduceAdd,zi,zL,qch,qcA,qcB,qcC,appX_none,qdd,qcX,qaI,qaZ,qaA,qa6,qcL,qam,qam,L16b2,h1,h2,fr_w,hap]
    have hx2:(KS 4 key (m+1)).2=(KS 4 key m).2:=by rw[hx]
    refine ⟨_,rfl,?_⟩
    refine qaT [(1,0),(7,0)] rfl (by simp only[qav,FUEL,qaz,qax,qaB,qaE,qaQ,qbU,qcM,qaO,zV,zX,zI,zR,zQ,zz,zC,zW,zY,zF,zm,zn,zf,Nat.reduceEqDiff,zS,zZ,zl,zD,zE,zb,zh,zq,zp,zo,ne_eq,zt,qap,qaN,qaL,qaC,qbb,qbj,L16k3,RF_nms,qaQ,qbj,qaP,h0]) (by simp only[zC,zG,qaN,qaL,qaC,L16k3,zG,zC]; rfl) ⟨_,Un,Un,Un,⟨rfl,fun _=>rfl⟩,by rw[hx2]; rfl,?_,?_⟩
    · exact qau (1,0) rfl (by simp (disch:=first|omega|decide|simp only[qaf,qad,qag,qae,qah,qac,qaa,qab,qai]) only[qap,zF,Nat.reduceEqDiff,zS,zZ,zE,zh,h0]) (by rw[qcS,qcD])
    · exact qau (7,0) rfl (by simp (disch:=first|omega|decide|simp only[qaf,qad,qag,qae,qah,qac,qaa,qab,qai]) only[qap,zF,Nat.reduceEqDiff,zS,zu,zD,zE,zh]) (qaK _ _)
end Aes
namespace Aes
open Go Go.LE
set_option maxRecDepth 20000
theorem r3_roundD (k:Nat) (key:List (BitVec 8)) (hk:key.length=4*8) (m:Nat) (hm:m < 3*8+28) (h4:(8+m) % 8≠0) (h8:(8+m) % 8≠4) (st:St) (hJ:r3J 8 key m st) :
    ∃ st1,ev (envC C (k+11)) (k+11) L16b3 st=some (.normal,st1)∧r3J 8 key (m+1) (qcr L16k3 st1):=by
  obtain ⟨H,a,b,d,hp,rfl,h0,h1⟩:=hJ
  obtain ⟨⟨na,nb,nd⟩,hr⟩:=Pl3 hp
  have hl:=KS_length 8 key hk m
  have hlt:8+m < 4*(8+7):=by omega
  have hw:=wcell0 (KS 8 key m).1 (8+m - 1) ((8+m - 1)*4) rfl (by omega)
  have hi1:8+m - 1 < 8+m:=by omega
  have hmu:∀ a b,F C (k+11) 33 [B8 a,B8 b] []=some (B8 (mul a b),[],[]):=fun a b=>rmulF k a b
  have htw:aB 4 (wd (KS 8 key m).1 (8+m - 1))=aB 4 (tw 8 (KS 8 key m).2 (8+m) (KS 8 key m).1):=by
    rw[tw,if_neg h4,if_neg (fun h=>h8 h.2)]
  have hx:KS 8 key (m+1)=(ext4 (KS 8 key m).1 (nwd 8 (KS 8 key m).2 (8+m) (KS 8 key m).1),(KS 8 key m).2):=by
    rw[KS,kstep,if_neg h4]
  simp (disch:=first|omega|decide|simp only[qaf,qad,qag,qae,qah,qac,qaa,qab,qai]) only[qbh,qat,qaX,qao,qan,qal,qak,qbm,guardK_true,qar,qbc,qay,qaJ,qaq,qdv,qaH,qcx,qaG,qaj,qaD,qa3,qas,zM,zN,zO,zP,zI,zQ,zK,zJ,qbH,Nat.reduceAdd,qap,qa5,qaR,qbv,qco,qcO,qbF,qbl,qdh,qbC,zzA,zzD,zzG,zu,zD,zA,zB,Nat.le_refl,zT,zL,qcj,qae,zB,zA,qbz,N_sub,N_mul,N_rem,N_eql,qaW,qbJ,Nat.reduceMul,Nat.reduceAdd,zL,zT,op_iaS,qdf,qaI,qaZ,qaA,qa6,qam,qam,L16b3,h1,hlt,hw,h4,h8,htw]
  generalize hL2:qbW L16k2 _ _ _=r
  refine qby hL2 (r2J 8 m key (KS 8 key m).2 (tw 8 (KS 8 key m).2 (8+m) (KS 8 key m).1) (N (8+m)) (N ((8+m) % 8)) (Bo false)) 4 (by omega) (fun j st hj hJ=>r2_round _ 8 m (.inr rfl) (by omega) key hk _ _ (N (8+m)) (N ((8+m) % 8)) (Bo false) ⟨rfl,fun _=>rfl⟩ j hj st hJ) ?_ ?_ ?_
  · refine qaT [(1, 0), (1, 1), (12, 0)] rfl (by simp only [qav, FUEL, qaz, qax, qaB, qaE, qaQ, qbU, qci, qaO, zV, zX, zI, zR, zQ, zz, zC, zW, zY, zF, zm, zn, zf, Nat.reduceEqDiff, zS, zZ, zl, zD, zE, zb, zh, zq, zp, zo, ne_eq, zt, qap, qaN, qaL, qaC, qbb, qbj, L16k2, qbP, RF_nms, qaQ, qbj, qaP, h0, h1]) (by simp only [zC, zG, qaN, qaL, qaC, L16k2, zG, zC]; rfl) ⟨_, rfl, ?_, ?_, ?_⟩
    · exact qau (1,0) rfl (by simp (disch:=first|omega|decide|simp only[qaf,qad,qag,qae,qah,qac,qaa,qab,qai]) only[qap,zF,Nat.reduceEqDiff,zS,zE,h0]) (by rw[qcS,qcD])
    · exact qau (1,1) rfl (by simp (disch:=first|omega|decide|simp only[qaf,qad,qag,qae,qah,qac,qaa,qab,qai]) only[qap,zF,Nat.reduceEqDiff,zu,zE,zb,h1]) (qaK _ _)
    · exact qau (12,0) rfl (by simp (disch:=first|omega|decide|simp only[qaf,qad,qag,qae,qah,qac,qaa,qab,qai]) only[qap,zD]; rfl) (qa4 _ _ _)
  · rintro st ⟨H, rfl, h0, h1, h2⟩
    apply qbs
    simp (disch:=first|omega|decide|simp only[qaf,qad,qag,qae,qah,qac,qaa,qab,qai]) only[qa0,qat,qao,qan,qal,qak,qar,qay,qaJ,qaq,qaH,qaG,qaj,qaF,qaD,qas,zM,zN,zO,zP,zK,zJ,Nat.reduceAdd,zA,zB,zL,zB,zA,qaW,Nat.reduceAdd,zi,zL,qaI,qaA,qam,L16b2]
    rfl
  · rintro st ⟨H, rfl, h0, h1, h2⟩ rfl
    have hb:(aB 4 fun q=>if q < 4 then tw 8 (KS 8 key m).2 (8+m) (KS 8 key m).1 q ^^^ wd (KS 8 key m).1 m q else tw 8 (KS 8 key m).2 (8+m) (KS 8 key m).1 q)=aB 4 (nwd 8 (KS 8 key m).2 (8+m) (KS 8 key m).1):=aB_ext _ fun q hq=>by rw[if_pos hq,nwd,zzM]
    rw[hb] at h2
    have hap:∀ (b:Nat),appN b 4 1 0 (8+m) (1,1) (aB 4 (nwd 8 (KS 8 key m).2 (8+m) (KS 8 key m).1)) (some (bs (KS 8 key m).1))=some ⟨.sl (b,0) 0 (8+m+1) none 4,[bs (KS 8 key (m+1)).1],[((1,1),none)]⟩:=by
      intro b
      rw[appN,qad,if_pos (by omega),zw,aB4_bs,qcF,bs_append,List.take_of_length_le (by omega),hx,ext4]
    simp (disch:=first|omega|decide|simp only[qaf,qad,qag,qae,qah,qac,qaa,qab,qai]) only[qa0,qat,qao,qan,qal,qak,qar,qay,qaJ,qaq,qaH,qaG,qaj,qaF,qaY,qa8,qaD,qas,zM,zN,zO,zP,zG,zC,zI,zQ,zK,zJ,Nat.reduceAdd,qap,qa5,qaR,qbv,qco,qb6,qcZ,qcR,qbC,zzA,zzD,zzG,zF,Nat.reduceEqDiff,zu,zD,zE,zA,zB,Nat.le_refl,zL,zb,qcj,qcb,zB,zA,qbz,qaW,Nat.reduceEqDiff,Nat.reduceAdd,zi,zL,qch,qcA,qcB,qcC,appX_none,qdd,qcX,qaI,qaZ,qaA,qa6,qcL,qam,qam,L16b2,h1,h2,fr_w,hap]
    have hx2:(KS 8 key (m+1)).2=(KS 8 key m).2:=by rw[hx]
    refine ⟨_,rfl,?_⟩
    refine qaT [(1,0),(7,0)] rfl (by simp only[qav,FUEL,qaz,qax,qaB,qaE,qaQ,qbU,qci,qaO,zV,zX,zI,zR,zQ,zz,zC,zW,zY,zF,zm,zn,zf,Nat.reduceEqDiff,zS,zZ,zl,zD,zE,zb,zh,zq,zp,zo,ne_eq,zt,qap,qaN,qaL,qaC,qbb,qbj,L16k3,RF_nms,qaQ,qbj,qaP,h0]) (by simp only[zC,zG,qaN,qaL,qaC,L16k3,zG,zC]; rfl) ⟨_,N (8+m),N ((8+m) % 8),Bo false,⟨rfl,fun _=>rfl⟩,by rw[hx2]; rfl,?_,?_⟩
    · exact qau (1,0) rfl (by simp (disch:=first|omega|decide|simp only[qaf,qad,qag,qae,qah,qac,qaa,qab,qai]) only[qap,zF,Nat.reduceEqDiff,zS,zZ,zE,zh,h0]) (by rw[qcS,qcD])
    · exact qau (7,0) rfl (by simp (disch:=first|omega|decide|simp only[qaf,qad,qag,qae,qah,qac,qaa,qab,qai]) only[qap,zF,Nat.reduceEqDiff,zS,zu,zD,zE,zh]) (qaK _ _)
end Aes
namespace Aes
open Go Go.LE
set_option maxRecDepth 20000
theorem r3_round (k n:Nat) (hn:n=4∨n=8) (key:List (BitVec 8)) (hk:key.length=4*n) (m:Nat) (hm:m < 3*n+28) (st:St) (hJ:r3J n key m st) :
    ∃ st1,ev (envC C (k+11)) (k+11) L16b3 st=some (.normal,st1)∧r3J n key (m+1) (qcr L16k3 st1):=by
  by_cases h4:(n+m) % n=0
  · exact r3_roundA k n hn key hk m hm h4 st hJ
  · rcases hn with rfl | rfl
    · exact r3_roundC k key hk m hm h4 st hJ
    · by_cases h8 : (8 + m) % 8 = 4
      · exact r3_roundB k key hk m hm h4 h8 st hJ
      · exact r3_roundD k key hk m hm h4 h8 st hJ
def byA (L:List (BitVec 8)) (i j:Nat):R:=fun q=>if q < j then kf L i q else 0#8
theorem byA_succ (L:List (BitVec 8)) (i j:Nat):set1 (byA L i j) j (kf L i j)=byA L i (j+1):=by
  funext q
  simp only[set1,byA]
  by_cases h:q=j
  · subst h; rw[if_pos rfl,if_pos (Nat.lt_succ_self _)]
  · rw [if_neg h]
    by_cases h':q < j
    · rw[if_pos h',if_pos (by omega)]
    · rw[if_neg h',if_neg (by omega)]
theorem kcell1 (L:List (BitVec 8)) (i j:Nat) (hj:j < 16) (h:16*(i+1)≤L.length):cellK ((4*i+j / 4)*4+j % 4) 1 (some (bs L))=some [B8 (kf L i j)]:=by
  have e:(4*i+j / 4)*4+j % 4=i*16+j:=by omega
  rw[e,bs_cells _ _ 1 (by omega),List.drop_eq_getElem_cons (by omega),kf,List.getD_eq_getElem?_getD,List.getElem?_eq_getElem (by omega)]
  rfl
def s1J (n:Nat) (L:List (BitVec 8)) (i:Nat) (st:St):Prop := ∃ (H:Heap),
  (i=0∧st=⟨[.undef,.undef,.undef,.undef,N n,.ptr (1,0) 0,.undef,.sl (1,1) 0 (4*(n+7)) none 4,.undef,.undef,.undef,.undef,.undef,N 0,.undef,.undef,.undef,.undef,.undef,.undef,.undef,.undef,.undef,.undef,.undef,.undef,.undef,.undef,.undef,.undef,.undef,.undef,.undef,.undef,.undef,.undef,.undef,.undef,.undef,.undef,.undef,.undef,.undef,.undef,.undef,.undef,.undef,.undef,.undef,.undef,.undef,.undef,.undef,.undef,.undef,.undef,.undef,.undef,.undef,.undef,.undef,.undef,.undef,.undef,.undef,.undef,.undef,.undef,.undef,.undef,.undef,.undef,.undef,.undef,.undef,.undef,.undef,.undef,.undef,.undef,.undef,.undef,.undef,.undef,.undef,.undef,.undef,.undef,.undef,.undef,.undef,.undef,.undef,.undef,.undef,.undef,.undef,.undef,.undef,.undef,.undef,.undef,.undef,.undef,.undef,.undef,.undef,.undef,.undef,.undef,.undef,.undef,.undef,.undef,.undef,.undef,.undef,.undef,.undef,.undef,.undef,.undef,.undef,.undef,.undef,.undef,.undef,.undef,.undef,.undef,.undef,.undef,.undef,.undef,.undef,.undef,.undef,.undef,.undef,.undef,.undef,.undef,.undef,.undef,.undef,.undef,.undef,.undef,.undef,.undef,.undef,.undef,.undef,.undef,.undef,.undef,.undef,.undef,.undef,.undef,.undef,.undef,.undef,.undef,.undef,.undef,.undef,.undef,.undef,.undef,.undef,.undef,.undef,.undef,.undef,.undef,.undef,.undef,.undef,.undef,.undef,.undef,.undef,.undef,.undef,.undef,.undef,.undef,.undef,.undef,.undef,.undef,.undef,.undef,.undef,.undef,.undef,.undef,.undef,.undef,.undef,.undef,.undef,.undef,.undef,.undef,.undef,.undef,.undef,.undef,.undef,.undef,.undef,.undef,.undef,.undef,.undef,.undef,.undef,.undef],H,2,0⟩∧H (1,0)=some (RF Nil TB)∧H (1,1)=some (bs L)) ∨
  (0 < i∧st=⟨[.undef,.undef,.undef,.undef,N n,.ptr (1,0) 0,.undef,.sl (1,2) 0 (4*(n+7)) none 4,.undef,.undef,.undef,.undef,.undef,N i,.undef,.undef,.undef,.undef,.undef,.undef,.undef,.undef,.undef,.undef,.undef,.undef,.undef,.undef,.undef,.undef,.undef,.undef,.undef,.undef,.undef,.undef,.undef,.undef,.undef,.undef,.undef,.undef,.undef,.undef,.undef,.undef,.undef,.undef,.undef,.undef,.undef,.undef,.undef,.undef,.undef,.undef,.undef,.undef,.undef,.undef,.undef,.undef,.undef,.undef,.undef,.undef,.undef,.undef,.undef,.undef,.undef,.undef,.undef,.undef,.undef,.undef,.undef,.undef,.undef,.undef,.undef,.undef,.undef,.undef,.undef,.undef,.undef,.undef,.undef,.undef,.undef,.undef,.undef,.undef,.undef,.undef,.undef,.undef,.undef,.undef,.undef,.undef,.undef,.undef,.undef,.undef,.undef,.undef,.undef,.undef,.undef,.undef,.undef,.undef,.undef,.undef,.undef,.undef,.undef,.undef,.undef,.undef,.undef,.undef,.undef,.undef,.undef,.undef,.undef,.undef,.undef,.undef,.undef,.undef,.undef,.undef,.undef,.undef,.undef,.undef,.undef,.undef,.undef,.undef,.undef,.undef,.undef,.undef,.undef,.undef,.undef,.undef,.undef,.undef,.undef,.undef,.undef,.undef,.undef,.undef,.undef,.undef,.undef,.undef,.undef,.undef,.undef,.undef,.undef,.undef,.undef,.undef,.undef,.undef,.undef,.undef,.undef,.undef,.undef,.undef,.undef,.undef,.undef,.undef,.undef,.undef,.undef,.undef,.undef,.undef,.undef,.undef,.undef,.undef,.undef,.undef,.undef,.undef,.undef,.undef,.undef,.undef,.undef,.undef,.undef,.undef,.undef,.undef,.undef,.undef,.undef,.undef,.undef,.undef,.undef,.undef,.undef,.undef,.undef,.undef],H,2,0⟩∧H (1,0)=some (RF (.sl (1,1) 0 i none 16) TB)∧H (1,1)=some (bs (L.take (16*i)))∧H (1,2)=some (bs L))
theorem s1J.of_z {n:Nat} {L:List (BitVec 8)} {st:St} (h:s1J n L 0 st):∃ (H:Heap),st=⟨[.undef,.undef,.undef,.undef,N n,.ptr (1,0) 0,.undef,.sl (1,1) 0 (4*(n+7)) none 4,.undef,.undef,.undef,.undef,.undef,N 0,.undef,.undef,.undef,.undef,.undef,.undef,.undef,.undef,.undef,.undef,.undef,.undef,.undef,.undef,.undef,.undef,.undef,.undef,.undef,.undef,.undef,.undef,.undef,.undef,.undef,.undef,.undef,.undef,.undef,.undef,.undef,.undef,.undef,.undef,.undef,.undef,.undef,.undef,.undef,.undef,.undef,.undef,.undef,.undef,.undef,.undef,.undef,.undef,.undef,.undef,.undef,.undef,.undef,.undef,.undef,.undef,.undef,.undef,.undef,.undef,.undef,.undef,.undef,.undef,.undef,.undef,.undef,.undef,.undef,.undef,.undef,.undef,.undef,.undef,.undef,.undef,.undef,.undef,.undef,.undef,.undef,.undef,.undef,.undef,.undef,.undef,.undef,.undef,.undef,.undef,.undef,.undef,.undef,.undef,.undef,.undef,.undef,.undef,.undef,.undef,.undef,.undef,.undef,.undef,.undef,.undef,.undef,.undef,.undef,.undef,.undef,.undef,.undef,.undef,.undef,.undef,.undef,.undef,.undef,.undef,.undef,.undef,.undef,.undef,.undef,.undef,.undef,.undef,.undef,.undef,.undef,.undef,.undef,.undef,.undef,.undef,.undef,.undef,.undef,.undef,.undef,.undef,.undef,.undef,.undef,.undef,.undef,.undef,.undef,.undef,.undef,.undef,.undef,.undef,.undef,.undef,.undef,.undef,.undef,.undef,.undef,.undef,.undef,.undef,.undef,.undef,.undef,.undef,.undef,.undef,.undef,.undef,.undef,.undef,.undef,.undef,.undef,.undef,.undef,.undef,.undef,.undef,.undef,.undef,.undef,.undef,.undef,.undef,.undef,.undef,.undef,.undef,.undef,.undef,.undef,.undef,.undef,.undef,.undef,.undef,.undef,.undef,.undef,.undef,.undef,.undef],H,2,0⟩∧H (1,0)=some (RF Nil TB)∧H (1,1)=some (bs L):=by
  obtain ⟨H,⟨_,h⟩ | ⟨h,_⟩⟩:=h
  · exact ⟨H,h⟩
  · exact absurd h (by omega)
theorem s1J.of_s {n i:Nat} {L:List (BitVec 8)} {st:St} (h:s1J n L i st) (hi:0 < i):∃ (H:Heap),st=⟨[.undef,.undef,.undef,.undef,N n,.ptr (1,0) 0,.undef,.sl (1,2) 0 (4*(n+7)) none 4,.undef,.undef,.undef,.undef,.undef,N i,.undef,.undef,.undef,.undef,.undef,.undef,.undef,.undef,.undef,.undef,.undef,.undef,.undef,.undef,.undef,.undef,.undef,.undef,.undef,.undef,.undef,.undef,.undef,.undef,.undef,.undef,.undef,.undef,.undef,.undef,.undef,.undef,.undef,.undef,.undef,.undef,.undef,.undef,.undef,.undef,.undef,.undef,.undef,.undef,.undef,.undef,.undef,.undef,.undef,.undef,.undef,.undef,.undef,.undef,.undef,.undef,.undef,.undef,.undef,.undef,.undef,.undef,.undef,.undef,.undef,.undef,.undef,.undef,.undef,.undef,.undef,.undef,.undef,.undef,.undef,.undef,.undef,.undef,.undef,.undef,.undef,.undef,.undef,.undef,.undef,.undef,.undef,.undef,.undef,.undef,.undef,.undef,.undef,.undef,.undef,.undef,.undef,.undef,.undef,.undef,.undef,.undef,.undef,.undef,.undef,.undef,.undef,.undef,.undef,.undef,.undef,.undef,.undef,.undef,.undef,.undef,.undef,.undef,.undef,.undef,.undef,.undef,.undef,.undef,.undef,.undef,.undef,.undef,.undef,.undef,.undef,.undef,.undef,.undef,.undef,.undef,.undef,.undef,.undef,.undef,.undef,.undef,.undef,.undef,.undef,.undef,.undef,.undef,.undef,.undef,.undef,.undef,.undef,.undef,.undef,.undef,.undef,.undef,.undef,.undef,.undef,.undef,.undef,.undef,.undef,.undef,.undef,.undef,.undef,.undef,.undef,.undef,.undef,.undef,.undef,.undef,.undef,.undef,.undef,.undef,.undef,.undef,.undef,.undef,.undef,.undef,.undef,.undef,.undef,.undef,.undef,.undef,.undef,.undef,.undef,.undef,.undef,.undef,.undef,.undef,.undef,.undef,.undef,.undef,.undef,.undef],H,2,0⟩∧H (1,0)=some (RF (.sl (1,1) 0 i none 16) TB)∧H (1,1)=some (bs (L.take (16*i)))∧H (1,2)=some (bs L):=by
  obtain ⟨H,⟨h,_⟩ | ⟨_,h⟩⟩:=h
  · exact absurd h (by omega)
  · exact ⟨H,h⟩
def s0JZ (n i:Nat) (L keys:List (BitVec 8)) (j:Nat) (st:St):Prop := ∃ (H:Heap),st=⟨[.undef,.undef,.undef,.undef,N n,.ptr (1,0) 0,.undef,.sl (1,1) 0 (4*(n+7)) none 4,.undef,.undef,.undef,.undef,.undef,N i,.ptr (1,2) 0,N j,.undef,.undef,.undef,.undef,.undef,.undef,.undef,.undef,.undef,.undef,.undef,.undef,.undef,.undef,.undef,.undef,.undef,.undef,.undef,.undef,.undef,.undef,.undef,.undef,.undef,.undef,.undef,.undef,.undef,.undef,.undef,.undef,.undef,.undef,.undef,.undef,.undef,.undef,.undef,.undef,.undef,.undef,.undef,.undef,.undef,.undef,.undef,.undef,.undef,.undef,.undef,.undef,.undef,.undef,.undef,.undef,.undef,.undef,.undef,.undef,.undef,.undef,.undef,.undef,.undef,.undef,.undef,.undef,.undef,.undef,.undef,.undef,.undef,.undef,.undef,.undef,.undef,.undef,.undef,.undef,.undef,.undef,.undef,.undef,.undef,.undef,.undef,.undef,.undef,.undef,.undef,.undef,.undef,.undef,.undef,.undef,.undef,.undef,.undef,.undef,.undef,.undef,.undef,.undef,.undef,.undef,.undef,.undef,.undef,.undef,.undef,.undef,.undef,.undef,.undef,.undef,.undef,.undef,.undef,.undef,.undef,.undef,.undef,.undef,.undef,.undef,.undef,.undef,.undef,.undef,.undef,.undef,.undef,.undef,.undef,.undef,.undef,.undef,.undef,.undef,.undef,.undef,.undef,.undef,.undef,.undef,.undef,.undef,.undef,.undef,.undef,.undef,.undef,.undef,.undef,.undef,.undef,.undef,.undef,.undef,.undef,.undef,.undef,.undef,.undef,.undef,.undef,.undef,.undef,.undef,.undef,.undef,.undef,.undef,.undef,.undef,.undef,.undef,.undef,.undef,.undef,.undef,.undef,.undef,.undef,.undef,.undef,.undef,.undef,.undef,.undef,.undef,.undef,.undef,.undef,.undef,.undef,.undef,.undef,.undef,.undef,.undef,.undef,.undef],H,2,0⟩ ∧
  H (1,0)=some (RF Nil TB)∧H (1,1)=some (bs L)∧H (1,2)=some (aB 16 (byA L i j))
theorem s0_roundZ (k n i:Nat) (hn:n≤8) (hi:i < n+7) (L keys:List (BitVec 8)) (hL:L.length=16*(n+7)) (j:Nat) (hj:j < 16) (st:St) (hJ:s0JZ n i L keys j st) :
    ∃ st1,ev (envC C k) k L16b0 st=some (.normal,st1)∧s0JZ n i L keys (j+1) (qcr L16k0 st1):=by
  obtain ⟨H,rfl,h0,h1,h2⟩:=hJ
  have hw:=kcell1 L i j hj (by omega)
  have hlt:4*i+j / 4 < 4*(n+7):=by omega
  have h4:j % 4 < 4:=by omega
  simp (disch:=first|omega|decide|simp only[qaf,qad,qag,qae,qah,qac,qaa,qab,qai]) only[qbh,qat,qaX,qao,qan,qal,qak,qar,qbc,qay,qaJ,qaq,qaH,qaG,qaj,qaY,qaD,qa3,zM,zN,zO,zP,zK,zJ,Nat.reduceAdd,qb5,qaR,qbn,qbV,qbF,qbl,op_iaA,iaV_lt,zA,zB,zT,aB_st,zk,zB,zA,qbz,N_mul,N_quo,N_rem,qaW,qbJ,Nat.reduceAdd,zT,op_iaS,qdf,qaI,qaA,qa6,zk,qam,qam,L16b0,h1,h2,hj,hw,byA_succ]
  refine ⟨_,rfl,?_⟩
  refine qaT [(1,0),(1,1),(1,2)] rfl (by simp only[qav,FUEL,qaz,qax,qaB,qaE,qaQ,qaO,zV,zX,zI,zR,zQ,zz,zC,zW,zY,zF,zm,zn,zf,Nat.reduceEqDiff,zZ,zl,zD,zE,zb,zq,zp,zo,ne_eq,zt,qap,qaN,qaL,qaC,qbb,qbj,L16k0,qbP,RF_nms,qaQ,qbj,qaP,h0,h1,h2]) rfl ⟨_,rfl,?_,?_,?_⟩
  · exact qau (1,0) rfl (by simp (disch:=first|omega|decide|simp only[qaf,qad,qag,qae,qah,qac,qaa,qab,qai]) only[qap,zF,Nat.reduceEqDiff,zZ,zE,h0]) (by rw[qcS]; rfl)
  · exact qau (1,1) rfl (by simp (disch:=first|omega|decide|simp only[qaf,qad,qag,qae,qah,qac,qaa,qab,qai]) only[qap,zF,Nat.reduceEqDiff,zZ,zE,h1]) (qaK _ _)
  · exact qau (1,2) rfl (by simp (disch:=first|omega|decide|simp only[qaf,qad,qag,qae,qah,qac,qaa,qab,qai]) only[qap,zD]) (qa4 _ _ _)
theorem s1_roundZ (k n:Nat) (hn:n≤8) (L:List (BitVec 8)) (hL:L.length=16*(n+7)) (st:St) (hJ:s1J n L 0 st) :
    ∃ st1,ev (envC C (k+17)) (k+17) L16b1 st=some (.normal,st1)∧s1J n L (0+1) (qcr L16k1 st1):=by
  obtain ⟨H,rfl,h0,h1⟩:=hJ.of_z
  have hlt:0 < n+7:=by omega
  simp (disch:=first|omega|decide|simp only[qaf,qad,qag,qae,qah,qac,qaa,qab,qai]) only[qbh,qat,qaX,qao,qan,qal,qak,qar,qay,qaJ,qaq,qaH,qaG,qaj,qaD,qa3,zM,zN,zO,zP,zK,zJ,qbH,Nat.reduceAdd,qcO,zA,zB,zT,qcU,zB,zA,qbz,qaW,Nat.reduceAdd,zT,qaI,qaZ,qaA,qam,qam,L16b1,hlt]
  generalize hL2:qbW L16k0 _ _ _=r
  refine qby hL2 (s0JZ n 0 L []) 16 (by omega) (fun a st ha hJ=>s0_roundZ _ n 0 hn hlt L _ hL a ha st hJ) ?_ ?_ ?_
  · refine qaT [(1, 0), (1, 1), (6, 0)] rfl (by simp only [qav, FUEL, qaz, qax, qaB, qaE, qaQ, qaO, zV, zX, zI, zR, zQ, zz, zC, zW, zY, zF, zm, zn, zf, Nat.reduceEqDiff, zS, zZ, zl, zD, zE, zb, zh, zq, zp, zo, ne_eq, zt, qap, qaN, qaL, qaC, qbb, qbj, L16k0, qbP, RF_nms, qaQ, qbj, qaP, h0, h1]) rfl ⟨_, rfl, ?_, ?_, ?_⟩
    · exact qau (1,0) rfl (by simp (disch:=first|omega|decide|simp only[qaf,qad,qag,qae,qah,qac,qaa,qab,qai]) only[qap,zF,Nat.reduceEqDiff,zS,zE,h0]) (by rw[qcS]; rfl)
    · exact qau (1,1) rfl (by simp (disch:=first|omega|decide|simp only[qaf,qad,qag,qae,qah,qac,qaa,qab,qai]) only[qap,zF,Nat.reduceEqDiff,zu,zE,zb,h1]) (qaK _ _)
    · refine (qau (6, 0) rfl (by simp (disch := first | omega | decide | simp only [qaf, qad, qag, qae, qah, qac, qaa, qab, qai]) only [qap, zD]) (qa4 16 (fun _ => 0#8) _)).trans (congrArg some ?_)
      exact aB_ext _ fun j _=>by rw[byA,if_neg (by omega)]
  · rintro st ⟨H, rfl, h0, h1, h2⟩
    apply qbs
    simp (disch:=first|omega|decide|simp only[qaf,qad,qag,qae,qah,qac,qaa,qab,qai]) only[qa0,qat,qao,qan,qal,qak,qar,qay,qaJ,qaq,qaH,qaG,qaj,qaF,qaD,qas,zM,zN,zO,zP,zK,zJ,Nat.reduceAdd,zA,zB,zL,zB,zA,qaW,Nat.reduceAdd,zi,zL,qaI,qaA,qam,L16b0]
    rfl
  · rintro st ⟨H, rfl, h0, h1, h2⟩ rfl
    have hb:aB 16 (byA L 0 16)=aB 16 (kf L 0):=aB_ext _ fun j hj=>by rw[byA,if_pos (by omega)]
    rw[hb] at h2
    simp (disch:=first|omega|decide|simp only[qaf,qad,qag,qae,qah,qac,qaa,qab,qai]) only[qa0,qat,qao,qan,qal,qak,qar,qbc,qay,qaJ,qaq,qaH,qaG,qaj,qaF,qaY,qa8,qaD,qas,zM,zN,zO,zP,zG,zC,zI,zR,zK,zJ,Nat.reduceAdd,Nat.reduceSub,qap,qa5,qaR,qbn,qbv,qbV,qco,qbF,qbl,op_fa,qcy,qb6,qcZ,qcR,qbC,zzA,za,zd,zU,zF,Nat.reduceEqDiff,Nat.reduceLT,zS,zu,zD,zE,zA,zB,Nat.le_refl,zT,zL,qcj,qcb,zB,zA,qbz,qaW,Nat.reduceLT,Nat.reduceEqDiff,Nat.reduceAdd,zi,zL,zT,qce,zg,ze,op_chk,qcq,qch,qbj,cellsOf_sl,qcA,qcB,qcC,appX_nil,qdd,qcX,qaI,qaZ,qaA,qa6,qa9,qbo,qbE,qca,qc1,qcl,qaE,zY,zW,zx,z6,z0,qbQ,qba,za,zd,Nat.testBit,Nat.reduceShiftRight,Nat.reduceAnd,Nat.reduceBEq,ze,zg,zy,zU,zj,Nat.reduceSub,Nat.reduceLT,bne,qbg,qbG,qbS,qbp,qbZ,qcP,qb0,qdc,zj,zU,qcL,qaU,qam,qdo,qam,qaU,L16b0,h0,h2,qaQ,qbj,RF_k,RF_st0,fill16,frontK_16]
    refine ⟨_,rfl,?_⟩
    refine qaT [(1,0),(11,0),(1,1)] rfl (by simp only[qav,FUEL,qaz,qax,qaB,qaE,qaQ,qaO,zV,zX,zI,zR,zQ,zz,zC,zW,zY,zF,zm,zn,zf,Nat.reduceEqDiff,zS,zZ,zl,zD,zE,zb,zq,zp,zo,ne_eq,zt,qap,qaN,qaL,qaC,qbb,L16k1,qbP,RF_nms,qaQ,qaP,h0,h1]) rfl ⟨_,.inr ⟨by omega,rfl,?_,?_,?_⟩⟩
    · refine (qcW _ _ 0 (1, 0) _ rfl (by simp (disch := first | omega | decide | simp only [qaf, qad, qag, qae, qah, qac, qaa, qab, qai]) only [qap, zF, Nat.reduceEqDiff, zS, zD, zE, h0]; rfl)).trans ?_
      rw[qcS]; rfl
    · refine (qcW _ _ 1 (11, 0) _ rfl (by simp (disch := first | omega | decide | simp only [qaf, qad, qag, qae, qah, qac, qaa, qab, qai]) only [qap, zF, Nat.reduceEqDiff, zS, zD, zE]; rfl)).trans ?_
      rw[qa4,aB_bs,←take16 L 0 (by omega)]; rfl
    · exact qau (1,1) rfl (by simp (disch:=first|omega|decide|simp only[qaf,qad,qag,qae,qah,qac,qaa,qab,qai]) only[qap,zF,Nat.reduceEqDiff,zZ,zu,zE,zb,h1]) (qaK _ _)
def s0JS (n i:Nat) (L keys:List (BitVec 8)) (j:Nat) (st:St):Prop := ∃ (H:Heap),st=⟨[.undef,.undef,.undef,.undef,N n,.ptr (1,0) 0,.undef,.sl (1,2) 0 (4*(n+7)) none 4,.undef,.undef,.undef,.undef,.undef,N i,.ptr (1,3) 0,N j,.undef,.undef,.undef,.undef,.undef,.undef,.undef,.undef,.undef,.undef,.undef,.undef,.undef,.undef,.undef,.undef,.undef,.undef,.undef,.undef,.undef,.undef,.undef,.undef,.undef,.undef,.undef,.undef,.undef,.undef,.undef,.undef,.undef,.undef,.undef,.undef,.undef,.undef,.undef,.undef,.undef,.undef,.undef,.undef,.undef,.undef,.undef,.undef,.undef,.undef,.undef,.undef,.undef,.undef,.undef,.undef,.undef,.undef,.undef,.undef,.undef,.undef,.undef,.undef,.undef,.undef,.undef,.undef,.undef,.undef,.undef,.undef,.undef,.undef,.undef,.undef,.undef,.undef,.undef,.undef,.undef,.undef,.undef,.undef,.undef,.undef,.undef,.undef,.undef,.undef,.undef,.undef,.undef,.undef,.undef,.undef,.undef,.undef,.undef,.undef,.undef,.undef,.undef,.undef,.undef,.undef,.undef,.undef,.undef,.undef,.undef,.undef,.undef,.undef,.undef,.undef,.undef,.undef,.undef,.undef,.undef,.undef,.undef,.undef,.undef,.undef,.undef,.undef,.undef,.undef,.undef,.undef,.undef,.undef,.undef,.undef,.undef,.undef,.undef,.undef,.undef,.undef,.undef,.undef,.undef,.undef,.undef,.undef,.undef,.undef,.undef,.undef,.undef,.undef,.undef,.undef,.undef,.undef,.undef,.undef,.undef,.undef,.undef,.undef,.undef,.undef,.undef,.undef,.undef,.undef,.undef,.undef,.undef,.undef,.undef,.undef,.undef,.undef,.undef,.undef,.undef,.undef,.undef,.undef,.undef,.undef,.undef,.undef,.undef,.undef,.undef,.undef,.undef,.undef,.undef,.undef,.undef,.undef,.undef,.undef,.undef,.undef,.undef,.undef],H,2,0⟩ ∧
  H (1,0)=some (RF (.sl (1,1) 0 i none 16) TB)∧H (1,1)=some (bs keys)∧H (1,2)=some (bs L)∧H (1,3)=some (aB 16 (byA L i j))
theorem s0_roundS (k n i:Nat) (hn:n≤8) (hi:i < n+7) (L keys:List (BitVec 8)) (hL:L.length=16*(n+7)) (j:Nat) (hj:j < 16) (st:St) (hJ:s0JS n i L keys j st) :
    ∃ st1,ev (envC C k) k L16b0 st=some (.normal,st1)∧s0JS n i L keys (j+1) (qcr L16k0 st1):=by
  obtain ⟨H,rfl,h0,hk,h1,h2⟩:=hJ
  have hw:=kcell1 L i j hj (by omega)
  have hlt:4*i+j / 4 < 4*(n+7):=by omega
  have h4:j % 4 < 4:=by omega
  simp (disch:=first|omega|decide|simp only[qaf,qad,qag,qae,qah,qac,qaa,qab,qai]) only[qbh,qat,qaX,qao,qan,qal,qak,qar,qbc,qay,qaJ,qaq,qaH,qaG,qaj,qaY,qaD,qa3,zM,zN,zO,zP,zK,zJ,Nat.reduceAdd,qb5,qaR,qbn,qbV,qbF,qbl,op_iaA,iaV_lt,zA,zB,zT,aB_st,zk,zB,zA,qbz,N_mul,N_quo,N_rem,qaW,qbJ,Nat.reduceAdd,zT,op_iaS,qdf,qaI,qaA,qa6,zk,qam,qam,L16b0,h1,h2,hj,hw,byA_succ]
  refine ⟨_,rfl,?_⟩
  refine qaT [(1,0),(1,1),(1,2),(1,3)] rfl (by simp only[qav,FUEL,qaz,qax,qaB,qaE,qaQ,qaO,zV,zX,zI,zR,zQ,zz,zC,zW,zY,zF,zm,zn,zf,Nat.reduceEqDiff,zZ,zl,zD,zE,zb,zq,zp,zo,ne_eq,zt,qap,qaN,qaL,qaC,qbb,L16k0,qbP,RF_nms,qaQ,qaP,h0,hk,h1,h2]) rfl ⟨_,rfl,?_,?_,?_,?_⟩
  · exact qau (1,0) rfl (by simp (disch:=first|omega|decide|simp only[qaf,qad,qag,qae,qah,qac,qaa,qab,qai]) only[qap,zF,Nat.reduceEqDiff,zZ,zE,h0]) (by rw[qcS]; rfl)
  · exact qau (1,1) rfl (by simp (disch:=first|omega|decide|simp only[qaf,qad,qag,qae,qah,qac,qaa,qab,qai]) only[qap,zF,Nat.reduceEqDiff,zZ,zE,hk]) (qaK _ _)
  · exact qau (1,2) rfl (by simp (disch:=first|omega|decide|simp only[qaf,qad,qag,qae,qah,qac,qaa,qab,qai]) only[qap,zF,Nat.reduceEqDiff,zZ,zE,h1]) (qaK _ _)
  · exact qau (1,3) rfl (by simp (disch:=first|omega|decide|simp only[qaf,qad,qag,qae,qah,qac,qaa,qab,qai]) only[qap,zD]) (qa4 _ _ _)
theorem s1_roundS (k n i:Nat) (hn:n≤8) (h0i:0 < i) (hi:i < n+7) (L:List (BitVec 8)) (hL:L.length=16*(n+7)) (st:St) (hJ:s1J n L i st) :
    ∃ st1,ev (envC C (k+17)) (k+17) L16b1 st=some (.normal,st1)∧s1J n L (i+1) (qcr L16k1 st1):=by
  obtain ⟨H,rfl,h0,hk,h1⟩:=hJ.of_s h0i
  have hlt:i < n+7:=by omega
  simp (disch:=first|omega|decide|simp only[qaf,qad,qag,qae,qah,qac,qaa,qab,qai]) only[qbh,qat,qaX,qao,qan,qal,qak,qar,qay,qaJ,qaq,qaH,qaG,qaj,qaD,qa3,zM,zN,zO,zP,zK,zJ,qbH,Nat.reduceAdd,qcO,zA,zB,zT,qcU,zB,zA,qbz,qaW,Nat.reduceAdd,zT,qaI,qaZ,qaA,qam,qam,L16b1,hlt]
  generalize hL2:qbW L16k0 _ _ _=r
  refine qby hL2 (s0JS n i L (L.take (16*i))) 16 (by omega) (fun a st ha hJ=>s0_roundS _ n i hn hlt L _ hL a ha st hJ) ?_ ?_ ?_
  · refine qaT [(1, 0), (1, 1), (1, 2), (6, 0)] rfl (by simp only [qav, FUEL, qaz, qax, qaB, qaE, qaQ, qaO, zV, zX, zI, zR, zQ, zz, zC, zW, zY, zF, zm, zn, zf, Nat.reduceEqDiff, zS, zZ, zl, zD, zE, zb, zh, zq, zp, zo, ne_eq, zt, qap, qaN, qaL, qaC, qbb, L16k0, qbP, RF_nms, qaQ, qaP, h0, hk, h1]) rfl ⟨_, rfl, ?_, ?_, ?_, ?_⟩
    · exact qau (1,0) rfl (by simp (disch:=first|omega|decide|simp only[qaf,qad,qag,qae,qah,qac,qaa,qab,qai]) only[qap,zF,Nat.reduceEqDiff,zS,zE,h0]) (by rw[qcS]; rfl)
    · exact qau (1,1) rfl (by simp (disch:=first|omega|decide|simp only[qaf,qad,qag,qae,qah,qac,qaa,qab,qai]) only[qap,zF,Nat.reduceEqDiff,zu,zE,zb,hk]) (qaK _ _)
    · exact qau (1,2) rfl (by simp (disch:=first|omega|decide|simp only[qaf,qad,qag,qae,qah,qac,qaa,qab,qai]) only[qap,zF,Nat.reduceEqDiff,zu,zE,h1]) (qaK _ _)
    · refine (qau (6, 0) rfl (by simp (disch := first | omega | decide | simp only [qaf, qad, qag, qae, qah, qac, qaa, qab, qai]) only [qap, zD]) (qa4 16 (fun _ => 0#8) _)).trans (congrArg some ?_)
      exact aB_ext _ fun j _=>by rw[byA,if_neg (by omega)]
  · rintro st ⟨H, rfl, h0, hk, h1, h2⟩
    apply qbs
    simp (disch:=first|omega|decide|simp only[qaf,qad,qag,qae,qah,qac,qaa,qab,qai]) only[qa0,qat,qao,qan,qal,qak,qar,qay,qaJ,qaq,qaH,qaG,qaj,qaF,qaD,qas,zM,zN,zO,zP,zK,zJ,Nat.reduceAdd,zA,zB,zL,zB,zA,qaW,Nat.reduceAdd,zi,zL,qaI,qaA,qam,L16b0]
    rfl
  · rintro st ⟨H, rfl, h0, hk, h1, h2⟩ rfl
    have hb:aB 16 (byA L i 16)=aB 16 (kf L i):=aB_ext _ fun j hj=>by rw[byA,if_pos (by omega)]
    rw[hb] at h2
    have hap:∀ (b:Nat),appN b 16 1 0 i (1,1) (aB 16 (kf L i)) (some (bs (L.take (16*i))))=some ⟨.sl (b,0) 0 (i+1) none 16,[bs (L.take (16*(i+1)))],[((1,1),none)]⟩:=by
      intro b
      rw[appN,qad,if_pos (by rw[zzL]; omega),zw,aB_bs,qcF,bs_append,List.take_of_length_le (by rw[zzL]; omega),take16 L i (by omega)]
    simp (disch:=first|omega|decide|simp only[qaf,qad,qag,qae,qah,qac,qaa,qab,qai]) only[qa0,qat,qao,qan,qal,qak,qar,qbc,qay,qaJ,qaq,qaH,qaG,qaj,qaF,qaY,qa8,qaD,qas,zM,zN,zO,zP,zG,zC,zI,zR,zK,zJ,Nat.reduceAdd,Nat.reduceSub,qap,qa5,qaR,qbn,qbv,qbV,qco,qbF,qbl,op_fa,qcy,qb6,qcZ,qcR,qbC,zzA,za,zd,zU,zF,Nat.reduceEqDiff,Nat.reduceLT,zS,zZ,zu,zD,zE,zA,zB,Nat.le_refl,zT,zL,zb,zh,qcj,qcb,zB,zA,qbz,qaW,Nat.reduceLT,Nat.reduceEqDiff,Nat.reduceAdd,zi,zL,zT,qce,zg,ze,op_chk,qcq,qch,cellsOf_sl,qcA,qcB,qcC,appX_none,qdd,qcX,qaI,qaZ,qaA,qa6,qa9,qbo,qbE,qca,qc1,qcl,qaE,zY,zW,zx,z6,z0,qbQ,qba,za,zd,Nat.testBit,Nat.reduceShiftRight,Nat.reduceAnd,Nat.reduceBEq,ze,zg,zy,zU,zj,Nat.reduceSub,Nat.reduceLT,bne,qbg,qbG,qbS,qbp,qbZ,qcP,qb0,qdc,zj,zU,qcL,qaU,qam,qdo,qam,qaU,L16b0,h0,hk,h2,qaQ,RF_k,RF_st0,fill16,frontK_16,hap]
    refine ⟨_,rfl,?_⟩
    refine qaT [(1,0),(11,0),(1,2)] rfl (by simp only[qav,FUEL,qaz,qax,qaB,qaE,qaQ,qaO,zV,zX,zI,zR,zQ,zz,zC,zW,zY,zF,zm,zn,zf,Nat.reduceEqDiff,zS,zZ,zl,zD,zE,zb,zh,zq,zp,zo,ne_eq,zt,qap,qaN,qaL,qaC,qbb,L16k1,RF_nms,qaQ,qaP,h0,h1]) rfl ⟨_,.inr ⟨by omega,rfl,?_,?_,?_⟩⟩
    · refine (qcW _ _ 0 (1, 0) _ rfl (by simp (disch := first | omega | decide | simp only [qaf, qad, qag, qae, qah, qac, qaa, qab, qai]) only [qap, zF, Nat.reduceEqDiff, zS, zZ, zD, zE, zh, h0]; rfl)).trans ?_
      rw[qcS]; rfl
    · refine (qcW _ _ 1 (11, 0) _ rfl (by simp (disch := first | omega | decide | simp only [qaf, qad, qag, qae, qah, qac, qaa, qab, qai]) only [qap, zF, Nat.reduceEqDiff, zS, zu, zD, zE, zh]; rfl)).trans ?_
      rw[qaK]
    · exact qau (1,2) rfl (by simp (disch:=first|omega|decide|simp only[qaf,qad,qag,qae,qah,qac,qaa,qab,qai]) only[qap,zF,Nat.reduceEqDiff,zZ,zu,zE,h1]) (qaK _ _)
theorem s1_round (k n i:Nat) (hn:n≤8) (hi:i < n+7) (L:List (BitVec 8)) (hL:L.length=16*(n+7)) (st:St) (hJ:s1J n L i st) :
    ∃ st1,ev (envC C (k+17)) (k+17) L16b1 st=some (.normal,st1)∧s1J n L (i+1) (qcr L16k1 st1):=by
  by_cases h0:0 < i
  · exact s1_roundS k n i hn h0 hi L hL st hJ
  · obtain rfl : i = 0 := by omega
    exact s1_roundZ k n hn L hL st hJ
end Aes
namespace Aes
open Go Go.LE
set_option maxRecDepth 20000
theorem RF_0':Nil::(aB 256 BX++List.drop 256 (aB 512 fun _=>0#8))=RF Nil (unT 0):=by
  rw[←RF_0,qbC,qcj,List.singleton_append,zzE,zzA,show 1+256=256+1 from rfl,zzD,←qcU]
  rfl
theorem rnew_4 (k:Nat) (key:List (BitVec 8)) (hk:key.length=16):F C (k+400) 16 [.isl (bs key) key.length] []=some (.tup [.ptr (1,0) 0,N 0],[],[RF (.sl (1,1) 0 (4+7) none 16) TB,bs (W 4 key)]):=by
  rw[qbT f16]
  have hbo:F C (k+399) 32 [] []=some (.agg (aB 256 BX),[],[]):=Boxes_F (k+99)
  simp (disch:=first|omega|decide|simp only[qbU,nms_B32,qbR,nms_I,qbb,qci,qcM,qaO,nms_Hf,qaE,qaQ,qbe,qc6,qc8,qc3,zV,zX,zI,zQ,ren_B8,ren_B32,qcu,ren_I,ren_N,ren_Bo,ren_Un,qdj,ren_Hf,qbN,qc7,qc9,qcY,zG,zC,ren7_I,ren7_N,ren7_Bo,ren7_B8,ren7_B32,ren7_B64,nms7_I,nms7_N,nms7_Bo,nms7_B8,nms7_B32,nms7_B64,qcV,qb8,implies_true,l32,l33,qaf,qaP,qaK,qbw,qbO,qad,qag,qae,qah,qac,qaa,qab,qai]) only[qbk,qbh,qat,qaX,qao,qan,qal,qak,qbm,guardK_false,qar,qay,qaJ,qaq,qcd,qaH,qcx,qaG,qa7,qa1,qaj,qaD,qas,zM,zN,zO,zP,zG,zC,zI,zR,qbd,z7,zK,zJ,qda,qbH,Nat.reduceAdd,Nat.reduceSub,qa5,op_box,qcH,qb6,qcZ,qcR,aggR_some,op_build,qbC,zzE,zzA,zzD,Nat.reduceLeDiff,zu,zD,zA,zB,zT,qcU,qcj,aB_calK,zB,zA,N_quo,N_neq,decide_not,Nat.reduceLeDiff,Nat.reduceAdd,Nat.reduceDiv,zT,ze,qcm,qbA,qcT,qaI,qaZ,qaA,ze,Nat.reduceSub,qam,qam,L16,hk,hbo,RF_0']
  generalize hL:qbW L16k5 _ _ _=r
  refine qby hL (r5J 4 key) 256 (by omega) (fun i st hi hJ=>r5_round _ 4 key i hi st hJ) ?_ ?_ ?_
  · refine qaT [(18, 0)] rfl (by simp only [qav, FUEL, qaz, qax, qaB, qaE, qcM, qaO, zV, zX, zI, zQ, zz, zC, zW, zf, Nat.reduceEqDiff, zD, zE, zq, zp, zo, ne_eq, zt, qap, qaN, qaL, qaC, qa2, qbb, qbj, L16k5, RF_nms, qbj, qbw]) (by simp only [zC, zG, qaN, qaL, qaC, L16k5, zG, zC, qbO]; rfl) ⟨_, rfl, ?_⟩
    exact qau (18,0) rfl (by simp (disch:=first|omega|decide|simp only[qaf,qad,qag,qae,qah,qac,qaa,qab,qai]) only[qap,zD,qa2]) (by rw[qcS,qcD])
  · rintro st ⟨H, rfl, h0⟩
    apply qbs
    simp (disch:=first|omega|decide|simp only[qaf,qad,qag,qae,qah,qac,qaa,qab,qai]) only[qa0,qat,qao,qan,qal,qak,qaM,qar,qay,qaJ,qaq,qaH,qaG,qaj,qaF,qaD,qas,zM,zN,zO,zP,zK,zJ,Nat.reduceAdd,zA,zB,zL,zB,zA,qaW,Nat.reduceMul,Nat.reduceAdd,zi,zL,L16b5]
    rfl
  · rintro st ⟨H, rfl, h0⟩ rfl
    rw[unT_all] at h0
    simp (disch:=first|omega|decide|simp only[qaf,qad,qag,qae,qah,qac,qaa,qab,qai]) only[qa0,qat,qaX,qao,qan,qal,qak,qar,qay,qaJ,qaq,qaH,qaG,qaj,qaF,qa8,qaD,qas,zM,zN,zO,zP,zK,zJ,qbH,Nat.reduceAdd,zD,zA,zB,zL,zB,zA,qaW,Nat.reduceMul,Nat.reduceAdd,zi,zL,qaI,qaA,qam,L16b5]
    clear hL
    generalize hL:qbW L16k4 _ _ _=r
    refine qby hL (r4J 4 key) 4 (by omega) (fun i st hi hJ=>r4_round _ 4 i (by decide) key hk hi st hJ) ?_ ?_ ?_
    · refine qaT [(1, 0)] rfl (by simp only [qav, FUEL, qaz, qax, qaB, qaE, qcM, qaO, zV, zX, zI, zQ, zz, zC, zW, zf, zD, zE, zb, zq, zp, zo, ne_eq, zt, qaN, qaL, qaC, qbb, qbj, L16k4, RF_nms, qbj, qbw, h0]) (by simp only [zC, zG, qaN, qaL, qaC, L16k4, zG, zC, qbO]; rfl) ⟨_, .inl ⟨rfl, rfl, ?_⟩⟩
      exact qau (1,0) rfl (by simp (disch:=first|omega|decide|simp only[qaf,qad,qag,qae,qah,qac,qaa,qab,qai]) only[h0]) (by rw[qcS,qcD])
    · intro st hJ
      obtain ⟨H,rfl,h0,h1⟩:=hJ.of_s (by decide)
      apply qbs
      simp (disch:=first|omega|decide|simp only[qaf,qad,qag,qae,qah,qac,qaa,qab,qai]) only[qa0,qat,qao,qan,qal,qak,qaM,qar,qay,qaq,qaH,qaG,qaj,qaF,qaD,qas,zM,zN,zO,zP,zK,zJ,Nat.reduceAdd,zA,zB,zL,zB,zA,qaW,Nat.reduceMul,Nat.reduceAdd,zi,zL,L16b4]
      rfl
    · intro st hJ hr
      obtain ⟨H,rfl,h0,h1⟩:=hJ.of_s (by decide)
      subst hr
      rw[List.take_of_length_le (by omega)] at h1
      simp (disch:=first|omega|decide|simp only[qaf,qad,qag,qae,qah,qac,qaa,qab,qai]) only[qa0,qat,qaX,qao,qan,qal,qak,qar,qay,qaJ,qaq,qaH,qaG,qaj,qaF,qa8,qaD,qas,zM,zN,zO,zP,zK,zJ,qbH,Nat.reduceAdd,zD,zA,zB,zL,zB,zA,qaW,Nat.reduceMul,Nat.reduceAdd,zi,zL,qaI,qaA,qam,L16b4]
      clear hL
      generalize hL:qbW L16k3 _ _ _=r
      refine qby hL (r3J 4 key) 40 (by omega) (fun i st hi hJ=>r3_round (k+388) 4 (.inl rfl) key hk i hi st hJ) ?_ ?_ ?_
      · refine qaT [(1, 0), (1, 1)] rfl (by simp only [qav, FUEL, qaz, qax, qaB, qaE, qaQ, qbU, qcM, qaO, zV, zX, zI, zR, zQ, zz, zC, zW, zY, zF, zm, zn, zf, zZ, zl, zD, zE, zb, zq, zp, zo, ne_eq, zt, qaN, qaL, qaC, qbb, qbj, L16k3, RF_nms, qbj, qaP, h0, h1]) rfl ⟨_, Un, Un, Un, ⟨rfl, fun _ => rfl⟩, rfl, ?_, ?_⟩
        · exact qau (1,0) rfl (by simp (disch:=first|omega|decide|simp only[qaf,qad,qag,qae,qah,qac,qaa,qab,qai]) only[h0]) (by rw[qcS,qcD])
        · exact qau (1,1) rfl (by simp (disch:=first|omega|decide|simp only[qaf,qad,qag,qae,qah,qac,qaa,qab,qai]) only[h1]; rfl) (qaK _ _)
      · rintro st ⟨H, a, b, d, hp, rfl, h0, h1⟩
        apply qbs
        simp (disch:=first|omega|decide|simp only[qaf,qad,qag,qae,qah,qac,qaa,qab,qai]) only[qa0,qat,qao,qan,qal,qak,qaM,qar,qay,qaJ,qaq,qaH,qaG,qaj,qaF,qaD,qas,zM,zN,zO,zP,zK,zJ,Nat.reduceAdd,zA,zB,zL,zB,zA,qbz,N_mul,qaW,Nat.reduceMul,Nat.reduceAdd,zi,zL,L16b3]
        rfl
      · rintro st ⟨H, a, b, d, hp, rfl, h0, h1⟩ rfl
        simp (disch:=first|omega|decide|simp only[qaf,qad,qag,qae,qah,qac,qaa,qab,qai]) only[qa0,qat,qaX,qao,qan,qal,qak,qar,qay,qaJ,qaq,qaH,qaG,qaj,qaF,qa8,qaD,qas,zM,zN,zO,zP,zK,zJ,qbH,Nat.reduceAdd,zD,zA,zB,zL,zB,zA,qbz,N_mul,qaW,Nat.reduceMul,Nat.reduceAdd,zi,zL,qaI,qaA,qam,L16b3]
        clear hL
        generalize hL:qbW L16k1 _ _ _=r
        have hlen:(KS 4 key 40).1.length=16*(4+7):=KS_length 4 key hk 40
        refine qby hL (s1J 4 (KS 4 key 40).1) 11 (by omega) (fun i st hi hJ=>s1_round (k+382) 4 i (by decide) hi _ hlen st hJ) ?_ ?_ ?_
        · refine qaT [(1, 0), (1, 1)] rfl (by simp only [qav, FUEL, qaz, qax, qaB, qaE, qaQ, qaO, zV, zX, zI, zR, zQ, zz, zC, zW, zY, zF, zm, zn, zf, zZ, zl, zD, zE, zb, zq, zp, zo, ne_eq, zt, qaN, qaL, qaC, qbb, qbj, L16k1, RF_nms, qbj, qaP, h0, h1]) rfl ⟨_, .inl ⟨rfl, rfl, ?_, ?_⟩⟩
          · exact qau (1,0) rfl (by simp (disch:=first|omega|decide|simp only[qaf,qad,qag,qae,qah,qac,qaa,qab,qai]) only[h0]) (by rw[qcS,qcD])
          · exact qau (1,1) rfl (by simp (disch:=first|omega|decide|simp only[qaf,qad,qag,qae,qah,qac,qaa,qab,qai]) only[h1]) (qaK _ _)
        · intro st hJ
          obtain ⟨H,rfl,h0,hk,h1⟩:=hJ.of_s (by decide)
          apply qbs
          simp (disch:=first|omega|decide|simp only[qaf,qad,qag,qae,qah,qac,qaa,qab,qai]) only[qa0,qat,qao,qan,qal,qak,qaM,qar,qay,qaJ,qaq,qaH,qaG,qaj,qaF,qaD,qas,zM,zN,zO,zP,zK,zJ,Nat.reduceAdd,zA,zB,zL,qcU,zB,zA,qbz,qaW,Nat.reduceMul,Nat.reduceAdd,zi,zL,L16b1]
          rfl
        · intro st hJ hr
          obtain ⟨H,rfl,h0,hk,h1⟩:=hJ.of_s (by decide)
          subst hr
          simp (disch:=first|omega|decide|simp only[qaf,qad,qag,qae,qah,qac,qaa,qab,qai]) only[qbI,qa0,qat,qao,qan,qal,qak,qar,qay,qaJ,qaq,qaH,qaG,qaj,qaF,qa8,qaD,qas,qbr,zM,zN,zO,zP,zK,zJ,zH,Nat.reduceAdd,zD,zA,zB,zL,qc4,qcU,zB,zA,qbz,qaW,Nat.reduceMul,Nat.reduceAdd,zi,zL,qaI,qaA,zH,qam,L16b1]
          rw[List.take_of_length_le (by rw[hlen]; decide)] at hk
          rw[qdk 0 _ _ [(1,0),(1,1)] (by simp only[qav,FUEL,qaz,qax,qaB,qaQ,zV,zX,zI,zR,zQ,zz,zC,zW,zY,zF,zm,zn,zf,zZ,zl,zD,zE,zb,zq,zp,zo,ne_eq,zt,RF_nms,qaP,qcV,nms7_ptr,nms7_N,h0,hk])]
          simp (disch:=first|omega|decide|simp only[qaf,qad,qag,qae,qah,qac,qaa,qab,qai]) only[zG,zC,zH,Nat.reduceAdd,zF,zZ,zD,zE,zA,zh,idx_cons,canonMap_ne,zzB,zH,qaK,List.filterMap_cons,zz,qbq,qbK,qcS,qaK,h0,hk,qb8]
          rfl
theorem rnew_8 (k:Nat) (key:List (BitVec 8)) (hk:key.length=32):F C (k+400) 16 [.isl (bs key) key.length] []=some (.tup [.ptr (1,0) 0,N 0],[],[RF (.sl (1,1) 0 (8+7) none 16) TB,bs (W 8 key)]):=by
  rw[qbT f16]
  have hbo:F C (k+399) 32 [] []=some (.agg (aB 256 BX),[],[]):=Boxes_F (k+99)
  simp (disch:=first|omega|decide|simp only[qbU,nms_B32,qbR,nms_I,qbb,qci,qcM,qaO,nms_Hf,qaE,qaQ,qbe,qc6,qc8,qc3,zV,zX,zI,zQ,ren_B8,ren_B32,qcu,ren_I,ren_N,ren_Bo,ren_Un,qdj,ren_Hf,qbN,qc7,qc9,qcY,zG,zC,ren7_I,ren7_N,ren7_Bo,ren7_B8,ren7_B32,ren7_B64,nms7_I,nms7_N,nms7_Bo,nms7_B8,nms7_B32,nms7_B64,qcV,qb8,implies_true,l32,l33,qaf,qaP,qaK,qbw,qbO,qad,qag,qae,qah,qac,qaa,qab,qai]) only[qbk,qbh,qat,qaX,qao,qan,qal,qak,qbm,guardK_true,qar,qay,qaJ,qaq,qdv,qaH,qcx,qaG,qa7,qa1,qaj,qaD,qas,zM,zN,zO,zP,zG,zC,zI,zR,qbd,z7,zK,zJ,qda,qbH,Nat.reduceAdd,Nat.reduceSub,qa5,op_box,qcH,qb6,qcZ,qcR,aggR_some,op_build,qbC,zzE,zzA,zzD,Nat.reduceEqDiff,Nat.reduceLeDiff,zu,zD,zA,zB,zT,zL,qcU,qcj,aB_calK,zB,zA,N_quo,N_neq,decide_not,Nat.reduceLeDiff,Nat.reduceEqDiff,Nat.reduceAdd,Nat.reduceDiv,zL,zT,zg,ze,qcm,qbA,qcT,qaI,qaZ,qaA,ze,zg,Nat.reduceSub,qam,qam,L16,hk,hbo,RF_0']
  generalize hL:qbW L16k5 _ _ _=r
  refine qby hL (r5J 8 key) 256 (by omega) (fun i st hi hJ=>r5_round _ 8 key i hi st hJ) ?_ ?_ ?_
  · refine qaT [(18, 0)] rfl (by simp only [qav, FUEL, qaz, qax, qaB, qaE, qcM, qaO, zV, zX, zI, zQ, zz, zC, zW, zf, Nat.reduceEqDiff, zD, zE, zq, zp, zo, ne_eq, zt, qap, qaN, qaL, qaC, qa2, qbb, qbj, L16k5, RF_nms, qbj, qbw]) (by simp only [zC, zG, qaN, qaL, qaC, L16k5, zG, zC, qbO]; rfl) ⟨_, rfl, ?_⟩
    exact qau (18,0) rfl (by simp (disch:=first|omega|decide|simp only[qaf,qad,qag,qae,qah,qac,qaa,qab,qai]) only[qap,zD,qa2]) (by rw[qcS,qcD])
  · rintro st ⟨H, rfl, h0⟩
    apply qbs
    simp (disch:=first|omega|decide|simp only[qaf,qad,qag,qae,qah,qac,qaa,qab,qai]) only[qa0,qat,qao,qan,qal,qak,qaM,qar,qay,qaJ,qaq,qaH,qaG,qaj,qaF,qaD,qas,zM,zN,zO,zP,zK,zJ,Nat.reduceAdd,zA,zB,zL,zB,zA,qaW,Nat.reduceMul,Nat.reduceAdd,zi,zL,L16b5]
    rfl
  · rintro st ⟨H, rfl, h0⟩ rfl
    rw[unT_all] at h0
    simp (disch:=first|omega|decide|simp only[qaf,qad,qag,qae,qah,qac,qaa,qab,qai]) only[qa0,qat,qaX,qao,qan,qal,qak,qar,qay,qaJ,qaq,qaH,qaG,qaj,qaF,qa8,qaD,qas,zM,zN,zO,zP,zK,zJ,qbH,Nat.reduceAdd,zD,zA,zB,zL,zB,zA,qaW,Nat.reduceMul,Nat.reduceAdd,zi,zL,qaI,qaA,qam,L16b5]
    clear hL
    generalize hL:qbW L16k4 _ _ _=r
    refine qby hL (r4J 8 key) 8 (by omega) (fun i st hi hJ=>r4_round _ 8 i (by decide) key hk hi st hJ) ?_ ?_ ?_
    · refine qaT [(1, 0)] rfl (by simp only [qav, FUEL, qaz, qax, qaB, qaE, qcM, qaO, zV, zX, zI, zQ, zz, zC, zW, zf, zD, zE, zb, zq, zp, zo, ne_eq, zt, qaN, qaL, qaC, qbb, qbj, L16k4, RF_nms, qbj, qbw, h0]) (by simp only [zC, zG, qaN, qaL, qaC, L16k4, zG, zC, qbO]; rfl) ⟨_, .inl ⟨rfl, rfl, ?_⟩⟩
      exact qau (1,0) rfl (by simp (disch:=first|omega|decide|simp only[qaf,qad,qag,qae,qah,qac,qaa,qab,qai]) only[h0]) (by rw[qcS,qcD])
    · intro st hJ
      obtain ⟨H,rfl,h0,h1⟩:=hJ.of_s (by decide)
      apply qbs
      simp (disch:=first|omega|decide|simp only[qaf,qad,qag,qae,qah,qac,qaa,qab,qai]) only[qa0,qat,qao,qan,qal,qak,qaM,qar,qay,qaq,qaH,qaG,qaj,qaF,qaD,qas,zM,zN,zO,zP,zK,zJ,Nat.reduceAdd,zA,zB,zL,zB,zA,qaW,Nat.reduceMul,Nat.reduceAdd,zi,zL,L16b4]
      rfl
    · intro st hJ hr
      obtain ⟨H,rfl,h0,h1⟩:=hJ.of_s (by decide)
      subst hr
      rw[List.take_of_length_le (by omega)] at h1
      simp (disch:=first|omega|decide|simp only[qaf,qad,qag,qae,qah,qac,qaa,qab,qai]) only[qa0,qat,qaX,qao,qan,qal,qak,qar,qay,qaJ,qaq,qaH,qaG,qaj,qaF,qa8,qaD,qas,zM,zN,zO,zP,zK,zJ,qbH,Nat.reduceAdd,zD,zA,zB,zL,zB,zA,qaW,Nat.reduceMul,Nat.reduceAdd,zi,zL,qaI,qaA,qam,L16b4]
      clear hL
      generalize hL:qbW L16k3 _ _ _=r
      refine qby hL (r3J 8 key) 52 (by omega) (fun i st hi hJ=>r3_round (k+388) 8 (.inr rfl) key hk i hi st hJ) ?_ ?_ ?_
      · refine qaT [(1, 0), (1, 1)] rfl (by simp only [qav, FUEL, qaz, qax, qaB, qaE, qaQ, qbU, qcM, qaO, zV, zX, zI, zR, zQ, zz, zC, zW, zY, zF, zm, zn, zf, zZ, zl, zD, zE, zb, zq, zp, zo, ne_eq, zt, qaN, qaL, qaC, qbb, qbj, L16k3, RF_nms, qbj, qaP, h0, h1]) rfl ⟨_, Un, Un, Un, ⟨rfl, fun _ => rfl⟩, rfl, ?_, ?_⟩
        · exact qau (1,0) rfl (by simp (disch:=first|omega|decide|simp only[qaf,qad,qag,qae,qah,qac,qaa,qab,qai]) only[h0]) (by rw[qcS,qcD])
        · exact qau (1,1) rfl (by simp (disch:=first|omega|decide|simp only[qaf,qad,qag,qae,qah,qac,qaa,qab,qai]) only[h1]; rfl) (qaK _ _)
      · rintro st ⟨H, a, b, d, hp, rfl, h0, h1⟩
        apply qbs
        simp (disch:=first|omega|decide|simp only[qaf,qad,qag,qae,qah,qac,qaa,qab,qai]) only[qa0,qat,qao,qan,qal,qak,qaM,qar,qay,qaJ,qaq,qaH,qaG,qaj,qaF,qaD,qas,zM,zN,zO,zP,zK,zJ,Nat.reduceAdd,zA,zB,zL,zB,zA,qbz,N_mul,qaW,Nat.reduceMul,Nat.reduceAdd,zi,zL,L16b3]
        rfl
      · rintro st ⟨H, a, b, d, hp, rfl, h0, h1⟩ rfl
        simp (disch:=first|omega|decide|simp only[qaf,qad,qag,qae,qah,qac,qaa,qab,qai]) only[qa0,qat,qaX,qao,qan,qal,qak,qar,qay,qaJ,qaq,qaH,qaG,qaj,qaF,qa8,qaD,qas,zM,zN,zO,zP,zK,zJ,qbH,Nat.reduceAdd,zD,zA,zB,zL,zB,zA,qbz,N_mul,qaW,Nat.reduceMul,Nat.reduceAdd,zi,zL,qaI,qaA,qam,L16b3]
        clear hL
        generalize hL:qbW L16k1 _ _ _=r
        have hlen:(KS 8 key 52).1.length=16*(8+7):=KS_length 8 key hk 52
        refine qby hL (s1J 8 (KS 8 key 52).1) 15 (by omega) (fun i st hi hJ=>s1_round (k+382) 8 i (by decide) hi _ hlen st hJ) ?_ ?_ ?_
        · refine qaT [(1, 0), (1, 1)] rfl (by simp only [qav, FUEL, qaz, qax, qaB, qaE, qaQ, qaO, zV, zX, zI, zR, zQ, zz, zC, zW, zY, zF, zm, zn, zf, zZ, zl, zD, zE, zb, zq, zp, zo, ne_eq, zt, qaN, qaL, qaC, qbb, qbj, L16k1, RF_nms, qbj, qaP, h0, h1]) rfl ⟨_, .inl ⟨rfl, rfl, ?_, ?_⟩⟩
          · exact qau (1,0) rfl (by simp (disch:=first|omega|decide|simp only[qaf,qad,qag,qae,qah,qac,qaa,qab,qai]) only[h0]) (by rw[qcS,qcD])
          · exact qau (1,1) rfl (by simp (disch:=first|omega|decide|simp only[qaf,qad,qag,qae,qah,qac,qaa,qab,qai]) only[h1]) (qaK _ _)
        · intro st hJ
          obtain ⟨H,rfl,h0,hk,h1⟩:=hJ.of_s (by decide)
          apply qbs
          simp (disch:=first|omega|decide|simp only[qaf,qad,qag,qae,qah,qac,qaa,qab,qai]) only[qa0,qat,qao,qan,qal,qak,qaM,qar,qay,qaJ,qaq,qaH,qaG,qaj,qaF,qaD,qas,zM,zN,zO,zP,zK,zJ,Nat.reduceAdd,zA,zB,zL,qcU,zB,zA,qbz,qaW,Nat.reduceMul,Nat.reduceAdd,zi,zL,L16b1]
          rfl
        · intro st hJ hr
          obtain ⟨H,rfl,h0,hk,h1⟩:=hJ.of_s (by decide)
          subst hr
          simp (disch:=first|omega|decide|simp only[qaf,qad,qag,qae,qah,qac,qaa,qab,qai]) only[qbI,qa0,qat,qao,qan,qal,qak,qar,qay,qaJ,qaq,qaH,qaG,qaj,qaF,qa8,qaD,qas,qbr,zM,zN,zO,zP,zK,zJ,zH,Nat.reduceAdd,zD,zA,zB,zL,qc4,qcU,zB,zA,qbz,qaW,Nat.reduceMul,Nat.reduceAdd,zi,zL,qaI,qaA,zH,qam,L16b1]
          rw[List.take_of_length_le (by rw[hlen]; decide)] at hk
          rw[qdk 0 _ _ [(1,0),(1,1)] (by simp only[qav,FUEL,qaz,qax,qaB,qaQ,zV,zX,zI,zR,zQ,zz,zC,zW,zY,zF,zm,zn,zf,zZ,zl,zD,zE,zb,zq,zp,zo,ne_eq,zt,RF_nms,qaP,qcV,nms7_ptr,nms7_N,h0,hk])]
          simp (disch:=first|omega|decide|simp only[qaf,qad,qag,qae,qah,qac,qaa,qab,qai]) only[zG,zC,zH,Nat.reduceAdd,zF,zZ,zD,zE,zA,zh,idx_cons,canonMap_ne,zzB,zH,qaK,List.filterMap_cons,zz,qbq,qbK,qcS,qaK,h0,hk,qb8]
          rfl
theorem rnew_F (k n:Nat) (hn:n=4∨n=8) (key:List (BitVec 8)) (hk:key.length=4*n):F C (k+400) 16 [.isl (bs key) key.length] []=some (.tup [.ptr (1,0) 0,N 0],[],[RF (.sl (1,1) 0 (n+7) none 16) TB,bs (W n key)]):=by
  rcases hn with rfl | rfl
  · exact rnew_4 k key hk
  · exact rnew_8 k key hk
end Aes
