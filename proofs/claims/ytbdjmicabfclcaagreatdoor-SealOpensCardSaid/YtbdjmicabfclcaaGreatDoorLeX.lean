/- The document's New: the object, the first loop. -/
import Derived.Test.YtbdjmicabfclcaaGreatDoorLeW
set_option linter.unusedVariables false
set_option linter.unusedSimpArgs false
open List renaming reduceReplicate → rR
open Nat renaming reduceSubDiff → rS
namespace Aes
open Go Go.LE Tb
set_option maxRecDepth 20000
def RF (kv:LV) (f:R):qan:=kv::aB 512 f
theorem qgD (r:LV) (f:R):(RF r f).length=513:=by rw[RF,zH,qbB]
theorem RF_k (r:LV) (f:R):qbc 0 1 (some (RF r f))=some [r]:=by
  rw[qbP,if_pos (by rw[qgD]; decide)]; rfl
theorem RF_at (r:LV) (f:R) (o:Nat) (h:o < 512):qbc (o+1) 1 (some (RF r f))=some [B8 (f o)]:=by
  have:=qf3 512 f o h
  rw[qbP,if_pos (by rw[qbB]; omega)] at this
  rw[qbP,if_pos (by rw[qgD]; omega),RF,zd]
  exact this
theorem RF_st (r:LV) (f:R) (m:Nm) (o:Nat) (x:BitVec 8) (h0:0 < o) (h:o < 513):stK 1 o m (some [B8 x]) (some (RF r f))=some ⟨Un,[],[(m,some (RF r (set1 f (o - 1) x)))]⟩:=by
  obtain ⟨p,rfl⟩:∃ p,o=p+1:=⟨o - 1,by omega⟩
  have:=aB_st p 512 m x f (by omega)
  rw[qc3,if_pos ⟨rfl,by rw[qbB]; omega,rfl⟩] at this
  rw[qc3,if_pos ⟨rfl,by rw[qgD]; omega,rfl⟩]
  have e:qbk (aB 512 f) p [B8 x]=aB 512 (set1 f p x):=by simpa using this
  have e2:qbk (RF r f) (p+1) [B8 x]=r::qbk (aB 512 f) p [B8 x]:=by
    simp only[qbk,RF,zi,zQ,zH,zM,zO]
    rw[Nat.add_right_comm,zd]
  rw[e2,e]; rfl
theorem RF_st0 (r x:LV) (f:R) (m:Nm) (h:qaQ x=true):stK 1 0 m (some [x]) (some (RF r f))=some ⟨Un,[],[(m,some (RF x f))]⟩:=by
  have e:qbk (RF r f) 0 [x]=RF x f:=by
    simp only[qbk,RF,zZ,zG,zH,zM,zO,zd,zE,zQ]
  rw[qc3,if_pos ⟨rfl,by rw[qgD]; omega,by rw[zW,h]; rfl⟩,e]
theorem qbZ (r:LV) (f:R):(RF r f).flatMap (nms D)=nms D r:=by rw[RF,zI,qaD,zD]
theorem qbI (π:Nm→Option Nm) (r:LV) (f:R):(RF r f).map (ren D π)=RF (ren D π r) f:=by rw[RF,zA,qap]; rfl
theorem RF_congr (r:LV) {f g:R} (h:∀ i,i < 512→f i=g i):RF r f=RF r g:=by rw[RF,RF,qbR _ h]
def unT (i:Nat):R:=fun j=>if j < 256 then BX j else if j < 512∧(UB (j - 256)).toNat < i then UB (j - 256) else 0#8
theorem unT_succ (i:Nat) (hi:i < 256):set1 (unT i) (256+(BX i).toNat) (BitVec.ofNat 8 i)=unT (i+1):=by
  have hb:(BX i).toNat < 256:=(BX i).isLt
  funext j
  simp only[unT,set1]
  by_cases h:j=256+(BX i).toNat
  · subst h
    have e:(UB (256+(BX i).toNat - 256)).toNat=i:=by
      rw[zh,ub_bxN i hi,BitVec.toNat_ofNat]; omega
    rw[if_pos rfl,if_neg (by omega),if_pos ⟨by omega,by omega⟩,zh,ub_bxN i hi]
  · rw [if_neg h]
    by_cases h1:j < 256
    · rw[if_pos h1,if_pos h1]
    · rw [if_neg h1, if_neg h1]
      by_cases h2:j < 512
      · have h3:(UB (j - 256)).toNat≠i:=by
          intro h3
          have:=bx_ubN (j - 256) (by omega)
          rw[h3] at this
          have:(BX i).toNat=j - 256:=by rw[this,BitVec.toNat_ofNat]; omega
          omega
        by_cases h4:(UB (j - 256)).toNat < i
        · rw[if_pos ⟨h2,h4⟩,if_pos ⟨h2,by omega⟩]
        · rw[if_neg (fun h=>h4 h.2),if_neg (fun h=>h4 (by omega))]
      · rw[if_neg (fun h=>h2 h.1),if_neg (fun h=>h2 h.1)]
theorem unT_all (r:LV):RF r (unT 256)=RF r TB:=RF_congr r fun j hj=>by
  simp only[unT,TB]
  by_cases h1:j < 256
  · rw[if_pos h1,if_pos h1]
  · rw[if_neg h1,if_neg h1,if_pos ⟨hj,ub_lt _⟩,if_pos hj]
theorem unT_bx (i j:Nat) (h:j < 256):unT i j=BX j:=if_pos h
theorem RF_0:qbk ([Nil]++List.replicate 512 (B8 0#8)) 1 (aB 256 BX)=RF Nil (unT 0):=by
  have e:aB 256 BX++aB 256 (fun _=>0#8)=aB 512 (unT 0):=by
    apply List.ext_getElem
    · simp only[zJ,qbB]
    · intro j h1 h2
      rw[qbB] at h2
      rw[List.getElem_append]
      by_cases h:j < 256
      · rw [dif_pos (by rw [qbB]; exact h)]
        simp only[aB,arr,List.getElem_map,List.getElem_range,unT_bx 0 j h]
      · rw [dif_neg (by rw [qbB]; exact h)]
        simp only[aB,arr,List.getElem_map,List.getElem_range,unT,if_neg h,Nat.not_lt_zero,and_false,zL]
  rw[qbk,qbB,List.singleton_append,zi,zZ,show 1+256=256+1 from rfl,zd,List.drop_replicate,RF,←e,qeO]
  rfl
def r5J (n:Nat) (key:List (BitVec 8)) (i:Nat) (st:St):Prop := ∃ (H:Heap),st=⟨[.isl (bs key) (4*n),.undef,.undef,.undef,N n,.ptr (1,0) 0,N i,.undef,.undef,.undef,.undef,.undef,.undef,.undef,.undef,.undef,.undef,.undef,.undef,.undef,.undef,.undef,.undef,.undef,.undef,.undef,.undef,.undef,.undef,.undef,.undef,.undef,.undef,.undef,.undef,.undef,.undef,.undef,.undef,.undef,.undef,.undef,.undef,.undef,.undef,.undef,.undef,.undef,.undef,.undef,.undef,.undef,.undef,.undef,.undef,.undef,.undef,.undef,.undef,.undef,.undef,.undef,.undef,.undef,.undef,.undef,.undef,.undef,.undef,.undef,.undef,.undef,.undef,.undef,.undef,.undef,.undef,.undef,.undef,.undef,.undef,.undef,.undef,.undef,.undef,.undef,.undef,.undef,.undef,.undef,.undef,.undef,.undef,.undef,.undef,.undef,.undef,.undef,.undef,.undef,.undef,.undef,.undef,.undef,.undef,.undef,.undef,.undef,.undef,.undef,.undef,.undef,.undef,.undef,.undef,.undef,.undef,.undef,.undef,.undef,.undef,.undef,.undef,.undef,.undef,.undef,.undef,.undef,.undef,.undef,.undef,Un,Un,Un,.undef,.undef,.undef,.undef,.undef,.undef,.undef,.undef,.undef,.undef,.undef,.undef,.undef,.undef,.undef,.undef,.undef,.undef,.undef,.undef,.undef,.undef,.undef,.undef,.undef,.undef,.undef,.undef,.undef,.undef,.undef,.undef,.undef,.undef,.undef,.undef,.undef,.undef,.undef,.undef,.undef,.undef,.undef,.undef,.undef,.undef,.undef,.undef,.undef,.undef,.undef,.undef,.undef,.undef,.undef,.undef,.undef,.undef,.undef,.undef,.undef,.undef,.undef,.undef,.undef,.undef,.undef,.undef,.undef,.undef,.undef,.undef,.undef,.undef,.undef,.undef,.undef,.undef,.undef,.undef,.undef,.undef,.undef,.undef,.undef,.undef],H,2,0⟩∧H (1,0)=some (RF Nil (unT i))
theorem r5_round (k n:Nat) (key:List (BitVec 8)) (i:Nat) (hi:i < 256) (st:St) (hJ:r5J n key i st) :
    ∃ st1,ev (envC C k) k L39b5 st=some (.normal,st1)∧r5J n key (i+1) (qaT L39k5 st1):=by
  obtain ⟨H,rfl,h0⟩:=hJ
  have hb:(BX i).toNat < 256:=(BX i).isLt
  have hc:qbc (1+i) 1 (some (RF Nil (unT i)))=some [B8 (BX i)]:=by rw[Nat.add_comm,RF_at _ _ _ (by omega),unT_bx i i hi]
  have hs:∀ m,stK 1 (257+(BX i).toNat) m (some [B8 (BitVec.ofNat 8 i)]) (some (RF Nil (unT i)))=some ⟨Un,[],[(m,some (RF Nil (unT (i+1))))]⟩:=by
    intro m
    rw[RF_st _ _ _ _ _ (by omega) (by omega),show 257+(BX i).toNat - 1=256+(BX i).toNat by omega,unT_succ i hi]
  simp (disch:=first|omega|decide|simp only[nmsB,lB]) only[simprocAttr,-rR,-rS,leB,memB,arrB,numB,qaf,ordB,qaz,qak,qaF,L39b5,h0,hi,hb,hc,hs,qac,qad,qab,qaa,qaq,qah]
  refine ⟨_,rfl,?_⟩
  refine qal [(1,0)] rfl (by simp only[simprocAttr,-rR,-rS,qaj,L39k5,qaD,qbZ,qaU,qam,qa1,h0,qag,qab,qaa]) (by simp only[simprocAttr,-rR,-rS,qaj,L39k5,zA,zB,qa9,qag,qab,qaa] <;> rfl) ⟨_,rfl,?_⟩
  exact qai (1,0) rfl (by simp (disch:=first|omega|decide|simp only[nmsB,lB]) only[simprocAttr,-rR,-rS,leB,memB,qaf,qae,qac,qad,qab,qaa]) (by rw[qbI,qbp])
end Aes
namespace Aes
open Go Go.LE Tb
set_option maxRecDepth 20000
def r4J (n:Nat) (key:List (BitVec 8)) (i:Nat) (st:St):Prop := ∃ (H:Heap),
  (i=0∧st=⟨[.isl (bs key) (4*n),.undef,.undef,.undef,N n,.ptr (1,0) 0,.undef,Nil,N 0,.undef,.undef,.undef,.undef,.undef,.undef,.undef,.undef,.undef,.undef,.undef,.undef,.undef,.undef,.undef,.undef,.undef,.undef,.undef,.undef,.undef,.undef,.undef,.undef,.undef,.undef,.undef,.undef,.undef,.undef,.undef,.undef,.undef,.undef,.undef,.undef,.undef,.undef,.undef,.undef,.undef,.undef,.undef,.undef,.undef,.undef,.undef,.undef,.undef,.undef,.undef,.undef,.undef,.undef,.undef,.undef,.undef,.undef,.undef,.undef,.undef,.undef,.undef,.undef,.undef,.undef,.undef,.undef,.undef,.undef,.undef,.undef,.undef,.undef,.undef,.undef,.undef,.undef,.undef,.undef,.undef,.undef,.undef,.undef,.undef,.undef,.undef,.undef,.undef,.undef,.undef,.undef,.undef,.undef,.undef,.undef,.undef,.undef,.undef,.undef,.undef,.undef,.undef,.undef,.undef,.undef,.undef,.undef,.undef,.undef,.undef,.undef,.undef,.undef,.undef,.undef,.undef,.undef,.undef,.undef,.undef,.undef,Un,Un,Un,.undef,.undef,.undef,.undef,.undef,.undef,.undef,.undef,.undef,.undef,.undef,.undef,.undef,.undef,.undef,.undef,.undef,.undef,.undef,.undef,.undef,.undef,.undef,.undef,.undef,.undef,.undef,.undef,.undef,.undef,.undef,.undef,.undef,.undef,.undef,.undef,.undef,.undef,.undef,.undef,.undef,.undef,.undef,.undef,.undef,.undef,.undef,.undef,.undef,.undef,.undef,.undef,.undef,.undef,.undef,.undef,.undef,.undef,.undef,.undef,.undef,.undef,.undef,.undef,.undef,.undef,.undef,.undef,.undef,.undef,.undef,.undef,.undef,.undef,.undef,.undef,.undef,.undef,.undef,.undef,.undef,.undef,.undef,.undef,.undef,.undef],H,2,0⟩∧H (1,0)=some (RF Nil TB)) ∨
  (0 < i∧st=⟨[.isl (bs key) (4*n),.undef,.undef,.undef,N n,.ptr (1,0) 0,.undef,.sl (1,1) 0 i none 4,N i,.undef,.undef,.undef,.undef,.undef,.undef,.undef,.undef,.undef,.undef,.undef,.undef,.undef,.undef,.undef,.undef,.undef,.undef,.undef,.undef,.undef,.undef,.undef,.undef,.undef,.undef,.undef,.undef,.undef,.undef,.undef,.undef,.undef,.undef,.undef,.undef,.undef,.undef,.undef,.undef,.undef,.undef,.undef,.undef,.undef,.undef,.undef,.undef,.undef,.undef,.undef,.undef,.undef,.undef,.undef,.undef,.undef,.undef,.undef,.undef,.undef,.undef,.undef,.undef,.undef,.undef,.undef,.undef,.undef,.undef,.undef,.undef,.undef,.undef,.undef,.undef,.undef,.undef,.undef,.undef,.undef,.undef,.undef,.undef,.undef,.undef,.undef,.undef,.undef,.undef,.undef,.undef,.undef,.undef,.undef,.undef,.undef,.undef,.undef,.undef,.undef,.undef,.undef,.undef,.undef,.undef,.undef,.undef,.undef,.undef,.undef,.undef,.undef,.undef,.undef,.undef,.undef,.undef,.undef,.undef,.undef,.undef,Un,Un,Un,.undef,.undef,.undef,.undef,.undef,.undef,.undef,.undef,.undef,.undef,.undef,.undef,.undef,.undef,.undef,.undef,.undef,.undef,.undef,.undef,.undef,.undef,.undef,.undef,.undef,.undef,.undef,.undef,.undef,.undef,.undef,.undef,.undef,.undef,.undef,.undef,.undef,.undef,.undef,.undef,.undef,.undef,.undef,.undef,.undef,.undef,.undef,.undef,.undef,.undef,.undef,.undef,.undef,.undef,.undef,.undef,.undef,.undef,.undef,.undef,.undef,.undef,.undef,.undef,.undef,.undef,.undef,.undef,.undef,.undef,.undef,.undef,.undef,.undef,.undef,.undef,.undef,.undef,.undef,.undef,.undef,.undef,.undef,.undef,.undef,.undef],H,2,0⟩∧H (1,0)=some (RF Nil TB)∧H (1,1)=some (bs (key.take (4*i))))
theorem r4J.of_z {n:Nat} {key:List (BitVec 8)} {st:St} (h:r4J n key 0 st):∃ (H:Heap),st=⟨[.isl (bs key) (4*n),.undef,.undef,.undef,N n,.ptr (1,0) 0,.undef,Nil,N 0,.undef,.undef,.undef,.undef,.undef,.undef,.undef,.undef,.undef,.undef,.undef,.undef,.undef,.undef,.undef,.undef,.undef,.undef,.undef,.undef,.undef,.undef,.undef,.undef,.undef,.undef,.undef,.undef,.undef,.undef,.undef,.undef,.undef,.undef,.undef,.undef,.undef,.undef,.undef,.undef,.undef,.undef,.undef,.undef,.undef,.undef,.undef,.undef,.undef,.undef,.undef,.undef,.undef,.undef,.undef,.undef,.undef,.undef,.undef,.undef,.undef,.undef,.undef,.undef,.undef,.undef,.undef,.undef,.undef,.undef,.undef,.undef,.undef,.undef,.undef,.undef,.undef,.undef,.undef,.undef,.undef,.undef,.undef,.undef,.undef,.undef,.undef,.undef,.undef,.undef,.undef,.undef,.undef,.undef,.undef,.undef,.undef,.undef,.undef,.undef,.undef,.undef,.undef,.undef,.undef,.undef,.undef,.undef,.undef,.undef,.undef,.undef,.undef,.undef,.undef,.undef,.undef,.undef,.undef,.undef,.undef,.undef,Un,Un,Un,.undef,.undef,.undef,.undef,.undef,.undef,.undef,.undef,.undef,.undef,.undef,.undef,.undef,.undef,.undef,.undef,.undef,.undef,.undef,.undef,.undef,.undef,.undef,.undef,.undef,.undef,.undef,.undef,.undef,.undef,.undef,.undef,.undef,.undef,.undef,.undef,.undef,.undef,.undef,.undef,.undef,.undef,.undef,.undef,.undef,.undef,.undef,.undef,.undef,.undef,.undef,.undef,.undef,.undef,.undef,.undef,.undef,.undef,.undef,.undef,.undef,.undef,.undef,.undef,.undef,.undef,.undef,.undef,.undef,.undef,.undef,.undef,.undef,.undef,.undef,.undef,.undef,.undef,.undef,.undef,.undef,.undef,.undef,.undef,.undef,.undef],H,2,0⟩∧H (1,0)=some (RF Nil TB):=by
  obtain ⟨H,⟨_,h⟩ | ⟨h,_⟩⟩:=h
  · exact ⟨H,h⟩
  · exact absurd h (by omega)
theorem r4J.of_s {n i:Nat} {key:List (BitVec 8)} {st:St} (h:r4J n key i st) (hi:0 < i):∃ (H:Heap),st=⟨[.isl (bs key) (4*n),.undef,.undef,.undef,N n,.ptr (1,0) 0,.undef,.sl (1,1) 0 i none 4,N i,.undef,.undef,.undef,.undef,.undef,.undef,.undef,.undef,.undef,.undef,.undef,.undef,.undef,.undef,.undef,.undef,.undef,.undef,.undef,.undef,.undef,.undef,.undef,.undef,.undef,.undef,.undef,.undef,.undef,.undef,.undef,.undef,.undef,.undef,.undef,.undef,.undef,.undef,.undef,.undef,.undef,.undef,.undef,.undef,.undef,.undef,.undef,.undef,.undef,.undef,.undef,.undef,.undef,.undef,.undef,.undef,.undef,.undef,.undef,.undef,.undef,.undef,.undef,.undef,.undef,.undef,.undef,.undef,.undef,.undef,.undef,.undef,.undef,.undef,.undef,.undef,.undef,.undef,.undef,.undef,.undef,.undef,.undef,.undef,.undef,.undef,.undef,.undef,.undef,.undef,.undef,.undef,.undef,.undef,.undef,.undef,.undef,.undef,.undef,.undef,.undef,.undef,.undef,.undef,.undef,.undef,.undef,.undef,.undef,.undef,.undef,.undef,.undef,.undef,.undef,.undef,.undef,.undef,.undef,.undef,.undef,.undef,Un,Un,Un,.undef,.undef,.undef,.undef,.undef,.undef,.undef,.undef,.undef,.undef,.undef,.undef,.undef,.undef,.undef,.undef,.undef,.undef,.undef,.undef,.undef,.undef,.undef,.undef,.undef,.undef,.undef,.undef,.undef,.undef,.undef,.undef,.undef,.undef,.undef,.undef,.undef,.undef,.undef,.undef,.undef,.undef,.undef,.undef,.undef,.undef,.undef,.undef,.undef,.undef,.undef,.undef,.undef,.undef,.undef,.undef,.undef,.undef,.undef,.undef,.undef,.undef,.undef,.undef,.undef,.undef,.undef,.undef,.undef,.undef,.undef,.undef,.undef,.undef,.undef,.undef,.undef,.undef,.undef,.undef,.undef,.undef,.undef,.undef,.undef,.undef],H,2,0⟩∧H (1,0)=some (RF Nil TB)∧H (1,1)=some (bs (key.take (4*i))):=by
  obtain ⟨H,⟨h,_⟩ | ⟨_,h⟩⟩:=h
  · exact absurd h (by omega)
  · exact ⟨H,h⟩
theorem qe4 (H:Heap) (key:List (BitVec 8)) (o:Nat) (h:o < key.length):qb9 H 1 (.ipt (List.drop o (bs key)))=some [B8 (key.getD o 0#8)]:=by
  rw[qdt,qb9,if_pos (by rw[qaV,zR]; omega),qcg,List.getD_eq_getElem?_getD,List.getElem?_eq_getElem h,List.drop_eq_getElem_cons h]
  rfl
theorem r4_roundZ (k n:Nat) (hn:n≤8) (key:List (BitVec 8)) (hk:key.length=4*n) (hi:0 < n) (st:St) (hJ:r4J n key 0 st) :
    ∃ st1,ev (envC C k) k L39b4 st=some (.normal,st1)∧r4J n key (0+1) (qaT L39k4 st1):=by
  obtain ⟨H,rfl,h0⟩:=hJ.of_z
  have i0:4*0 < 4*n:=by omega
  have i1:4*0+1 < 4*n:=by omega
  have i2:4*0+2 < 4*n:=by omega
  have i3:4*0+3 < 4*n:=by omega
  have c0:∀ H,_:=fun H=>qe4 H key 0 (by omega)
  simp only[zE] at c0
  have c1:=fun H=>qe4 H key 1 (by omega)
  have c2:=fun H=>qe4 H key 2 (by omega)
  have c3:=fun H=>qe4 H key 3 (by omega)
  have n0:nms D (.ipt (bs key))=[]:=qf5 key 0
  have hlit:[B8 (key.getD 0 0#8),B8 (key.getD 1 0#8),B8 (key.getD 2 0#8),B8 (key.getD 3 0#8)]=aB 4 fun j=>key.getD (0+j) 0#8:=rfl
  simp (disch:=first|omega|decide|simp only[nmsB,lB]) only[simprocAttr,-rR,-rS,leB,memB,arrB,numB,qaf,ordB,qaz,qak,qaF,L39b4,h0,hi,i0,i1,i2,i3,c0,c1,c2,c3,hlit,fill_w,fr_w,qaN,qf5,n0,qac,qad,qab,qaa,qaq,qah]
  clear hJ
  refine ⟨_,rfl,?_⟩
  refine qal [(1,0),(31,0)] rfl (by simp only[simprocAttr,-rR,-rS,qaj,L39k4,qaD,qbZ,qaN,qaU,qam,qa1,h0,qag,qab,qaa]) (by simp only[simprocAttr,-rR,-rS,qaj,L39k4,zA,zB,qa9,qag,qab,qaa] <;> rfl) ⟨_,.inr ⟨by omega,rfl,?_,?_⟩⟩
  · exact qai (1,0) rfl (by simp (disch:=first|omega|decide|simp only[nmsB,lB]) only[simprocAttr,-rR,-rS,leB,memB,qaf,h0,qae,qac,qad,qab,qaa]) (by rw[qbI,qbp])
  · refine (qb7 _ _ 1 (31, 0) _ rfl (by simp (disch := first | omega | decide | simp only [nmsB, lB]) only [simprocAttr, -rR, -rS, leB, memB, qaf, qae, qac, qad, qab, qaa] <;> rfl)).trans ?_
    have e:=key4 key 0 (by omega)
    simp only[Nat.mul_zero,zZ,zO] at e
    rw[qap,qfh,←e]; rfl
theorem r4_roundS (k n i:Nat) (hn:n≤8) (key:List (BitVec 8)) (hk:key.length=4*n) (hi:i < n) (h0i:0 < i) (st:St) (hJ:r4J n key i st) :
    ∃ st1,ev (envC C k) k L39b4 st=some (.normal,st1)∧r4J n key (i+1) (qaT L39k4 st1):=by
  obtain ⟨H,rfl,h0,h1⟩:=hJ.of_s h0i
  have i0:4*i < 4*n:=by omega
  have i1:4*i+1 < 4*n:=by omega
  have i2:4*i+2 < 4*n:=by omega
  have i3:4*i+3 < 4*n:=by omega
  have c0:∀ H,_:=fun H=>qe4 H key (4*i) (by omega)
  have c1:=fun H=>qe4 H key (4*i+1) (by omega)
  have c2:=fun H=>qe4 H key (4*i+2) (by omega)
  have c3:=fun H=>qe4 H key (4*i+3) (by omega)
  have hap:∀ (b:Nat),appN b 4 1 0 i (1,1) (aB 4 fun j=>key.getD (4*i+j) 0#8) (some (bs (key.take (4*i))))=some ⟨.sl (b,0) 0 (i+1) none 4,[bs (key.take (4*(i+1)))],[((1,1),none)]⟩:=by
    intro b
    rw[appN,qaV,if_pos (by rw[zT]; omega),zE,qfh,qcg,qcY,List.take_of_length_le (by rw[zT]; omega),←key4 key i (by omega),ext4]
  have n0:nms D (.ipt (bs key))=[]:=qf5 key 0
  have hlit:[B8 (key.getD (4*i) 0#8),B8 (key.getD (4*i+1) 0#8),B8 (key.getD (4*i+2) 0#8),B8 (key.getD (4*i+3) 0#8)]=aB 4 fun j=>key.getD ((4*i)+j) 0#8:=rfl
  simp (disch:=first|omega|decide|simp only[nmsB,lB]) only[simprocAttr,-rR,-rS,leB,memB,arrB,numB,qaf,ordB,qaz,qak,qaF,L39b4,h0,h1,hi,i0,i1,i2,i3,c0,c1,c2,c3,hlit,fill_w,fr_w,qaN,qf5,n0,hap,qac,qad,qab,qaa,qaq,qah]
  clear hJ
  refine ⟨_,rfl,?_⟩
  refine qal [(1,0),(31,0)] rfl (by simp only[simprocAttr,-rR,-rS,qaj,L39k4,qaD,qbZ,qaN,qaU,qam,qa1,h0,qag,qab,qaa]) (by simp only[simprocAttr,-rR,-rS,qaj,L39k4,zA,zB,qa9,qag,qab,qaa] <;> rfl) ⟨_,.inr ⟨by omega,rfl,?_,?_⟩⟩
  · exact qai (1,0) rfl (by simp (disch:=first|omega|decide|simp only[nmsB,lB]) only[simprocAttr,-rR,-rS,leB,memB,qaf,h0,qae,qac,qad,qab,qaa]) (by rw[qbI,qbp])
  · refine (qb7 _ _ 1 (31, 0) _ rfl (by simp (disch := first | omega | decide | simp only [nmsB, lB]) only [simprocAttr, -rR, -rS, leB, memB, qaf, qae, qac, qad, qab, qaa] <;> rfl)).trans ?_
    rw[qar]
theorem r4_round (k n i:Nat) (hn:n≤8) (key:List (BitVec 8)) (hk:key.length=4*n) (hi:i < n) (st:St) (hJ:r4J n key i st) :
    ∃ st1,ev (envC C k) k L39b4 st=some (.normal,st1)∧r4J n key (i+1) (qaT L39k4 st1):=by
  by_cases h0:0 < i
  · exact r4_roundS k n i hn key hk hi h0 st hJ
  · obtain rfl : i = 0 := by omega
    exact r4_roundZ k n hn key hk hi st hJ
end Aes
namespace Aes
open Go Go.LE Tb
set_option maxRecDepth 20000
def r2J (n m:Nat) (key:List (BitVec 8)) (cst:BitVec 8) (t:R) (a b d:LV) (j:Nat) (st:St):Prop := ∃ (H:Heap),
  st=⟨[.undef,.undef,.undef,.undef,N n,.ptr (1,0) 0,.undef,.sl (1,1) 0 (n+m) none 4,.undef,B8 cst,N (n+m),.ptr (1,2) 0,N j,.undef,.undef,.undef,.undef,.undef,.undef,.undef,.undef,.undef,.undef,.undef,.undef,.undef,.undef,.undef,.undef,.undef,.undef,.undef,.undef,.undef,.undef,.undef,.undef,.undef,.undef,.undef,.undef,.undef,.undef,.undef,.undef,.undef,.undef,.undef,.undef,.undef,.undef,.undef,.undef,.undef,.undef,.undef,.undef,.undef,.undef,.undef,.undef,.undef,.undef,.undef,.undef,.undef,.undef,.undef,.undef,.undef,.undef,.undef,.undef,.undef,.undef,.undef,.undef,.undef,.undef,.undef,.undef,.undef,.undef,.undef,.undef,.undef,.undef,.undef,.undef,.undef,.undef,.undef,.undef,.undef,.undef,.undef,.undef,.undef,.undef,.undef,.undef,.undef,.undef,.undef,.undef,.undef,.undef,.undef,.undef,.undef,.undef,.undef,.undef,.undef,.undef,.undef,.undef,.undef,.undef,.undef,.undef,.undef,.undef,.undef,.undef,.undef,.undef,.undef,.undef,.undef,.undef,a,b,d,.undef,.undef,.undef,.undef,.undef,.undef,.undef,.undef,.undef,.undef,.undef,.undef,.undef,.undef,.undef,.undef,.undef,.undef,.undef,.undef,.undef,.undef,.undef,.undef,.undef,.undef,.undef,.undef,.undef,.undef,.undef,.undef,.undef,.undef,.undef,.undef,.undef,.undef,.undef,.undef,.undef,.undef,.undef,.undef,.undef,.undef,.undef,.undef,.undef,.undef,.undef,.undef,.undef,.undef,.undef,.undef,.undef,.undef,.undef,.undef,.undef,.undef,.undef,.undef,.undef,.undef,.undef,.undef,.undef,.undef,.undef,.undef,.undef,.undef,.undef,.undef,.undef,.undef,.undef,.undef,.undef,.undef,.undef,.undef,.undef,.undef],H,2,0⟩ ∧
  H (1,0)=some (RF Nil TB)∧H (1,1)=some (bs (KS n key m).1)∧H (1,2)=some (aB 4 fun q=>if q < j then t q ^^^ wd (KS n key m).1 m q else t q)
theorem Pl3 {a b d:LV} (h:Pl [a,b,d]):(nms D a=[]∧nms D b=[]∧nms D d=[])∧(∀ π,ren D π a=a∧ren D π b=b∧ren D π d=d):=by
  obtain ⟨h1,h2⟩:=h
  simp only[zI,zN,List.append_eq_nil_iff,and_true,zD] at h1
  refine ⟨h1,fun π => ?_⟩
  have:=h2 π
  simp only[zA,zB,List.cons.injEq,and_true] at this
  exact this
theorem wcell1 (ws:List (BitVec 8)) (i o j:Nat) (ho:o=i*4+j) (h:i*4+j < ws.length):qbc o 1 (some (bs ws))=some [B8 (wd ws i j)]:=by
  subst ho
  rw[qfs _ _ 1 (by omega),List.drop_eq_getElem_cons h,wd,Nat.mul_comm 4 i,List.getD_eq_getElem?_getD,List.getElem?_eq_getElem h]
  rfl
theorem wcell0 (ws:List (BitVec 8)) (i o:Nat) (ho:o=i*4) (h:4*(i+1)≤ws.length):qbc o 4 (some (bs ws))=some (aB 4 (wd ws i)):=by
  have:=qfi ws 0 i o ho h
  rwa [List.replicate_zero,zD] at this
theorem qhl (k n m:Nat) (hn:n=4∨n=8) (hm:m < 60) (key:List (BitVec 8)) (hk:key.length=4*n) (cst:BitVec 8) (t:R) (a b d:LV) (hp:Pl [a,b,d]) (j:Nat) (hj:j < 4) (st:St) (hJ:r2J n m key cst t a b d j st) :
    ∃ st1,ev (envC C k) k L39b2 st=some (.normal,st1)∧r2J n m key cst t a b d (j+1) (qaT L39k2 st1):=by
  obtain ⟨H,rfl,h0,h1,h2⟩:=hJ
  obtain ⟨⟨na,nb,nd⟩,hr⟩:=Pl3 hp
  have hl:=qcP n key hk m
  have hw:=wcell1 (KS n key m).1 m (m*4+j) j rfl (by omega)
  have e1:n+m - n=m:=by omega
  have hi2:m < n+m:=by omega
  have hs:set1 (fun q=>if q < j then t q ^^^ wd (KS n key m).1 m q else t q) j (t j ^^^ wd (KS n key m).1 m j)=fun q=>if q < j+1 then t q ^^^ wd (KS n key m).1 m q else t q:=by
    funext q
    simp only[set1]
    by_cases h:q=j
    · subst h; rw[if_pos rfl,if_pos (Nat.lt_succ_self _)]
    · rw [if_neg h]
      by_cases h':q < j
      · rw[if_pos h',if_pos (by omega)]
      · rw[if_neg h',if_neg (by omega)]
  simp (disch:=first|omega|decide|simp only[nmsB,lB]) only[simprocAttr,-rR,-rS,leB,memB,arrB,numB,qaf,ordB,qaz,qak,qaF,L39b2,h0,h1,h2,hj,hw,e1,hi2,zU,hs,qaN,qac,qad,qab,qaa,qaq,qah]
  refine ⟨_,rfl,?_⟩
  refine qal [(1,0),(1,1),(1,2)] rfl (by simp only[simprocAttr,-rR,-rS,qaj,L39k2,qaD,qbZ,qaN,qaU,qam,h0,h1,h2,na,nb,nd,qag,qab,qaa]) (by simp only[simprocAttr,-rR,-rS,qaj,L39k2,zA,zB,hr,qag,qab,qaa] <;> rfl) ⟨_,rfl,?_,?_,?_⟩
  · exact qai (1,0) rfl (by simp (disch:=first|omega|decide|simp only[nmsB,lB]) only[simprocAttr,-rR,-rS,leB,memB,qaf,h0,qae,qac,qad,qab,qaa]) (by rw[qbI,qbp])
  · exact qai (1,1) rfl (by simp (disch:=first|omega|decide|simp only[nmsB,lB]) only[simprocAttr,-rR,-rS,leB,memB,qaf,h1,qae,qac,qad,qab,qaa]) (qar _ _)
  · exact qai (1,2) rfl (by simp (disch:=first|omega|decide|simp only[nmsB,lB]) only[simprocAttr,-rR,-rS,leB,memB,qaf,qae,qac,qad,qab,qaa]) (qap _ _ _)
theorem RF_bx (r:LV) (x:BitVec 8):qbc (1+x.toNat) 1 (some (RF r TB))=some [B8 (BX x.toNat)]:=by
  have:=x.isLt
  rw[Nat.add_comm,RF_at r _ _ (by omega),TB_bx]
def r3J (n:Nat) (key:List (BitVec 8)) (m:Nat) (st:St):Prop := ∃ (H:Heap) (a b d:LV),Pl [a,b,d] ∧
  st=⟨[.undef,.undef,.undef,.undef,N n,.ptr (1,0) 0,.undef,.sl (1,1) 0 (n+m) none 4,.undef,B8 (KS n key m).2,N (n+m),.undef,.undef,.undef,.undef,.undef,.undef,.undef,.undef,.undef,.undef,.undef,.undef,.undef,.undef,.undef,.undef,.undef,.undef,.undef,.undef,.undef,.undef,.undef,.undef,.undef,.undef,.undef,.undef,.undef,.undef,.undef,.undef,.undef,.undef,.undef,.undef,.undef,.undef,.undef,.undef,.undef,.undef,.undef,.undef,.undef,.undef,.undef,.undef,.undef,.undef,.undef,.undef,.undef,.undef,.undef,.undef,.undef,.undef,.undef,.undef,.undef,.undef,.undef,.undef,.undef,.undef,.undef,.undef,.undef,.undef,.undef,.undef,.undef,.undef,.undef,.undef,.undef,.undef,.undef,.undef,.undef,.undef,.undef,.undef,.undef,.undef,.undef,.undef,.undef,.undef,.undef,.undef,.undef,.undef,.undef,.undef,.undef,.undef,.undef,.undef,.undef,.undef,.undef,.undef,.undef,.undef,.undef,.undef,.undef,.undef,.undef,.undef,.undef,.undef,.undef,.undef,.undef,.undef,.undef,.undef,a,b,d,.undef,.undef,.undef,.undef,.undef,.undef,.undef,.undef,.undef,.undef,.undef,.undef,.undef,.undef,.undef,.undef,.undef,.undef,.undef,.undef,.undef,.undef,.undef,.undef,.undef,.undef,.undef,.undef,.undef,.undef,.undef,.undef,.undef,.undef,.undef,.undef,.undef,.undef,.undef,.undef,.undef,.undef,.undef,.undef,.undef,.undef,.undef,.undef,.undef,.undef,.undef,.undef,.undef,.undef,.undef,.undef,.undef,.undef,.undef,.undef,.undef,.undef,.undef,.undef,.undef,.undef,.undef,.undef,.undef,.undef,.undef,.undef,.undef,.undef,.undef,.undef,.undef,.undef,.undef,.undef,.undef,.undef,.undef,.undef,.undef,.undef],H,2,0⟩ ∧
  H (1,0)=some (RF Nil TB)∧H (1,1)=some (bs (KS n key m).1)
end Aes
namespace Aes
open Go Go.LE Tb
set_option maxRecDepth 20000
theorem r3_roundA (k n:Nat) (hn:n=4∨n=8) (key:List (BitVec 8)) (hk:key.length=4*n) (m:Nat) (hm:m < 3*n+28) (h4:(n+m) % n=0) (st:St) (hJ:r3J n key m st) :
    ∃ st1,ev (envC C (k+11)) (k+11) L39b3 st=some (.normal,st1)∧r3J n key (m+1) (qaT L39k3 st1):=by
  obtain ⟨H,a,b,d,hp,rfl,h0,h1⟩:=hJ
  obtain ⟨⟨na,nb,nd⟩,hr⟩:=Pl3 hp
  have hl:=qcP n key hk m
  have hlt:n+m < 4*(n+7):=by omega
  have hw:=wcell0 (KS n key m).1 (n+m - 1) ((n+m - 1)*4) rfl (by omega)
  have hi1:n+m - 1 < n+m:=by omega
  have hmu:∀ a b,F C (k+11) 68 [B8 a,B8 b] []=some (B8 (mul a b),[],[]):=fun a b=>rmulF k a b
  have htw:[B8 (BX (wd (KS n key m).1 (n+m - 1) 1).toNat ^^^ (KS n key m).2),B8 (BX (wd (KS n key m).1 (n+m - 1) 2).toNat),B8 (BX (wd (KS n key m).1 (n+m - 1) 3).toNat),B8 (BX (wd (KS n key m).1 (n+m - 1) 0).toNat)]=aB 4 (tw n (KS n key m).2 (n+m) (KS n key m).1):=by
    rw[tw,if_pos h4]; simp only[qfh,zF,Nat.one_ne_zero,zL,show ¬ (2=0) by decide,show ¬ (3=0) by decide,BitVec.xor_zero]; rfl
  have hx:KS n key (m+1)=(ext4 (KS n key m).1 (nwd n (KS n key m).2 (n+m) (KS n key m).1),(T2 (KS n key m).2)):=by
    rw[KS,qfg,if_pos h4]
  simp (disch:=first|omega|decide|simp only[nmsB,lB]) only[simprocAttr,-rR,-rS,leB,memB,arrB,numB,qaf,ordB,qaz,qak,qaF,L39b3,h0,h1,hlt,hw,h4,hi1,hmu,qgY,RF_bx,htw,qaN,l68,qae,qac,qad,qab,qaa,qaq,qah]
  generalize hL2:qaP L39k2 _ _ _=r
  refine qaK hL2 (r2J n m key (T2 (KS n key m).2) (tw n (KS n key m).2 (n+m) (KS n key m).1) a b d) 4 (by omega) (fun j st hj hJ=>qhl _ n m hn (by omega) key hk _ _ a b d hp j hj st hJ) ?_ ?_ ?_
  · refine qal [(1, 0), (1, 1), (12, 0)] rfl (by simp only [simprocAttr, -rR, -rS, qaj, L39k2, qaD, qbZ, qaN, qaU, qam, h0, h1, na, nb, nd, qag, qab, qaa]) (by simp only [simprocAttr, -rR, -rS, qaj, L39k2, zA, zB, hr, qag, qab, qaa] <;> rfl) ⟨_, rfl, ?_, ?_, ?_⟩
    · exact qai (1,0) rfl (by simp (disch:=first|omega|decide|simp only[nmsB,lB]) only[simprocAttr,-rR,-rS,leB,memB,qaf,h0,qae,qac,qad,qab,qaa]) (by rw[qbI,qbp])
    · exact qai (1,1) rfl (by simp (disch:=first|omega|decide|simp only[nmsB,lB]) only[simprocAttr,-rR,-rS,leB,memB,qaf,h1,qae,qac,qad,qab,qaa]) (qar _ _)
    · exact qai (12,0) rfl (by simp (disch:=first|omega|decide|simp only[nmsB,lB]) only[simprocAttr,-rR,-rS,leB,memB,qaf,qae,qac,qad,qab,qaa] <;> rfl) (qap _ _ _)
  · rintro st ⟨H, rfl, h0, h1, h2⟩
    apply qaG
    simp (disch:=first|omega|decide|simp only[nmsB,lB]) only[simprocAttr,-rR,-rS,leB,memB,arrB,numB,qaf,ordB,qaz,L39b2,h0,h1,h2,qae,qac,qad,qab,qaa,qaq,qah]
    rfl
  · rintro st ⟨H, rfl, h0, h1, h2⟩ rfl
    have hb:(aB 4 fun q=>if q < 4 then tw n (KS n key m).2 (n+m) (KS n key m).1 q ^^^ wd (KS n key m).1 m q else tw n (KS n key m).2 (n+m) (KS n key m).1 q)=aB 4 (nwd n (KS n key m).2 (n+m) (KS n key m).1):=qbR _ fun q hq=>by rw[if_pos hq,nwd,zh]
    rw[hb] at h2
    have hap:∀ (b:Nat),appN b 4 1 0 (n+m) (1,1) (aB 4 (nwd n (KS n key m).2 (n+m) (KS n key m).1)) (some (bs (KS n key m).1))=some ⟨.sl (b,0) 0 (n+m+1) none 4,[bs (KS n key (m+1)).1],[((1,1),none)]⟩:=by
      intro b
      rw[appN,qaV,if_pos (by omega),zE,qfh,qcg,qcY,List.take_of_length_le (by omega),hx,ext4]
    simp (disch:=first|omega|decide|simp only[nmsB,lB]) only[simprocAttr,-rR,-rS,leB,memB,arrB,numB,qaf,ordB,qaz,qak,qaF,L39b2,h0,h1,h2,fr_w,qaN,qaU,hap,qac,qad,qab,qaa,qaq,qah]
    have hx2:(KS n key (m+1)).2=(T2 (KS n key m).2):=by rw[hx]
    refine ⟨_,rfl,?_⟩
    refine qal [(1,0),(7,0)] rfl (by simp only[simprocAttr,-rR,-rS,qaj,L39k3,qaD,qbZ,qaN,qaU,qam,h0,h1,na,nb,nd,qag,qab,qaa]) (by simp only[simprocAttr,-rR,-rS,qaj,L39k3,zA,zB,hr,qag,qab,qaa] <;> rfl) ⟨_,a,b,d,hp,by rw[hx2]; rfl,?_,?_⟩
    · exact qai (1,0) rfl (by simp (disch:=first|omega|decide|simp only[nmsB,lB]) only[simprocAttr,-rR,-rS,leB,memB,qaf,h0,qae,qac,qad,qab,qaa]) (by rw[qbI,qbp])
    · exact qai (7,0) rfl (by simp (disch:=first|omega|decide|simp only[nmsB,lB]) only[simprocAttr,-rR,-rS,leB,memB,qaf,qae,qac,qad,qab,qaa]) (qar _ _)
end Aes
namespace Aes
open Go Go.LE Tb
set_option maxRecDepth 20000
theorem r3_roundB (k:Nat) (key:List (BitVec 8)) (hk:key.length=4*8) (m:Nat) (hm:m < 3*8+28) (h4:(8+m) % 8≠0) (h8:(8+m) % 8=4) (st:St) (hJ:r3J 8 key m st) :
    ∃ st1,ev (envC C (k+11)) (k+11) L39b3 st=some (.normal,st1)∧r3J 8 key (m+1) (qaT L39k3 st1):=by
  obtain ⟨H,a,b,d,hp,rfl,h0,h1⟩:=hJ
  obtain ⟨⟨na,nb,nd⟩,hr⟩:=Pl3 hp
  have hl:=qcP 8 key hk m
  have hlt:8+m < 4*(8+7):=by omega
  have hw:=wcell0 (KS 8 key m).1 (8+m - 1) ((8+m - 1)*4) rfl (by omega)
  have hi1:8+m - 1 < 8+m:=by omega
  have hmu:∀ a b,F C (k+11) 68 [B8 a,B8 b] []=some (B8 (mul a b),[],[]):=fun a b=>rmulF k a b
  have htw:[B8 (BX (wd (KS 8 key m).1 (8+m - 1) 0).toNat),B8 (BX (wd (KS 8 key m).1 (8+m - 1) 1).toNat),B8 (BX (wd (KS 8 key m).1 (8+m - 1) 2).toNat),B8 (BX (wd (KS 8 key m).1 (8+m - 1) 3).toNat)]=aB 4 (tw 8 (KS 8 key m).2 (8+m) (KS 8 key m).1):=by
    rw[tw,if_neg h4,if_pos ⟨rfl,h8⟩]; rfl
  have hx:KS 8 key (m+1)=(ext4 (KS 8 key m).1 (nwd 8 (KS 8 key m).2 (8+m) (KS 8 key m).1),(KS 8 key m).2):=by
    rw[KS,qfg,if_neg h4]
  simp (disch:=first|omega|decide|simp only[nmsB,lB]) only[simprocAttr,-rR,-rS,leB,memB,arrB,numB,qaf,ordB,qaz,qak,qaF,L39b3,h0,h1,hlt,hw,h4,h8,hi1,hmu,qgY,RF_bx,htw,qaN,l68,qae,qac,qad,qab,qaa,qaq,qah]
  generalize hL2:qaP L39k2 _ _ _=r
  refine qaK hL2 (r2J 8 m key (KS 8 key m).2 (tw 8 (KS 8 key m).2 (8+m) (KS 8 key m).1) (N (8+m)) (N 4) (Bo true)) 4 (by omega) (fun j st hj hJ=>qhl _ 8 m (.inr rfl) (by omega) key hk _ _ (N (8+m)) (N 4) (Bo true) ⟨rfl,fun _=>rfl⟩ j hj st hJ) ?_ ?_ ?_
  · refine qal [(1, 0), (1, 1), (12, 0)] rfl (by simp only [simprocAttr, -rR, -rS, qaj, L39k2, qaD, qbZ, qaN, qaU, qam, h0, h1, na, nb, nd, qag, qab, qaa]) (by simp only [simprocAttr, -rR, -rS, qaj, L39k2, zA, zB, hr, qag, qab, qaa] <;> rfl) ⟨_, rfl, ?_, ?_, ?_⟩
    · exact qai (1,0) rfl (by simp (disch:=first|omega|decide|simp only[nmsB,lB]) only[simprocAttr,-rR,-rS,leB,memB,qaf,h0,qae,qac,qad,qab,qaa]) (by rw[qbI,qbp])
    · exact qai (1,1) rfl (by simp (disch:=first|omega|decide|simp only[nmsB,lB]) only[simprocAttr,-rR,-rS,leB,memB,qaf,h1,qae,qac,qad,qab,qaa]) (qar _ _)
    · exact qai (12,0) rfl (by simp (disch:=first|omega|decide|simp only[nmsB,lB]) only[simprocAttr,-rR,-rS,leB,memB,qaf,qae,qac,qad,qab,qaa] <;> rfl) (qap _ _ _)
  · rintro st ⟨H, rfl, h0, h1, h2⟩
    apply qaG
    simp (disch:=first|omega|decide|simp only[nmsB,lB]) only[simprocAttr,-rR,-rS,leB,memB,arrB,numB,qaf,ordB,qaz,L39b2,h0,h1,h2,qae,qac,qad,qab,qaa,qaq,qah]
    rfl
  · rintro st ⟨H, rfl, h0, h1, h2⟩ rfl
    have hb:(aB 4 fun q=>if q < 4 then tw 8 (KS 8 key m).2 (8+m) (KS 8 key m).1 q ^^^ wd (KS 8 key m).1 m q else tw 8 (KS 8 key m).2 (8+m) (KS 8 key m).1 q)=aB 4 (nwd 8 (KS 8 key m).2 (8+m) (KS 8 key m).1):=qbR _ fun q hq=>by rw[if_pos hq,nwd,zh]
    rw[hb] at h2
    have hap:∀ (b:Nat),appN b 4 1 0 (8+m) (1,1) (aB 4 (nwd 8 (KS 8 key m).2 (8+m) (KS 8 key m).1)) (some (bs (KS 8 key m).1))=some ⟨.sl (b,0) 0 (8+m+1) none 4,[bs (KS 8 key (m+1)).1],[((1,1),none)]⟩:=by
      intro b
      rw[appN,qaV,if_pos (by omega),zE,qfh,qcg,qcY,List.take_of_length_le (by omega),hx,ext4]
    simp (disch:=first|omega|decide|simp only[nmsB,lB]) only[simprocAttr,-rR,-rS,leB,memB,arrB,numB,qaf,ordB,qaz,qak,qaF,L39b2,h0,h1,h2,fr_w,qaN,qaU,hap,qac,qad,qab,qaa,qaq,qah]
    have hx2:(KS 8 key (m+1)).2=(KS 8 key m).2:=by rw[hx]
    refine ⟨_,rfl,?_⟩
    refine qal [(1,0),(7,0)] rfl (by simp only[simprocAttr,-rR,-rS,qaj,L39k3,qaD,qbZ,qaN,qaU,qam,h0,h1,na,nb,nd,qag,qab,qaa]) (by simp only[simprocAttr,-rR,-rS,qaj,L39k3,zA,zB,hr,qag,qab,qaa] <;> rfl) ⟨_,N (8+m),N 4,Bo true,⟨rfl,fun _=>rfl⟩,by rw[hx2]; rfl,?_,?_⟩
    · exact qai (1,0) rfl (by simp (disch:=first|omega|decide|simp only[nmsB,lB]) only[simprocAttr,-rR,-rS,leB,memB,qaf,h0,qae,qac,qad,qab,qaa]) (by rw[qbI,qbp])
    · exact qai (7,0) rfl (by simp (disch:=first|omega|decide|simp only[nmsB,lB]) only[simprocAttr,-rR,-rS,leB,memB,qaf,qae,qac,qad,qab,qaa]) (qar _ _)
end Aes
namespace Aes
open Go Go.LE Tb
set_option maxRecDepth 20000
theorem r3_roundC (k:Nat) (key:List (BitVec 8)) (hk:key.length=4*4) (m:Nat) (hm:m < 3*4+28) (h4:(4+m) % 4≠0) (st:St) (hJ:r3J 4 key m st) :
    ∃ st1,ev (envC C (k+11)) (k+11) L39b3 st=some (.normal,st1)∧r3J 4 key (m+1) (qaT L39k3 st1):=by
  obtain ⟨H,a,b,d,hp,rfl,h0,h1⟩:=hJ
  obtain ⟨⟨na,nb,nd⟩,hr⟩:=Pl3 hp
  have hl:=qcP 4 key hk m
  have hlt:4+m < 4*(4+7):=by omega
  have hw:=wcell0 (KS 4 key m).1 (4+m - 1) ((4+m - 1)*4) rfl (by omega)
  have hi1:4+m - 1 < 4+m:=by omega
  have hmu:∀ a b,F C (k+11) 68 [B8 a,B8 b] []=some (B8 (mul a b),[],[]):=fun a b=>rmulF k a b
  have htw:aB 4 (wd (KS 4 key m).1 (4+m - 1))=aB 4 (tw 4 (KS 4 key m).2 (4+m) (KS 4 key m).1):=by
    rw[tw,if_neg h4,if_neg (by omega)]
  have hx:KS 4 key (m+1)=(ext4 (KS 4 key m).1 (nwd 4 (KS 4 key m).2 (4+m) (KS 4 key m).1),(KS 4 key m).2):=by
    rw[KS,qfg,if_neg h4]
  simp (disch:=first|omega|decide|simp only[nmsB,lB]) only[simprocAttr,-rR,-rS,leB,memB,arrB,numB,qaf,ordB,qaz,qak,qaF,L39b3,h0,h1,hlt,hw,h4,hi1,hmu,qgY,RF_bx,htw,qaN,l68,qae,qac,qad,qab,qaa,qaq,qah]
  generalize hL2:qaP L39k2 _ _ _=r
  refine qaK hL2 (r2J 4 m key (KS 4 key m).2 (tw 4 (KS 4 key m).2 (4+m) (KS 4 key m).1) Un Un Un) 4 (by omega) (fun j st hj hJ=>qhl _ 4 m (.inl rfl) (by omega) key hk _ _ Un Un Un ⟨rfl,fun _=>rfl⟩ j hj st hJ) ?_ ?_ ?_
  · refine qal [(1, 0), (1, 1), (12, 0)] rfl (by simp only [simprocAttr, -rR, -rS, qaj, L39k2, qaD, qbZ, qaN, qaU, qam, h0, h1, na, nb, nd, qag, qab, qaa]) (by simp only [simprocAttr, -rR, -rS, qaj, L39k2, zA, zB, hr, qag, qab, qaa] <;> rfl) ⟨_, rfl, ?_, ?_, ?_⟩
    · exact qai (1,0) rfl (by simp (disch:=first|omega|decide|simp only[nmsB,lB]) only[simprocAttr,-rR,-rS,leB,memB,qaf,h0,qae,qac,qad,qab,qaa]) (by rw[qbI,qbp])
    · exact qai (1,1) rfl (by simp (disch:=first|omega|decide|simp only[nmsB,lB]) only[simprocAttr,-rR,-rS,leB,memB,qaf,h1,qae,qac,qad,qab,qaa]) (qar _ _)
    · exact qai (12,0) rfl (by simp (disch:=first|omega|decide|simp only[nmsB,lB]) only[simprocAttr,-rR,-rS,leB,memB,qaf,qae,qac,qad,qab,qaa] <;> rfl) (qap _ _ _)
  · rintro st ⟨H, rfl, h0, h1, h2⟩
    apply qaG
    simp (disch:=first|omega|decide|simp only[nmsB,lB]) only[simprocAttr,-rR,-rS,leB,memB,arrB,numB,qaf,ordB,qaz,L39b2,h0,h1,h2,qae,qac,qad,qab,qaa,qaq,qah]
    rfl
  · rintro st ⟨H, rfl, h0, h1, h2⟩ rfl
    have hb:(aB 4 fun q=>if q < 4 then tw 4 (KS 4 key m).2 (4+m) (KS 4 key m).1 q ^^^ wd (KS 4 key m).1 m q else tw 4 (KS 4 key m).2 (4+m) (KS 4 key m).1 q)=aB 4 (nwd 4 (KS 4 key m).2 (4+m) (KS 4 key m).1):=qbR _ fun q hq=>by rw[if_pos hq,nwd,zh]
    rw[hb] at h2
    have hap:∀ (b:Nat),appN b 4 1 0 (4+m) (1,1) (aB 4 (nwd 4 (KS 4 key m).2 (4+m) (KS 4 key m).1)) (some (bs (KS 4 key m).1))=some ⟨.sl (b,0) 0 (4+m+1) none 4,[bs (KS 4 key (m+1)).1],[((1,1),none)]⟩:=by
      intro b
      rw[appN,qaV,if_pos (by omega),zE,qfh,qcg,qcY,List.take_of_length_le (by omega),hx,ext4]
    simp (disch:=first|omega|decide|simp only[nmsB,lB]) only[simprocAttr,-rR,-rS,leB,memB,arrB,numB,qaf,ordB,qaz,qak,qaF,L39b2,h0,h1,h2,fr_w,qaN,qaU,hap,qac,qad,qab,qaa,qaq,qah]
    have hx2:(KS 4 key (m+1)).2=(KS 4 key m).2:=by rw[hx]
    refine ⟨_,rfl,?_⟩
    refine qal [(1,0),(7,0)] rfl (by simp only[simprocAttr,-rR,-rS,qaj,L39k3,qaD,qbZ,qaN,qaU,qam,h0,h1,na,nb,nd,qag,qab,qaa]) (by simp only[simprocAttr,-rR,-rS,qaj,L39k3,zA,zB,hr,qag,qab,qaa] <;> rfl) ⟨_,Un,Un,Un,⟨rfl,fun _=>rfl⟩,by rw[hx2]; rfl,?_,?_⟩
    · exact qai (1,0) rfl (by simp (disch:=first|omega|decide|simp only[nmsB,lB]) only[simprocAttr,-rR,-rS,leB,memB,qaf,h0,qae,qac,qad,qab,qaa]) (by rw[qbI,qbp])
    · exact qai (7,0) rfl (by simp (disch:=first|omega|decide|simp only[nmsB,lB]) only[simprocAttr,-rR,-rS,leB,memB,qaf,qae,qac,qad,qab,qaa]) (qar _ _)
end Aes
namespace Aes
open Go Go.LE Tb
set_option maxRecDepth 20000
theorem r3_roundD (k:Nat) (key:List (BitVec 8)) (hk:key.length=4*8) (m:Nat) (hm:m < 3*8+28) (h4:(8+m) % 8≠0) (h8:(8+m) % 8≠4) (st:St) (hJ:r3J 8 key m st) :
    ∃ st1,ev (envC C (k+11)) (k+11) L39b3 st=some (.normal,st1)∧r3J 8 key (m+1) (qaT L39k3 st1):=by
  obtain ⟨H,a,b,d,hp,rfl,h0,h1⟩:=hJ
  obtain ⟨⟨na,nb,nd⟩,hr⟩:=Pl3 hp
  have hl:=qcP 8 key hk m
  have hlt:8+m < 4*(8+7):=by omega
  have hw:=wcell0 (KS 8 key m).1 (8+m - 1) ((8+m - 1)*4) rfl (by omega)
  have hi1:8+m - 1 < 8+m:=by omega
  have hmu:∀ a b,F C (k+11) 68 [B8 a,B8 b] []=some (B8 (mul a b),[],[]):=fun a b=>rmulF k a b
  have htw:aB 4 (wd (KS 8 key m).1 (8+m - 1))=aB 4 (tw 8 (KS 8 key m).2 (8+m) (KS 8 key m).1):=by
    rw[tw,if_neg h4,if_neg (fun h=>h8 h.2)]
  have hx:KS 8 key (m+1)=(ext4 (KS 8 key m).1 (nwd 8 (KS 8 key m).2 (8+m) (KS 8 key m).1),(KS 8 key m).2):=by
    rw[KS,qfg,if_neg h4]
  simp (disch:=first|omega|decide|simp only[nmsB,lB]) only[simprocAttr,-rR,-rS,leB,memB,arrB,numB,qaf,ordB,qaz,qak,qaF,L39b3,h0,h1,hlt,hw,h4,h8,hi1,hmu,qgY,RF_bx,htw,qaN,l68,qae,qac,qad,qab,qaa,qaq,qah]
  generalize hL2:qaP L39k2 _ _ _=r
  refine qaK hL2 (r2J 8 m key (KS 8 key m).2 (tw 8 (KS 8 key m).2 (8+m) (KS 8 key m).1) (N (8+m)) (N ((8+m) % 8)) (Bo false)) 4 (by omega) (fun j st hj hJ=>qhl _ 8 m (.inr rfl) (by omega) key hk _ _ (N (8+m)) (N ((8+m) % 8)) (Bo false) ⟨rfl,fun _=>rfl⟩ j hj st hJ) ?_ ?_ ?_
  · refine qal [(1, 0), (1, 1), (12, 0)] rfl (by simp only [simprocAttr, -rR, -rS, qaj, L39k2, qaD, qbZ, qaN, qaU, qam, h0, h1, na, nb, nd, qag, qab, qaa]) (by simp only [simprocAttr, -rR, -rS, qaj, L39k2, zA, zB, hr, qag, qab, qaa] <;> rfl) ⟨_, rfl, ?_, ?_, ?_⟩
    · exact qai (1,0) rfl (by simp (disch:=first|omega|decide|simp only[nmsB,lB]) only[simprocAttr,-rR,-rS,leB,memB,qaf,h0,qae,qac,qad,qab,qaa]) (by rw[qbI,qbp])
    · exact qai (1,1) rfl (by simp (disch:=first|omega|decide|simp only[nmsB,lB]) only[simprocAttr,-rR,-rS,leB,memB,qaf,h1,qae,qac,qad,qab,qaa]) (qar _ _)
    · exact qai (12,0) rfl (by simp (disch:=first|omega|decide|simp only[nmsB,lB]) only[simprocAttr,-rR,-rS,leB,memB,qaf,qae,qac,qad,qab,qaa] <;> rfl) (qap _ _ _)
  · rintro st ⟨H, rfl, h0, h1, h2⟩
    apply qaG
    simp (disch:=first|omega|decide|simp only[nmsB,lB]) only[simprocAttr,-rR,-rS,leB,memB,arrB,numB,qaf,ordB,qaz,L39b2,h0,h1,h2,qae,qac,qad,qab,qaa,qaq,qah]
    rfl
  · rintro st ⟨H, rfl, h0, h1, h2⟩ rfl
    have hb:(aB 4 fun q=>if q < 4 then tw 8 (KS 8 key m).2 (8+m) (KS 8 key m).1 q ^^^ wd (KS 8 key m).1 m q else tw 8 (KS 8 key m).2 (8+m) (KS 8 key m).1 q)=aB 4 (nwd 8 (KS 8 key m).2 (8+m) (KS 8 key m).1):=qbR _ fun q hq=>by rw[if_pos hq,nwd,zh]
    rw[hb] at h2
    have hap:∀ (b:Nat),appN b 4 1 0 (8+m) (1,1) (aB 4 (nwd 8 (KS 8 key m).2 (8+m) (KS 8 key m).1)) (some (bs (KS 8 key m).1))=some ⟨.sl (b,0) 0 (8+m+1) none 4,[bs (KS 8 key (m+1)).1],[((1,1),none)]⟩:=by
      intro b
      rw[appN,qaV,if_pos (by omega),zE,qfh,qcg,qcY,List.take_of_length_le (by omega),hx,ext4]
    simp (disch:=first|omega|decide|simp only[nmsB,lB]) only[simprocAttr,-rR,-rS,leB,memB,arrB,numB,qaf,ordB,qaz,qak,qaF,L39b2,h0,h1,h2,fr_w,qaN,qaU,hap,qac,qad,qab,qaa,qaq,qah]
    have hx2:(KS 8 key (m+1)).2=(KS 8 key m).2:=by rw[hx]
    refine ⟨_,rfl,?_⟩
    refine qal [(1,0),(7,0)] rfl (by simp only[simprocAttr,-rR,-rS,qaj,L39k3,qaD,qbZ,qaN,qaU,qam,h0,h1,na,nb,nd,qag,qab,qaa]) (by simp only[simprocAttr,-rR,-rS,qaj,L39k3,zA,zB,hr,qag,qab,qaa] <;> rfl) ⟨_,N (8+m),N ((8+m) % 8),Bo false,⟨rfl,fun _=>rfl⟩,by rw[hx2]; rfl,?_,?_⟩
    · exact qai (1,0) rfl (by simp (disch:=first|omega|decide|simp only[nmsB,lB]) only[simprocAttr,-rR,-rS,leB,memB,qaf,h0,qae,qac,qad,qab,qaa]) (by rw[qbI,qbp])
    · exact qai (7,0) rfl (by simp (disch:=first|omega|decide|simp only[nmsB,lB]) only[simprocAttr,-rR,-rS,leB,memB,qaf,qae,qac,qad,qab,qaa]) (qar _ _)
end Aes
namespace Aes
open Go Go.LE Tb
set_option maxRecDepth 20000
theorem r3_round (k n:Nat) (hn:n=4∨n=8) (key:List (BitVec 8)) (hk:key.length=4*n) (m:Nat) (hm:m < 3*n+28) (st:St) (hJ:r3J n key m st) :
    ∃ st1,ev (envC C (k+11)) (k+11) L39b3 st=some (.normal,st1)∧r3J n key (m+1) (qaT L39k3 st1):=by
  by_cases h4:(n+m) % n=0
  · exact r3_roundA k n hn key hk m hm h4 st hJ
  · rcases hn with rfl | rfl
    · exact r3_roundC k key hk m hm h4 st hJ
    · by_cases h8 : (8 + m) % 8 = 4
      · exact r3_roundB k key hk m hm h4 h8 st hJ
      · exact r3_roundD k key hk m hm h4 h8 st hJ
def byA (L:List (BitVec 8)) (i j:Nat):R:=fun q=>if q < j then kf L i q else 0#8
theorem byA_succ (L:List (BitVec 8)) (i j:Nat):set1 (byA L i j) j (kf L i j)=byA L i (j+1):=by
  funext q
  simp only[set1,byA]
  by_cases h:q=j
  · subst h; rw[if_pos rfl,if_pos (Nat.lt_succ_self _)]
  · rw [if_neg h]
    by_cases h':q < j
    · rw[if_pos h',if_pos (by omega)]
    · rw[if_neg h',if_neg (by omega)]
theorem kcell1 (L:List (BitVec 8)) (i j:Nat) (hj:j < 16) (h:16*(i+1)≤L.length):qbc ((4*i+j / 4)*4+j % 4) 1 (some (bs L))=some [B8 (kf L i j)]:=by
  have e:(4*i+j / 4)*4+j % 4=i*16+j:=by omega
  rw[e,qfs _ _ 1 (by omega),List.drop_eq_getElem_cons (by omega),kf,List.getD_eq_getElem?_getD,List.getElem?_eq_getElem (by omega)]
  rfl
def s1J (n:Nat) (L:List (BitVec 8)) (i:Nat) (st:St):Prop := ∃ (H:Heap),
  (i=0∧st=⟨[.undef,.undef,.undef,.undef,N n,.ptr (1,0) 0,.undef,.sl (1,1) 0 (4*(n+7)) none 4,.undef,.undef,.undef,.undef,.undef,N 0,.undef,.undef,.undef,.undef,.undef,.undef,.undef,.undef,.undef,.undef,.undef,.undef,.undef,.undef,.undef,.undef,.undef,.undef,.undef,.undef,.undef,.undef,.undef,.undef,.undef,.undef,.undef,.undef,.undef,.undef,.undef,.undef,.undef,.undef,.undef,.undef,.undef,.undef,.undef,.undef,.undef,.undef,.undef,.undef,.undef,.undef,.undef,.undef,.undef,.undef,.undef,.undef,.undef,.undef,.undef,.undef,.undef,.undef,.undef,.undef,.undef,.undef,.undef,.undef,.undef,.undef,.undef,.undef,.undef,.undef,.undef,.undef,.undef,.undef,.undef,.undef,.undef,.undef,.undef,.undef,.undef,.undef,.undef,.undef,.undef,.undef,.undef,.undef,.undef,.undef,.undef,.undef,.undef,.undef,.undef,.undef,.undef,.undef,.undef,.undef,.undef,.undef,.undef,.undef,.undef,.undef,.undef,.undef,.undef,.undef,.undef,.undef,.undef,.undef,.undef,.undef,.undef,.undef,.undef,.undef,.undef,.undef,.undef,.undef,.undef,.undef,.undef,.undef,.undef,.undef,.undef,.undef,.undef,.undef,.undef,.undef,.undef,.undef,.undef,.undef,.undef,.undef,.undef,.undef,.undef,.undef,.undef,.undef,.undef,.undef,.undef,.undef,.undef,.undef,.undef,.undef,.undef,.undef,.undef,.undef,.undef,.undef,.undef,.undef,.undef,.undef,.undef,.undef,.undef,.undef,.undef,.undef,.undef,.undef,.undef,.undef,.undef,.undef,.undef,.undef,.undef,.undef,.undef,.undef,.undef,.undef,.undef,.undef,.undef,.undef,.undef,.undef,.undef,.undef,.undef,.undef,.undef,.undef,.undef,.undef,.undef,.undef,.undef,.undef,.undef,.undef],H,2,0⟩∧H (1,0)=some (RF Nil TB)∧H (1,1)=some (bs L)) ∨
  (0 < i∧st=⟨[.undef,.undef,.undef,.undef,N n,.ptr (1,0) 0,.undef,.sl (1,2) 0 (4*(n+7)) none 4,.undef,.undef,.undef,.undef,.undef,N i,.undef,.undef,.undef,.undef,.undef,.undef,.undef,.undef,.undef,.undef,.undef,.undef,.undef,.undef,.undef,.undef,.undef,.undef,.undef,.undef,.undef,.undef,.undef,.undef,.undef,.undef,.undef,.undef,.undef,.undef,.undef,.undef,.undef,.undef,.undef,.undef,.undef,.undef,.undef,.undef,.undef,.undef,.undef,.undef,.undef,.undef,.undef,.undef,.undef,.undef,.undef,.undef,.undef,.undef,.undef,.undef,.undef,.undef,.undef,.undef,.undef,.undef,.undef,.undef,.undef,.undef,.undef,.undef,.undef,.undef,.undef,.undef,.undef,.undef,.undef,.undef,.undef,.undef,.undef,.undef,.undef,.undef,.undef,.undef,.undef,.undef,.undef,.undef,.undef,.undef,.undef,.undef,.undef,.undef,.undef,.undef,.undef,.undef,.undef,.undef,.undef,.undef,.undef,.undef,.undef,.undef,.undef,.undef,.undef,.undef,.undef,.undef,.undef,.undef,.undef,.undef,.undef,.undef,.undef,.undef,.undef,.undef,.undef,.undef,.undef,.undef,.undef,.undef,.undef,.undef,.undef,.undef,.undef,.undef,.undef,.undef,.undef,.undef,.undef,.undef,.undef,.undef,.undef,.undef,.undef,.undef,.undef,.undef,.undef,.undef,.undef,.undef,.undef,.undef,.undef,.undef,.undef,.undef,.undef,.undef,.undef,.undef,.undef,.undef,.undef,.undef,.undef,.undef,.undef,.undef,.undef,.undef,.undef,.undef,.undef,.undef,.undef,.undef,.undef,.undef,.undef,.undef,.undef,.undef,.undef,.undef,.undef,.undef,.undef,.undef,.undef,.undef,.undef,.undef,.undef,.undef,.undef,.undef,.undef,.undef,.undef,.undef,.undef,.undef,.undef,.undef],H,2,0⟩∧H (1,0)=some (RF (.sl (1,1) 0 i none 16) TB)∧H (1,1)=some (bs (L.take (16*i)))∧H (1,2)=some (bs L))
theorem s1J.of_z {n:Nat} {L:List (BitVec 8)} {st:St} (h:s1J n L 0 st):∃ (H:Heap),st=⟨[.undef,.undef,.undef,.undef,N n,.ptr (1,0) 0,.undef,.sl (1,1) 0 (4*(n+7)) none 4,.undef,.undef,.undef,.undef,.undef,N 0,.undef,.undef,.undef,.undef,.undef,.undef,.undef,.undef,.undef,.undef,.undef,.undef,.undef,.undef,.undef,.undef,.undef,.undef,.undef,.undef,.undef,.undef,.undef,.undef,.undef,.undef,.undef,.undef,.undef,.undef,.undef,.undef,.undef,.undef,.undef,.undef,.undef,.undef,.undef,.undef,.undef,.undef,.undef,.undef,.undef,.undef,.undef,.undef,.undef,.undef,.undef,.undef,.undef,.undef,.undef,.undef,.undef,.undef,.undef,.undef,.undef,.undef,.undef,.undef,.undef,.undef,.undef,.undef,.undef,.undef,.undef,.undef,.undef,.undef,.undef,.undef,.undef,.undef,.undef,.undef,.undef,.undef,.undef,.undef,.undef,.undef,.undef,.undef,.undef,.undef,.undef,.undef,.undef,.undef,.undef,.undef,.undef,.undef,.undef,.undef,.undef,.undef,.undef,.undef,.undef,.undef,.undef,.undef,.undef,.undef,.undef,.undef,.undef,.undef,.undef,.undef,.undef,.undef,.undef,.undef,.undef,.undef,.undef,.undef,.undef,.undef,.undef,.undef,.undef,.undef,.undef,.undef,.undef,.undef,.undef,.undef,.undef,.undef,.undef,.undef,.undef,.undef,.undef,.undef,.undef,.undef,.undef,.undef,.undef,.undef,.undef,.undef,.undef,.undef,.undef,.undef,.undef,.undef,.undef,.undef,.undef,.undef,.undef,.undef,.undef,.undef,.undef,.undef,.undef,.undef,.undef,.undef,.undef,.undef,.undef,.undef,.undef,.undef,.undef,.undef,.undef,.undef,.undef,.undef,.undef,.undef,.undef,.undef,.undef,.undef,.undef,.undef,.undef,.undef,.undef,.undef,.undef,.undef,.undef,.undef,.undef,.undef,.undef,.undef,.undef,.undef],H,2,0⟩∧H (1,0)=some (RF Nil TB)∧H (1,1)=some (bs L):=by
  obtain ⟨H,⟨_,h⟩ | ⟨h,_⟩⟩:=h
  · exact ⟨H,h⟩
  · exact absurd h (by omega)
theorem s1J.of_s {n i:Nat} {L:List (BitVec 8)} {st:St} (h:s1J n L i st) (hi:0 < i):∃ (H:Heap),st=⟨[.undef,.undef,.undef,.undef,N n,.ptr (1,0) 0,.undef,.sl (1,2) 0 (4*(n+7)) none 4,.undef,.undef,.undef,.undef,.undef,N i,.undef,.undef,.undef,.undef,.undef,.undef,.undef,.undef,.undef,.undef,.undef,.undef,.undef,.undef,.undef,.undef,.undef,.undef,.undef,.undef,.undef,.undef,.undef,.undef,.undef,.undef,.undef,.undef,.undef,.undef,.undef,.undef,.undef,.undef,.undef,.undef,.undef,.undef,.undef,.undef,.undef,.undef,.undef,.undef,.undef,.undef,.undef,.undef,.undef,.undef,.undef,.undef,.undef,.undef,.undef,.undef,.undef,.undef,.undef,.undef,.undef,.undef,.undef,.undef,.undef,.undef,.undef,.undef,.undef,.undef,.undef,.undef,.undef,.undef,.undef,.undef,.undef,.undef,.undef,.undef,.undef,.undef,.undef,.undef,.undef,.undef,.undef,.undef,.undef,.undef,.undef,.undef,.undef,.undef,.undef,.undef,.undef,.undef,.undef,.undef,.undef,.undef,.undef,.undef,.undef,.undef,.undef,.undef,.undef,.undef,.undef,.undef,.undef,.undef,.undef,.undef,.undef,.undef,.undef,.undef,.undef,.undef,.undef,.undef,.undef,.undef,.undef,.undef,.undef,.undef,.undef,.undef,.undef,.undef,.undef,.undef,.undef,.undef,.undef,.undef,.undef,.undef,.undef,.undef,.undef,.undef,.undef,.undef,.undef,.undef,.undef,.undef,.undef,.undef,.undef,.undef,.undef,.undef,.undef,.undef,.undef,.undef,.undef,.undef,.undef,.undef,.undef,.undef,.undef,.undef,.undef,.undef,.undef,.undef,.undef,.undef,.undef,.undef,.undef,.undef,.undef,.undef,.undef,.undef,.undef,.undef,.undef,.undef,.undef,.undef,.undef,.undef,.undef,.undef,.undef,.undef,.undef,.undef,.undef,.undef,.undef,.undef,.undef,.undef,.undef,.undef],H,2,0⟩∧H (1,0)=some (RF (.sl (1,1) 0 i none 16) TB)∧H (1,1)=some (bs (L.take (16*i)))∧H (1,2)=some (bs L):=by
  obtain ⟨H,⟨h,_⟩ | ⟨_,h⟩⟩:=h
  · exact absurd h (by omega)
  · exact ⟨H,h⟩
def s0JZ (n i:Nat) (L keys:List (BitVec 8)) (j:Nat) (st:St):Prop := ∃ (H:Heap),st=⟨[.undef,.undef,.undef,.undef,N n,.ptr (1,0) 0,.undef,.sl (1,1) 0 (4*(n+7)) none 4,.undef,.undef,.undef,.undef,.undef,N i,.ptr (1,2) 0,N j,.undef,.undef,.undef,.undef,.undef,.undef,.undef,.undef,.undef,.undef,.undef,.undef,.undef,.undef,.undef,.undef,.undef,.undef,.undef,.undef,.undef,.undef,.undef,.undef,.undef,.undef,.undef,.undef,.undef,.undef,.undef,.undef,.undef,.undef,.undef,.undef,.undef,.undef,.undef,.undef,.undef,.undef,.undef,.undef,.undef,.undef,.undef,.undef,.undef,.undef,.undef,.undef,.undef,.undef,.undef,.undef,.undef,.undef,.undef,.undef,.undef,.undef,.undef,.undef,.undef,.undef,.undef,.undef,.undef,.undef,.undef,.undef,.undef,.undef,.undef,.undef,.undef,.undef,.undef,.undef,.undef,.undef,.undef,.undef,.undef,.undef,.undef,.undef,.undef,.undef,.undef,.undef,.undef,.undef,.undef,.undef,.undef,.undef,.undef,.undef,.undef,.undef,.undef,.undef,.undef,.undef,.undef,.undef,.undef,.undef,.undef,.undef,.undef,.undef,.undef,.undef,.undef,.undef,.undef,.undef,.undef,.undef,.undef,.undef,.undef,.undef,.undef,.undef,.undef,.undef,.undef,.undef,.undef,.undef,.undef,.undef,.undef,.undef,.undef,.undef,.undef,.undef,.undef,.undef,.undef,.undef,.undef,.undef,.undef,.undef,.undef,.undef,.undef,.undef,.undef,.undef,.undef,.undef,.undef,.undef,.undef,.undef,.undef,.undef,.undef,.undef,.undef,.undef,.undef,.undef,.undef,.undef,.undef,.undef,.undef,.undef,.undef,.undef,.undef,.undef,.undef,.undef,.undef,.undef,.undef,.undef,.undef,.undef,.undef,.undef,.undef,.undef,.undef,.undef,.undef,.undef,.undef,.undef,.undef,.undef,.undef,.undef,.undef,.undef],H,2,0⟩ ∧
  H (1,0)=some (RF Nil TB)∧H (1,1)=some (bs L)∧H (1,2)=some (aB 16 (byA L i j))
theorem s0_roundZ (k n i:Nat) (hn:n≤8) (hi:i < n+7) (L keys:List (BitVec 8)) (hL:L.length=16*(n+7)) (j:Nat) (hj:j < 16) (st:St) (hJ:s0JZ n i L keys j st) :
    ∃ st1,ev (envC C k) k L39b0 st=some (.normal,st1)∧s0JZ n i L keys (j+1) (qaT L39k0 st1):=by
  obtain ⟨H,rfl,h0,h1,h2⟩:=hJ
  have hw:=kcell1 L i j hj (by omega)
  have hlt:4*i+j / 4 < 4*(n+7):=by omega
  have h4:j % 4 < 4:=by omega
  simp (disch:=first|omega|decide|simp only[nmsB,lB]) only[simprocAttr,-rR,-rS,leB,memB,arrB,numB,qaf,ordB,qaz,qak,qaF,L39b0,h0,h1,h2,hj,hlt,h4,hw,qaN,byA_succ,qac,qad,qab,qaa,qaq,qah]
  refine ⟨_,rfl,?_⟩
  refine qal [(1,0),(1,1),(1,2)] rfl (by simp only[simprocAttr,-rR,-rS,qaj,L39k0,qaD,qbZ,qaN,qaU,qam,h0,h1,h2,qag,qab,qaa]) rfl ⟨_,rfl,?_,?_,?_⟩
  · exact qai (1,0) rfl (by simp (disch:=first|omega|decide|simp only[nmsB,lB]) only[simprocAttr,-rR,-rS,leB,memB,qaf,h0,qae,qac,qad,qab,qaa]) (by rw[qbI] <;> rfl)
  · exact qai (1,1) rfl (by simp (disch:=first|omega|decide|simp only[nmsB,lB]) only[simprocAttr,-rR,-rS,leB,memB,qaf,h1,qae,qac,qad,qab,qaa]) (qar _ _)
  · exact qai (1,2) rfl (by simp (disch:=first|omega|decide|simp only[nmsB,lB]) only[simprocAttr,-rR,-rS,leB,memB,qaf,qae,qac,qad,qab,qaa]) (qap _ _ _)
theorem s1_roundZ (k n:Nat) (hn:n≤8) (L:List (BitVec 8)) (hL:L.length=16*(n+7)) (st:St) (hJ:s1J n L 0 st) :
    ∃ st1,ev (envC C (k+17)) (k+17) L39b1 st=some (.normal,st1)∧s1J n L (0+1) (qaT L39k1 st1):=by
  obtain ⟨H,rfl,h0,h1⟩:=hJ.of_z
  have hlt:0 < n+7:=by omega
  simp (disch:=first|omega|decide|simp only[nmsB,lB]) only[simprocAttr,-rR,-rS,leB,memB,arrB,numB,qaf,ordB,qaz,qak,qaF,L39b1,h0,h1,hlt,fr_w,qaN,qac,qad,qab,qaa,qaq,qah]
  generalize hL2:qaP L39k0 _ _ _=r
  refine qaK hL2 (s0JZ n 0 L []) 16 (by omega) (fun a st ha hJ=>s0_roundZ _ n 0 hn hlt L _ hL a ha st hJ) ?_ ?_ ?_
  · refine qal [(1, 0), (1, 1), (6, 0)] rfl (by simp only [simprocAttr, -rR, -rS, qaj, L39k0, qaD, qbZ, qaN, qaU, qam, h0, h1, qag, qab, qaa]) rfl ⟨_, rfl, ?_, ?_, ?_⟩
    · exact qai (1,0) rfl (by simp (disch:=first|omega|decide|simp only[nmsB,lB]) only[simprocAttr,-rR,-rS,leB,memB,qaf,h0,qae,qac,qad,qab,qaa]) (by rw[qbI] <;> rfl)
    · exact qai (1,1) rfl (by simp (disch:=first|omega|decide|simp only[nmsB,lB]) only[simprocAttr,-rR,-rS,leB,memB,qaf,h1,qae,qac,qad,qab,qaa]) (qar _ _)
    · refine (qai (6, 0) rfl (by simp (disch := first | omega | decide | simp only [nmsB, lB]) only [simprocAttr, -rR, -rS, leB, memB, qaf, arrB, qae, qac, qad, qab, qaa]) (qap 16 (fun _ => 0#8) _)).trans (congrArg some ?_)
      exact qbR _ fun j _=>by rw[byA,if_neg (by omega)]
  · rintro st ⟨H, rfl, h0, h1, h2⟩
    apply qaG
    simp (disch:=first|omega|decide|simp only[nmsB,lB]) only[simprocAttr,-rR,-rS,leB,memB,arrB,numB,qaf,ordB,qaz,L39b0,h0,h1,h2,qae,qac,qad,qab,qaa,qaq,qah]
    rfl
  · rintro st ⟨H, rfl, h0, h1, h2⟩ rfl
    have hb:aB 16 (byA L 0 16)=aB 16 (kf L 0):=qbR _ fun j hj=>by rw[byA,if_pos (by omega)]
    rw[hb] at h2
    simp (disch:=first|omega|decide|simp only[nmsB,lB]) only[simprocAttr,-rR,-rS,leB,memB,arrB,numB,qaf,ordB,qaz,qak,qaF,L39b0,h0,h1,h2,fr_w,qaN,qaU,RF_k,RF_st0,qg0,qe3,qac,qad,qab,qaa,qaq,qah]
    refine ⟨_,rfl,?_⟩
    refine qal [(1,0),(11,0),(1,1)] rfl (by simp only[simprocAttr,-rR,-rS,qaj,L39k1,qaD,qbZ,qaN,qaU,qam,h0,h1,qag,qab,qaa]) rfl ⟨_,.inr ⟨by omega,rfl,?_,?_,?_⟩⟩
    · refine (qb7 _ _ 0 (1, 0) _ rfl (by simp (disch := first | omega | decide | simp only [nmsB, lB]) only [simprocAttr, -rR, -rS, leB, memB, qaf, h0, qae, qac, qad, qab, qaa] <;> rfl)).trans ?_
      rw[qbI]; rfl
    · refine (qb7 _ _ 1 (11, 0) _ rfl (by simp (disch := first | omega | decide | simp only [nmsB, lB]) only [simprocAttr, -rR, -rS, leB, memB, qaf, qae, qac, qad, qab, qaa] <;> rfl)).trans ?_
      rw[qap,qcK,←take16 L 0 (by omega)]; rfl
    · exact qai (1,1) rfl (by simp (disch:=first|omega|decide|simp only[nmsB,lB]) only[simprocAttr,-rR,-rS,leB,memB,qaf,h1,qae,qac,qad,qab,qaa]) (qar _ _)
def s0JS (n i:Nat) (L keys:List (BitVec 8)) (j:Nat) (st:St):Prop := ∃ (H:Heap),st=⟨[.undef,.undef,.undef,.undef,N n,.ptr (1,0) 0,.undef,.sl (1,2) 0 (4*(n+7)) none 4,.undef,.undef,.undef,.undef,.undef,N i,.ptr (1,3) 0,N j,.undef,.undef,.undef,.undef,.undef,.undef,.undef,.undef,.undef,.undef,.undef,.undef,.undef,.undef,.undef,.undef,.undef,.undef,.undef,.undef,.undef,.undef,.undef,.undef,.undef,.undef,.undef,.undef,.undef,.undef,.undef,.undef,.undef,.undef,.undef,.undef,.undef,.undef,.undef,.undef,.undef,.undef,.undef,.undef,.undef,.undef,.undef,.undef,.undef,.undef,.undef,.undef,.undef,.undef,.undef,.undef,.undef,.undef,.undef,.undef,.undef,.undef,.undef,.undef,.undef,.undef,.undef,.undef,.undef,.undef,.undef,.undef,.undef,.undef,.undef,.undef,.undef,.undef,.undef,.undef,.undef,.undef,.undef,.undef,.undef,.undef,.undef,.undef,.undef,.undef,.undef,.undef,.undef,.undef,.undef,.undef,.undef,.undef,.undef,.undef,.undef,.undef,.undef,.undef,.undef,.undef,.undef,.undef,.undef,.undef,.undef,.undef,.undef,.undef,.undef,.undef,.undef,.undef,.undef,.undef,.undef,.undef,.undef,.undef,.undef,.undef,.undef,.undef,.undef,.undef,.undef,.undef,.undef,.undef,.undef,.undef,.undef,.undef,.undef,.undef,.undef,.undef,.undef,.undef,.undef,.undef,.undef,.undef,.undef,.undef,.undef,.undef,.undef,.undef,.undef,.undef,.undef,.undef,.undef,.undef,.undef,.undef,.undef,.undef,.undef,.undef,.undef,.undef,.undef,.undef,.undef,.undef,.undef,.undef,.undef,.undef,.undef,.undef,.undef,.undef,.undef,.undef,.undef,.undef,.undef,.undef,.undef,.undef,.undef,.undef,.undef,.undef,.undef,.undef,.undef,.undef,.undef,.undef,.undef,.undef,.undef,.undef,.undef,.undef],H,2,0⟩ ∧
  H (1,0)=some (RF (.sl (1,1) 0 i none 16) TB)∧H (1,1)=some (bs keys)∧H (1,2)=some (bs L)∧H (1,3)=some (aB 16 (byA L i j))
theorem s0_roundS (k n i:Nat) (hn:n≤8) (hi:i < n+7) (L keys:List (BitVec 8)) (hL:L.length=16*(n+7)) (j:Nat) (hj:j < 16) (st:St) (hJ:s0JS n i L keys j st) :
    ∃ st1,ev (envC C k) k L39b0 st=some (.normal,st1)∧s0JS n i L keys (j+1) (qaT L39k0 st1):=by
  obtain ⟨H,rfl,h0,hk,h1,h2⟩:=hJ
  have hw:=kcell1 L i j hj (by omega)
  have hlt:4*i+j / 4 < 4*(n+7):=by omega
  have h4:j % 4 < 4:=by omega
  simp (disch:=first|omega|decide|simp only[nmsB,lB]) only[simprocAttr,-rR,-rS,leB,memB,arrB,numB,qaf,ordB,qaz,qak,qaF,L39b0,h0,hk,h1,h2,hj,hlt,h4,hw,qaN,byA_succ,qac,qad,qab,qaa,qaq,qah]
  refine ⟨_,rfl,?_⟩
  refine qal [(1,0),(1,1),(1,2),(1,3)] rfl (by simp only[simprocAttr,-rR,-rS,qaj,L39k0,qaD,qbZ,qaN,qaU,qam,h0,hk,h1,h2,qag,qab,qaa]) rfl ⟨_,rfl,?_,?_,?_,?_⟩
  · exact qai (1,0) rfl (by simp (disch:=first|omega|decide|simp only[nmsB,lB]) only[simprocAttr,-rR,-rS,leB,memB,qaf,h0,qae,qac,qad,qab,qaa]) (by rw[qbI] <;> rfl)
  · exact qai (1,1) rfl (by simp (disch:=first|omega|decide|simp only[nmsB,lB]) only[simprocAttr,-rR,-rS,leB,memB,qaf,hk,qae,qac,qad,qab,qaa]) (qar _ _)
  · exact qai (1,2) rfl (by simp (disch:=first|omega|decide|simp only[nmsB,lB]) only[simprocAttr,-rR,-rS,leB,memB,qaf,h1,qae,qac,qad,qab,qaa]) (qar _ _)
  · exact qai (1,3) rfl (by simp (disch:=first|omega|decide|simp only[nmsB,lB]) only[simprocAttr,-rR,-rS,leB,memB,qaf,qae,qac,qad,qab,qaa]) (qap _ _ _)
theorem s1_roundS (k n i:Nat) (hn:n≤8) (h0i:0 < i) (hi:i < n+7) (L:List (BitVec 8)) (hL:L.length=16*(n+7)) (st:St) (hJ:s1J n L i st) :
    ∃ st1,ev (envC C (k+17)) (k+17) L39b1 st=some (.normal,st1)∧s1J n L (i+1) (qaT L39k1 st1):=by
  obtain ⟨H,rfl,h0,hk,h1⟩:=hJ.of_s h0i
  have hlt:i < n+7:=by omega
  simp (disch:=first|omega|decide|simp only[nmsB,lB]) only[simprocAttr,-rR,-rS,leB,memB,arrB,numB,qaf,ordB,qaz,qak,qaF,L39b1,h0,hk,h1,hlt,fr_w,qaN,qac,qad,qab,qaa,qaq,qah]
  generalize hL2:qaP L39k0 _ _ _=r
  refine qaK hL2 (s0JS n i L (L.take (16*i))) 16 (by omega) (fun a st ha hJ=>s0_roundS _ n i hn hlt L _ hL a ha st hJ) ?_ ?_ ?_
  · refine qal [(1, 0), (1, 1), (1, 2), (6, 0)] rfl (by simp only [simprocAttr, -rR, -rS, qaj, L39k0, qaD, qbZ, qaN, qaU, qam, h0, hk, h1, qag, qab, qaa]) rfl ⟨_, rfl, ?_, ?_, ?_, ?_⟩
    · exact qai (1,0) rfl (by simp (disch:=first|omega|decide|simp only[nmsB,lB]) only[simprocAttr,-rR,-rS,leB,memB,qaf,h0,qae,qac,qad,qab,qaa]) (by rw[qbI] <;> rfl)
    · exact qai (1,1) rfl (by simp (disch:=first|omega|decide|simp only[nmsB,lB]) only[simprocAttr,-rR,-rS,leB,memB,qaf,hk,qae,qac,qad,qab,qaa]) (qar _ _)
    · exact qai (1,2) rfl (by simp (disch:=first|omega|decide|simp only[nmsB,lB]) only[simprocAttr,-rR,-rS,leB,memB,qaf,h1,qae,qac,qad,qab,qaa]) (qar _ _)
    · refine (qai (6, 0) rfl (by simp (disch := first | omega | decide | simp only [nmsB, lB]) only [simprocAttr, -rR, -rS, leB, memB, qaf, arrB, qae, qac, qad, qab, qaa]) (qap 16 (fun _ => 0#8) _)).trans (congrArg some ?_)
      exact qbR _ fun j _=>by rw[byA,if_neg (by omega)]
  · rintro st ⟨H, rfl, h0, hk, h1, h2⟩
    apply qaG
    simp (disch:=first|omega|decide|simp only[nmsB,lB]) only[simprocAttr,-rR,-rS,leB,memB,arrB,numB,qaf,ordB,qaz,L39b0,h0,hk,h1,h2,qae,qac,qad,qab,qaa,qaq,qah]
    rfl
  · rintro st ⟨H, rfl, h0, hk, h1, h2⟩ rfl
    have hb:aB 16 (byA L i 16)=aB 16 (kf L i):=qbR _ fun j hj=>by rw[byA,if_pos (by omega)]
    rw[hb] at h2
    have hap:∀ (b:Nat),appN b 16 1 0 i (1,1) (aB 16 (kf L i)) (some (bs (L.take (16*i))))=some ⟨.sl (b,0) 0 (i+1) none 16,[bs (L.take (16*(i+1)))],[((1,1),none)]⟩:=by
      intro b
      rw[appN,qaV,if_pos (by rw[zT]; omega),zE,qcK,qcg,qcY,List.take_of_length_le (by rw[zT]; omega),take16 L i (by omega)]
    simp (disch:=first|omega|decide|simp only[nmsB,lB]) only[simprocAttr,-rR,-rS,leB,memB,arrB,numB,qaf,ordB,qaz,qak,qaF,L39b0,h0,hk,h1,h2,fr_w,qaN,qaU,RF_k,RF_st0,qg0,qe3,hap,qac,qad,qab,qaa,qaq,qah]
    refine ⟨_,rfl,?_⟩
    refine qal [(1,0),(11,0),(1,2)] rfl (by simp only[simprocAttr,-rR,-rS,qaj,L39k1,qaD,qbZ,qaN,qaU,qam,h0,hk,h1,qag,qab,qaa]) rfl ⟨_,.inr ⟨by omega,rfl,?_,?_,?_⟩⟩
    · refine (qb7 _ _ 0 (1, 0) _ rfl (by simp (disch := first | omega | decide | simp only [nmsB, lB]) only [simprocAttr, -rR, -rS, leB, memB, qaf, h0, qae, qac, qad, qab, qaa] <;> rfl)).trans ?_
      rw[qbI]; rfl
    · refine (qb7 _ _ 1 (11, 0) _ rfl (by simp (disch := first | omega | decide | simp only [nmsB, lB]) only [simprocAttr, -rR, -rS, leB, memB, qaf, qae, qac, qad, qab, qaa] <;> rfl)).trans ?_
      rw[qar]
    · exact qai (1,2) rfl (by simp (disch:=first|omega|decide|simp only[nmsB,lB]) only[simprocAttr,-rR,-rS,leB,memB,qaf,h1,qae,qac,qad,qab,qaa]) (qar _ _)
theorem s1_round (k n i:Nat) (hn:n≤8) (hi:i < n+7) (L:List (BitVec 8)) (hL:L.length=16*(n+7)) (st:St) (hJ:s1J n L i st) :
    ∃ st1,ev (envC C (k+17)) (k+17) L39b1 st=some (.normal,st1)∧s1J n L (i+1) (qaT L39k1 st1):=by
  by_cases h0:0 < i
  · exact s1_roundS k n i hn h0 hi L hL st hJ
  · obtain rfl : i = 0 := by omega
    exact s1_roundZ k n hn L hL st hJ
end Aes
namespace Aes
open Go Go.LE Tb
set_option maxRecDepth 20000
theorem RF_0':Nil::(aB 256 BX++List.drop 256 (aB 512 fun _=>0#8))=RF Nil (unT 0):=by
  rw[←RF_0,qbk,qbB,List.singleton_append,zi,zZ,show 1+256=256+1 from rfl,zd,←qeO]
  rfl
theorem rnew_4 (k:Nat) (key:List (BitVec 8)) (hk:key.length=16):F C (k+400) 39 [.isl (bs key) key.length] []=some (.tup [.ptr (1,0) 0,N 0],[],[RF (.sl (1,1) 0 (4+7) none 16) TB,bs (W 4 key)]):=by
  rw[qaL f39]
  have hbo:F C (k+399) 67 [] []=some (.agg (aB 256 BX),[],[]):=Boxes_F (k+99)
  simp (disch:=first|omega|decide|simp only[nmsB,lB]) only[simprocAttr,-rR,-rS,leB,memB,arrB,numB,qaf,ordB,qaz,qak,L39,hk,hbo,RF_0',l67,qae,qac,qad,qab,qaa,qaq,qah]
  generalize hL:qaP L39k5 _ _ _=r
  refine qaK hL (r5J 4 key) 256 (by omega) (fun i st hi hJ=>r5_round _ 4 key i hi st hJ) ?_ ?_ ?_
  · refine qal [(18, 0)] rfl (by simp only [simprocAttr, -rR, -rS, qaj, L39k5, qaD, qbZ, qaU, qam, qa1, qag, qab, qaa]) (by simp only [simprocAttr, -rR, -rS, qaj, L39k5, zA, zB, qa9, qag, qab, qaa] <;> rfl) ⟨_, rfl, ?_⟩
    exact qai (18,0) rfl (by simp (disch:=first|omega|decide|simp only[nmsB,lB]) only[simprocAttr,-rR,-rS,leB,memB,qaf,qae,qac,qad,qab,qaa]) (by rw[qbI,qbp])
  · rintro st ⟨H, rfl, h0⟩
    apply qaG
    simp (disch:=first|omega|decide|simp only[nmsB,lB]) only[simprocAttr,-rR,-rS,leB,memB,arrB,numB,qaf,L39b5,h0,qae,qac,qad,qab,qaa]
    rfl
  · rintro st ⟨H, rfl, h0⟩ rfl
    rw[unT_all] at h0
    simp (disch:=first|omega|decide|simp only[nmsB,lB]) only[simprocAttr,-rR,-rS,leB,memB,arrB,numB,qaf,ordB,qaz,L39b5,h0,qae,qac,qad,qab,qaa,qaq,qah]
    clear hL
    generalize hL:qaP L39k4 _ _ _=r
    refine qaK hL (r4J 4 key) 4 (by omega) (fun i st hi hJ=>r4_round _ 4 i (by decide) key hk hi st hJ) ?_ ?_ ?_
    · refine qal [(1, 0)] rfl (by simp only [simprocAttr, -rR, -rS, qaj, L39k4, qaD, qbZ, qaU, qam, qa1, h0, qag, qab, qaa]) (by simp only [simprocAttr, -rR, -rS, qaj, L39k4, zA, zB, qa9, qag, qab, qaa] <;> rfl) ⟨_, .inl ⟨rfl, rfl, ?_⟩⟩
      exact qai (1,0) rfl (by simp (disch:=first|omega|decide|simp only[nmsB,lB]) only[simprocAttr,-rR,-rS,leB,memB,qaf,h0,qae,qac,qad,qab,qaa]) (by rw[qbI,qbp])
    · intro st hJ
      obtain ⟨H,rfl,h0,h1⟩:=hJ.of_s (by decide)
      apply qaG
      simp (disch:=first|omega|decide|simp only[nmsB,lB]) only[simprocAttr,-rR,-rS,leB,memB,arrB,numB,qaf,L39b4,h0,h1,qae,qac,qad,qab,qaa]
      rfl
    · intro st hJ hr
      obtain ⟨H,rfl,h0,h1⟩:=hJ.of_s (by decide)
      subst hr
      rw[List.take_of_length_le (by omega)] at h1
      simp (disch:=first|omega|decide|simp only[nmsB,lB]) only[simprocAttr,-rR,-rS,leB,memB,arrB,numB,qaf,ordB,qaz,L39b4,h0,h1,qae,qac,qad,qab,qaa,qaq,qah]
      clear hL
      generalize hL:qaP L39k3 _ _ _=r
      refine qaK hL (r3J 4 key) 40 (by omega) (fun i st hi hJ=>r3_round (k+388) 4 (.inl rfl) key hk i hi st hJ) ?_ ?_ ?_
      · refine qal [(1, 0), (1, 1)] rfl (by simp only [simprocAttr, -rR, -rS, qaj, L39k3, qaD, qbZ, qaU, qam, qa1, h0, h1, qag, qab, qaa]) rfl ⟨_, Un, Un, Un, ⟨rfl, fun _ => rfl⟩, rfl, ?_, ?_⟩
        · exact qai (1,0) rfl (by simp (disch:=first|omega|decide|simp only[nmsB,lB]) only[simprocAttr,-rR,-rS,leB,memB,qaf,h0,qae,qac,qad,qab,qaa]) (by rw[qbI,qbp])
        · exact qai (1,1) rfl (by simp (disch:=first|omega|decide|simp only[nmsB,lB]) only[simprocAttr,-rR,-rS,leB,memB,qaf,h1,qae,qac,qad,qab,qaa] <;> rfl) (qar _ _)
      · rintro st ⟨H, a, b, d, hp, rfl, h0, h1⟩
        apply qaG
        simp (disch:=first|omega|decide|simp only[nmsB,lB]) only[simprocAttr,-rR,-rS,leB,memB,arrB,numB,qaf,L39b3,h0,h1,qae,qac,qad,qab,qaa]
        rfl
      · rintro st ⟨H, a, b, d, hp, rfl, h0, h1⟩ rfl
        simp (disch:=first|omega|decide|simp only[nmsB,lB]) only[simprocAttr,-rR,-rS,leB,memB,arrB,numB,qaf,ordB,qaz,L39b3,h0,h1,qae,qac,qad,qab,qaa,qaq,qah]
        clear hL
        generalize hL:qaP L39k1 _ _ _=r
        have hlen:(KS 4 key 40).1.length=16*(4+7):=qcP 4 key hk 40
        refine qaK hL (s1J 4 (KS 4 key 40).1) 11 (by omega) (fun i st hi hJ=>s1_round (k+382) 4 i (by decide) hi _ hlen st hJ) ?_ ?_ ?_
        · refine qal [(1, 0), (1, 1)] rfl (by simp only [simprocAttr, -rR, -rS, qaj, L39k1, qaD, qbZ, qaU, qam, qa1, h0, h1, qag, qab, qaa]) rfl ⟨_, .inl ⟨rfl, rfl, ?_, ?_⟩⟩
          · exact qai (1,0) rfl (by simp (disch:=first|omega|decide|simp only[nmsB,lB]) only[simprocAttr,-rR,-rS,leB,memB,qaf,h0,qae,qac,qad,qab,qaa]) (by rw[qbI,qbp])
          · exact qai (1,1) rfl (by simp (disch:=first|omega|decide|simp only[nmsB,lB]) only[simprocAttr,-rR,-rS,leB,memB,qaf,h1,qae,qac,qad,qab,qaa]) (qar _ _)
        · intro st hJ
          obtain ⟨H,rfl,h0,hk,h1⟩:=hJ.of_s (by decide)
          apply qaG
          simp (disch:=first|omega|decide|simp only[nmsB,lB]) only[simprocAttr,-rR,-rS,leB,memB,arrB,numB,qaf,L39b1,h0,h1,qae,qac,qad,qab,qaa]
          rfl
        · intro st hJ hr
          obtain ⟨H,rfl,h0,hk,h1⟩:=hJ.of_s (by decide)
          subst hr
          simp (disch:=first|omega|decide|simp only[nmsB,lB]) only[simprocAttr,-rR,-rS,leB,memB,arrB,numB,qaf,ordB,qaz,L39b1,h0,hk,h1,qae,qac,qad,qab,qaa,qaq,qah]
          rw[List.take_of_length_le (by rw[hlen]; decide)] at hk
          rw[qa0 0 _ _ [(1,0),(1,1)] (by simp only[simprocAttr,-rR,-rS,qaj,qbZ,qam,qc9,qfy,qdy,h0,hk,h1,qag,qab,qaa])]
          simp (disch:=first|omega|decide|simp only[nmsB,lB]) only[simprocAttr,-rR,-rS,leB,memB,qaf,qbI,qar,h0,hk,qbS,qae,qac,qad,qab,qaa]
          rfl
theorem rnew_8 (k:Nat) (key:List (BitVec 8)) (hk:key.length=32):F C (k+400) 39 [.isl (bs key) key.length] []=some (.tup [.ptr (1,0) 0,N 0],[],[RF (.sl (1,1) 0 (8+7) none 16) TB,bs (W 8 key)]):=by
  rw[qaL f39]
  have hbo:F C (k+399) 67 [] []=some (.agg (aB 256 BX),[],[]):=Boxes_F (k+99)
  simp (disch:=first|omega|decide|simp only[nmsB,lB]) only[simprocAttr,-rR,-rS,leB,memB,arrB,numB,qaf,ordB,qaz,qak,L39,hk,hbo,RF_0',l67,qae,qac,qad,qab,qaa,qaq,qah]
  generalize hL:qaP L39k5 _ _ _=r
  refine qaK hL (r5J 8 key) 256 (by omega) (fun i st hi hJ=>r5_round _ 8 key i hi st hJ) ?_ ?_ ?_
  · refine qal [(18, 0)] rfl (by simp only [simprocAttr, -rR, -rS, qaj, L39k5, qaD, qbZ, qaU, qam, qa1, qag, qab, qaa]) (by simp only [simprocAttr, -rR, -rS, qaj, L39k5, zA, zB, qa9, qag, qab, qaa] <;> rfl) ⟨_, rfl, ?_⟩
    exact qai (18,0) rfl (by simp (disch:=first|omega|decide|simp only[nmsB,lB]) only[simprocAttr,-rR,-rS,leB,memB,qaf,qae,qac,qad,qab,qaa]) (by rw[qbI,qbp])
  · rintro st ⟨H, rfl, h0⟩
    apply qaG
    simp (disch:=first|omega|decide|simp only[nmsB,lB]) only[simprocAttr,-rR,-rS,leB,memB,arrB,numB,qaf,L39b5,h0,qae,qac,qad,qab,qaa]
    rfl
  · rintro st ⟨H, rfl, h0⟩ rfl
    rw[unT_all] at h0
    simp (disch:=first|omega|decide|simp only[nmsB,lB]) only[simprocAttr,-rR,-rS,leB,memB,arrB,numB,qaf,ordB,qaz,L39b5,h0,qae,qac,qad,qab,qaa,qaq,qah]
    clear hL
    generalize hL:qaP L39k4 _ _ _=r
    refine qaK hL (r4J 8 key) 8 (by omega) (fun i st hi hJ=>r4_round _ 8 i (by decide) key hk hi st hJ) ?_ ?_ ?_
    · refine qal [(1, 0)] rfl (by simp only [simprocAttr, -rR, -rS, qaj, L39k4, qaD, qbZ, qaU, qam, qa1, h0, qag, qab, qaa]) (by simp only [simprocAttr, -rR, -rS, qaj, L39k4, zA, zB, qa9, qag, qab, qaa] <;> rfl) ⟨_, .inl ⟨rfl, rfl, ?_⟩⟩
      exact qai (1,0) rfl (by simp (disch:=first|omega|decide|simp only[nmsB,lB]) only[simprocAttr,-rR,-rS,leB,memB,qaf,h0,qae,qac,qad,qab,qaa]) (by rw[qbI,qbp])
    · intro st hJ
      obtain ⟨H,rfl,h0,h1⟩:=hJ.of_s (by decide)
      apply qaG
      simp (disch:=first|omega|decide|simp only[nmsB,lB]) only[simprocAttr,-rR,-rS,leB,memB,arrB,numB,qaf,L39b4,h0,h1,qae,qac,qad,qab,qaa]
      rfl
    · intro st hJ hr
      obtain ⟨H,rfl,h0,h1⟩:=hJ.of_s (by decide)
      subst hr
      rw[List.take_of_length_le (by omega)] at h1
      simp (disch:=first|omega|decide|simp only[nmsB,lB]) only[simprocAttr,-rR,-rS,leB,memB,arrB,numB,qaf,ordB,qaz,L39b4,h0,h1,qae,qac,qad,qab,qaa,qaq,qah]
      clear hL
      generalize hL:qaP L39k3 _ _ _=r
      refine qaK hL (r3J 8 key) 52 (by omega) (fun i st hi hJ=>r3_round (k+388) 8 (.inr rfl) key hk i hi st hJ) ?_ ?_ ?_
      · refine qal [(1, 0), (1, 1)] rfl (by simp only [simprocAttr, -rR, -rS, qaj, L39k3, qaD, qbZ, qaU, qam, qa1, h0, h1, qag, qab, qaa]) rfl ⟨_, Un, Un, Un, ⟨rfl, fun _ => rfl⟩, rfl, ?_, ?_⟩
        · exact qai (1,0) rfl (by simp (disch:=first|omega|decide|simp only[nmsB,lB]) only[simprocAttr,-rR,-rS,leB,memB,qaf,h0,qae,qac,qad,qab,qaa]) (by rw[qbI,qbp])
        · exact qai (1,1) rfl (by simp (disch:=first|omega|decide|simp only[nmsB,lB]) only[simprocAttr,-rR,-rS,leB,memB,qaf,h1,qae,qac,qad,qab,qaa] <;> rfl) (qar _ _)
      · rintro st ⟨H, a, b, d, hp, rfl, h0, h1⟩
        apply qaG
        simp (disch:=first|omega|decide|simp only[nmsB,lB]) only[simprocAttr,-rR,-rS,leB,memB,arrB,numB,qaf,L39b3,h0,h1,qae,qac,qad,qab,qaa]
        rfl
      · rintro st ⟨H, a, b, d, hp, rfl, h0, h1⟩ rfl
        simp (disch:=first|omega|decide|simp only[nmsB,lB]) only[simprocAttr,-rR,-rS,leB,memB,arrB,numB,qaf,ordB,qaz,L39b3,h0,h1,qae,qac,qad,qab,qaa,qaq,qah]
        clear hL
        generalize hL:qaP L39k1 _ _ _=r
        have hlen:(KS 8 key 52).1.length=16*(8+7):=qcP 8 key hk 52
        refine qaK hL (s1J 8 (KS 8 key 52).1) 15 (by omega) (fun i st hi hJ=>s1_round (k+382) 8 i (by decide) hi _ hlen st hJ) ?_ ?_ ?_
        · refine qal [(1, 0), (1, 1)] rfl (by simp only [simprocAttr, -rR, -rS, qaj, L39k1, qaD, qbZ, qaU, qam, qa1, h0, h1, qag, qab, qaa]) rfl ⟨_, .inl ⟨rfl, rfl, ?_, ?_⟩⟩
          · exact qai (1,0) rfl (by simp (disch:=first|omega|decide|simp only[nmsB,lB]) only[simprocAttr,-rR,-rS,leB,memB,qaf,h0,qae,qac,qad,qab,qaa]) (by rw[qbI,qbp])
          · exact qai (1,1) rfl (by simp (disch:=first|omega|decide|simp only[nmsB,lB]) only[simprocAttr,-rR,-rS,leB,memB,qaf,h1,qae,qac,qad,qab,qaa]) (qar _ _)
        · intro st hJ
          obtain ⟨H,rfl,h0,hk,h1⟩:=hJ.of_s (by decide)
          apply qaG
          simp (disch:=first|omega|decide|simp only[nmsB,lB]) only[simprocAttr,-rR,-rS,leB,memB,arrB,numB,qaf,L39b1,h0,h1,qae,qac,qad,qab,qaa]
          rfl
        · intro st hJ hr
          obtain ⟨H,rfl,h0,hk,h1⟩:=hJ.of_s (by decide)
          subst hr
          simp (disch:=first|omega|decide|simp only[nmsB,lB]) only[simprocAttr,-rR,-rS,leB,memB,arrB,numB,qaf,ordB,qaz,L39b1,h0,hk,h1,qae,qac,qad,qab,qaa,qaq,qah]
          rw[List.take_of_length_le (by rw[hlen]; decide)] at hk
          rw[qa0 0 _ _ [(1,0),(1,1)] (by simp only[simprocAttr,-rR,-rS,qaj,qbZ,qam,qc9,qfy,qdy,h0,hk,h1,qag,qab,qaa])]
          simp (disch:=first|omega|decide|simp only[nmsB,lB]) only[simprocAttr,-rR,-rS,leB,memB,qaf,qbI,qar,h0,hk,qbS,qae,qac,qad,qab,qaa]
          rfl
theorem rnew_F (k n:Nat) (hn:n=4∨n=8) (key:List (BitVec 8)) (hk:key.length=4*n):F C (k+400) 39 [.isl (bs key) key.length] []=some (.tup [.ptr (1,0) 0,N 0],[],[RF (.sl (1,1) 0 (n+7) none 16) TB,bs (W n key)]):=by
  rcases hn with rfl | rfl
  · exact rnew_4 k key hk
  · exact rnew_8 k key hk
end Aes
namespace Aes
open Go Go.LE Tb
set_option maxRecDepth 20000
theorem qcu (l:List (BitVec 8)):(bs l).all (qbN D)=true:=by
  rw[List.all_eq_true]; intro x hx; simp only[bs,List.mem_map] at hx; obtain ⟨y,_,rfl⟩:=hx; rfl
theorem qhP (n:Nat) (f:R):(aB n f).all (qbN D)=true:=by
  rw[List.all_eq_true]; intro x hx; simp only[aB,arr,List.mem_map] at hx; obtain ⟨y,_,rfl⟩:=hx; rfl
theorem qcz (names:List Nm) (base:Nat) (plain:Bool) (res:qce) (h:qa7 res=true):resK names base plain (some res)=some (qcA names base res):=by
  simp[resK,h]
theorem c_new_of (g K b len:Nat) (hg:qaJ g 0=true) (H:Heap) (B:LV) (key:List (BitVec 8)) (lent:List Nm) (hs:snap H D B=some (.isl (bs key) key.length,lent)) (O:LV→qan)
    (hO:∀ r,(O r).all (qbN D)=qbN D r) (hOr:∀ π r,(O r).map (ren D π)=O (ren D π r)) (l:List (BitVec 8))
    (hF:F C K g [.isl (bs key) key.length] []=some (.tup [.ptr (1,0) 0,N 0],[],[O (.sl (1,1) 0 len none 16),bs l])) :
    qaA (envC C K) H b g [B]=some ⟨.tup [.ptr (b,0) 0,N 0],[O (.sl (b,1) 0 len none 16),bs l],[]⟩:=by
  have hlend:lend H ((envC C K).borrow g) 0 [B]=some ([.isl (bs key) key.length],lent):=by
    rw[qba,qct,qbK,qdg,if_pos hg,hs,qa3,zD]
  have hn:([.isl (bs key) key.length]:List LV).flatMap (nms D)=[]:=by
    simp only[zI,zN,qa1,zD]
  have ha:([.isl (bs key) key.length]:List LV).map (ren D (qaM []))=[.isl (bs key) key.length]:=by
    simp only[zA,zB,qa9]
  have hp:qa7 (.tup [.ptr (1,0) 0,N 0],[],[O (.sl (1,1) 0 len none 16),bs l])=true:=by
    simp only[qa7,ze,zW,hO,qcu]; rfl
  have hl:lent.any (fun n=>([]:List Nm).contains n)=false:=by simp
  rw[qbV,hlend,qbD,hn,show qa2 H FUEL [] []=[] from rfl,qbW _ _ _ _ _ hl,ha,zS,zB,qbU,hF,qcz _ _ _ _ hp,qaW]
  simp only[zA,zB,hOr,qar,qaY,zH,zM,qbs,zO,Nat.reduceAdd,Nat.reduceLT,qbj,List.zipWith_nil_left]
  rfl
theorem qhm (r:LV) (f:R):(CF r f).all (qbN D)=qbN D r:=by rw[CF,zW,qhP,Bool.and_true]
theorem qgr (r:LV) (f:R):(RF r f).all (qbN D)=qbN D r:=by rw[RF,zW,qhP,Bool.and_true]
theorem c_new (k n b:Nat) (hn:n=4∨n=8) (H:Heap) (B:LV) (key:List (BitVec 8)) (hk:key.length=4*n) (lent:List Nm) (hs:snap H D B=some (.isl (bs key) key.length,lent)) :
    qaA (envC C (k+400)) H b 32 [B]=some ⟨.tup [.ptr (b,0) 0,N 0],[CF (.sl (b,1) 0 (n+7) none 16) TB,bs (W n key)],[]⟩ :=
  c_new_of 32 _ b (n+7) (by decide) H B key lent hs (fun r=>CF r TB) (fun r=>qhm r _) (fun π r=>qa4 π r _) (W n key) (new_F k n hn key hk)
theorem c_rnew (k n b:Nat) (hn:n=4∨n=8) (H:Heap) (B:LV) (key:List (BitVec 8)) (hk:key.length=4*n) (lent:List Nm) (hs:snap H D B=some (.isl (bs key) key.length,lent)) :
    qaA (envC C (k+400)) H b 39 [B]=some ⟨.tup [.ptr (b,0) 0,N 0],[RF (.sl (b,1) 0 (n+7) none 16) TB,bs (W n key)],[]⟩ :=
  c_new_of 39 _ b (n+7) (by decide) H B key lent hs (fun r=>RF r TB) (fun r=>qgr r _) (fun π r=>qbI π r _) (W n key) (rnew_F k n hn key hk)
theorem c_enc (k n b:Nat) (hn:n≤20) (H:Heap) (c m:Nm) (l:List (BitVec 8)) (h:KG H c m (n+2) none l) (hl:l.length=16*(n+2)) (s:R) :
    qaA (envC C (k+60)) H b 36 [.ptr c 0,.agg (aB 16 s)]=some ⟨.agg (aB 16 (enc (kf l) n s)),[],[(c,some (CF (.sl m 0 (n+2) none 16) TB)),(m,some (bs l))]⟩ :=
  callK _ b 36 l36 H c m (n+2) none l h _ (Pl.pa 16 s Pl.e) _ (fun π=>qbl 16 _ π) (enc_F k n hn l hl s)
theorem c_dec (k n b:Nat) (hn:n≤20) (H:Heap) (c m:Nm) (l:List (BitVec 8)) (h:KG H c m (n+2) none l) (hl:l.length=16*(n+2)) (s:R) :
    qaA (envC C (k+60)) H b 49 [.ptr c 0,.agg (aB 16 s)]=some ⟨.agg (aB 16 (dec (kf l) n s)),[],[(c,some (CF (.sl m 0 (n+2) none 16) TB)),(m,some (bs l))]⟩ :=
  callK _ b 49 l49 H c m (n+2) none l h _ (Pl.pa 16 s Pl.e) _ (fun π=>qbl 16 _ π) (dec_F k n hn l hl s)
structure RG (H:Heap) (c m:Nm) (len:Nat) (cap:Option Nat) (l:List (BitVec 8)):Prop where
  hc:H c=some (RF (.sl m 0 len cap 16) TB)
  hm:H m=some (bs l)
  ne:c≠m
theorem callRK (k b g:Nat) (hg:qaJ g=fun _=>false) (H:Heap) (c m:Nm) (len:Nat) (cap:Option Nat) (l:List (BitVec 8)) (h:RG H c m len cap l) (ps:List LV) (hp:Pl ps) (r:LV) (hr:∀ π,ren D π r=r)
    (hw:F C k g (.ptr (0,0) 0::ps) [RF (.sl (0,1) 0 len cap 16) TB,bs l]=some (r,[some (RF (.sl (0,1) 0 len cap 16) TB),some (bs l)],[])) :
    qaA (envC C k) H b g (.ptr c 0::ps)=some ⟨r,[],[(c,some (RF (.sl m 0 len cap 16) TB)),(m,some (bs l))]⟩:=by
  have hc:([c]:List Nm).contains m=false:=by simp; exact fun e=>h.ne e.symm
  have hre:qa2 H FUEL [] [c]=[c,m]:=by
    simp only[FUEL,qag,zf,zP,zL,h.hc,qbL,qbZ,qaN,zG,zQ,hc,h.hm,qam,qbm]
  rw[qbV,qbK,qdg,hg,qdo,qbD]
  have hn:(LV.ptr c 0::ps).flatMap (nms D)=[c]:=by rw[zI,qb5,hp.n]; rfl
  rw[hn,hre,qbW _ _ _ _ _ rfl,show ([c,m]:List Nm).filterMap H=[RF (.sl m 0 len cap 16) TB,bs l] by simp[h.hc,h.hm]]
  have ha:(LV.ptr c 0::ps).map (ren D (qaM [c,m])) = .ptr (0,0) 0::ps:=by
    simp only[zA,qbr,qbM,idx0,zC,qbw,hp.r]
  rw[ha,zA,zA,zB,qbI,qaY,qbM,idx1 _ _ _ h.ne,zC,qbj,qar,qbU,hw,show ([]:List Nm).isEmpty=true from rfl,qeH,qaW,hr]
  simp only[List.zipWith_cons_cons,List.zipWith_nil_left,zC,qbI,qaY,qcL,qar,zB,qbj,List.getElem?_cons_zero,List.getElem?_cons_succ]
theorem c_renc (k n b:Nat) (hn:n≤20) (H:Heap) (c m:Nm) (l:List (BitVec 8)) (h:RG H c m (n+2) none l) (hl:l.length=16*(n+2)) (s:R) :
    qaA (envC C (k+60)) H b 89 [.ptr c 0,.agg (aB 16 s)]=some ⟨.agg (aB 16 (enc (kf l) n s)),[],[(c,some (RF (.sl m 0 (n+2) none 16) TB)),(m,some (bs l))]⟩ :=
  callRK _ b 89 l89 H c m (n+2) none l h _ (Pl.pa 16 s Pl.e) _ (fun π=>qbl 16 _ π) (renc_F k n hn l hl s)
theorem c_rdec (k n b:Nat) (hn:n≤20) (H:Heap) (c m:Nm) (l:List (BitVec 8)) (h:RG H c m (n+2) none l) (hl:l.length=16*(n+2)) (s:R) :
    qaA (envC C (k+60)) H b 92 [.ptr c 0,.agg (aB 16 s)]=some ⟨.agg (aB 16 (dec (kf l) n s)),[],[(c,some (RF (.sl m 0 (n+2) none 16) TB)),(m,some (bs l))]⟩ :=
  callRK _ b 92 l92 H c m (n+2) none l h _ (Pl.pa 16 s Pl.e) _ (fun π=>qbl 16 _ π) (rdec_F k n hn l hl s)
theorem same_aB (n:Nat) (f:R):qdU (aB n f) (aB n f)=true:=qhk fun x hx=>by
  simp only[aB,arr,List.mem_map] at hx; obtain ⟨y,_,rfl⟩:=hx; exact same_B8 _
theorem same_CF (m:Nm) (len:Nat) (cap:Option Nat) (f:R):qdU (CF (.sl m 0 len cap 16) f) (CF (.sl m 0 len cap 16) f)=true:=by
  rw[CF,qdU,same_aB,Bool.and_true]; simp[qeS]
theorem same_RF (m:Nm) (len:Nat) (cap:Option Nat) (f:R):qdU (RF (.sl m 0 len cap 16) f) (RF (.sl m 0 len cap 16) f)=true:=by
  rw[RF,qdU,same_aB,Bool.and_true]; simp[qeS]
theorem tr_KG (H:Heap) (v:LV) (c m:Nm) (len:Nat) (cap:Option Nat) (l:List (BitVec 8)) (h:KG H c m len cap l):qdz true H (some ⟨v,[],[(c,some (CF (.sl m 0 len cap 16) TB)),(m,some (bs l))]⟩)=some ⟨v,[],[]⟩:=by
  refine qec _ _ _ _ fun q hm => ?_
  simp only[List.mem_cons,List.not_mem_nil,zV] at hm
  rcases hm with rfl | rfl
  · simp only[h.hc,qcJ,same_CF]
  · simp only[h.hm,qcJ,qe2]
theorem tr_RG (H:Heap) (v:LV) (c m:Nm) (len:Nat) (cap:Option Nat) (l:List (BitVec 8)) (h:RG H c m len cap l):qdz true H (some ⟨v,[],[(c,some (RF (.sl m 0 len cap 16) TB)),(m,some (bs l))]⟩)=some ⟨v,[],[]⟩:=by
  refine qec _ _ _ _ fun q hm => ?_
  simp only[List.mem_cons,List.not_mem_nil,zV] at hm
  rcases hm with rfl | rfl
  · simp only[h.hc,qcJ,same_RF]
  · simp only[h.hm,qcJ,qe2]
theorem reach_KG {H:Heap} {c m:Nm} {len:Nat} {cap:Option Nat} {l:List (BitVec 8)} (h:KG H c m len cap l):qa2 H FUEL [] [c]=[c,m]:=by
  have hc:([c]:List Nm).contains m=false:=by simp; exact fun e=>h.ne e.symm
  simp only[FUEL,qag,zf,zP,zL,h.hc,qbL,qa5,qaN,zG,zQ,hc,h.hm,qam,qbm]
theorem reach_RG {H:Heap} {c m:Nm} {len:Nat} {cap:Option Nat} {l:List (BitVec 8)} (h:RG H c m len cap l):qa2 H FUEL [] [c]=[c,m]:=by
  have hc:([c]:List Nm).contains m=false:=by simp; exact fun e=>h.ne e.symm
  simp only[FUEL,qag,zf,zP,zL,h.hc,qbL,qbZ,qaN,zG,zQ,hc,h.hm,qam,qbm]
theorem KG.only {H:Heap} {c m:Nm} {len:Nat} {cap:Option Nat} {l:List (BitVec 8)} (h:KG H c m len cap l):KG (LE.only [c,m] H) c m len cap l :=
  ⟨by rw[LE.only,if_pos (by simp)]; exact h.hc,by rw[LE.only,if_pos (by simp)]; exact h.hm,h.ne⟩
theorem RG.only {H:Heap} {c m:Nm} {len:Nat} {cap:Option Nat} {l:List (BitVec 8)} (h:RG H c m len cap l):RG (LE.only [c,m] H) c m len cap l :=
  ⟨by rw[LE.only,if_pos (by simp)]; exact h.hc,by rw[LE.only,if_pos (by simp)]; exact h.hm,h.ne⟩
end Aes
