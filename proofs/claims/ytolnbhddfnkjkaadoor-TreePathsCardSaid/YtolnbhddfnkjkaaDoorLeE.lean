/- Loops by an invariant; long rows of cells as functions of the place. -/
import Derived.Test.YtolnbhddfnkjkaaDoorLeB
import Derived.ProofKit
import Derived.OpenShut
import Derived.ChangeOld
import Derived.Below
import Derived.SizedLaws
import Derived.ChangeSlices
import GoSem.ClaimJoined
import Derived.Laws.Strings
import Derived.RangeFuncLeaves
import Derived.LoopNIn
import Derived.OrdersIn
import Derived.RangeFuncRecord
import Derived.RangeFuncSeq
import Derived.RangeFuncOwn
set_option linter.unusedVariables false
set_option linter.unusedSimpArgs false
namespace Go.LE
theorem loop_inv {f:St→Option (Ex × St)} {keep:List Bool} (J:Nat→St→Prop) (n:Nat)
    (round:∀ i st,i < n→J i st→∃ st1,f st=some (.normal,st1)∧J (i+1) (qby keep st1))
    (stop:∀ st,J n st→∃ x st1,f st=some (x,st1)∧(match x with | .normal=>False | _=>True))
    {k:Nat} (hk:n < k) {st:St} {r:Option (Ex × St)} (hL:qca keep f k st=r) (h0:J 0 (qby keep st)) :
    ∃ st',J n st'∧r=f st':=by
  subst hL
  obtain ⟨m,rfl⟩:∃ m,k=m+n+1:=⟨k - n - 1,by omega⟩
  have go:∀ (d i:Nat) (st:St),i+d=n→J i (qby keep st)→∃ st',J n st'∧qca keep f (m+d+1) st=f st':=by
    intro d
    induction d with
    | zero =>
      intro i st hi hj
      obtain rfl:i=n:=by omega
      obtain ⟨x,st1,h1,h2⟩:=stop _ hj
      refine ⟨_,hj,?_⟩
      rw[h1]
      cases x with
      | normal=>exact h2.elim
      | exit j=>exact loopN_stop rfl h1
      | ret=>exact loopN_ret rfl h1
    | succ d ih =>
      intro i st hi hj
      obtain ⟨st1,h1,hj1⟩:=round i _ (by omega) hj
      obtain ⟨st',hj',e⟩:=ih (i+1) st1 (by omega) hj1
      refine ⟨st',hj',?_⟩
      rw[←e]
      exact loopN_next rfl h1
  exact go n 0 st (by omega) h0
theorem qbJ {goal:Prop} {f:St→Option (Ex × St)} {keep:List Bool} {k:Nat} {st:St} {r:Option (Ex × St)} (hL:qca keep f k st=r) (J:Nat→St→Prop) (n:Nat) (hk:n < k)
    (round:∀ i st,i < n→J i st→∃ st1,f st=some (.normal,st1)∧J (i+1) (qby keep st1)) (h0:J 0 (qby keep st))
    (stop:∀ st,J n st→∃ x st1,f st=some (x,st1)∧(match x with | .normal=>False | _=>True))
    (next:∀ st',J n st'→r=f st'→goal):goal:=by
  obtain ⟨st',h1,h2⟩:=loop_inv J n round stop hk hL h0
  exact next st' h1 h2
theorem qaU {P:St→Prop} {keep:List Bool} {tm tm' tm'':List LV} {H:Heap} {nx np:Nat} (names:List Nm) (h0:mask keep tm=tm')
    (hn:qaA H np tm'=names) (h2:tm'.map (ren D (qdg names))=tm'') (hp:P ⟨tm'',cN names H,2,np⟩):P (qby keep ⟨tm,H,nx,np⟩):=by
  rw[canon_mem h0 hn h2]
  exact hp
theorem qbs {f:St→Option (Ex × St)} {st st1:St} {i:Nat} (h:f st=some (.exit i,st1)):∃ x st1,f st=some (x,st1)∧(match x with | .normal=>False | _=>True):=⟨_,_,h,trivial⟩
theorem stop_ret {f:St→Option (Ex × St)} {st st1:St} (h:f st=some (.ret,st1)):∃ x st1,f st=some (x,st1)∧(match x with | .normal=>False | _=>True):=⟨_,_,h,trivial⟩
def arr (n:Nat) (f:Nat→LV):qaR:=(List.range n).map f
theorem rep_arr (n:Nat) (x:LV):List.replicate n x=arr n fun _=>x:=by
  apply List.ext_getElem <;> simp[arr]
theorem arr_length (n:Nat) (f:Nat→LV):(arr n f).length=n:=by simp[arr]
theorem arr_get (n:Nat) (f:Nat→LV) (i:Nat) (h:i < n):(arr n f)[i]? = some (f i):=by simp[arr,h]
theorem arr_getElem (n:Nat) (f:Nat→LV) (i:Nat) (h:i < (arr n f).length):(arr n f)[i]=f i:=by simp[arr]
theorem arr_ext (n:Nat) {f g:Nat→LV} (h:∀ i,i < n→f i=g i):arr n f=arr n g:=by
  apply List.ext_getElem
  · simp[arr]
  · intro i h1 h2
    simp only[arr_getElem]
    exact h i (by simpa [arr] using h1)
theorem arr_succ (n:Nat) (f:Nat→LV):arr (n+1) f=f 0::arr n fun i=>f (i+1):=by
  simp only[arr,List.range_succ_eq_map,zG,List.map_map]
  rfl
theorem cell_arr (n:Nat) (f:Nat→LV) (i:Nat) (h:i < n):cellK i 1 (some (arr n f))=some [f i]:=by
  have h1:i+1≤(arr n f).length:=by rw[arr_length]; omega
  rw[cellK_some,if_pos h1]
  congr 1
  apply List.ext_getElem
  · simp only[zzJ,zzG,zJ,zM]; omega
  · intro j h2 h3
    obtain rfl:j=0:=by simp at h3; exact h3
    simp[arr]
theorem cells_arr (n:Nat) (f:Nat→LV):cellK 0 n (some (arr n f))=some (arr n f):=by
  rw[cellK_some,if_pos (by rw[arr_length]; omega),z8,List.take_of_length_le (by rw[arr_length]; exact Nat.le_refl _)]
def put1 (f:Nat→LV) (i:Nat) (x:LV):Nat→LV:=fun j=>if j=i then x else f j
theorem splice_arr (n:Nat) (f:Nat→LV) (i:Nat) (x:LV) (h:i < n):qb2 (arr n f) i [x]=arr n (put1 f i x):=by
  have e:qb2 (arr n f) i [x]=(arr n f).set i x:=by
    rw[List.set_eq_take_append_cons_drop,if_pos (by rw[arr_length]; exact h)]
    simp[qb2]
  rw[e]
  apply List.ext_getElem
  · simp[arr]
  · intro j h1 h2
    rw[List.getElem_set]
    simp only[arr_getElem,put1]
    by_cases hj:i=j
    · rw[if_pos hj,if_pos hj.symm]
    · rw[if_neg hj,if_neg (fun h=>hj h.symm)]
theorem st_arr (off n:Nat) (m:Nm) (x:LV) (f:Nat→LV) (h:off < n) (hx:isCell x=true) :
    stK 1 off m (some [x]) (some (arr n f))=some ⟨Un,[],[(m,some (arr n (put1 f off x)))]⟩:=by
  rw[stK_some,if_pos ⟨rfl,by rw[arr_length]; omega,by simp[hx]⟩,splice_arr _ _ _ _ h]
theorem st_arr_all (n:Nat) (m:Nm) (f g:Nat→LV) (hx:∀ i,i < n→isCell (g i)=true) :
    stK n 0 m (some (arr n g)) (some (arr n f))=some ⟨Un,[],[(m,some (arr n g))]⟩:=by
  have h1:(arr n g).all isCell=true:=by
    rw[List.all_eq_true]
    intro x hx'
    simp only[arr,List.mem_map,List.mem_range] at hx'
    obtain ⟨i,hi,rfl⟩:=hx'
    exact hx i hi
  rw[stK_some,if_pos ⟨arr_length _ _,by rw[arr_length]; omega,h1⟩]
  simp[qb2,arr_length]
theorem arr_nms (n:Nat) (f:Nat→LV) (h:∀ i,i < n→nms D (f i)=[]):(arr n f).flatMap (nms D)=[]:=by
  rw[List.flatMap_eq_nil_iff]
  intro x hx
  simp only[arr,List.mem_map,List.mem_range] at hx
  obtain ⟨i,hi,rfl⟩:=hx
  exact h i hi
theorem arr_ren (n:Nat) (f:Nat→LV) (π:Nm→Option Nm) (h:∀ i,i < n→ren D π (f i)=f i):(arr n f).map (ren D π)=arr n f:=by
  simp only[arr,List.map_map]
  apply List.map_congr_left
  intro i hi
  exact h i (List.mem_range.1 hi)
theorem ix1V_arr (len size n:Nat) (f:Nat→LV) (j:Nat) (h:j < len) (h2:j*size < n):ix1V len size (.agg (arr n f)) (some j)=some (f (j*size)):=by
  rw[ix1V_agg,if_pos h,arr_get _ _ _ h2]
theorem cellK_cons (off n:Nat) (c:LV) (cs:qaR):cellK off n (some (c::cs))=if off+n≤(c::cs).length then some (((c::cs).drop off).take n) else none:=cellK_some _ _ _
theorem stK_cons (n off:Nat) (m:Nm) (ys:qaR) (c:LV) (cs:qaR) :
    stK n off m (some ys) (some (c::cs))=if ys.length=n∧off+n≤(c::cs).length∧ys.all isCell=true then some ⟨Un,[],[(m,some (qb2 (c::cs) off ys))]⟩ else none:=stK_some _ _ _ _ _
theorem iaV_lt (n size:Nat) (nm:Nm) (off j:Nat) (h:j < n):iaV n size (.ptr nm off) (some j)=some (.ptr nm (off+j*size)):=by
  rw[iaV_ptr,if_pos h]
theorem qa5 (n:Nat):List.replicate (n+1) Un=Un::List.replicate n Un:=List.replicate_succ
end Go.LE
namespace Go.LE
def set1 {A:Type} (g:Nat→A) (i:Nat) (x:A):Nat→A:=fun j=>if j=i then x else g j
def aB (n:Nat) (g:Nat→BitVec 8):qaR:=arr n fun i=>B8 (g i)
theorem qbH (n:Nat) (x:BitVec 8):List.replicate n (B8 x)=aB n fun _=>x:=rep_arr n _
theorem aB_length (n:Nat) (g:Nat→BitVec 8):(aB n g).length=n:=arr_length _ _
theorem aB_ext (n:Nat) {f g:Nat→BitVec 8} (h:∀ i,i < n→f i=g i):aB n f=aB n g:=arr_ext n fun i hi=>by rw[h i hi]
theorem aB_put1 (g:Nat→BitVec 8) (i:Nat) (x:BitVec 8):put1 (fun j=>B8 (g j)) i (B8 x)=fun j=>B8 (set1 g i x j):=by
  funext j; simp only[put1,set1]; split <;> rfl
theorem aB_cell (n:Nat) (g:Nat→BitVec 8) (i:Nat) (h:i < n):cellK i 1 (some (aB n g))=some [B8 (g i)]:=cell_arr n _ i h
theorem qbP (n:Nat) (g:Nat→BitVec 8):cellK 0 n (some (aB n g))=some (aB n g):=cells_arr n _
theorem aB_st (off n:Nat) (m:Nm) (x:BitVec 8) (g:Nat→BitVec 8) (h:off < n):stK 1 off m (some [B8 x]) (some (aB n g))=some ⟨Un,[],[(m,some (aB n (set1 g off x)))]⟩:=by
  rw[aB,st_arr off n m _ _ h rfl,aB_put1]; rfl
theorem qbm (n:Nat) (m:Nm) (f g:Nat→BitVec 8):stK n 0 m (some (aB n g)) (some (aB n f))=some ⟨Un,[],[(m,some (aB n g))]⟩:=st_arr_all n m _ _ fun _ _=>rfl
theorem qbS (n:Nat) (g:Nat→BitVec 8):(aB n g).flatMap (nms D)=[]:=arr_nms n _ fun _ _=>rfl
theorem qbj (n:Nat) (g:Nat→BitVec 8) (π:Nm→Option Nm):(aB n g).map (ren D π)=aB n g:=arr_ren n _ π fun _ _=>rfl
theorem aB_ren7 (n:Nat) (g:Nat→BitVec 8) (π:Nm→Option Nm):(aB n g).map (ren 7 π)=aB n g:=by
  simp only[aB,arr,List.map_map]
  apply List.map_congr_left
  intro i hi
  rfl
theorem aB_nms7 (n:Nat) (g:Nat→BitVec 8):(aB n g).flatMap (nms 7)=[]:=by
  rw[List.flatMap_eq_nil_iff]
  intro x hx
  simp only[aB,arr,List.mem_map,List.mem_range] at hx
  obtain ⟨i,hi,rfl⟩:=hx
  rfl
theorem qbF (n:Nat) (g:Nat→BitVec 8):nms D (.agg (aB n g))=[]:=by
  rw[show nms D (.agg (aB n g))=(aB n g).flatMap (nms 7) from rfl,aB_nms7]
theorem qbM (n:Nat) (g:Nat→BitVec 8) (π:Nm→Option Nm):ren D π (.agg (aB n g)) = .agg (aB n g):=by
  rw[show ren D π (.agg (aB n g)) = .agg ((aB n g).map (ren 7 π)) from rfl,aB_ren7]
theorem aB_outOf (st:St) (n:Nat) (g:Nat→BitVec 8):outOf 0 st (.agg (aB n g))=(.agg (aB n g),[],[]):=outOf_plain (qbF n g) fun _=>qbM n g _
theorem qaj (n:Nat) (g:Nat→BitVec 8):(aB n g).all isCell=true:=by
  rw[List.all_eq_true]
  intro x hx
  simp only[aB,arr,List.mem_map,List.mem_range] at hx
  obtain ⟨i,hi,rfl⟩:=hx
  rfl
theorem aB_succ (n:Nat) (g:Nat→BitVec 8):aB (n+1) g=B8 (g 0)::aB n fun i=>g (i+1):=arr_succ n _
theorem aB_zero (g:Nat→BitVec 8):aB 0 g=[]:=nf rfl
def aB_same (n:Nat) (f g:Nat→BitVec 8):Bool:=decide (∀ i,i < n→f i=g i)
theorem aB_eqU (n:Nat) (f g:Nat→BitVec 8):eqU .int (aB n f) (aB n g)=some (aB_same n f g):=by
  induction n generalizing f g with
  | zero=>simp[aB_zero,aB_same,eqU]
  | succ n ih =>
    rw[aB_succ,aB_succ]
    have h0:leafEq .int (.int .u8 (f 0).toNat) (.int .u8 (g 0).toNat)=some (decide (f 0=g 0)):=by
      simp only[leafEq,zC]
      congr 1
      rw[Bool.eq_iff_iff,zt,decide_eq_true_iff]
      constructor; · intro h; exact BitVec.eq_of_toNat_eq (by omega)
      · intro h; rw[h]
    simp only[B8,eqU,h0,ih]
    congr 1
    simp only[aB_same]
    rw[Bool.eq_iff_iff]
    simp only[Bool.and_eq_true,decide_eq_true_iff]
    constructor
    · rintro ⟨h1, h2⟩ i hi
      cases i with
      | zero=>exact h1
      | succ i=>exact h2 i (by omega)
    · intro h
      exact ⟨h 0 (by omega),fun i hi=>h (i+1) (by omega)⟩
theorem aB_eql (n:Nat) (f g:Nat→BitVec 8):binV .eql (.flat [(n,.int)]) (.agg (aB n f)) (.agg (aB n g))=some (Bo (aB_same n f g)):=by
  have h:eqR [(n,Leaf.int)] (aB n f) (aB n g)=some (aB_same n f g):=by
    rw[eqR.eq_def]
    simp only[aB_length,Nat.le_refl,zX,zC]
    rw [List.take_of_length_le (by rw [aB_length]; exact Nat.le_refl _), List.take_of_length_le (by rw [aB_length]; exact Nat.le_refl _), aB_eqU,
      List.drop_of_length_le (by rw[aB_length]; exact Nat.le_refl _),List.drop_of_length_le (by rw[aB_length]; exact Nat.le_refl _)]
    simp[eqR]
  simp[binV,eqV,aggOf,h,Bo]
theorem aB_same_iff (n:Nat) (f g:Nat→BitVec 8):aB_same n f g=true↔∀ i,i < n→f i=g i:=by simp[aB_same]
def aW (n:Nat) (g:Nat→BitVec 32):qaR:=arr n fun i=>B32 (g i)
theorem aW_rep (n:Nat) (x:BitVec 32):List.replicate n (B32 x)=aW n fun _=>x:=rep_arr n _
theorem qcS (n:Nat) (g:Nat→BitVec 32):(aW n g).length=n:=arr_length _ _
theorem aW_ext (n:Nat) {f g:Nat→BitVec 32} (h:∀ i,i < n→f i=g i):aW n f=aW n g:=arr_ext n fun i hi=>by rw[h i hi]
theorem aW_put1 (g:Nat→BitVec 32) (i:Nat) (x:BitVec 32):put1 (fun j=>B32 (g j)) i (B32 x)=fun j=>B32 (set1 g i x j):=by
  funext j; simp only[put1,set1]; split <;> rfl
theorem aW_cell (n:Nat) (g:Nat→BitVec 32) (i:Nat) (h:i < n):cellK i 1 (some (aW n g))=some [B32 (g i)]:=cell_arr n _ i h
theorem aW_cells (n:Nat) (g:Nat→BitVec 32):cellK 0 n (some (aW n g))=some (aW n g):=cells_arr n _
theorem aW_st (off n:Nat) (m:Nm) (x:BitVec 32) (g:Nat→BitVec 32) (h:off < n):stK 1 off m (some [B32 x]) (some (aW n g))=some ⟨Un,[],[(m,some (aW n (set1 g off x)))]⟩:=by
  rw[aW,st_arr off n m _ _ h rfl,aW_put1]; rfl
theorem aW_st_all (n:Nat) (m:Nm) (f g:Nat→BitVec 32):stK n 0 m (some (aW n g)) (some (aW n f))=some ⟨Un,[],[(m,some (aW n g))]⟩:=st_arr_all n m _ _ fun _ _=>rfl
theorem aW_nms (n:Nat) (g:Nat→BitVec 32):(aW n g).flatMap (nms D)=[]:=arr_nms n _ fun _ _=>rfl
theorem qcA (n:Nat) (g:Nat→BitVec 32) (π:Nm→Option Nm):(aW n g).map (ren D π)=aW n g:=arr_ren n _ π fun _ _=>rfl
theorem aW_ren7 (n:Nat) (g:Nat→BitVec 32) (π:Nm→Option Nm):(aW n g).map (ren 7 π)=aW n g:=by
  simp only[aW,arr,List.map_map]
  apply List.map_congr_left
  intro i hi
  rfl
theorem aW_nms7 (n:Nat) (g:Nat→BitVec 32):(aW n g).flatMap (nms 7)=[]:=by
  rw[List.flatMap_eq_nil_iff]
  intro x hx
  simp only[aW,arr,List.mem_map,List.mem_range] at hx
  obtain ⟨i,hi,rfl⟩:=hx
  rfl
theorem qbU (n:Nat) (g:Nat→BitVec 32):nms D (.agg (aW n g))=[]:=by
  rw[show nms D (.agg (aW n g))=(aW n g).flatMap (nms 7) from rfl,aW_nms7]
theorem qcd (n:Nat) (g:Nat→BitVec 32) (π:Nm→Option Nm):ren D π (.agg (aW n g)) = .agg (aW n g):=by
  rw[show ren D π (.agg (aW n g)) = .agg ((aW n g).map (ren 7 π)) from rfl,aW_ren7]
theorem aW_calK (b n:Nat) (g:Nat→BitVec 32):calK b (some (.agg (aW n g),[],[]))=some ⟨.agg (aW n g),[],[]⟩:=calK_plain b fun _=>qcd n g _
theorem aW_outOf (st:St) (n:Nat) (g:Nat→BitVec 32):outOf 0 st (.agg (aW n g))=(.agg (aW n g),[],[]):=outOf_plain (qbU n g) fun _=>qcd n g _
theorem aW_ix1 (len n:Nat) (g:Nat→BitVec 32) (j:Nat) (h:j < len) (h2:j < n):ix1V len 1 (.agg (aW n g)) (some j)=some (B32 (g j)):=by
  rw[aW,ix1V_arr _ _ _ _ _ h (by omega),zZ]
theorem qak (n:Nat) (g:Nat→BitVec 32):(aW n g).all isCell=true:=by
  rw[List.all_eq_true]
  intro x hx
  simp only[aW,arr,List.mem_map,List.mem_range] at hx
  obtain ⟨i,hi,rfl⟩:=hx
  rfl
def aD (n:Nat) (g:Nat→BitVec 64):qaR:=arr n fun i=>B64 (g i)
theorem aD_ren7 (n:Nat) (g:Nat→BitVec 64) (π:Nm→Option Nm):(aD n g).map (ren 7 π)=aD n g:=by
  simp only[aD,arr,List.map_map]
  apply List.map_congr_left
  intro i hi
  rfl
theorem aD_nms7 (n:Nat) (g:Nat→BitVec 64):(aD n g).flatMap (nms 7)=[]:=by
  rw[List.flatMap_eq_nil_iff]
  intro x hx
  simp only[aD,arr,List.mem_map,List.mem_range] at hx
  obtain ⟨i,hi,rfl⟩:=hx
  rfl
theorem qci (n:Nat) (g:Nat→BitVec 64):nms D (.agg (aD n g))=[]:=by
  rw[show nms D (.agg (aD n g))=(aD n g).flatMap (nms 7) from rfl,aD_nms7]
theorem qcj (n:Nat) (g:Nat→BitVec 64) (π:Nm→Option Nm):ren D π (.agg (aD n g)) = .agg (aD n g):=by
  rw[show ren D π (.agg (aD n g)) = .agg ((aD n g).map (ren 7 π)) from rfl,aD_ren7]
def aO (n:Nat) (g:Nat→Bool):qaR:=arr n fun i=>Bo (g i)
theorem aO_ren7 (n:Nat) (g:Nat→Bool) (π:Nm→Option Nm):(aO n g).map (ren 7 π)=aO n g:=by
  simp only[aO,arr,List.map_map]
  apply List.map_congr_left
  intro i hi
  rfl
theorem aO_nms7 (n:Nat) (g:Nat→Bool):(aO n g).flatMap (nms 7)=[]:=by
  rw[List.flatMap_eq_nil_iff]
  intro x hx
  simp only[aO,arr,List.mem_map,List.mem_range] at hx
  obtain ⟨i,hi,rfl⟩:=hx
  rfl
theorem qck (n:Nat) (g:Nat→Bool):nms D (.agg (aO n g))=[]:=by
  rw[show nms D (.agg (aO n g))=(aO n g).flatMap (nms 7) from rfl,aO_nms7]
theorem qcl (n:Nat) (g:Nat→Bool) (π:Nm→Option Nm):ren D π (.agg (aO n g)) = .agg (aO n g):=by
  rw[show ren D π (.agg (aO n g)) = .agg ((aO n g).map (ren 7 π)) from rfl,aO_ren7]
def aI (n:Nat) (g:Nat→Int):qaR:=arr n fun i=>I (g i)
end Go.LE
namespace Go.LE
def N (i:Nat):LV:=I (i:Int)
theorem I_toN (z:Int) (h:0≤z):I z=N z.toNat:=by rw[N,Int.toNat_of_nonneg h]
section
variable (e:EqT) (a b:Nat)
theorem qbY (h:a+b < 9223372036854775808):binV .add e (N a) (N b)=some (N (a+b)):=by
  rw[N,N,I_add _ _ _ (by omega),←Int.natCast_add]; rfl
theorem N_sub (h:b≤a) (ha:a < 9223372036854775808):binV .sub e (N a) (N b)=some (N (a - b)):=by
  rw[N,N,I_sub _ _ _ (by omega),←Int.natCast_sub h]; rfl
theorem N_mul (h:a*b < 9223372036854775808):binV .mul e (N a) (N b)=some (N (a*b)):=by
  have e1:(a:Int)*(b:Int)=((a*b:Nat):Int):=(Int.natCast_mul a b).symm
  rw[N,N,I_mul _ _ _ (by rw[e1]; omega),e1]; rfl
theorem N_quo (hb:0 < b) (h:a < 9223372036854775808):binV .quo e (N a) (N b)=some (N (a / b)):=by
  have e1:(a:Int).tdiv (b:Int)=((a / b:Nat):Int):=rfl
  have h2:a / b≤a:=Nat.div_le_self a b
  have key:∀ q:Nat,q≤a → -9223372036854775808≤(q:Int)∧(q:Int) < 9223372036854775808:=by omega
  rw[N,N,I_quo _ _ _ (by omega) (by rw[e1]; exact key _ h2),e1]; rfl
theorem N_rem (hb:0 < b):binV .rem e (N a) (N b)=some (N (a % b)):=by
  rw[N,N,I_rem _ _ _ (by omega)]; rfl
theorem N_eql:binV .eql e (N a) (N b)=some (Bo (decide (a=b))):=by
  rw[N,N,I_eql]; congr 2; rw[Bool.eq_iff_iff,zt,decide_eq_true_iff]; omega
theorem N_neq:binV .neq e (N a) (N b)=some (Bo (decide (a≠b))):=by
  rw[N,N,I_neq]; congr 2; rw[Bool.eq_iff_iff,zl,decide_eq_true_iff]; omega
theorem qa2:binV .lss e (N a) (N b)=some (Bo (decide (a < b))):=by rw[N,N,I_lss]; congr 2; exact decide_eq_decide.2 (by omega)
theorem N_gtr:binV .gtr e (N a) (N b)=some (Bo (decide (b < a))):=by rw[N,N,I_gtr]; congr 2; exact decide_eq_decide.2 (by omega)
theorem N_geq:binV .geq e (N a) (N b)=some (Bo (decide (b≤a))):=by rw[N,N,I_geq]; congr 2; exact decide_eq_decide.2 (by omega)
theorem qbO:natOf (N a)=some a:=by rw[N,I_nat _ (by omega)]; rfl
end
theorem ofInt_nat (w i:Nat):BitVec.ofInt w (i:Int)=BitVec.ofNat w i:=by
  apply BitVec.eq_of_toNat_eq; simp
theorem cvt_N_8 (i:Nat):cvtV .u8 (N i)=some (B8 (BitVec.ofNat 8 i)):=by rw[N,cvt_I_8,ofInt_nat]
theorem cvt_N_64 (i:Nat):cvtV .u64 (N i)=some (B64 (BitVec.ofNat 64 i)):=by rw[N,cvt_I_64,ofInt_nat]
theorem B32_shlN (e:EqT) (x:BitVec 32) (i:Nat):binV .shl e (B32 x) (N i)=some (B32 (x <<< i)):=B32_shlI _ _ (i:Int) (by omega)
theorem B32_shrN (e:EqT) (x:BitVec 32) (i:Nat):binV .shr e (B32 x) (N i)=some (B32 (x >>> i)):=B32_shrI _ _ (i:Int) (by omega)
theorem B64_shrN (e:EqT) (x:BitVec 64) (i:Nat):binV .shr e (B64 x) (N i)=some (B64 (x >>> i)):=B64_shrI _ _ (i:Int) (by omega)
theorem N_neg (i:Nat) (h:i < 9223372036854775808):unV .neg (N i)=some (I (-(i:Int))):=by
  simp only[unV,N,I,w64 (0 - (i:Int)) (by omega)]
  congr 3; omega
theorem qaO (i:Nat):nms D (N i)=[]:=nf rfl
theorem ren_N (π:Nm→Option Nm) (i:Nat):ren D π (N i)=N i:=nf rfl
theorem cellsOf_N (i:Nat):qcs (N i)=some [N i]:=nf rfl
theorem qan (i:Nat):isCell (N i)=true:=nf rfl
theorem calK_N (b:Nat) (i:Nat):calK b (some (N i,[],[]))=some ⟨N i,[],[]⟩:=calK_I b _
theorem outOf_N (st:St) (i:Nat):outOf 0 st (N i)=(N i,[],[]):=outOf_I st _
theorem nm_beq (a b c d:Nat):(((a,b):Nm) == (c,d))=(a == c && b == d):=nf rfl
end Go.LE
namespace Go.LE
variable {E:Env} {tm:List LV} {H:Heap} {b:Nat}
def extV (i:Nat):LV→Option LV
  | .tup xs=>xs[i]?
  | _=>none
theorem qcZ (x:LX) (i:Nat):qcq E tm H b (.ext x i)=outR (extV i (evX E.gl tm x)):=by
  simp only[qcq,qcn,heapOp,extV]
  generalize evX E.gl tm x=p
  cases p with
  | tup xs=>dsimp only; cases xs[i]? <;> rfl
  | _=>rfl
theorem qcD (i:Nat) (xs:List LV):extV i (.tup xs)=xs[i]? := nf rfl
theorem ren7_I (π:Nm→Option Nm) (x:Int):ren 7 π (I x)=I x:=nf rfl
theorem ren7_N (π:Nm→Option Nm) (x:Nat):ren 7 π (N x)=N x:=nf rfl
theorem qc0 (π:Nm→Option Nm) (x:Bool):ren 7 π (Bo x)=Bo x:=nf rfl
theorem qc1 (π:Nm→Option Nm) (x:BitVec 8):ren 7 π (B8 x)=B8 x:=nf rfl
theorem qcE (π:Nm→Option Nm) (x:BitVec 32):ren 7 π (B32 x)=B32 x:=nf rfl
theorem qcF (π:Nm→Option Nm) (x:BitVec 64):ren 7 π (B64 x)=B64 x:=nf rfl
theorem nms7_I (x:Int):nms 7 (I x)=[]:=nf rfl
theorem nms7_N (x:Nat):nms 7 (N x)=[]:=nf rfl
theorem qc2 (x:Bool):nms 7 (Bo x)=[]:=nf rfl
theorem qc3 (x:BitVec 8):nms 7 (B8 x)=[]:=nf rfl
theorem qcG (x:BitVec 32):nms 7 (B32 x)=[]:=nf rfl
theorem qcH (x:BitVec 64):nms 7 (B64 x)=[]:=nf rfl
theorem qc4 (xs:List LV):nms D (.tup xs)=xs.flatMap (nms 7):=nf rfl
theorem qc5 (π:Nm→Option Nm) (xs:List LV):ren D π (.tup xs) = .tup (xs.map (ren 7 π)):=nf rfl
end Go.LE
namespace Go.LE
variable {E:Env} {tm:List LV} {H:Heap} {b:Nat}
def bs (l:List (BitVec 8)):qaR:=l.map B8
theorem qag (l:List (BitVec 8)):(bs l).length=l.length:=by simp[bs]
theorem bs_append (l m:List (BitVec 8)):bs l++bs m=bs (l++m):=by simp[bs]
theorem bs_take (l:List (BitVec 8)) (n:Nat):(bs l).take n=bs (l.take n):=by simp[bs]
theorem bs_drop (l:List (BitVec 8)) (n:Nat):(bs l).drop n=bs (l.drop n):=by simp[bs]
theorem bs_one (x:BitVec 8):[B8 x]=bs [x]:=nf rfl
theorem bs_rep (n:Nat) (x:BitVec 8):List.replicate n (B8 x)=bs (List.replicate n x):=by simp[bs]
theorem qai (l:List (BitVec 8)):(bs l).all isCell=true:=by
  rw[List.all_eq_true]; intro x hx; simp only[bs,List.mem_map] at hx; obtain ⟨y,_,rfl⟩:=hx; rfl
theorem qbh (l:List (BitVec 8)):(bs l).flatMap (nms D)=[]:=by
  rw[List.flatMap_eq_nil_iff]; intro x hx; simp only[bs,List.mem_map] at hx; obtain ⟨y,_,rfl⟩:=hx; rfl
theorem qaW (l:List (BitVec 8)) (π:Nm→Option Nm):(bs l).map (ren D π)=bs l:=by
  simp only[bs,List.map_map]; apply List.map_congr_left; intro x _; rfl
theorem bs_cell (l:List (BitVec 8)) (i:Nat) (h:i < l.length):cellK i 1 (some (bs l))=some [B8 (l.getD i 0#8)]:=by
  have h2:i < (bs l).length:=by rw[qag]; exact h
  rw[cellK_some,if_pos (by omega),List.drop_eq_getElem_cons h2,zzK,zzB]
  simp[bs,h]
theorem bs_cells (l:List (BitVec 8)) (i n:Nat) (h:i+n≤l.length):cellK i n (some (bs l))=some (bs ((l.drop i).take n)):=by
  rw[cellK_some,if_pos (by rw[qag]; omega),bs_drop,bs_take]
theorem bs_splice (l m:List (BitVec 8)) (i:Nat):qb2 (bs l) i (bs m)=bs (l.take i++m++l.drop (i+m.length)):=by
  simp only[qb2,bs_take,bs_drop,bs_append,qag]
theorem bs_st (l:List (BitVec 8)) (i:Nat) (x:BitVec 8) (m:Nm) (h:i < l.length):stK 1 i m (some [B8 x]) (some (bs l))=some ⟨Un,[],[(m,some (bs (l.set i x)))]⟩:=by
  rw[stK_some,if_pos ⟨rfl,by rw[qag]; omega,rfl⟩,bs_one,bs_splice,List.set_eq_take_append_cons_drop,if_pos h]
  simp
theorem bs_aB (l:List (BitVec 8)) (n:Nat) (h:l.length=n):bs l=aB n fun i=>l.getD i 0#8:=by
  subst h
  apply List.ext_getElem
  · simp[bs,aB,arr]
  · intro i h1 h2
    have h3:i < l.length:=by simpa [bs] using h1
    simp[bs,aB,arr,h3]
theorem aB_bs (n:Nat) (g:Nat→BitVec 8):aB n g=bs ((List.range n).map g):=by
  simp only[aB,arr,bs,List.map_map]; rfl
def lenV:Option Nat→Option Out
  | some n=>some ⟨N n,[],[]⟩
  | none=>none
theorem qaV (n:Nat):lenV (some n)=some ⟨N n,[],[]⟩:=nf rfl
theorem qbi (x:LX):qcq E tm H b (.len x)=lenV (lenS (evX E.gl tm x)):=by
  simp only[qcq,qcn,heapOp]
  cases lenS (evX E.gl tm x) <;> rfl
theorem qbL (n:Nm) (off len:Nat) (cap:Option Nat) (es:Nat):lenS (.sl n off len cap es)=some len:=nf rfl
theorem qbD (xs:List LV) (len:Nat):lenS (.isl xs len)=some len:=nf rfl
def Nil:LV := .v (.slice none 0 0)
theorem lenS_nil:lenS Nil=some 0:=nf rfl
theorem qbB (n:Nm) (off len:Nat) (cap:Option Nat) (es:Nat):lenOf (.sl n off len cap es)=some len:=nf rfl
theorem qcT (xs:List LV) (len:Nat):lenOf (.isl xs len)=some len:=nf rfl
theorem qbu:nms D Nil=[]:=nf rfl
theorem qda (π:Nm→Option Nm):ren D π Nil=Nil:=nf rfl
theorem qac:isCell Nil=true:=nf rfl
theorem qdi (n:Nm) (off len:Nat) (cap:Option Nat) (es:Nat):qcs (.sl n off len cap es)=some [.sl n off len cap es]:=nf rfl
theorem qah (n:Nm) (off len:Nat) (cap:Option Nat) (es:Nat):isCell (.sl n off len cap es)=true:=nf rfl
theorem qad (n:Nm) (off:Nat):isCell (.ptr n off)=true:=nf rfl
def NilP:LV := .v (.pointer none)
def frontK (off size n:Nat):Option qaR→Option qaR
  | some cs=>if off+n*size≤cs.length then some ((cs.drop off).take (n*size)) else none
  | none=>none
theorem qcI (m:Nm) (off len:Nat) (cap:Option Nat) (es size n:Nat) (h:n≤len) (h0:n≠0):front H size n (.sl m off len cap es)=frontK off size n (H m):=by
  simp only[front,if_neg h0,if_pos h]
  cases H m <;> rfl
theorem front_sl0 (m:Nm) (off len:Nat) (cap:Option Nat) (es size:Nat):front H size 0 (.sl m off len cap es)=some []:=nf rfl
theorem front_isl (xs:List LV) (len size n:Nat) (h:n≤len) (h2:n*size≤xs.length):front H size n (.isl xs len)=some (xs.take (n*size)):=by
  simp only[front]
  by_cases h0:n=0
  · subst h0; simp
  · rw[if_neg h0,if_pos ⟨h,h2⟩]
theorem front_bytes (m:Nm) (off len:Nat) (cap:Option Nat) (l:List (BitVec 8)) (h:H m=some (bs l)) (hl:off+len≤l.length) :
    front H 1 len (.sl m off len cap 1)=some (bs ((l.drop off).take len)):=by
  by_cases h0:len=0
  · subst h0; simp[front_sl0,bs]
  · rw [qcI _ _ _ _ _ _ _ (Nat.le_refl _) h0, h]
    simp only[frontK,zZ,qag,if_pos hl,bs_drop,bs_take]
theorem qdn (l:List (BitVec 8)) (len:Nat) (hl:l.length=len):front H 1 len (.isl (bs l) len)=some (bs l):=by
  rw[front_isl _ _ _ _ (Nat.le_refl _) (by rw[qag]; omega),zZ,List.take_of_length_le (by rw[qag]; omega)]
def appX (b size bytes k:Nat) (H:Heap) (ms:List (Nm × Option qaR)) (new:qaR):LV→Option Out
  | .sl m off len (some c) es =>
    if es=size∧(len+k)*bytes≤211106232532992∧ms.all (fun p=>p.1 != m)=true then
      if len+k≤c then (match H m with
        | some cs=>if off+(len+k)*size≤cs.length then some ⟨.sl m off (len+k) (some c) es,[],(m,some (qb2 cs (off+len*size) new))::ms⟩ else none
        | none=>none)
      else (match front H size len (.sl m off len (some c) es) with
        | some old=>some ⟨.sl (b,0) 0 (len+k) none size,[old++new],ms⟩
        | none=>none)
    else none
  | .sl m off len none es =>
    if es=size∧(len+k)*bytes≤211106232532992∧ms.all (fun p=>p.1 != m)=true then (match H m with
      | some cs=>if off+len*size≤cs.length then some ⟨.sl (b,0) 0 (len+k) none size,[(cs.drop off).take (len*size)++new],(m,none)::ms⟩ else none
      | none=>none)
    else none
  | .v (.slice none 0 0)=>if k=0 then some ⟨.v (.slice none 0 0),[],ms⟩ else if k*bytes≤211106232532992 then some ⟨.sl (b,0) 0 k none size,[new],ms⟩ else none
  | _=>none
def appF (b size bytes k:Nat) (H:Heap) (x:LV):Option qaR→Option Out
  | some new=>if bytes≤2 ^ 20∧new.all isCell=true then appX b size bytes k H [] new x else none
  | none=>none
def appK (b size bytes:Nat) (H:Heap) (x y:LV):Option Nat→Option Out
  | some k=>appF b size bytes k H x (front H size k y)
  | none=>none
theorem qb8 (size bytes:Nat) (x y:LX):qcq E tm H b (.append size bytes false x y)=appK b size bytes H (evX E.gl tm x) (evX E.gl tm y) (lenOf (evX E.gl tm y)):=by
  simp only[qcq,qcn,heapOp]
  generalize evX E.gl tm y=y
  generalize evX E.gl tm x=x
  cases lenOf y with
  | none=>rfl
  | some k =>
    simp only[appK]
    cases front H size k y with
    | none=>rfl
    | some new=>rfl
theorem qb9 (size bytes k:Nat) (x y:LV):appK b size bytes H x y (some k)=appF b size bytes k H x (front H size k y):=nf rfl
theorem qcb (size bytes k:Nat) (x:LV) (new:qaR) (h1:bytes≤1048576) (h2:new.all isCell=true):appF b size bytes k H x (some new)=appX b size bytes k H [] new x:=by
  rw[appF,if_pos ⟨h1,h2⟩]
def appN (b size k off len:Nat) (m:Nm) (new:qaR):Option qaR→Option Out
  | some cs=>if off+len*size≤cs.length then some ⟨.sl (b,0) 0 (len+k) none size,[(cs.drop off).take (len*size)++new],[(m,none)]⟩ else none
  | none=>none
theorem appX_none (size bytes k:Nat) (m:Nm) (off len:Nat) (new:qaR) (h:(len+k)*bytes≤211106232532992):appX b size bytes k H [] new (.sl m off len none size)=appN b size k off len m new (H m):=by
  rw[appX,if_pos ⟨rfl,h,rfl⟩]; rfl
theorem appX_nil (size bytes k:Nat) (new:qaR) (h0:k≠0) (h:k*bytes≤211106232532992):appX b size bytes k H [] new Nil=some ⟨.sl (b,0) 0 k none size,[new],[]⟩:=by
  rw[Nil,appX,if_neg h0,if_pos h]
theorem appN_bytes (k off len:Nat) (m:Nm) (l new:List (BitVec 8)) (h:off+len≤l.length) :
    appN b 1 k off len m (bs new) (some (bs l))=some ⟨.sl (b,0) 0 (len+k) none 1,[bs ((l.drop off).take len++new)],[(m,none)]⟩:=by
  simp only[appN,zZ,qag,if_pos h,bs_drop,bs_take,bs_append]
theorem appX_full (k:Nat) (m:Nm) (off len c:Nat) (l new:List (BitVec 8)) (hm:H m=some (bs l)) (hl:off+len≤l.length) (h:(len+k)*1≤211106232532992) (hc:c < len+k) :
    appX b 1 1 k H [] (bs new) (.sl m off len (some c) 1)=some ⟨.sl (b,0) 0 (len+k) none 1,[bs ((l.drop off).take len++new)],[]⟩:=by
  rw[appX,if_pos ⟨rfl,h,rfl⟩,if_neg (by omega),front_bytes m off len (some c) l hm hl]
  simp only[bs_append]
theorem appX_room (k:Nat) (m:Nm) (off len c:Nat) (l new:List (BitVec 8)) (hm:H m=some (bs l)) (hl:off+(len+k)≤l.length) (h:(len+k)*1≤211106232532992) (hc:len+k≤c) :
    appX b 1 1 k H [] (bs new) (.sl m off len (some c) 1)=some ⟨.sl m off (len+k) (some c) 1,[],[(m,some (bs (l.take (off+len)++new++l.drop (off+len+new.length))))]⟩:=by
  rw[appX,if_pos ⟨rfl,h,rfl⟩,if_pos hc,hm]
  simp only[zZ,qag,if_pos hl,bs_splice]
def cpK (size:Nat) (H:Heap) (x y:LV):Option Nat→Option Out
  | some k=>(match x with
    | .sl m off len _ es =>
      if min k len=0 then some ⟨.v (.int .i64 0),[],[]⟩ else
      (match front H size (min k len) y,H m with
      | some new,some cs=>if es=size∧new.all isCell=true∧off+(min k len)*size≤cs.length then
          some ⟨.v (.int .i64 (min k len:Nat)),[],[(m,some (qb2 cs off new))]⟩ else none
      | _,_=>none)
    | .v (.slice none 0 0)=>some ⟨.v (.int .i64 0),[],[]⟩
    | _=>none)
  | none=>none
theorem op_copy (size:Nat) (x y:LX):qcq E tm H b (.copy size x y)=cpK size H (evX E.gl tm x) (evX E.gl tm y) (lenOf (evX E.gl tm y)):=by
  simp only[qcq,qcn,heapOp]
  generalize evX E.gl tm y=y
  generalize evX E.gl tm x=x
  cases lenOf y with
  | none=>rfl
  | some k =>
    cases x with
    | sl m off len c es=>rfl
    | v y =>
      cases y with
      | slice a n c =>
        cases a with
        | some _=>rfl
        | none=>cases n <;> cases c <;> rfl
      | _=>rfl
    | _=>rfl
theorem cp_zero (size k:Nat) (m:Nm) (off len:Nat) (c:Option Nat) (es:Nat) (y:LV) (h:min k len=0):cpK size H (.sl m off len c es) y (some k)=some ⟨N 0,[],[]⟩:=by
  simp only[cpK,h,zC]; rfl
theorem cp_bytes (k:Nat) (m:Nm) (off len:Nat) (c:Option Nat) (y:LV) (l new:List (BitVec 8)) (h0:min k len≠0) (hf:front H 1 (min k len) y=some (bs new)) (hm:H m=some (bs l)) (hl:off+min k len≤l.length) :
    cpK 1 H (.sl m off len c 1) y (some k)=some ⟨N (min k len),[],[(m,some (bs (l.take off++new++l.drop (off+new.length))))]⟩:=by
  simp only[cpK,if_neg h0,hf,hm,qai,zZ,qag,hl,zX,zC,bs_splice]
  rfl
theorem qcw (gl:Nat→Option qaR) (d:Nat):qcK gl tm d none=some d:=nf rfl
theorem qdc (gl:Nat→Option qaR) (d:Nat) (x:LX):qcK gl tm d (some x)=natOf (evX gl tm x):=nf rfl
def slcV (size:Nat) (lo hi:Option Nat):LV→Option LV
  | .sl nm off len (some c) es=>match lo,hi with
    | some l,some h=>if l≤h∧h≤c∧es=size then some (.sl nm (off+l*size) (h - l) (some (c - l)) size) else none
    | _,_=>none
  | .sl nm off len none es=>match lo,hi with
    | some l,some h=>if l≤h∧h≤len∧es=size then some (.sl nm (off+l*size) (h - l) none size) else none
    | _,_=>none
  | .isl xs len=>match lo,hi with
    | some l,some h=>if l≤h∧h≤len then some (.isl ((xs.drop (l*size)).take ((h - l)*size)) (h - l)) else none
    | _,_=>none
  | .v (.slice none 0 0)=>match lo,hi with
    | some l,some h=>if l=0∧h=0 then some Nil else none
    | _,_=>none
  | _=>none
theorem op_slcS (size:Nat) (x:LX) (lo hi:Option LX):qcq E tm H b (.slcS size x lo hi none)=outR (slcV size (qcK E.gl tm 0 lo) (qcK E.gl tm ((lenS (evX E.gl tm x)).getD 0) hi) (evX E.gl tm x)):=by
  simp only[qcq,qcn,heapOp]
  generalize evX E.gl tm x=x
  cases x with
  | sl nm off len cap es =>
    cases cap with
    | none =>
      simp only[lenS,Option.getD_some,slcV,Option.isNone_none,zC]
      cases qcK E.gl tm 0 lo <;> cases qcK E.gl tm len hi <;> try rfl
      rename_i l h
      by_cases hc:l≤h∧h≤len∧es=size <;> simp[hc,outR]
    | some c =>
      simp only[lenS,Option.getD_some,slcV]
      cases qcK E.gl tm 0 lo <;> cases qcK E.gl tm len hi <;> try rfl
      rename_i l h
      by_cases hc:l≤h∧h≤c∧es=size <;> simp[hc,outR,qcK]
  | isl xs len =>
    simp only[lenS,Option.getD_some,slcV,Option.isNone_none,zC]
    cases qcK E.gl tm 0 lo <;> cases qcK E.gl tm len hi <;> first | rfl | (rename_i l h; by_cases hc:l≤h∧h≤len <;> simp[hc,outR])
  | v y =>
    cases y with
    | slice a n c =>
      cases a with
      | some _=>rfl
      | none =>
        cases n with
        | succ _=>rfl
        | zero =>
          cases c with
          | succ _=>rfl
          | zero =>
            simp only[lenS,Option.getD_some,slcV,Option.isNone_none,zC]
            cases qcK E.gl tm 0 lo <;> cases qcK E.gl tm 0 hi <;> try rfl
            first | done | (rename_i l h; by_cases hc:l=0∧h=0 <;> simp[hc,outR,Nil])
    | _=>rfl
  | _=>rfl
theorem slcV_none (size:Nat) (nm:Nm) (off len l h:Nat) (h1:l≤h) (h2:h≤len):slcV size (some l) (some h) (.sl nm off len none size)=some (.sl nm (off+l*size) (h - l) none size):=by
  rw[slcV,if_pos ⟨h1,h2,rfl⟩]
theorem slcV_cap (size:Nat) (nm:Nm) (off len c l h:Nat) (h1:l≤h) (h2:h≤c):slcV size (some l) (some h) (.sl nm off len (some c) size)=some (.sl nm (off+l*size) (h - l) (some (c - l)) size):=by
  rw[slcV,if_pos ⟨h1,h2,rfl⟩]
theorem slcV_isl (size:Nat) (xs:List LV) (len l h:Nat) (h1:l≤h) (h2:h≤len):slcV size (some l) (some h) (.isl xs len)=some (.isl ((xs.drop (l*size)).take ((h - l)*size)) (h - l)):=by
  rw[slcV,if_pos ⟨h1,h2⟩]
theorem qdd (n:Nat):(some n).getD 0=n:=nf rfl
def arrpV (n:Nat):LV→Option LV
  | .sl m off len _ _=>if 0 < n∧n≤len then some (.ptr m off) else none
  | .isl xs len=>if 0 < n∧n≤len then some (.ipt xs) else none
  | _=>none
theorem op_arrp (n:Nat) (x:LX):qcq E tm H b (.arrp n x)=outR (arrpV n (evX E.gl tm x)):=by
  simp only[qcq,qcn,heapOp]
  generalize evX E.gl tm x=x
  cases x with
  | sl m off len c es=>simp only[arrpV]; by_cases hc:0 < n∧n≤len <;> simp[hc,outR]
  | isl xs len=>simp only[arrpV]; by_cases hc:0 < n∧n≤len <;> simp[hc,outR]
  | _=>rfl
theorem arrpV_sl (n:Nat) (m:Nm) (off len:Nat) (c:Option Nat) (es:Nat) (h0:0 < n) (h:n≤len):arrpV n (.sl m off len c es)=some (.ptr m off):=by rw[arrpV,if_pos ⟨h0,h⟩]
def iaSV (size:Nat) (j:Option Nat):LV→Option LV
  | .sl nm off len _ _=>match j with | some j=>if j < len then some (.ptr nm (off+j*size)) else none | none=>none
  | .isl xs len=>match j with | some j=>if j < len then some (.ipt (xs.drop (j*size))) else none | none=>none
  | _=>none
theorem qb7 (size:Nat) (x i:LX):qcq E tm H b (.iaS size x i)=outR (iaSV size (natOf (evX E.gl tm i)) (evX E.gl tm x)):=by
  simp only[qcq,qcn,heapOp]
  generalize evX E.gl tm x=x
  cases natOf (evX E.gl tm i) with
  | none=>cases x <;> rfl
  | some j =>
    cases x with
    | sl m off len c es=>simp only[iaSV]; by_cases hc:j < len <;> simp[hc,outR]
    | isl xs len=>simp only[iaSV]; by_cases hc:j < len <;> simp[hc,outR]
    | _=>rfl
theorem qbG (size:Nat) (nm:Nm) (off len:Nat) (c:Option Nat) (es j:Nat) (h:j < len):iaSV size (some j) (.sl nm off len c es)=some (.ptr nm (off+j*size)):=by rw[iaSV,if_pos h]
theorem qbC (size:Nat) (xs:List LV) (len j:Nat) (h:j < len):iaSV size (some j) (.isl xs len)=some (.ipt (xs.drop (j*size))):=by rw[iaSV,if_pos h]
theorem cellAt_ipt (n:Nat) (xs:List LV):cellAt H n (.ipt xs)=if n≤xs.length then some (xs.take n) else none:=nf rfl
def slcAV (n size:Nat) (lo hi:Option Nat):LV→Option LV
  | .ptr nm off=>match lo,hi with
    | some l,some h=>if l≤h∧h≤n then some (.sl nm (off+l*size) (h - l) (some (n - l)) size) else none
    | _,_=>none
  | .ipt xs=>match lo,hi with
    | some l,some h=>if l≤h∧h≤n then some (.isl ((xs.drop (l*size)).take ((h - l)*size)) (h - l)) else none
    | _,_=>none
  | _=>none
theorem op_slcAV (n size:Nat) (x:LX) (lo hi:Option LX):qcq E tm H b (.slcA n size x lo hi none)=outR (slcAV n size (qcK E.gl tm 0 lo) (qcK E.gl tm n hi) (evX E.gl tm x)):=by
  simp only[qcq,qcn,heapOp]
  generalize evX E.gl tm x=x
  cases qcK E.gl tm 0 lo with
  | none=>cases x <;> rfl
  | some l =>
    cases qcK E.gl tm n hi with
    | none=>cases x <;> rfl
    | some h =>
      simp only[qcK,Nat.le_refl,true_and,Option.isSome_none,ze,false_implies,zH]
      cases x with
      | ptr nm off=>simp only[slcAV]; by_cases hh:l≤h∧h≤n <;> simp[hh,outR]
      | ipt xs=>simp only[slcAV]; by_cases hh:l≤h∧h≤n <;> simp[hh,outR]
      | _=>simp[slcAV,outR]
theorem slcAV_ptr (n size:Nat) (nm:Nm) (off l h:Nat) (h1:l≤h) (h2:h≤n):slcAV n size (some l) (some h) (.ptr nm off)=some (.sl nm (off+l*size) (h - l) (some (n - l)) size):=by rw[slcAV,if_pos ⟨h1,h2⟩]
def mkK (b size bytes:Nat) (zero:qaR):Option Nat→Option Nat→Option Out
  | some l,some c=>if l≤c∧c*bytes≤2 ^ 47∧c < 2 ^ 62∧zero.length=size then some ⟨.sl (b,0) 0 l (some c) size,[(List.replicate c zero).flatten],[]⟩ else none
  | _,_=>none
theorem op_mkslice (size bytes:Nat) (zero:qaR) (l c:LX):qcq E tm H b (.mkslice size bytes zero l c)=mkK b size bytes zero (natOf (evX E.gl tm l)) (natOf (evX E.gl tm c)):=by
  simp only[qcq,qcn,heapOp]
  cases natOf (evX E.gl tm l) <;> cases natOf (evX E.gl tm c) <;> rfl
theorem mk_bytes (x:BitVec 8) (l c:Nat) (h1:l≤c) (h2:c < 4611686018427387904) (h3:c≤140737488355328):mkK b 1 1 [B8 x] (some l) (some c)=some ⟨.sl (b,0) 0 l (some c) 1,[bs (List.replicate c x)],[]⟩:=by
  rw[mkK,if_pos ⟨h1,by omega,by omega,rfl⟩]
  congr 3
  rw[←bs_rep]
  clear h1 h2 h3
  induction c with
  | zero=>rfl
  | succ c ih=>rw[List.replicate_succ,List.replicate_succ,List.flatten_cons,ih]; rfl
def rowK (b size len:Nat):Option qaR→Option Out
  | some cs=>some ⟨.sl (b,0) 0 len (some len) size,[cs],[]⟩
  | none=>none
theorem qbK (size:Nat) (zero:qaR) (ps:List (Nat × Nat × LX)) (len:Nat):qcq E tm H b (.mkrow size zero ps len)=rowK b size len (fill zero (ps.map fun p=>(p.1,p.2.1,evX E.gl tm p.2.2))):=by
  simp only[qcq,qcn,heapOp]
  cases fill zero (ps.map fun p=>(p.1,p.2.1,evX E.gl tm p.2.2)) <;> rfl
theorem qbw (size len:Nat) (cs:qaR):rowK b size len (some cs)=some ⟨.sl (b,0) 0 len (some len) size,[cs],[]⟩:=nf rfl
end Go.LE
namespace Go.LE
def cvsV (H:Heap):LV→Option Out
  | .sl m off len c es=>if 0 < len then (match H m with
    | some cs=>some ⟨.sl m off len c es,[],[(m,some cs)]⟩
    | none=>none) else none
  | _=>none
theorem op_cvs {E:Env} {tm:List LV} {H:Heap} {b:Nat} (x:LX):qcq E tm H b (.cvs x)=cvsV H (evX E.gl tm x):=by
  simp only[qcq,qcn,heapOp]
  generalize evX E.gl tm x=y
  cases y <;> rfl
def cvsK (m:Nm) (off len:Nat) (c:Option Nat) (es:Nat):Option qaR→Option Out
  | some cs=>some ⟨.sl m off len c es,[],[(m,some cs)]⟩
  | none=>none
theorem cvsV_sl (H:Heap) (m:Nm) (off len:Nat) (c:Option Nat) (es:Nat) (h:0 < len):cvsV H (.sl m off len c es)=cvsK m off len c es (H m):=by
  rw[cvsV,if_pos h]; rfl
theorem cvsK_some (m:Nm) (off len:Nat) (c:Option Nat) (es:Nat) (cs:qaR):cvsK m off len c es (some cs)=some ⟨.sl m off len c es,[],[(m,some cs)]⟩:=nf rfl
end Go.LE
namespace Go.LE
variable {E:Env} {tm:List LV} {H:Heap} {b:Nat}
def updN (b:Nat):Nat→List qaR→Heap→Heap
  | _,[],H=>H
  | j,z::zs,H=>updN b (j+1) zs (upd H (b,j) (some z))
theorem qax (j:Nat) (H:Heap):updN b j [] H=H:=nf rfl
theorem qaM (j:Nat) (z:qaR) (zs:List qaR) (H:Heap):updN b j (z::zs) H=updN b (j+1) zs (upd H (b,j) (some z)):=nf rfl
def modN:List (Nm × Option qaR)→Heap→Heap
  | [],H=>H
  | (n,x)::ms,H=>upd (modN ms H) n x
theorem qay (H:Heap):modN [] H=H:=nf rfl
theorem qa0 (n:Nm) (x:Option qaR) (ms:List (Nm × Option qaR)) (H:Heap):modN ((n,x)::ms) H=upd (modN ms H) n x:=nf rfl
theorem modN_eq (H:Heap):∀ ms,modsAt H ms=modN ms H:=by
  intro ms
  induction ms with
  | nil=>rfl
  | cons p ms ih =>
    obtain ⟨n,x⟩:=p
    funext m
    simp only[modsAt,modN,upd,ih]
theorem updN_at (b:Nat):∀ (zs:List qaR) (j:Nat) (H:Heap) (m:Nm),updN b j zs H m=if m.1=b∧j≤m.2∧m.2 < j+zs.length then zs[m.2 - j]? else H m:=by
  intro zs
  induction zs with
  | nil=>intro j H m; rw[updN,if_neg (fun h=>by have:=h.2; simp only[zM] at this; omega)]
  | cons z zs ih =>
    intro j H m
    rw[updN,ih]
    obtain ⟨m1,m2⟩:=m
    simp only[zJ,upd]
    by_cases h1:m1=b
    · subst h1
      by_cases h2:m2=j
      · subst h2
        rw[if_neg (by omega),if_pos rfl,if_pos (by omega)]
        simp
      · by_cases h3 : j ≤ m2 ∧ m2 < j + (zs.length + 1)
        · rw [if_pos (by omega), if_pos (by omega)]
          have:m2 - j=(m2 - (j+1))+1:=by omega
          rw[this,List.getElem?_cons_succ]
        · rw[if_neg (by omega),if_neg (by simp; omega),if_neg (by omega)]
    · rw[if_neg (by omega),if_neg (by simp; omega),if_neg (by omega)]
theorem applyOut_gen (n:Nat) (r:Out) (H:Heap):qcW n r H=updN n 0 r.news (modN r.mods H):=by
  funext m
  rw[updN_at,←modN_eq]
  simp only[qcW,zB,Nat.zero_le,true_and,Nat.sub_zero]
theorem qal (b i:Nat) (os:List LOper) (log:List Done) (d:Option Nat) (tm:List LV) (H:Heap) (nx np:Nat) (v:LV) (news:List qaR) (ms:List (Nm × Option qaR)) :
    stepK E b i os log d tm H nx np (some ⟨v,news,ms⟩)=qcQ E b (i+1) os log ⟨put tm d v,updN (b+i) 0 news (modN ms H),nx,np⟩:=by
  simp only[stepK,applyOut_gen]
theorem qbo (b i:Nat) (os:List LOper) (log:List Done) (d:Option Nat) (bf:Nat) (X:List Nm) (tm:List LV) (H:Heap) (nx np:Nat) (v:LV) (news:List qaR) (ms:List (Nm × Option qaR)) :
    ordK E b i os log d bf X tm H nx np (some ⟨v,news,ms⟩)=if ordOk X (ms.map (·.1)) log b bf=true then qcQ E b (i+1) os (⟨i,X,ms.map (·.1)⟩::log) ⟨put tm d v,updN (b+i) 0 news (modN ms H),nx,np⟩ else none:=by
  simp only[ordK,applyOut_gen]
def resK (names:List Nm) (base:Nat) (plain:Bool):Option CallRes→Option Out
  | some res=>if plain || plainRes res then some (backTo names base res) else none
  | none=>none
def callN (E:Env) (H:Heap) (base:Nat) (g:FuncId) (args':List LV) (lent names:List Nm):Option Out :=
  if lent.any (fun n=>names.contains n)=true then none else
    resK names base lent.isEmpty (E.cal g (args'.map (ren D (qc7 names))) ((names.filterMap H).map fun cs=>cs.map (ren D (qc7 names))))
def callL (E:Env) (H:Heap) (base:Nat) (g:FuncId):Option (List LV × List Nm)→Option Out
  | some (args',lent)=>callN E H base g args' lent (reach H FUEL [] (args'.flatMap (nms D)))
  | none=>none
theorem callOp_L (g:FuncId) (args:List LV):qb1 E H b g args=callL E H b g (lend H (E.borrow g) 0 args):=by
  unfold qb1 callL
  cases lend H (E.borrow g) 0 args with
  | none=>rfl
  | some p =>
    obtain ⟨args',lent⟩:=p
    simp only[callN,resK]
    split
    · rfl
    · split <;> simp_all
theorem callL_some (base:Nat) (g:FuncId) (args':List LV) (lent:List Nm):callL E H base g (some (args',lent))=callN E H base g args' lent (reach H FUEL [] (args'.flatMap (nms D))):=nf rfl
theorem callN_eq (base:Nat) (g:FuncId) (args':List LV) (lent names:List Nm) (h:lent.any (fun n=>names.contains n)=false) :
    callN E H base g args' lent names=resK names base lent.isEmpty (E.cal g (args'.map (ren D (qc7 names))) ((names.filterMap H).map fun cs=>cs.map (ren D (qc7 names)))):=by
  rw[callN,if_neg (by rw[h]; decide)]
theorem resK_sc (names:List Nm) (base:Nat) (res:CallRes):resK names base true (some res)=some (backTo names base res):=nf rfl
theorem qc9 (names:List Nm) (base:Nat) (r:LV) (passed:List (Option qaR)) (news:List qaR) :
    backTo names base (r,passed,news)=⟨ren D (toCaller names base news.length) r,news.map (fun cs=>cs.map (ren D (toCaller names base news.length))),List.zipWith (fun n p=>(n,p.map fun cs=>cs.map (ren D (toCaller names base news.length)))) names passed⟩:=nf rfl
def lendC (x:Option (LV × List Nm)) (r:Option (List LV × List Nm)):Option (List LV × List Nm) :=
  match x,r with
  | some (y,a),some (ys,c)=>some (y::ys,a++c)
  | _,_=>none
theorem lend_nil (f:Nat→Bool) (i:Nat):lend H f i []=some ([],[]):=nf rfl
theorem qde (f:Nat→Bool) (i:Nat) (x:LV) (xs:List LV):lend H f i (x::xs)=lendC (if f i=true then snap H D x else some (x,[])) (lend H f (i+1) xs):=by
  rw[lend]
  generalize (if f i=true then snap H D x else some (x,[]))=o
  generalize lend H f (i+1) xs=r
  cases o with
  | none=>rfl
  | some p=>cases r with
    | none=>rfl
    | some q=>rfl
theorem lendC_some (y:LV) (a:List Nm) (ys:List LV) (c:List Nm):lendC (some (y,a)) (some (ys,c))=some (y::ys,a++c):=nf rfl
theorem snapL_bs (H:Heap) (d:Nat) (l:List (BitVec 8)):snapL (snap H (d+1)) (bs l)=some (bs l,[]):=by
  induction l with
  | nil=>rfl
  | cons x l ih=>simp only[bs,zG] at ih ⊢; simp only[snapL,ih]; rfl
theorem snap_bytes (n:Nm) (off len:Nat) (cap:Option Nat) (l:List (BitVec 8)) (h:H n=some (bs l)) (h0:len≠0) :
    snap H D (.sl n off len cap 1)=some (.isl (bs ((l.drop off).take len)) len,[n]):=by
  simp only[snap,if_neg h0,h,bs_drop,zZ,bs_take,snapL_bs,zI]
theorem snap_zero (n:Nm) (off:Nat) (cap:Option Nat) (es:Nat):snap H D (.sl n off 0 cap es)=some (.isl [] 0,[]):=nf rfl
theorem snap_isl (xs:List LV) (len:Nat):snap H D (.isl xs len)=some (.isl xs len,[]):=nf rfl
theorem toCallee_eq (names:List Nm) (n:Nm):qc7 names n=(idx n names 0).map fun i=>(0,i):=nf rfl
theorem idx_cons (n m:Nm) (ms:List Nm) (i:Nat):idx n (m::ms) i=if m=n then some i else idx n ms (i+1):=nf rfl
theorem toCaller_0 (names:List Nm) (base k j:Nat):toCaller names base k (0,j)=names[j]? := by simp[toCaller]
theorem toCaller_1 (names:List Nm) (base k j:Nat) (h:j < k):toCaller names base k (1,j)=some (base,j):=by simp[toCaller,h]
theorem qbd (l:List (BitVec 8)) (n:Nat):nms D (.isl (bs l) n)=[]:=by
  show (bs l).flatMap (nms 7)=[]
  rw[List.flatMap_eq_nil_iff]; intro x hx; simp only[bs,List.mem_map] at hx; obtain ⟨y,_,rfl⟩:=hx; rfl
theorem qa8 (π:Nm→Option Nm) (l:List (BitVec 8)) (n:Nat):ren D π (.isl (bs l) n) = .isl (bs l) n:=by
  show LV.isl ((bs l).map (ren 7 π)) n=_
  congr 1
  simp only[bs,List.map_map]; apply List.map_congr_left; intro x _; rfl
theorem qcc (np:Nat) (st:St) (ret:LV) (names:List Nm) (h:qaA st.H np [ret]=names) :
    outOf np st ret=(ren D (qdg names) ret,(List.range np).map (fun i=>(st.H (0,i)).map fun cs=>cs.map (ren D (qdg names))),(names.filterMap st.H).map fun cs=>cs.map (ren D (qdg names))):=by
  subst h; rfl
theorem qcM (names:List Nm) (j:Nat):qdg names (0,j)=some (0,j):=by simp[qdg]
theorem qdo (names:List Nm) (i j:Nat) (h:i≠0):qdg names (i,j)=(idx (i,j) names 0).map fun i=>(1,i):=by simp[qdg,h]
end Go.LE
namespace Go.LE
def chkV:LV→Option LV
  | .ptr n off=>some (.ptr n off)
  | .ipt xs=>some (.ipt xs)
  | .fn (.func f) a b=>some (.fn (.func f) a b)
  | _=>none
theorem op_chk {E:Env} {tm:List LV} {H:Heap} {b:Nat} (x:LX):qcq E tm H b (.chk x)=outR (chkV (evX E.gl tm x)):=by
  simp only[qcq,qcn,heapOp]
  generalize evX E.gl tm x=y
  cases y with
  | fn f a c=>cases f <;> rfl
  | _=>rfl
theorem chkV_ptr (n:Nm) (off:Nat):chkV (.ptr n off)=some (.ptr n off):=nf rfl
theorem eqp_ptr (n:Nm) (off:Nat):binV .eql .ptr (.ptr n off) NilP=some (Bo false):=nf rfl
theorem eqs_sl (n:Nm) (off len:Nat) (c:Option Nat) (es:Nat):binV .eql .slice (.sl n off len c es) Nil=some (Bo false):=nf rfl
theorem qae (xs:List LV) (n:Nat):isCell (.isl xs n)=true:=nf rfl
theorem calK_ptr_new (b:Nat) (z:qaR) (off:Nat) (h:z.map (ren D (toCaller [] b 1))=z):calK b (some (.ptr (1,0) off,[],[z]))=some ⟨.ptr (b,0) off,[z],[]⟩:=by
  simp only[calK,backTo,zJ,zM,zG,zF,List.zipWith_nil_left]
  rw[show (0+1:Nat)=1 from rfl,h]
  rfl
theorem qcm (names:List Nm) (H:Heap) (j:Nat):cN names H (0,j)=(H (0,j)).map (fun cs=>cs.map (ren D (qdg names))):=nf rfl
end Go.LE
namespace Go.LE
theorem qbn (objs:List qaR) (j:Nat):qcV objs (0,j)=objs[j]? := by simp[qcV]
theorem qaZ (objs:List qaR) (i j:Nat) (h:i≠0):qcV objs (i,j)=none:=by simp[qcV,h]
theorem qce:List.range 1=[0]:=nf rfl
theorem qcP:List.range 2=[0,1]:=nf rfl
end Go.LE
namespace Go.LE
def ptrO (off:Nat):Option Nm→LV
  | some m => .ptr m off
  | none => .undef
def slO (off len:Nat) (c:Option Nat) (es:Nat):Option Nm→LV
  | some m => .sl m off len c es
  | none => .undef
theorem qbT (π:Nm→Option Nm) (n:Nm) (off:Nat):ren D π (.ptr n off)=ptrO off (π n):=by
  simp only[ren,ptrO]; cases π n <;> rfl
theorem qbk (π:Nm→Option Nm) (n:Nm) (off len:Nat) (c:Option Nat) (es:Nat):ren D π (.sl n off len c es)=slO off len c es (π n):=by
  simp only[ren,slO]; cases π n <;> rfl
theorem ptrO_some (off:Nat) (m:Nm):ptrO off (some m) = .ptr m off:=nf rfl
theorem qbX (off len:Nat) (c:Option Nat) (es:Nat) (m:Nm):slO off len c es (some m) = .sl m off len c es:=nf rfl
end Go.LE
namespace Go.LE
theorem nms_tup0:nms D (.tup [])=[]:=nf rfl
theorem ren_tup0 (π:Nm→Option Nm):ren D π (.tup []) = .tup []:=nf rfl
end Go.LE
namespace Go.LE
theorem stepK_nm {E:Env} (b i:Nat) (os:List LOper) (log:List Done) (d:Option Nat) (tm:List LV) (H:Heap) (nx np:Nat) (v:LV) (z:qaR) (n:Nm) (x:Option qaR) :
    stepK E b i os log d tm H nx np (some ⟨v,[z],[(n,x)]⟩)=qcQ E b (i+1) os log ⟨put tm d v,upd (upd H n x) (b+i,0) (some z),nx,np⟩:=by
  rw[qal]; rfl
theorem reachK_gone (H:Heap) (f:Nat) (seen:List Nm) (n:Nm) (todo:List Nm):reachK H f seen n todo none=reach H f seen todo:=nf rfl
end Go.LE
namespace Go.LE
theorem stepK_nm2 {E:Env} (b i:Nat) (os:List LOper) (log:List Done) (d:Option Nat) (tm:List LV) (H:Heap) (nx np:Nat) (v:LV) (z:qaR) (n:Nm) (x:Option qaR) (n2:Nm) (x2:Option qaR) :
    stepK E b i os log d tm H nx np (some ⟨v,[z],[(n,x),(n2,x2)]⟩)=qcQ E b (i+1) os log ⟨put tm d v,upd (upd (upd H n2 x2) n x) (b+i,0) (some z),nx,np⟩:=by
  rw[qal]; rfl
theorem stepK_n2m2 {E:Env} (b i:Nat) (os:List LOper) (log:List Done) (d:Option Nat) (tm:List LV) (H:Heap) (nx np:Nat) (v:LV) (z z2:qaR) (n:Nm) (x:Option qaR) (n2:Nm) (x2:Option qaR) :
    stepK E b i os log d tm H nx np (some ⟨v,[z,z2],[(n,x),(n2,x2)]⟩)=qcQ E b (i+1) os log ⟨put tm d v,upd (upd (upd (upd H n2 x2) n x) (b+i,0) (some z)) (b+i,1) (some z2),nx,np⟩:=by
  rw[qal]; rfl
end Go.LE
namespace Go.LE
end Go.LE
namespace Go.LE
def txt (l:List (BitVec 8)):LV := .v (.string ⟨(l.map fun x=>UInt8.ofNat x.toNat).toArray⟩)
theorem bytesOf_bs (l:List (BitVec 8)):bytesOf (bs l)=some (l.map fun x=>UInt8.ofNat x.toNat):=by
  induction l with
  | nil=>rfl
  | cons x l ih=>simp only[bs,zG] at ih ⊢; simp only[B8,bytesOf,ih]; rfl
def b2sK:Option qaR→Option Out
  | some cs=>(bytesOf cs).map fun b=>⟨.v (.string ⟨b.toArray⟩),[],[]⟩
  | none=>none
theorem b2sK_bs (l:List (BitVec 8)):b2sK (some (bs l))=some ⟨txt l,[],[]⟩:=by
  simp only[b2sK,bytesOf_bs]; rfl
def b2sV (H:Heap) (y:LV):Option Nat→Option Out
  | some n=>(match y with
    | .v (.string _)=>none
    | y=>b2sK (front H 1 n y))
  | none=>none
theorem op_b2s {E:Env} {tm:List LV} {H:Heap} {b:Nat} (x:LX):qcq E tm H b (.b2s x)=b2sV H (evX E.gl tm x) (lenOf (evX E.gl tm x)):=by
  simp only[qcq,qcn,heapOp,b2sV]
  generalize evX E.gl tm x=y
  cases lenOf y with
  | none=>rfl
  | some n =>
    cases y with
    | v z=>cases z <;> (try rfl) <;> (simp only[b2sK]; cases front H 1 n _ <;> rfl)
    | _=>simp only[b2sK]; cases front H 1 n _ <;> rfl
theorem b2sV_sl (H:Heap) (m:Nm) (off len:Nat) (c:Option Nat) (es n:Nat):b2sV H (.sl m off len c es) (some n)=b2sK (front H 1 n (.sl m off len c es)):=nf rfl
theorem b2sV_isl (H:Heap) (xs:List LV) (len n:Nat):b2sV H (.isl xs len) (some n)=b2sK (front H 1 n (.isl xs len)):=nf rfl
end Go.LE
namespace Go.LE
open Go.ChangeShapes Go.WideShapes Go.ChangeAt Go.RowKit
def vB (n:Nat) (g:Nat→BitVec 8):List Value:=(List.range n).map fun i => .int .u8 ((g i).toNat:Int)
theorem rep_vB (R:Imm) (p:qb5) (n:Nat) (g:Nat→BitVec 8):Rep R p (aB n g) (vB n g):=by
  have h:aB n g=(vB n g).map .v:=by simp only[aB,arr,vB,List.map_map]; rfl
  rw[h]; exact Rep.plain _
section
variable {H:Type} {enc:TypeId × Value→H} {P:Program} {W:World} {base b:Nat} {sp:Nat→Bool} {held:Bool} {t e:TypeId} {n:Nat} {v:Value} {d:DataW H} {p:List MemPlace}
theorem open_ints {k:IntKind} (ht:P.underlying t=some (.array n e)) (he:P.underlying e=some (.int k)) (hc:P.cellsOf e=1) (hct:P.cellsOf t=n)
    (hv:Value.okWide P W .any base t v) (h:DataW.Trod enc P W b sp held t v d p) :
    ∃ cs:List Int,v = .agg (cs.map (Value.int k)).toArray∧cs.length=n∧(∀ x ∈ cs,(Lit.int k x).wf=true)∧p=[]:=by
  simp only[Value.okWide,ht] at hv
  obtain ⟨cs,rfl,hsz,_⟩:=hv
  obtain ⟨cs⟩:=cs
  obtain ⟨fuel,hf⟩:=h
  obtain ⟨xs,m,rfl,hx,hl,hn,hi⟩:=DataW.trod_array ht hf
  simp only[Value.cells] at hl hi hsz
  rw[hct] at hl
  have key:∀ i,i < n→∃ a:Int,cs[i]? = some (.int k a)∧(Lit.int k a).wf=true∧∃ y,xs[i]? = some y∧y.2=[]:=by
    intro i h1
    have h2:=hi i h1
    rw[hc,zZ] at h2
    have h3:i < xs.length:=by omega
    rw[List.getElem?_eq_getElem h3] at h2
    obtain ⟨a,e0,e1,wa⟩:=DataW.trod_int he h2
    refine ⟨a,?_,wa,xs[i],List.getElem?_eq_getElem h3,?_⟩
    · have h4 : i < cs.length := by rw [hl]; exact h1
      have h5:(cs.drop i).take 1=[cs[i]]:=by
        rw[List.drop_eq_getElem_cons h4]; rfl
      have e0:(cs.drop i).take 1=[.int k a]:=by simpa using e0
      rw[h5] at e0
      rw[List.getElem?_eq_getElem h4]
      simpa using e0
    · rw[e1]
  have hex:∃ f:Nat→Int,∀ i,i < n→cs[i]? = some (.int k (f i))∧(Lit.int k (f i)).wf=true:=by
    refine ⟨fun i=>if h:i < n then (key i h).choose else 0,fun i h => ?_⟩
    simp only[h,dif_pos]
    exact ⟨(key i h).choose_spec.1,(key i h).choose_spec.2.1⟩
  obtain ⟨f,hf⟩:=hex
  refine ⟨(List.range n).map f,?_,by simp,?_,?_⟩
  · congr 2
    apply List.ext_getElem?
    intro i
    by_cases h1:i < n
    · rw [(hf i h1).1]; simp[h1]
    · rw[List.getElem?_eq_none (by omega),List.getElem?_eq_none (by simp; omega)]
  · intro x hx'
    simp only[List.mem_map,List.mem_range] at hx'
    obtain ⟨i,h1,rfl⟩:=hx'
    exact (hf i h1).2
  · simp only [zD] at hx
    rw[hx.2,List.flatMap_eq_nil_iff]
    intro y hy
    obtain ⟨i,h1,rfl⟩:=List.mem_iff_getElem.1 hy
    obtain ⟨_,_,_,y,h2,h3⟩:=key i (by omega)
    rw[List.getElem?_eq_getElem h1] at h2
    cases h2
    exact h3
theorem ints8 {cs:List Int} (h:∀ x ∈ cs,(Lit.int .u8 x).wf=true):∃ g:Nat→BitVec 8,cs.map (Value.int .u8)=vB cs.length g:=by
  refine ⟨fun i=>BitVec.ofInt 8 (cs.getD i 0),?_⟩
  apply List.ext_getElem
  · simp[vB]
  · intro i h1 h2
    have h3:i < cs.length:=by simpa using h1
    obtain ⟨x,hx⟩:=wf_u8 (h cs[i] (List.getElem_mem h3))
    simp[vB,h3,hx]
    have:=x.isLt
    omega
theorem open_arr8 (ht:P.underlying t=some (.array n e)) (he:P.underlying e=some (.int .u8)) (hc:P.cellsOf e=1) (hct:P.cellsOf t=n)
    (hv:Value.okWide P W .any base t v) (h:DataW.Trod enc P W b sp held t v d p):∃ g:Nat→BitVec 8,v = .agg (vB n g).toArray∧p=[]:=by
  obtain ⟨cs,rfl,hl,hw,hp⟩:=open_ints ht he hc hct hv h
  obtain ⟨g,hg⟩:=ints8 hw
  exact ⟨g,by rw[hg,hl],hp⟩
end
end Go.LE
namespace Go.LE
open Go.ChangeShapes Go.WideShapes Go.ChangeAt Go.RowKit
inductive LK where
  | int (k:IntKind)
  | bool
def leaves (P:Program):Nat→TypeId→Option (List (Nat × LK))
  | 0,_=>none
  | d+1,t=>match P.underlying t with
    | some (.int k)=>some [(0,.int k)]
    | some .bool=>some [(0,.bool)]
    | some (.array n e)=>match leaves P d e with
      | some ls=>some ((List.range n).flatMap fun i=>ls.map fun p=>(i*P.cellsOf e+p.1,p.2))
      | none=>none
    | some (.struct fs)=>match seqO (fs.toList.map fun f=>(leaves P d f.type).map fun ls=>ls.map fun p=>(f.offset+p.1,p.2)) with
      | some lss=>some lss.flatten
      | none=>none
    | _=>none
section
variable {H:Type} {enc:TypeId × Value→H} {P:Program} {W:World} {base b:Nat} {sp:Nat→Bool} {held:Bool}
end
end Go.LE
namespace Go.LE
open Go.ChangeShapes Go.WideShapes Go.ChangeAt Go.RowKit
section
variable {H:Type} {enc:TypeId × Value→H} {P:Program} {W:World} {base b:Nat} {sp:Nat→Bool} {held:Bool} {t e:TypeId} {n:Nat} {v:Value} {d:DataW H} {p:List MemPlace}
theorem trod_lt_all (h:DataW.Trod enc P W b sp held t v d p):∀ x ∈ p,x.block < W.heap.size:=by
  obtain ⟨n,h⟩:=h
  exact DataW.trod_lt n _ _ _ h
def SlLen (d:DataW H) (n:Nat):Prop:=(n=0∧d = .nil)∨∃ l s,d = .slice l s∧l.length=n
theorem cells_at {a:Addr} {n:Nat} (hn:0 < n) {f:Nat→Value} (h:∀ i,i < n→W.cell? (a.add i)=some (f i)) :
    ∃ o cs,a=⟨a.block,o,none⟩∧allImm W a.block=some cs∧(cs.drop o).take n=(List.range n).map f:=by
  obtain ⟨ab,ao,asp⟩:=a
  have h0:=h 0 hn
  simp only[Addr.add,if_pos,World.cell?] at h0
  split at h0
  · rename_i cs T fz hb
    cases asp with
    | some x=>simp at h0
    | none =>
      refine ⟨ao,cs.toList,rfl,by simp[allImm,hb],?_⟩
      apply List.ext_getElem?
      intro i
      by_cases hi:i < n
      · have h1 := h i hi
        have h2:(Addr.add ⟨ab,ao,none⟩ i)=⟨ab,ao+i,none⟩:=by
          unfold Addr.add; split
          · rename_i h3; subst h3; rfl
          · rfl
        rw[h2,World.cell?,hb] at h1
        simp only[Option.isSome_none,ze,zA] at h1
        rw[List.getElem?_take,if_pos hi,List.getElem?_drop,Array.getElem?_toList,h1]
        simp[hi]
      · rw[List.getElem?_take,if_neg hi,List.getElem?_eq_none (by simp; omega)]
  · cases h0
theorem open_slice8 (ht:P.underlying t=some (.slice e)) (he:P.underlying e=some (.int .u8)) (hc:P.cellsOf e=1)
    (hv:Value.okWide P W .any base t v) (h:DataW.Trod enc P W b sp held t v d p) :
    ∃ l:List (BitVec 8),Rep1 (allImm W) noPlaces (.isl (bs l) l.length) v∧SlLen d l.length:=by
  obtain ⟨a0,len0,cap0,rfl⟩:=okWide_slice ht hv
  obtain ⟨fuel,hf⟩:=h
  simp only[Value.cells] at hf
  rcases Go.ChangeShapes.open_ints ht he hc hf with ⟨h1,h2⟩ | ⟨a,len,cap,zs,h1,_,hlc,_,hz,hx,hcell,hwf⟩
  · simp at h1
    obtain ⟨rfl,rfl,rfl⟩:=h1
    simp only[zD] at h2
    exact ⟨[],.isl0 .nil,.inl ⟨rfl,h2.1⟩⟩
  · simp at h1
    obtain ⟨rfl,rfl,rfl⟩:=h1
    simp only[zD] at hx
    have hle:len0≤zs.length:=by rw[hz]; split <;> omega
    refine ⟨(zs.take len0).map (BitVec.ofInt 8),?_,.inr ⟨_,_,hx.1,by simp[lits]⟩⟩
    have hl:((zs.take len0).map (BitVec.ofInt 8)).length=len0:=by simp; omega
    rw[hl]
    by_cases hn:len0=0
    · subst hn; exact .isl0 .nil
    · obtain ⟨o, cs, ea, hi, ht⟩ := cells_at (W := W) (a := a) (n := len0) (by omega) (fun i hi => hcell i (by omega))
      rw[ea]
      refine .isl hi ?_ hlc .nil
      rw[qag,hl,ht]
      have e:(bs ((zs.take len0).map (BitVec.ofInt 8)))=((List.range len0).map fun i=>Value.int .u8 (zs.getD i 0)).map .v:=by
        apply List.ext_getElem
        · simp[bs]; omega
        · intro i h1 h2
          have h3:i < len0:=by simpa using h2
          have h4:i < zs.length:=by omega
          simp only[bs,List.getElem_map,List.getElem_take,List.getElem_range,B8]
          have:=hwf _ (List.getElem_mem h4)
          simp[Lit.wf,IntKind.min,IntKind.max,IntKind.signed,IntKind.bits] at this
          have e2:zs.getD i 0=zs[i]:=by simp[List.getD,h4]
          rw[e2]
          congr 2
          rw[BitVec.toNat_ofInt]
          have:=this.1
          omega
      rw[e]
      exact Rep.plain _
end
end Go.LE
namespace Go.LE
theorem weights_each {H:Type} {P:Program}:∀ {ts:List TypeId} {ds:List (DataW H)} {i:Nat} {t:TypeId} {d:DataW H},(DataW.weightsEach P ts ds).all (· ≤ reachBytes)=true→ts[i]? = some t→ds[i]? = some d →
    (d.weights P t).all (· ≤ reachBytes)=true:=by
  intro ts
  induction ts with
  | nil=>intro ds i t d _ h; simp at h
  | cons u ts ih =>
    intro ds i t d h ht hd
    cases ds with
    | nil=>simp at hd
    | cons e ds =>
      simp only[DataW.weightsEach,List.all_append,Bool.and_eq_true] at h
      cases i with
      | zero =>
        simp only[List.getElem?_cons_zero,Option.some.injEq] at ht hd
        subst ht; subst hd; exact h.1
      | succ i =>
        simp only[List.getElem?_cons_succ] at ht hd
        exact ih h.2 ht hd
theorem weights_sl {H:Type} {P:Program} {t e:TypeId} {d:DataW H} {n:Nat} (h:(d.weights P t).all (· ≤ reachBytes)=true) (ht:P.underlying t=some (.slice e)) (hl:SlLen d n):n*P.bytesOf e≤140737488351232:=by
  rcases hl with ⟨rfl,_⟩ | ⟨l,s,rfl,rfl⟩
  · omega
  · simp only [DataW.weights, ht, zw, Bool.and_eq_true, decide_eq_true_eq] at h
    have h1:=h.1
    rw[Nat.add_mul] at h1
    unfold reachBytes at h1
    omega
theorem weigh_sl {H:Type} {P:Program} {ts:List TypeId} {ds:List (DataW H)} {t e:TypeId} {d:DataW H} {n:Nat} (h:(DataW.weightsEach P ts ds).all (· ≤ reachBytes)=true) (i:Nat) (h1:ts[i]? = some t) (h2:ds[i]? = some d)
    (ht:P.underlying t=some (.slice e)) (hl:SlLen d n):n*P.bytesOf e≤140737488351232:=weights_sl (weights_each h h1 h2) ht hl
end Go.LE
namespace Go.LE
open Go.ChangeShapes Go.WideShapes Go.ChangeAt Go.RowKit
theorem addr_add (b o i:Nat):(⟨b,o,none⟩:Addr).add i=⟨b,o+i,none⟩:=by
  unfold Addr.add; split
  · rename_i h; subst h; rfl
  · rfl
theorem Rep.flatMap {R:Imm} {p:qb5} {f:Nat→List LV} {g:Nat→List Value}:∀ (l:List Nat),(∀ i ∈ l,Rep R p (f i) (g i))→Rep R p (l.flatMap f) (l.flatMap g):=by
  intro l
  induction l with
  | nil=>intro _; exact .nil
  | cons x l ih =>
    intro h
    rw[zS,zS]
    exact Rep.append (h x (by simp)) (ih fun i hi=>h i (by simp[hi]))
theorem flatMap_len {A:Type} {g:Nat→List A} {c:Nat}:∀ n,(∀ i,i < n→(g i).length=c)→((List.range n).flatMap g).length=n*c:=by
  intro n
  induction n with
  | zero=>intro _; simp
  | succ n ih =>
    intro h
    rw[List.range_succ,List.flatMap_append,zzI,ih fun i hi=>h i (by omega)]
    simp[h n (by omega),Nat.succ_mul]
theorem flatMap_get {A:Type} {g:Nat→List A} {c:Nat} (h0:0 < c):∀ n,(∀ i,i < n→(g i).length=c)→∀ m,m < n*c→((List.range n).flatMap g)[m]? = (g (m / c))[m % c]? := by
  intro n
  induction n with
  | zero=>intro _ m hm; omega
  | succ n ih =>
    intro h m hm
    have hl:=flatMap_len n fun i hi=>h i (by omega)
    rw[List.range_succ,List.flatMap_append]
    by_cases h1:m < n*c
    · rw[List.getElem?_append_left (by omega),ih (fun i hi=>h i (by omega)) m h1]
    · rw [List.getElem?_append_right (by omega), hl]
      have e1:m / c=n:=by
        rw[Nat.succ_mul] at hm
        exact Nat.div_eq_of_lt_le (by omega) (by rw[Nat.succ_mul]; omega)
      have e2:m % c=m - n*c:=by
        have:=Nat.div_add_mod m c
        rw[e1,Nat.mul_comm] at this; omega
      rw[e1,e2]; simp
theorem mapM_get {A B:Type} {f:A→Option B}:∀ (l:List A) (r:List B),l.mapM f=some r→r.length=l.length∧∀ (i:Nat) (a:A),l[i]? = some a→f a=r[i]? := by
  intro l
  induction l with
  | nil=>intro r h; simp at h; subst h; simp
  | cons x l ih =>
    intro r h
    rw[List.mapM_cons] at h
    cases hx:f x with
    | none=>rw[hx] at h; cases h
    | some y =>
      rw[hx] at h
      cases hr:l.mapM f with
      | none=>rw[hr] at h; cases h
      | some ys =>
        rw[hr] at h
        have e:y::ys=r:=Option.some.inj h
        subst e
        obtain ⟨h1,h2⟩:=ih ys hr
        refine ⟨by simp[h1],fun i a ha => ?_⟩
        cases i with
        | zero=>simp at ha; subst ha; simp[hx]
        | succ i=>simp at ha; simpa using h2 i a ha
section
variable {H:Type} {enc:TypeId × Value→H} {P:Program} {W:World} {base b:Nat} {sp:Nat→Bool} {held:Bool} {t e:TypeId} {c:Nat} {v:Value}
def SlD (Q:List LV→DataW H→Prop) (L:List (List LV)) (d:DataW H):Prop :=
  (L=[]∧d = .nil)∨∃ l s,d = .slice l s∧l.length=L.length∧∀ (i:Nat) xs x,L[i]? = some xs→l[i]? = some x→Q xs x
theorem trod_sl (ht:P.underlying t=some (.slice e)) (hc:P.cellsOf e=c) (h0:0 < c) {Q:List LV→DataW H→Prop}
    (hE:∀ (fuel:Nat) (cs:List Value) (x:DataW H × List MemPlace),DataW.trod enc P W b sp held fuel e cs=some x→∃ xs,Rep (allImm W) noPlaces xs cs∧Q xs x.1)
    {fuel:Nat} {cs:List Value} {x:DataW H × List MemPlace} (h:DataW.trod enc P W b sp held fuel t cs=some x) :
    ∃ v L,cs=[v]∧Rep1 (allImm W) noPlaces (.isl L.flatten L.length) v∧(∀ xs ∈ L,xs.length=c)∧SlD Q L x.1:=by
  rcases DataW.trod_slice ht h with ⟨rfl,rfl⟩ | ⟨a,len,cap,elems,rest,n,_,rfl,rfl,hb,hl,_,hlen,hel,_,_⟩
  · exact ⟨_,[],rfl,.isl0 .nil,by simp,.inl ⟨rfl,rfl⟩⟩
  rw[hc] at hel
  have each:∀ i,i < len→∃ csi y,W.cells? b (a.add (i*c)) c=some csi∧DataW.trod enc P W b sp held n e csi=some y∧elems[i]? = some y:=by
    intro i hi
    have h1:=hel i hi
    have h2:i < elems.length:=by omega
    rw[List.getElem?_eq_getElem h2,Option.bind_eq_some_iff] at h1
    obtain ⟨csi,h3,h4⟩:=h1
    exact ⟨csi,elems[i],h3,h4,List.getElem?_eq_getElem h2⟩
  have ex:∃ (g:Nat→List Value) (f:Nat→List LV),∀ i,i < len→W.cells? b (a.add (i*c)) c=some (g i)∧Rep (allImm W) noPlaces (f i) (g i)∧∀ y,elems[i]? = some y→Q (f i) y.1:=by
    have key:∀ i,∃ p:List Value × List LV,i < len→W.cells? b (a.add (i*c)) c=some p.1∧Rep (allImm W) noPlaces p.2 p.1∧∀ y,elems[i]? = some y→Q p.2 y.1:=by
      intro i
      by_cases hi:i < len
      · obtain ⟨csi, y, h1, h2, h3⟩ := each i hi
        obtain ⟨xs,h4,h5⟩:=hE _ _ _ h2
        exact ⟨(csi,xs),fun _=>⟨h1,h4,fun y' hy=>by rw[h3] at hy; cases hy; exact h5⟩⟩
      · exact ⟨([],[]),fun h=>absurd h hi⟩
    exact ⟨fun i=>(key i).choose.1,fun i=>(key i).choose.2,fun i hi=>(key i).choose_spec hi⟩
  obtain ⟨g,f,hgf⟩:=ex
  have hgl:∀ i,i < len→(g i).length=c∧∀ j,j < c→W.cell? ((a.add (i*c)).add j)=(g i)[j]? := by
    intro i hi
    have h1:=(hgf i hi).1
    unfold World.cells? at h1
    split at h1
    · obtain ⟨h2, h3⟩ := mapM_get _ _ h1
      exact ⟨by simpa using h2,fun j hj=>h3 j j (by simp[hj])⟩
    · cases h1
  have hfl:∀ i,i < len→(f i).length=c:=fun i hi=>by rw [(hgf i hi).2.1.length,(hgl i hi).1]
  refine ⟨_,(List.range len).map f,rfl,?_,?_,.inr ⟨_,_,rfl,by simp[hlen],?_⟩⟩
  · rw [zzM, List.length_range]
    by_cases hn:len=0
    · subst hn; exact .isl0 .nil
    · have ha:∃ o,a=⟨a.block,o,none⟩:=by
        have h1:=(hgl 0 (by omega)).2 0 h0
        have h2':0 < (g 0).length:=by rw [(hgl 0 (by omega)).1]; exact h0
        have h2:(g 0)[0]? = some (g 0)[0]:=List.getElem?_eq_getElem h2'
        rw[Nat.zero_mul,h2] at h1
        obtain ⟨ab,ao,asp⟩:=a
        simp only[Addr.add,zC,World.cell?] at h1
        split at h1
        · cases asp with
          | some z=>simp at h1
          | none=>exact ⟨ao,rfl⟩
        · cases h1
      obtain ⟨o,ea⟩:=ha
      have hcell:∀ m,m < len*c→W.cell? (a.add m)=some (((List.range len).flatMap g).getD m (.bool false)):=by
        intro m hm
        have hi:m / c < len:=by rw[Nat.div_lt_iff_lt_mul h0]; exact hm
        have hj:m % c < c:=Nat.mod_lt _ h0
        have h1:=(hgl (m / c) hi).2 (m % c) hj
        have e1:(a.add (m / c*c)).add (m % c)=a.add m:=by
          rw[ea,addr_add,addr_add,addr_add]
          congr 1
          have:=Nat.div_add_mod m c
          rw[Nat.mul_comm] at this
          omega
        rw[e1] at h1
        rw[h1,List.getD_eq_getElem?_getD,flatMap_get h0 len (fun i hi=>(hgl i hi).1) m hm]
        rw[List.getElem?_eq_getElem (by rw [(hgl (m / c) hi).1]; exact hj)]
        rfl
      obtain ⟨o',cs',ea',hi',ht'⟩:=cells_at (W:=W) (a:=a) (n:=len*c) (Nat.mul_pos (by omega) h0) (fun m hm=>hcell m hm)
      rw[ea']
      have hlg:=flatMap_len len fun i hi=>(hgl i hi).1
      have hlf:=flatMap_len len hfl
      refine .isl hi' ?_ hl .nil
      have e2:((List.range len).map f).flatten=(List.range len).flatMap f:=by rw[List.flatMap_def]
      rw[e2,hlf,ht']
      have e3:(List.range (len*c)).map (fun m=>((List.range len).flatMap g).getD m (.bool false))=(List.range len).flatMap g:=by
        apply List.ext_getElem
        · rw[zzM,List.length_range,hlg]
        · intro m h1 h2
          rw[List.getElem_map,List.getElem_range,List.getD_eq_getElem?_getD,List.getElem?_eq_getElem h2]
          rfl
      rw[e3]
      exact Rep.flatMap _ fun i hi=>(hgf i (List.mem_range.1 hi)).2.1
  · intro xs hx
    simp only[List.mem_map,List.mem_range] at hx
    obtain ⟨i,hi,rfl⟩:=hx
    exact hfl i hi
  · intro i xs x h1 h2
    have hi:i < len:=by
      rcases Nat.lt_or_ge i len with h | h
      · exact h
      · rw[List.getElem?_eq_none (by simpa using h)] at h1; cases h1
    rw[List.getElem?_map,List.getElem?_range hi] at h1
    simp only[zI,Option.some.injEq] at h1
    rw[List.getElem?_map,zzA] at h2
    obtain ⟨y,h3,rfl⟩:=h2
    rw[←h1]
    exact (hgf i hi).2.2 y h3
end
def sls (L:List (List (BitVec 8))):qaR:=L.map fun b => .isl (bs b) b.length
def IsB {H:Type} (xs:List LV) (d:DataW H):Prop := ∃ b:List (BitVec 8),xs=[.isl (bs b) b.length]∧SlLen d b.length
def SlLens {H:Type} (d:DataW H) (L:List (List (BitVec 8))):Prop :=
  (L=[]∧d = .nil)∨∃ l s,d = .slice l s∧l.length=L.length∧∀ (i:Nat) b x,L[i]? = some b→l[i]? = some x→SlLen x b.length
section
variable {H:Type} {enc:TypeId × Value→H} {P:Program} {W:World} {base b:Nat} {sp:Nat→Bool} {held:Bool} {t u e:TypeId} {n:Nat} {v:Value} {d:DataW H} {p:List MemPlace}
theorem trod_slice8 (ht:P.underlying t=some (.slice e)) (he:P.underlying e=some (.int .u8)) (hc:P.cellsOf e=1) {fuel:Nat} {cs:List Value} {x:DataW H × List MemPlace}
    (h:DataW.trod enc P W b sp held fuel t cs=some x):∃ v l,cs=[v]∧Rep1 (allImm W) noPlaces (.isl (bs l) l.length) v∧SlLen x.1 l.length:=by
  have hE:∀ (fuel:Nat) (cs:List Value) (x:DataW H × List MemPlace),DataW.trod enc P W b sp held fuel e cs=some x→∃ xs,Rep (allImm W) noPlaces xs cs∧∃ y,xs=[B8 y]:=by
    intro fuel cs x hx
    obtain ⟨a,rfl,rfl,wa⟩:=DataW.trod_int he hx
    obtain ⟨y,rfl⟩:=wf_u8 wa
    exact ⟨_,Rep.plain [.int .u8 y.toNat],y,rfl⟩
  obtain ⟨v,L,rfl,hr,hl,hd⟩:=trod_sl (Q:=fun xs _=>∃ y,xs=[B8 y]) ht hc (by omega) hE h
  have hL:∃ l:List (BitVec 8),L.flatten=bs l∧L.length=l.length∧SlLen x.1 l.length:=by
    rcases hd with ⟨rfl,e⟩ | ⟨l,s,e,hll,hq⟩
    · exact ⟨[],rfl,rfl,.inl ⟨rfl,e⟩⟩
    · have key:∀ (L:List (List LV)),(∀ xs ∈ L,∃ y,xs=[B8 y])→∃ l:List (BitVec 8),L.flatten=bs l∧L.length=l.length:=by
        intro L
        induction L with
        | nil=>intro _; exact ⟨[],rfl,rfl⟩
        | cons z L ih =>
          intro hz
          obtain ⟨y,rfl⟩:=hz z (by simp)
          obtain ⟨l,h1,h2⟩:=ih fun xs hx=>hz xs (by simp[hx])
          exact ⟨y::l,by rw[List.flatten_cons,h1]; rfl,by simp[h2]⟩
      obtain ⟨m,h1,h2⟩:=key L (by
        intro xs hx
        obtain ⟨i,hi,rfl⟩:=List.mem_iff_getElem.1 hx
        exact hq i _ (l[i]'(by omega)) (List.getElem?_eq_getElem hi) (List.getElem?_eq_getElem _))
      exact ⟨m,h1,h2,.inr ⟨l,s,e,by omega⟩⟩
  obtain ⟨l,h1,h2,h3⟩:=hL
  rw[h1,h2] at hr
  exact ⟨v,l,rfl,hr,h3⟩
theorem trod_slice8s (ht:P.underlying t=some (.slice u)) (hu:P.underlying u=some (.slice e)) (he:P.underlying e=some (.int .u8)) (hcu:P.cellsOf u=1) (hc:P.cellsOf e=1) {fuel:Nat} {cs:List Value} {x:DataW H × List MemPlace}
    (h:DataW.trod enc P W b sp held fuel t cs=some x):∃ v L,cs=[v]∧Rep1 (allImm W) noPlaces (.isl (sls L) L.length) v∧SlLens x.1 L:=by
  have hE:∀ (fuel:Nat) (cs:List Value) (x:DataW H × List MemPlace),DataW.trod enc P W b sp held fuel u cs=some x→∃ xs,Rep (allImm W) noPlaces xs cs∧IsB xs x.1:=by
    intro fuel cs x hx
    obtain ⟨v,l,rfl,hr,hd⟩:=trod_slice8 hu he hc hx
    exact ⟨_,hr,l,rfl,hd⟩
  obtain ⟨v,L,rfl,hr,hl,hd⟩:=trod_sl (Q:=IsB) ht hcu (by omega) hE h
  have hL:∃ M:List (List (BitVec 8)),L.flatten=sls M∧L.length=M.length∧SlLens x.1 M:=by
    rcases hd with ⟨rfl,e⟩ | ⟨l,s,e,hll,hq⟩
    · exact ⟨[],rfl,rfl,.inl ⟨rfl,e⟩⟩
    · have key : ∀ (L : List (List LV)) (l : List (DataW H)), l.length = L.length → (∀ (i : Nat) xs x, L[i]? = some xs → l[i]? = some x → IsB xs x) →
          ∃ M:List (List (BitVec 8)),L.flatten=sls M∧L.length=M.length∧∀ (i:Nat) b x,M[i]? = some b→l[i]? = some x→SlLen x b.length:=by
        intro L
        induction L with
        | nil=>intro l _ _; exact ⟨[],rfl,rfl,by simp⟩
        | cons z L ih =>
          intro l hl hz
          cases l with
          | nil=>simp at hl
          | cons y l =>
            obtain ⟨b,rfl,hb⟩:=hz 0 z y rfl rfl
            obtain ⟨M,h1,h2,h3⟩:=ih l (by simpa using hl) fun i xs x h1 h2=>hz (i+1) xs x (by simpa using h1) (by simpa using h2)
            refine ⟨b::M,by rw[List.flatten_cons,h1]; rfl,by simp[h2],fun i b' x hb' hx => ?_⟩
            cases i with
            | zero=>simp at hb' hx; subst hb'; subst hx; exact hb
            | succ i=>exact h3 i b' x (by simpa using hb') (by simpa using hx)
      obtain ⟨M,h1,h2,h3⟩:=key L l hll hq
      exact ⟨M,h1,h2,.inr ⟨l,s,e,by omega,h3⟩⟩
  obtain ⟨M,h1,h2,h3⟩:=hL
  rw[h1,h2] at hr
  exact ⟨v,M,rfl,hr,h3⟩
theorem open_slice8s (ht:P.underlying t=some (.slice u)) (hu:P.underlying u=some (.slice e)) (he:P.underlying e=some (.int .u8)) (hcu:P.cellsOf u=1) (hc:P.cellsOf e=1)
    (hv:Value.okWide P W .any base t v) (h:DataW.Trod enc P W b sp held t v d p):∃ L,Rep1 (allImm W) noPlaces (.isl (sls L) L.length) v∧SlLens d L:=by
  obtain ⟨a0,len0,cap0,rfl⟩:=okWide_slice ht hv
  obtain ⟨fuel,hf⟩:=h
  obtain ⟨v,L,e1,hr,hd⟩:=trod_slice8s ht hu he hcu hc hf
  simp only[Value.cells,List.cons.injEq,zH] at e1
  rw[←e1] at hr
  exact ⟨L,hr,hd⟩
end
theorem sls_nms7 (L:List (List (BitVec 8))):(sls L).flatMap (nms 7)=[]:=by
  rw[List.flatMap_eq_nil_iff]; intro x hx
  simp only[sls,List.mem_map] at hx
  obtain ⟨b,_,rfl⟩:=hx
  show (bs b).flatMap (nms 6)=[]
  rw[List.flatMap_eq_nil_iff]; intro x hx
  simp only[bs,List.mem_map] at hx
  obtain ⟨y,_,rfl⟩:=hx
  rfl
theorem qcJ (L:List (List (BitVec 8))) (n:Nat):nms D (.isl (sls L) n)=[]:=sls_nms7 L
theorem bs_ren_d (d:Nat) (l:List (BitVec 8)) (π:Nm→Option Nm):(bs l).map (ren (d+1) π)=bs l:=by
  simp only[bs,List.map_map]; apply List.map_congr_left; intro x _; rfl
theorem qc6 (π:Nm→Option Nm) (L:List (List (BitVec 8))) (n:Nat):ren D π (.isl (sls L) n) = .isl (sls L) n:=by
  show LV.isl ((sls L).map (ren 7 π)) n=_
  congr 1
  simp only[sls,List.map_map]
  apply List.map_congr_left
  intro b _
  show LV.isl ((bs b).map (ren 6 π)) b.length=_
  rw[bs_ren_d 5]
theorem sls_cell {H:Heap} (L:List (List (BitVec 8))) (i:Nat) (h:i < L.length):cellAt H 1 (.ipt ((sls L).drop i))=some [.isl (bs (L.getD i [])) (L.getD i []).length]:=by
  have h2:i < (sls L).length:=by simp[sls,h]
  rw[cellAt_ipt,if_pos (by rw[zzG]; omega),List.drop_eq_getElem_cons h2,zzK,zzB]
  simp[sls,h]
theorem aB_neq (n:Nat) (f g:Nat→BitVec 8):binV .neq (.flat [(n,.int)]) (.agg (aB n f)) (.agg (aB n g))=some (Bo !(aB_same n f g)):=by
  have h:=aB_eql n f g
  simp only[binV] at h ⊢
  rw[zzA] at h
  obtain ⟨x,h1,h2⟩:=h
  have e:x=aB_same n f g:=by cases x <;> cases h3:aB_same n f g <;> simp_all [Bo]
  rw[h1,e]; rfl
theorem sls_length (L:List (List (BitVec 8))):(sls L).length=L.length:=by simp[sls]
end Go.LE
namespace Go.LE
open Go.ChangeShapes Go.WideShapes Go.ChangeAt Go.RowKit
section
variable {H:Type} {enc:TypeId × Value→H} {P:Program} {W:World} {base b:Nat} {sp:Nat→Bool} {held:Bool} {t u e:TypeId} {n:Nat} {v:Value} {d:DataW H} {p:List MemPlace}
theorem trod_arr8 (hu:P.underlying u=some (.array n e)) (he:P.underlying e=some (.int .u8)) (hc:P.cellsOf e=1) (hcu:P.cellsOf u=n) {fuel:Nat} {cs:List Value} {x:DataW H × List MemPlace}
    (h:DataW.trod enc P W b sp held fuel u cs=some x):∃ l:List (BitVec 8),Rep (allImm W) noPlaces (bs l) cs∧l.length=n:=by
  obtain ⟨xs,m,rfl,rfl,hl,hn,hi⟩:=DataW.trod_array hu h
  rw[hcu] at hl
  have key:∀ i,i < n→∃ a:BitVec 8,cs[i]? = some (.int .u8 (a.toNat:Int)):=by
    intro i h1
    have h2:=hi i h1
    rw[hc,zZ] at h2
    have h3:i < xs.length:=by omega
    rw[List.getElem?_eq_getElem h3] at h2
    obtain ⟨a,e0,e1,wa⟩:=DataW.trod_int he h2
    obtain ⟨y,rfl⟩:=wf_u8 wa
    refine ⟨y,?_⟩
    have h4:i < cs.length:=by rw[hl]; exact h1
    have h5:(cs.drop i).take 1=[cs[i]]:=by
      rw[List.drop_eq_getElem_cons h4]; rfl
    have e0:(cs.drop i).take 1=[.int .u8 (y.toNat:Int)]:=by simpa using e0
    rw[h5] at e0
    rw[List.getElem?_eq_getElem h4]
    simpa using e0
  have hex:∃ f:Nat→BitVec 8,∀ i,i < n→cs[i]? = some (.int .u8 ((f i).toNat:Int)):=by
    refine ⟨fun i=>if h:i < n then (key i h).choose else 0,fun i h => ?_⟩
    simp only[h,dif_pos]
    exact (key i h).choose_spec
  obtain ⟨f,hf⟩:=hex
  refine ⟨(List.range n).map f,?_,by simp⟩
  have e:cs=vB n f:=by
    apply List.ext_getElem?
    intro i
    by_cases h1:i < n
    · rw[hf i h1]; simp[vB,h1]
    · rw[List.getElem?_eq_none (by omega),List.getElem?_eq_none (by simp[vB]; omega)]
  rw[e]
  have e2:bs ((List.range n).map f)=aB n f:=by simp only[bs,aB,arr,List.map_map]; rfl
  rw[e2]
  exact rep_vB _ _ n f
theorem trod_leaves (ht:P.underlying t=some (.slice u)) (hu:P.underlying u=some (.array n e)) (he:P.underlying e=some (.int .u8)) (hcu:P.cellsOf u=n) (hc:P.cellsOf e=1) (h0:0 < n) {fuel:Nat} {cs:List Value} {x:DataW H × List MemPlace}
    (h:DataW.trod enc P W b sp held fuel t cs=some x):∃ v,∃ l:List (BitVec 8) × Nat,cs=[v]∧Rep1 (allImm W) noPlaces (.isl (bs l.1) l.2) v∧l.1.length=n*l.2∧SlLen x.1 l.2:=by
  have hE:∀ (fuel:Nat) (cs:List Value) (x:DataW H × List MemPlace),DataW.trod enc P W b sp held fuel u cs=some x→∃ xs,Rep (allImm W) noPlaces xs cs∧∃ l:List (BitVec 8),xs=bs l∧l.length=n:=by
    intro fuel cs x hx
    obtain ⟨l,hr,hl⟩:=trod_arr8 hu he hc hcu hx
    exact ⟨_,hr,l,rfl,hl⟩
  obtain ⟨v,L,rfl,hr,hl,hd⟩:=trod_sl (Q:=fun xs _=>∃ l:List (BitVec 8),xs=bs l∧l.length=n) ht hcu h0 hE h
  have key:∀ (L:List (List LV)),(∀ xs ∈ L,∃ l:List (BitVec 8),xs=bs l∧l.length=n)→∃ l:List (BitVec 8),L.flatten=bs l∧l.length=n*L.length:=by
    intro L
    induction L with
    | nil=>intro _; exact ⟨[],rfl,rfl⟩
    | cons z L ih =>
      intro hz
      obtain ⟨y,rfl,hy⟩:=hz z (by simp)
      obtain ⟨l,h1,h2⟩:=ih fun xs hx=>hz xs (by simp[hx])
      refine ⟨y++l,by rw[List.flatten_cons,h1]; simp[bs],?_⟩
      rw[zzI,h2,hy,zJ,Nat.mul_succ,Nat.add_comm]
  rcases hd with ⟨rfl,e1⟩ | ⟨l,s,e1,hll,hq⟩
  · exact ⟨v,([],0),rfl,hr,rfl,.inl ⟨rfl,e1⟩⟩
  · obtain ⟨m,h1,h2⟩:=key L (by
      intro xs hx
      obtain ⟨i,hi,rfl⟩:=List.mem_iff_getElem.1 hx
      exact hq i _ (l[i]'(by omega)) (List.getElem?_eq_getElem hi) (List.getElem?_eq_getElem _))
    rw[h1] at hr
    exact ⟨v,(m,L.length),rfl,hr,h2,.inr ⟨l,s,e1,hll⟩⟩
theorem open_leaves32 (ht:P.underlying t=some (.slice u)) (hu:P.underlying u=some (.array 32 e)) (he:P.underlying e=some (.int .u8)) (hcu:P.cellsOf u=32) (hc:P.cellsOf e=1)
    (hv:Value.okWide P W .any base t v) (h:DataW.Trod enc P W b sp held t v d p):∃ l:List (BitVec 8) × Nat,Rep1 (allImm W) noPlaces (.isl (bs l.1) l.2) v∧l.1.length=32*l.2∧SlLen d l.2:=by
  obtain ⟨a0,len0,cap0,rfl⟩:=okWide_slice ht hv
  obtain ⟨fuel,hf⟩:=h
  obtain ⟨v,l,e1,hr,hl,hd⟩:=trod_leaves ht hu he hcu hc (by omega) hf
  simp only[Value.cells,List.cons.injEq,zH] at e1
  rw[←e1] at hr
  exact ⟨l,hr,hl,hd⟩
end
end Go.LE
namespace Go.LE
variable {E:Env} {tm:List LV} {H:Heap} {b:Nat}
theorem frontK_bs (off n:Nat) (l:List (BitVec 8)) (h:off+n≤l.length):frontK off 1 n (some (bs l))=some (bs ((l.drop off).take n)):=by
  simp only[frontK,zZ,qag,if_pos h,bs_drop,bs_take]
theorem frontK_bs_all (n:Nat) (l:List (BitVec 8)) (h:n=l.length):frontK 0 1 n (some (bs l))=some (bs l):=by
  rw[frontK_bs 0 n l (by omega),z8,List.take_of_length_le (by omega)]
theorem frontK_aB (n:Nat) (g:Nat→BitVec 8):frontK 0 1 n (some (aB n g))=some (bs ((List.range n).map g)):=by
  rw[aB_bs,frontK_bs_all n _ (by simp)]
def appW (b k off len:Nat) (new:qaR):Option qaR→Option Out
  | some cs=>if off+len≤cs.length then some ⟨.sl (b,0) 0 (len+k) none 1,[(cs.drop off).take len++new],[]⟩ else none
  | none=>none
theorem appX_cap (k:Nat) (m:Nm) (off len c:Nat) (new:qaR) (h0:0 < len) (hc:c < len+k) (h:len+k≤211106232532992) :
    appX b 1 1 k H [] new (.sl m off len (some c) 1)=appW b k off len new (H m):=by
  rw[appX,if_pos ⟨rfl,by omega,rfl⟩,if_neg (by omega),qcI _ _ _ _ _ _ _ (Nat.le_refl _) (by omega)]
  cases H m with
  | none=>rfl
  | some cs =>
    simp only[frontK,appW,zZ]
    by_cases h1:off+len≤cs.length
    · rw[if_pos h1,if_pos h1]
    · rw[if_neg h1,if_neg h1]
theorem appW_bs (k off len:Nat) (l new:List (BitVec 8)) (h:off+len≤l.length) :
    appW b k off len (bs new) (some (bs l))=some ⟨.sl (b,0) 0 (len+k) none 1,[bs ((l.drop off).take len++new)],[]⟩:=by
  rw[appW,if_pos (by rw[qag]; exact h),bs_drop,bs_take,bs_append]
end Go.LE
namespace Go.LE
end Go.LE
namespace Go.LE
theorem upd_id' {H:Heap} {n:Nm} {x:Option qaR} (h:H n=x):upd H n x=H:=by
  funext m
  rw[qab]
  split
  · rename_i e; subst e; exact h.symm
  · rfl
theorem txt_eql (e:EqT) (a b:List (BitVec 8)):binV .eql e (txt a) (txt b)=some (Bo (decide (a=b))):=by
  have h:∀ l:List (BitVec 8),(ByteArray.mk (l.map fun x=>UInt8.ofNat x.toNat).toArray).toList=l.map fun x=>UInt8.ofNat x.toNat:=by
    intro l; rw[ByteArray.toList_eq]
  simp only[binV,txt,strOp,zI,Bo]
  congr 3
  rw[Bool.eq_iff_iff,zt,decide_eq_true_iff,h,h]
  constructor
  · intro e
    have inj:∀ x y:BitVec 8,UInt8.ofNat x.toNat=UInt8.ofNat y.toNat→x=y:=by
      intro x y e
      have e2:=congrArg UInt8.toNat e
      have hx:=x.isLt; have hy:=y.isLt
      simp[UInt8.toNat_ofNat] at e2
      exact BitVec.eq_of_toNat_eq (by omega)
    exact List.map_inj_right (fun x y e=>inj x y e) |>.1 e
  · rintro rfl; rfl
end Go.LE
namespace Go.LE
theorem qdp (xs:List LV) (n:Nat):qcs (.isl xs n)=some [.isl xs n]:=nf rfl
end Go.LE
namespace Go.LE
def RowIs (H:Heap) (x:LV) (m:Nm) (l:List (BitVec 8)):Prop :=
  ∃ c l',x = .sl m 0 l.length c 1∧H m=some (bs l')∧l.length≤l'.length∧l'.take l.length=l∧(c=none∨c=some l.length)
theorem RowIs.congr {H H':Heap} {x:LV} {m:Nm} {l:List (BitVec 8)} (h:RowIs H x m l) (e:H' m=H m):RowIs H' x m l:=by
  obtain ⟨c,l',h1,h2,h3⟩:=h
  exact ⟨c,l',h1,e.trans h2,h3⟩
theorem RowIs.new {H:Heap} {m:Nm} {l:List (BitVec 8)} {n:Nat} (h:H m=some (bs l)) (hn:l.length=n):RowIs H (.sl m 0 n (some n) 1) m l:=by
  subst hn
  exact ⟨some l.length,l,rfl,h,Nat.le_refl _,List.take_length,.inr rfl⟩
theorem RowIs.un {H:Heap} {m:Nm} {l:List (BitVec 8)} {n:Nat} (h:H m=some (bs l)) (hn:l.length=n):RowIs H (.sl m 0 n none 1) m l:=by
  subst hn
  exact ⟨none,l,rfl,h,Nat.le_refl _,List.take_length,.inl rfl⟩
theorem app_any {b:Nat} {H:Heap} {m:Nm} {x:LV} {l0 l:List (BitVec 8)} {k:Nat} {r:Option Out} (hc:appX b 1 1 k H [] (bs l) x=r) (hx:RowIs H x m l0) (hk:l.length=k) (hlen:l0.length+k≤211106232532992) :
    ∃ x' m' news ms H2,r=some ⟨x',news,ms⟩∧updN b 0 news (modN ms H)=H2∧RowIs H2 x' m' (l0++l)∧(m'=m∨m'=(b,0))∧∀ q,q≠m→q≠(b,0)→H2 q=H q:=by
  subst hc hk
  obtain ⟨c,l',rfl,h1,h2,h3,h4⟩:=hx
  rcases h4 with rfl | rfl
  · refine ⟨.sl (b, 0) 0 (l0.length + l.length) none 1, (b, 0), _, _, _, (appX_none 1 1 l.length m 0 l0.length (bs l) (by omega)).trans (by rw [h1, appN_bytes _ _ _ _ _ _ (by omega), z8, h3]), rfl, ⟨none, l0 ++ l, ?_, ?_, Nat.le_refl _, List.take_length, .inl rfl⟩, .inr rfl, ?_⟩
    · rw[zzI]
    · rw[qaM,qax,qab,if_pos rfl]
    · intro q hq hqb
      rw[qaM,qax,qa0,qay,qab,if_neg hqb,qab,if_neg hq]
  · by_cases h0 : l = []
    · subst h0
      refine ⟨_,m,_,_,H,appX_room (b:=b) 0 m 0 l0.length l0.length l' [] h1 (by simp; omega) (by simp; omega) (by simp),?_,⟨some l0.length,l',?_,h1,by simpa using h2,by simpa using h3,.inr (by simp)⟩,.inl rfl,fun _ _ _=>rfl⟩
      · rw [qax, qa0, qay]
        simp only[zB,zR,zM,zE,List.take_append_drop]
        exact upd_id' h1
      · simp
    · have hp : 0 < l.length := List.length_pos_iff.2 h0
      refine ⟨.sl (b,0) 0 (l0.length+l.length) none 1,(b,0),_,_,_,(appX_full (b:=b) l.length m 0 l0.length l0.length l' l h1 (by omega) (by omega) (by omega)).trans (by rw[z8,h3]),rfl,⟨none,l0++l,?_,?_,Nat.le_refl _,List.take_length,.inl rfl⟩,.inr rfl,?_⟩
      · rw[zzI]
      · rw[qaM,qax,qab,if_pos rfl]
      · intro q hq hqb
        rw[qaM,qax,qay,qab,if_neg hqb]
theorem RowIs.front {H:Heap} {x:LV} {m:Nm} {l:List (BitVec 8)} (h:RowIs H x m l):front H 1 l.length x=some (bs l):=by
  obtain ⟨c,l',rfl,h1,h2,h3,_⟩:=h
  rw[front_bytes m 0 l.length c l' h1 (by omega),z8,h3]
theorem RowIs.lenOf {H:Heap} {x:LV} {m:Nm} {l:List (BitVec 8)} (h:RowIs H x m l):lenOf x=some l.length:=by
  obtain ⟨c,l',rfl,_⟩:=h; rfl
theorem RowIs.lenS {H:Heap} {x:LV} {m:Nm} {l:List (BitVec 8)} (h:RowIs H x m l):lenS x=some l.length:=by
  obtain ⟨c,l',rfl,_⟩:=h; rfl
theorem RowIs.nms {H:Heap} {x:LV} {m:Nm} {l:List (BitVec 8)} (h:RowIs H x m l):nms D x=[m]:=by
  obtain ⟨c,l',rfl,_⟩:=h; rfl
theorem RowIs.isCell {H:Heap} {x:LV} {m:Nm} {l:List (BitVec 8)} (h:RowIs H x m l):isCell x=true:=by
  obtain ⟨c,l',rfl,_⟩:=h; rfl
theorem RowIs.cellsOf {H:Heap} {x:LV} {m:Nm} {l:List (BitVec 8)} (h:RowIs H x m l):qcs x=some [x]:=by
  obtain ⟨c,l',rfl,_⟩:=h; rfl
def LentA (H:Heap) (B:LV) (b:List (BitVec 8)) (lent:List Nm):Prop := ∀ d,snap H (d+2) B=some (.isl (bs b) b.length,lent)
theorem lentA_sl (H:Heap) (n:Nm) (off len:Nat) (c:Option Nat) (l:List (BitVec 8)) (h:H n=some (bs l)) (hl:off+len≤l.length) (h0:len≠0):LentA H (.sl n off len c 1) ((l.drop off).take len) [n]:=by
  intro d
  have:((l.drop off).take len).length=len:=by rw[zzJ,zzG]; omega
  simp only[snap,if_neg h0,h,bs_drop,zZ,bs_take,snapL_bs,zI,this]
theorem lentA_zero (H:Heap) (n:Nm) (off:Nat) (c:Option Nat) (es:Nat):LentA H (.sl n off 0 c es) [] []:=fun _=>nf rfl
theorem lentA_row {H:Heap} {x:LV} {m:Nm} {l:List (BitVec 8)} (h:RowIs H x m l):∃ lent,LentA H x l lent∧∀ n ∈ lent,n=m:=by
  obtain ⟨c,l',rfl,h1,h2,h3,_⟩:=h
  by_cases h0:l.length=0
  · have : l = [] := List.length_eq_zero_iff.1 h0
    subst this
    exact ⟨[],lentA_zero H m 0 c 1,by simp⟩
  · have := lentA_sl H m 0 l.length c l' h1 (by omega) h0
    rw[z8,h3] at this
    exact ⟨[m],this,by simp⟩
end Go.LE
namespace Go.LE
variable {P:Program} {R:Imm} {p:qb5} {w:World} {E:Env} {H:Heap}
abbrev FF (ro:Option Nat):Fence:={ Fence.wide with round:=ro }
variable {ro:Option Nat} {n:Nat}
theorem callsIn_round {f:FuncId} {args:Array Value} {w:World} {Q:Ending→World→Prop} (h:Calls P f args w Q):CallsIn (FF ro) n P f args w Q :=
  (callsIn_wide (n:=n)).2 h
def Same (dst:Option Nat) (a a':Act):Prop := ∀ t,dst≠some t→a'.tmps[t]? = a.tmps[t]?
theorem put_slot {a:Act} {d:Option Nat} {v:Value}:Same d a (a.put d v):=by
  intro t h
  cases d with
  | none=>rfl
  | some d =>
    have:d≠t:=fun e=>h (by rw[e])
    simp[Act.put,Array.getElem?_setIfInBounds,this]
theorem wp_in {o:Oper} {a:Act} {K:Act→World→Prop} {Q:Exit→Act→World→Prop} (hd:∀ c,o.op ≠ .defer c) (h:o.wp P a w K Q) :
    o.wpIn (FF ro) n P a w (fun a' w'=>K a' w'∧Same o.dst a a') Q:=by
  unfold Oper.wp at h
  unfold Oper.wpIn
  rw[Oper.semAt_eq _ _ _ hd]
  refine ⟨fun _ _=>trivial,?_⟩
  have hn:(FF ro).depth.isSome=true→1≤n:=fun h=>by cases h
  generalize (execOp a.eval o).run P w=r at h
  cases r with
  | ok x w' =>
    cases x with
    | value v=>exact ⟨h,put_slot⟩
    | skip=>exact ⟨h,put_slot⟩
    | defer d=>exact ⟨h,fun t ht=>(put_slot (a:={ a with defers:=d::a.defers }) t ht)⟩
    | enter f args =>
      refine ⟨hn,CallsIn.mono (callsIn_round h) ?_⟩
      intro e w'' he
      cases e with
      | returned v=>exact ⟨he,put_slot⟩
      | panicked c=>exact he
      | outgrown=>exact he
    | row row args=>exact ⟨hn,fun c cs _=>let ⟨v,w',r,s⟩:=h c cs; ⟨v,w',⟨r,put_slot⟩,stepsIn_wide.2 s⟩⟩
    | _=>exact h.elim
  | halt c w'=>cases c <;> first | exact h | exact h.elim
theorem compOp_noDefer {op:Op} {lo:LOp} (h:compOp P op=some lo):∀ c,op ≠ .defer c:=by
  rintro c rfl
  cases h
def SameAll (ops:Array Oper) (a a':Act):Prop := ∀ t,(∀ (i:Nat) (o:Oper),ops[i]? = some o→o.dst≠some t)→a'.tmps[t]? = a.tmps[t]?
theorem Same.all {ops:Array Oper} {i:Nat} {o:Oper} (ho:ops[i]? = some o) {a0 a a':Act} (h0:SameAll ops a0 a) (h:Same o.dst a a'):SameAll ops a0 a' :=
  fun t ht=>(h t (ht i o ho)).trans (h0 t ht)
theorem wpOp_in {ops:Array Oper} {Q:Exit→Act→World→Prop} (hl:¬ LetsOut Q) (hd:∀ (i:Nat) (o:Oper),ops[i]? = some o→∀ c,o.op ≠ .defer c) {i:Nat} {K:Act→World→Prop} {a a0:Act} (h0:SameAll ops a0 a)
    (h:wpOp P ops Q i K a w):wpOpIn (FF ro) n P ops Q i (fun a' w'=>K a' w'∧SameAll ops a0 a') a w:=by
  unfold wpOp at h
  unfold wpOpIn
  cases ho:ops[i]? with
  | none=>simp only[ho] at h ⊢; exact ⟨h,h0⟩
  | some o =>
    simp only[ho] at h ⊢
    by_cases hw:Region.wanted o (yielded ops a.tmps)=true
    · simp only [hw, zC] at h ⊢
      rcases h with h | ⟨_,h⟩
      · exact Oper.wpIn_mono (fun a' w' ⟨q1,q2⟩=>⟨q1,q2.all ho h0⟩) (wp_in (hd i o ho) h)
      · exact absurd h hl
    · simp only [hw] at h ⊢
      exact ⟨fun _ _=>trivial,h,put_slot.all ho h0⟩
theorem uponIn_post {F:Fence} {o:Oper} {a:Act} {K:Act→World→Prop} {Q Q':Exit→Act→World→Prop} (hQ:∀ e a w,Q e a w→e ≠ .normal→Q' e a w) {r:Result Next} (h:o.uponIn F n P a K Q r):o.uponIn F n P a K Q' r:=by
  have ho:LetsOut Q→LetsOut Q':=fun ⟨a,w,h⟩=>⟨a,w,hQ _ _ _ h (by simp)⟩
  cases r with
  | ok x w' =>
    cases x <;> simp only [Oper.uponIn] at h ⊢ <;>
      first
        | exact h
        | exact ⟨h.1,CallsIn.mono h.2 (fun e w'' he=>by cases e <;> first | exact he | exact hQ _ _ _ he (by simp) | exact ho he)⟩
        | exact ⟨h.1,RoundIn.mono h.2 (fun e w'' he=>by cases e <;> first | exact he | exact hQ _ _ _ he (by simp) | exact ho he)⟩
  | halt x w'=>cases x <;> simp only[Oper.uponIn] at h ⊢ <;> first | exact h | exact hQ _ _ _ h (by simp)
theorem wpOpIn_post {F:Fence} {ops:Array Oper} {i:Nat} {K:Act→World→Prop} {a:Act} {Q Q':Exit→Act→World→Prop} (h:wpOpIn F n P ops Q i K a w) (hQ:∀ e a w,Q e a w→e ≠ .normal→Q' e a w):wpOpIn F n P ops Q' i K a w:=by
  unfold wpOpIn at *
  cases ho:ops[i]? with
  | none=>simp only[ho] at h ⊢; exact h
  | some o =>
    simp only[ho] at h ⊢
    split
    · rename_i hw
      simp only[hw,zC] at h
      exact ⟨h.1,uponIn_post hQ h.2⟩
    · rename_i hw
      simp only[hw] at h
      exact h
theorem wpOps_in {ops:Array Oper} {Q:Exit→Act→World→Prop} (hl:¬ LetsOut Q) (hd:∀ (i:Nat) (o:Oper),ops[i]? = some o→∀ c,o.op ≠ .defer c):∀ (is:List Nat) (a a0:Act) (w:World),SameAll ops a0 a →
    wpOps P ops Q is a w→wpOpsIn (FF ro) n P ops (fun e a' w'=>Q e a' w'∧(e = .normal→SameAll ops a0 a')) is a w:=by
  intro is
  induction is with
  | nil=>intro a a0 w h0 h; exact ⟨h,fun _=>h0⟩
  | cons i is ih =>
    intro a a0 w h0 h
    rw[wpOps_cons] at h
    rw[wpOpsIn_cons]
    have h1:=wpOpIn_mono (fun a' w' ⟨q1,q2⟩=>ih a' a0 w' q2 q1) (wpOp_in (ro:=ro) (n:=n) hl hd h0 h)
    exact wpOpIn_post h1 (fun e a w hq he=>⟨hq,fun h=>absurd h he⟩)
theorem wpAny_in {md:Region.Mode} {ops:Array Oper} {Q:Exit→Act→World→Prop} (hl:¬ LetsOut Q) (hd:∀ (i:Nat) (o:Oper),ops[i]? = some o→∀ c,o.op ≠ .defer c):∀ (fuel:Nat) (listed:Array Bool) (a a0:Act) (w:World),SameAll ops a0 a →
    wpAny P md ops Q fuel listed a w→wpAnyIn (FF ro) n P md ops (fun e a' w'=>Q e a' w'∧(e = .normal→SameAll ops a0 a')) fuel listed a w:=by
  intro fuel
  induction fuel with
  | zero=>intro listed a a0 w h0 h; exact ⟨h.1,h.2,fun _=>h0⟩
  | succ fuel ih =>
    intro listed a a0 w h0 h
    refine ⟨fun hr=>⟨h.1 hr,fun _=>h0⟩,fun i hi => ?_⟩
    have h1:=wpOpIn_mono (fun a' w' ⟨q1,q2⟩=>ih _ a' a0 w' q2 q1) (wpOp_in (ro:=ro) (n:=n) hl hd h0 (h.2 i hi))
    exact wpOpIn_post h1 (fun e a w hq he=>⟨hq,fun h=>absurd h he⟩)
def wr:LCode→List Nat
  | .region ops=>ops.filterMap (·.dst)
  | .seq a b=>wr a++wr b
  | .seqz a _ b=>wr a++wr b
  | .cond _ a b=>wr a++wr b
  | .block _ c=>wr c
  | .loop _ c=>wr c
  | _=>[]
def Kept (lc:LCode) (a a':Act):Prop := ∀ t,t ∉ wr lc→a'.tmps[t]? = a.tmps[t]?
theorem ev_in (hE:CalOk P E) {R:Imm} {p:qb5} {H:Heap} {w:World} {a:Act} (hg:Globs E.gl R) (k:Nat):∀ (c:Code) (lc:LCode),CRel P c lc →
    ∀ (st:St) (R':Imm) (p':qb5) (a':Act) (w':World) (ex:Ex) (st':St),CAft R p H w a st R' p' a' w'→ev E k lc st=some (ex,st') →
    ∀ Q:Exit→Act→World→Prop,(∀ R'' p'' a'' w'',CAft R p H w a st' R'' p'' a'' w''→Kept lc a' a''→Q (exOf ex) a'' w'')→c.wpIn (FF ro) n P Q a' w':=by
  intro c
  induction c with
  | skip =>
    intro lc hc st R' p' a' w' ex st' h he Q hQ
    cases lc <;> first | exact hc.elim | skip
    simp only[ev,Option.some.injEq,zD] at he
    obtain ⟨rfl,rfl⟩:=he
    exact wpIn_skip (hQ _ _ _ _ h (fun _ _=>rfl))
  | region id ops draw =>
    intro lc hc st R' p' a' w' ex st' h he Q hQ
    cases lc <;> first | exact hc.elim | skip
    rename_i los
    simp only[CRel,compRegion] at hc
    simp only[ev,evRegion,zzA,zD] at he
    obtain ⟨st2,⟨st1,he,rfl⟩,rfl,rfl⟩:=he
    have hg':Globs E.gl R':=fun g xs hx=>by obtain ⟨cs,c1,c2⟩:=hg g xs hx; exact ⟨cs,h.ext.imm _ _ c1,c2⟩
    let Q0:Exit→Act→World→Prop:=fun e a'' w''=>match e with | .normal=>∃ R'' p'',CAft R p H w a { st1 with nx:=st.nx+los.length } R'' p'' a'' w'' | _=>False
    have hl0:¬ LetsOut Q0:=fun ⟨_,_,h⟩=>h
    have fin:∀ e a'' w'',(Q0 e a'' w''∧(e = .normal→SameAll ops a' a''))→(∀ (i:Nat) (o:Oper),ops[i]? = some o→∃ lo ∈ los,lo.dst=o.dst)→Q e a'' w'':=by
      rintro e a'' w'' ⟨h1,h2⟩ hd
      cases e with
      | normal =>
        obtain ⟨R'',p'',h1⟩:=h1
        refine hQ _ _ _ _ h1 (fun t ht=>h2 rfl t (fun i o ho hd' => ?_))
        obtain ⟨lo,q1,q2⟩:=hd i o ho
        exact ht (List.mem_filterMap.2 ⟨lo,q1,by rw[q2,hd']⟩)
      | _=>exact h1.elim
    have dsts:∀ (as:List Nat),compOpers P ops draw as 0 ops.toList=some los→(∀ (i:Nat) (o:Oper),ops[i]? = some o→∃ lo ∈ los,lo.dst=o.dst)∧(∀ (i:Nat) (o:Oper),ops[i]? = some o→∀ c,o.op ≠ .defer c):=by
      intro as hc
      obtain ⟨_,hget⟩:=compOpers_get _ _ _ hc
      refine ⟨fun i o ho => ?_,fun i o ho => ?_⟩
      · obtain ⟨lo, q1, q2⟩ := hget i o (by simpa using ho)
        exact ⟨lo,List.mem_of_getElem? q1,(compOper_spec q2).2.2.1⟩
      · obtain ⟨lo, q1, q2⟩ := hget i o (by simpa using ho)
        exact compOp_noDefer (compOper_spec q2).1
    cases draw with
    | false =>
      have hc:compOpers P ops false [] 0 ops.toList=some los:=by simpa using hc
      have hlen:los.length=ops.size:=by simpa using compOpers_len _ _ _ hc
      obtain ⟨d1,d2⟩:=dsts _ hc
      refine wpIn_mono (wpIn_region (Q:=fun e a'' w''=>Q0 e a'' w''∧(e = .normal→SameAll ops a' a'')) ?_) (fun e a'' w'' h=>fin e a'' w'' h d1)
      have := opers_seq hE (ops := ops) (base0 := st.nx) (lim := st.nx) (a := a') (w := w') (p := p') (H := st.H) hg' (Nat.le_refl _) (Q := Q0) ops.toList 0 los [] st st1 R' p' a' w' rfl hc he
        ⟨h.rep,h.sim,Ext.refl _ _ _ _,fun _ _ h=>h,fun _ _ h => .inl h,rfl⟩ h.fresh (fun R'' p'' a'' w'' q1 q2=>by show ∃ R'' p'',CAft R p H w a { st1 with nx:=st.nx+los.length } R'' p'' a'' w''; rw[hlen]; exact ⟨_,_,h.of_aft q1 (by simpa using q2)⟩)
      refine wpOps_in hl0 d2 _ a' a' w' (fun _ _=>rfl) ?_
      rw[List.range_eq_range']
      simpa using this
    | true =>
      have hc':(P.follows .mixedOrders=true∧orderOk ops (aheads ops.toList)=true)∧compOpers P ops true (aheads ops.toList) 0 ops.toList=some los:=by
        simp only[zf,Bool.false_or,zC] at hc
        split at hc
        · rename_i hd
          exact ⟨by simpa using hd,hc⟩
        · cases hc
      obtain ⟨hd,hc⟩:=hc'
      have hlen:los.length=ops.size:=by simpa using compOpers_len _ _ _ hc
      obtain ⟨d1,d2⟩:=dsts _ hc
      refine wpIn_mono (wpIn_region_any (Q:=fun e a'' w''=>Q0 e a'' w''∧(e = .normal→SameAll ops a' a'')) hd.1 ?_) (fun e a'' w'' h=>fin e a'' w'' h d1)
      refine wpAny_in hl0 d2 _ _ a' a' _ (fun _ _=>rfl) ?_
      refine region_any (w:={ w' with drawn:=w'.drawn+1 }) hE hg' hd.2 hc he h.rep (h.sim.of_heap rfl) h.fresh ?_
      intro R'' p'' a'' w'' q1 q2
      show ∃ R'' p'',CAft R p H w a { st1 with nx:=st.nx+los.length } R'' p'' a'' w''
      rw[hlen]
      refine ⟨_,_,h.of_aft ⟨q1.rep,q1.sim,?_,q1.mono,q1.fresh,q1.defers⟩ q2⟩
      exact (Ext.of_heap (w:=w') (w':={ w' with drawn:=w'.drawn+1 }) rfl).trans q1.ext
  | seq x y ihx ihy =>
    intro lc hc st R' p' a' w' ex st' h he Q hQ
    cases lc <;> first | exact hc.elim | skip
    · rename_i lx ly
      simp only[ev] at he
      refine wpIn_seq ?_
      cases hx:ev E k lx st with
      | none=>simp[hx,andThen] at he
      | some r =>
        obtain ⟨e1,st1⟩:=r
        refine ihx lx hc.1 st R' p' a' w' e1 st1 h hx _ ?_
        intro R'' p'' a'' w'' h1 k1
        have kx:Kept (.seq lx ly) a' a'':=fun t ht=>k1 t (fun hm=>ht (by simp[wr,hm]))
        rw[hx] at he
        cases e1 with
        | normal=>exact ihy ly hc.2 st1 R'' p'' a'' w'' ex st' h1 he Q (fun R3 p3 a3 w3 h3 k3=>hQ _ _ _ _ h3 (fun t ht=>(k3 t (fun hm=>ht (by simp[wr,hm]))).trans (kx t ht)))
        | exit i =>
          simp only[andThen,Option.some.injEq,zD] at he
          obtain ⟨rfl,rfl⟩:=he
          exact hQ _ _ _ _ h1 kx
        | ret =>
          simp only[andThen,Option.some.injEq,zD] at he
          obtain ⟨rfl,rfl⟩:=he
          exact hQ _ _ _ _ h1 kx
    · rename_i lx s ly
      simp only[ev] at he
      refine wpIn_seq ?_
      cases hx:ev E k lx st with
      | none=>simp[hx,andThen] at he
      | some r =>
        obtain ⟨e1,st1⟩:=r
        refine ihx lx hc.1 st R' p' a' w' e1 st1 h hx _ ?_
        intro R'' p'' a'' w'' h1 k1
        have kx:Kept (.seqz lx s ly) a' a'':=fun t ht=>k1 t (fun hm=>ht (by simp[wr,hm]))
        rw[hx] at he
        cases e1 with
        | normal =>
          obtain ⟨Rz,hz⟩:=h1.fz s
          exact ihy ly hc.2 _ Rz p'' a'' w'' ex st' hz he Q (fun R3 p3 a3 w3 h3 k3=>hQ _ _ _ _ h3 (fun t ht=>(k3 t (fun hm=>ht (by simp[wr,hm]))).trans (kx t ht)))
        | exit i =>
          simp only[andThen,Option.some.injEq,zD] at he
          obtain ⟨rfl,rfl⟩:=he
          exact hQ _ _ _ _ h1 kx
        | ret =>
          simp only[andThen,Option.some.injEq,zD] at he
          obtain ⟨rfl,rfl⟩:=he
          exact hQ _ _ _ _ h1 kx
  | cond c x y ihx ihy =>
    intro lc hc st R' p' a' w' ex st' h he Q hQ
    cases lc <;> first | exact hc.elim | skip
    rename_i lc' lx ly
    obtain ⟨rfl,h1,h2⟩:=hc
    have hg':Globs E.gl R':=fun g xs hx=>by obtain ⟨cs,c1,c2⟩:=hg g xs hx; exact ⟨cs,h.ext.imm _ _ c1,c2⟩
    simp only[ev] at he
    split at he
    · rename_i t ht
      have hv:=evX_rep hg' h.rep c
      rw[ht] at hv
      have hv:a'.eval c = .bool t:=by
        generalize a'.eval c=y at hv
        cases hv; rfl
      cases t with
      | true=>exact wpIn_cond_true hv (ihx lx h1 st R' p' a' w' ex st' h (by simpa using he) Q (fun R3 p3 a3 w3 h3 k3=>hQ _ _ _ _ h3 (fun t ht=>k3 t (fun hm=>ht (by simp[wr,hm])))))
      | false=>exact wpIn_cond_false hv (ihy ly h2 st R' p' a' w' ex st' h (by simpa using he) Q (fun R3 p3 a3 w3 h3 k3=>hQ _ _ _ _ h3 (fun t ht=>k3 t (fun hm=>ht (by simp[wr,hm])))))
    · cases he
  | block id c ih =>
    intro lc hc st R' p' a' w' ex st' h he Q hQ
    cases lc <;> first | exact hc.elim | skip
    rename_i id' lx
    obtain ⟨rfl,h1⟩:=hc
    refine wpIn_block ?_
    simp only[ev] at he
    cases hx:ev E k lx st with
    | none=>simp[hx,inBlock] at he
    | some r =>
      obtain ⟨e1,st1⟩:=r
      refine ih lx h1 st R' p' a' w' e1 st1 h hx _ ?_
      intro R'' p'' a'' w'' h2 k2
      rw[hx] at he
      cases e1 with
      | normal =>
        simp only[inBlock,Option.some.injEq,zD] at he
        obtain ⟨rfl,rfl⟩:=he
        exact hQ _ _ _ _ h2 k2
      | exit i =>
        simp only[inBlock] at he
        simp only[exOf,Exit.inBlock]
        split at he
        · rename_i e
          obtain ⟨rfl,rfl⟩:=Prod.mk.inj (Option.some.inj he)
          rw[if_pos e]
          exact hQ _ _ _ _ h2 k2
        · rename_i e
          obtain ⟨rfl,rfl⟩:=Prod.mk.inj (Option.some.inj he)
          rw[if_neg e]
          exact hQ _ _ _ _ h2 k2
      | ret =>
        simp only[inBlock,Option.some.injEq,zD] at he
        obtain ⟨rfl,rfl⟩:=he
        exact hQ _ _ _ _ h2 k2
  | loop c ih =>
    intro lc hc st R' p' a' w' ex st' h he Q hQ
    cases lc <;> first | exact hc.elim | skip
    rename_i keep lx
    simp only[ev] at he
    have rounds:∀ (m:Nat) (st:St) (R':Imm) (p':qb5) (a1:Act) (w':World),CAft R p H w a st R' p' a1 w'→Kept lx a' a1→qca keep (ev E k lx) m st=some (ex,st')→Code.roundsIn (FF ro) n P c Q m a1 w':=by
      intro m
      induction m with
      | zero=>intro st R' p' a' w' _ _ h; cases h
      | succ m ihn =>
        intro st R' p' a1 w' h hk1 he
        rw[roundsIn_succ]
        obtain ⟨p2,h2⟩:=h.canon keep
        simp only[qca] at he
        cases hx:ev E k lx (LE.qby keep st) with
        | none=>simp[hx] at he
        | some r =>
          obtain ⟨e1,st1⟩:=r
          refine ih lx hc _ R' p2 a1 w' e1 st1 h2 hx _ ?_
          intro R'' p'' a'' w'' h3 k3
          have k4:Kept lx a' a'':=fun t ht=>(k3 t ht).trans (hk1 t ht)
          rw[hx] at he
          cases e1 with
          | normal=>exact ihn st1 R'' p'' a'' w'' h3 k4 he
          | exit i =>
            simp only[Option.some.injEq,zD] at he
            obtain ⟨rfl,rfl⟩:=he
            exact hQ _ _ _ _ h3 k4
          | ret =>
            simp only[Option.some.injEq,zD] at he
            obtain ⟨rfl,rfl⟩:=he
            exact hQ _ _ _ _ h3 k4
    exact wpIn_loop_rounds k (rounds k st R' p' a' w' h (fun _ _=>rfl) he)
  | exit i =>
    intro lc hc st R' p' a' w' ex st' h he Q hQ
    cases lc <;> first | exact hc.elim | skip
    simp only[CRel] at hc
    subst hc
    simp only[ev,Option.some.injEq,zD] at he
    obtain ⟨rfl,rfl⟩:=he
    exact wpIn_exit (hQ _ _ _ _ h (fun _ _=>rfl))
  | ret =>
    intro lc hc st R' p' a' w' ex st' h he Q hQ
    cases lc <;> first | exact hc.elim | skip
    simp only[ev,Option.some.injEq,zD] at he
    obtain ⟨rfl,rfl⟩:=he
    exact wpIn_ret (hQ _ _ _ _ h (fun _ _=>rfl))
  | _ =>
    intro lc hc
    cases lc <;> exact hc.elim
end Go.LE
namespace Go.LE
open Go.RowKit
variable {P:Program} {R:Imm} {p:qb5} {w:World} {E:Env} {H:Heap}
theorem CAft.grow {a:Act} {st:St} {R':Imm} {p':qb5} {a':Act} {W W':World} (h:CAft R p H w a st R' p' a' W) (hsz:W.heap.size≤W'.heap.size)
    (hb:∀ (b:Nat) (o:Obj),W.heap[b]? = some o→(o.isCells=true∨b < w.heap.size)→W'.heap[b]? = some o) (hio:W'.os=W.os∧W'.output=W.output∧W'.tape=W.tape):CAft R p H w a st R' p' a' W':=by
  refine ⟨h.rep,⟨?_,h.sim.inj,?_⟩,⟨h.ext.imm,Nat.le_trans h.ext.size hsz,?_,h.ext.newImm,h.ext.own,hio.1.trans h.ext.io.1,hio.2.1.trans h.ext.io.2.1,hio.2.2.trans h.ext.io.2.2⟩,h.fresh,h.zero,h.two,h.defers⟩
  · intro n cs hn
    rcases h.sim.obj n cs hn with h1 | ⟨b,o,s,vs,T,fz,a,l⟩
    · exact .inl h1
    · exact .inr ⟨b,o,s,vs,T,fz,a,hb _ _ l.heap (.inl rfl),l.imm,l.free,l.size,l.fits,l.rep⟩
  · intro b cs hi
    obtain ⟨vs,T,fz,e1,e2⟩:=h.sim.imm b cs hi
    exact ⟨vs,T,fz,hb _ _ e1 (.inl rfl),e2⟩
  · intro b hlt hn
    have h1:=h.ext.kept b hlt hn
    have hlt':b < W.heap.size:=Nat.lt_of_lt_of_le hlt h.ext.size
    have h2:=Array.getElem?_eq_getElem hlt'
    rw[hb b W.heap[b] h2 (.inr hlt),←h2,h1]
theorem CAft.put {a:Act} {st:St} {R':Imm} {p':qb5} {a':Act} {W:World} (h:CAft R p H w a st R' p' a' W) {l:Nat} {o:Obj} (o':Obj) (hl:W.heap[l]? = some o) (ho:o.isCells=false) (hle:w.heap.size≤l) :
    CAft R p H w a st R' p' a' (W.putObj l o') :=
  h.grow (by simp [World.putObj]) (fun b o1 h1 h2 => by
    have:b≠l:=by
      rintro rfl
      rcases h2 with h2 | h2
      · rw[hl] at h1; cases h1; rw[ho] at h2; cases h2
      · omega
    rw[World.putObj_heap_other this]; exact h1) ⟨rfl,rfl,rfl⟩
theorem CAft.more {a:Act} {st:St} {R':Imm} {p':qb5} {a':Act} {W:World} (h:CAft R p H w a st R' p' a' W) (o:Obj):CAft R p H w a st R' p' a' (W.alloc o) :=
  h.grow (by simp) (fun b o1 h1 _=>(Below.heap_alloc W o b (Array.getElem?_eq_some_iff.1 h1).1).trans h1) ⟨rfl,rfl,rfl⟩
theorem mask_swap:∀ (tm:List LV) (keep:List Bool) (ys zs:List Value),Rep R p tm ys→zs.length=ys.length→(∀ t:Nat,keep[t]? = some true→zs[t]? = ys[t]?)→Rep R p (mask keep tm) zs:=by
  intro tm
  induction tm with
  | nil =>
    intro keep ys zs h hl _
    cases h
    cases zs with
    | nil=>cases keep <;> exact .nil
    | cons z zs=>simp at hl
  | cons x xs ih =>
    intro keep ys zs h hl hk
    obtain ⟨y,ys,rfl,h1,h2⟩:=h.uncons
    cases zs with
    | nil=>simp at hl
    | cons z zs =>
      cases keep with
      | nil=>exact .undef (ih [] ys zs h2 (by simpa using hl) (fun t ht=>by simp at ht))
      | cons b bs =>
        have ih':=ih bs ys zs h2 (by simpa using hl) (fun t ht=>by simpa using hk (t+1) (by simpa using ht))
        simp only[mask]
        cases b with
        | false=>exact .undef ih'
        | true =>
          have e:z=y:=by simpa using hk 0 rfl
          subst e
          exact Rep.cons h1 ih'
theorem mask_mask:∀ (tm:List LV) (keep:List Bool),mask keep (mask keep tm)=mask keep tm:=by
  intro tm
  induction tm with
  | nil=>intro keep; cases keep <;> rfl
  | cons x xs ih =>
    intro keep
    cases keep with
    | nil=>simp only[mask]; rw[ih]
    | cons b bs=>simp only[mask]; rw[ih]; cases b <;> rfl
def masked (keep:List Bool) (st:St):St:={ st with tm:=mask keep st.tm }
theorem canon_masked (keep:List Bool) (st:St):qby keep (masked keep st)=qby keep st:=by
  simp only[qby,masked,mask_mask]
def begun (keep:List Bool) (t:Nat) (x:LV) (st:St):St:={ qby keep st with tm:=(qby keep st).tm.set t x }
def rounds (E:Env) (k:Nat) (la lb:LCode) (t:Nat) (keep:List Bool):List LV→St→Option St
  | [],st=>some st
  | x::xs,st=>match ev E k (la.seq lb) (begun keep t x st) with
    | some (.normal,st')=>rounds E k la lb t keep xs st'
    | _=>none
theorem Ext.others {R':Imm} {p':qb5} {H':Heap} {W W':World} (h:Ext R p H W R' p' H' W') (hs:Sim R p H W) {b:Nat} {o:Obj} (hb:W.heap[b]? = some o) (ho:o.isCells=false):W'.heap[b]? = some o:=by
  rw[h.kept b (Array.getElem?_eq_some_iff.1 hb).1]
  · exact hb
  · rintro ⟨n, cs, o', s, h1, h2⟩
    obtain ⟨vs,T,fz,l⟩:=hs.at h1 h2
    rw[l.heap] at hb; cases hb; cases ho
theorem mask_len:∀ (tm:List LV) (keep:List Bool),(mask keep tm).length=tm.length:=by
  intro tm
  induction tm with
  | nil=>intro keep; cases keep <;> rfl
  | cons x xs ih=>intro keep; cases keep <;> simp[mask,ih]
theorem evOper_len {base0 i:Nat} {o:LOper} {log log':List Done} {st st':St} (h:evOper E base0 i o log st=some (st',log')):st'.tm.length=st.tm.length:=by
  unfold evOper at h
  split at h
  · cases h
  · obtain ⟨rfl,rfl⟩:=Prod.mk.inj (Option.some.inj h); exact put_len
  · split at h
    · split at h
      · cases h
      · obtain ⟨rfl,rfl⟩:=Prod.mk.inj (Option.some.inj h); exact put_len
    · simp only at h
      split at h
      · cases h
      · split at h
        · obtain ⟨rfl,rfl⟩:=Prod.mk.inj (Option.some.inj h); exact put_len
        · cases h
theorem evOpers_len {base0:Nat}:∀ (los:List LOper) (i:Nat) (log:List Done) (st st':St),qcQ E base0 i los log st=some st'→st'.tm.length=st.tm.length:=by
  intro los
  induction los with
  | nil=>intro i log st st' h; simp[qcQ] at h; rw[h]
  | cons lo los ih =>
    intro i log st st' h
    simp only[qcQ] at h
    split at h
    · rename_i st1 log1 he
      exact (ih _ _ _ _ h).trans (evOper_len he)
    · cases h
theorem loopN_len {keep:List Bool} {f:St→Option (Ex × St)} (hf:∀ st e st',f st=some (e,st')→st'.tm.length=st.tm.length):∀ (n:Nat) (st:St) (e:Ex) (st':St),qca keep f n st=some (e,st')→st'.tm.length=st.tm.length:=by
  intro n
  induction n with
  | zero=>intro st e st' h; cases h
  | succ n ih =>
    intro st e st' h
    simp only[qca] at h
    have hc:(qby keep st).tm.length=st.tm.length:=by simp[qby,mask_len]
    cases hx:f (qby keep st) with
    | none=>simp[hx] at h
    | some r =>
      obtain ⟨e1,st1⟩:=r
      rw[hx] at h
      have h1:=(hf _ _ _ hx).trans hc
      cases e1 with
      | normal=>exact (ih _ _ _ h).trans h1
      | exit i=>obtain ⟨rfl,rfl⟩:=Prod.mk.inj (Option.some.inj h); exact h1
      | ret=>obtain ⟨rfl,rfl⟩:=Prod.mk.inj (Option.some.inj h); exact h1
theorem fzSt_len (s:Nat) (st:St):(fzSt s st).tm.length=st.tm.length:=by
  unfold fzSt
  split
  · simp
  · rfl
theorem ev_len {k:Nat}:∀ {lc:LCode} {st:St} {e:Ex} {st':St},ev E k lc st=some (e,st')→st'.tm.length=st.tm.length:=by
  intro lc
  induction lc with
  | skip=>intro st e st' h; obtain ⟨rfl,rfl⟩:=Prod.mk.inj (Option.some.inj h); rfl
  | region ops =>
    intro st e st' h
    simp only[ev,evRegion,zzA,zD] at h
    obtain ⟨st2,⟨st1,he,rfl⟩,rfl,rfl⟩:=h
    exact evOpers_len _ _ _ _ st1 he
  | seq a b iha ihb =>
    intro st e st' h
    simp only[ev] at h
    cases hx:ev E k a st with
    | none=>simp[hx,andThen] at h
    | some r =>
      obtain ⟨e1,st1⟩:=r
      rw[hx] at h
      have h1:=iha hx
      cases e1 with
      | normal=>exact (ihb h).trans h1
      | exit i=>obtain ⟨rfl,rfl⟩:=Prod.mk.inj (Option.some.inj h); exact h1
      | ret=>obtain ⟨rfl,rfl⟩:=Prod.mk.inj (Option.some.inj h); exact h1
  | seqz a s b iha ihb =>
    intro st e st' h
    simp only[ev] at h
    cases hx:ev E k a st with
    | none=>simp[hx,andThen] at h
    | some r =>
      obtain ⟨e1,st1⟩:=r
      rw[hx] at h
      have h1:=iha hx
      cases e1 with
      | normal=>exact ((ihb h).trans (fzSt_len s st1)).trans h1
      | exit i=>obtain ⟨rfl,rfl⟩:=Prod.mk.inj (Option.some.inj h); exact h1
      | ret=>obtain ⟨rfl,rfl⟩:=Prod.mk.inj (Option.some.inj h); exact h1
  | cond c a b iha ihb =>
    intro st e st' h
    simp only[ev] at h
    split at h
    · rename_i t _
      cases t with
      | true=>exact iha (by simpa using h)
      | false=>exact ihb (by simpa using h)
    · cases h
  | block id c ih =>
    intro st e st' h
    simp only[ev] at h
    cases hx:ev E k c st with
    | none=>simp[hx,inBlock] at h
    | some r =>
      obtain ⟨e1,st1⟩:=r
      rw[hx] at h
      have h1:=ih hx
      cases e1 with
      | normal=>obtain ⟨rfl,rfl⟩:=Prod.mk.inj (Option.some.inj h); exact h1
      | exit i =>
        simp only[inBlock] at h
        split at h <;> (obtain ⟨rfl,rfl⟩:=Prod.mk.inj (Option.some.inj h); exact h1)
      | ret=>obtain ⟨rfl,rfl⟩:=Prod.mk.inj (Option.some.inj h); exact h1
  | loop keep c ih=>intro st e st' h; simp only[ev] at h; exact loopN_len (fun _ _ _ h=>ih h) _ _ _ _ h
  | exit i=>intro st e st' h; obtain ⟨rfl,rfl⟩:=Prod.mk.inj (Option.some.inj h); rfl
  | ret=>intro st e st' h; obtain ⟨rfl,rfl⟩:=Prod.mk.inj (Option.some.inj h); rfl
theorem round_one (hE:CalOk P E) (hg:Globs E.gl R) {ca c:Code} {la lb:LCode} (hra:CRel P ca la) (hrb:CRel P c lb) {keep:List Bool} {t k:Nat}
    (hkeep:∀ s:Nat,keep[s]? = some true→s ∉ wr la∧s ∉ wr lb∧s≠t) {st st':St} {x:LV} (hev:ev E k (la.seq lb) (begun keep t x st)=some (.normal,st'))
    {a:Act} {R':Imm} {p':qb5} {W:World} (h:CAft R p H w a (masked keep st) R' p' a W) {p0:qb5} (hp0:∀ n y,p0 n=some y→n.1=0∧p n=some y) {xv:Value} (hx:Rep1 R' p0 x xv) (l n:Nat)
    (lp:Nat) (rb rc:Obj) (hlp:W.heap[lp]? = some rb) (hrn:rb.isCells=false) (hle:w.heap.size≤lp) (hrc:rc.isCells=false)
    {Q : Exit → Act → World → Prop} (hQ : ∀ a'' W'', (∀ (b : Nat) (o : Obj), (W.putObj lp rc).heap[b]? = some o → o.isCells = false → W''.heap[b]? = some o) →
      (∃ R'' p'',CAft R p H w a (masked keep st') R'' p'' a W''∧∀ b cs,R' b=some cs→R'' b=some cs)→Q .normal a'' W'') :
    ca.wpIn (FF (some l)) n P (Exit.then (fun a₁ W₁ => W₁.heap[lp]? = some rb ∧ (∀ (b : Nat) (o : Obj), W.heap[b]? = some o → o.isCells = false → W₁.heap[b]? = some o) ∧ c.wpIn (FF (some l)) n P Q a₁ (W₁.putObj lp rc)) (fun _ _ _ => False))
      { tmps:=a.tmps.setIfInBounds t xv,defers:=[] } W:=by
  obtain ⟨p2,h2⟩:=h.canon keep
  rw[canon_masked] at h2
  have hgW:Globs E.gl R':=fun g xs hx=>by obtain ⟨cs,c1,c2⟩:=hg g xs hx; exact ⟨cs,h.ext.imm _ _ c1,c2⟩
  have hx2:Rep1 R' p2 x xv:=hx.mono (fun _ _ h=>h) (fun n y hn=>by
    obtain ⟨h0,h1⟩:=hp0 n y hn
    obtain ⟨n1,n2⟩:=n
    simp only at h0; subst h0
    rw[h2.zero]; exact h1)
  simp only[ev] at hev
  have hbase:CAft R' p2 (qby keep st).H W { tmps:=a.tmps.setIfInBounds t xv,defers:=[] } (begun keep t x st) R' p2 { tmps:=a.tmps.setIfInBounds t xv,defers:=[] } W :=
    ⟨by
      have:=h2.rep.set t hx2
      simpa [begun] using this,h2.sim,Ext.refl _ _ _ _,h2.fresh,fun _=>rfl,h2.two,rfl⟩
  cases hea:ev E k la (begun keep t x st) with
  | none=>rw[hea] at hev; cases hev
  | some r =>
    obtain ⟨e1,st1⟩:=r
    rw[hea] at hev
    cases e1 with
    | exit i=>simp[andThen] at hev
    | ret=>simp[andThen] at hev
    | normal =>
      simp only[andThen] at hev
      refine ev_in hE hgW k ca la hra _ R' p2 _ W .normal st1 hbase hea _ ?_
      intro R3 p3 a3 W3 h3 k3
      have hoth:∀ (b:Nat) (o:Obj),W.heap[b]? = some o→o.isCells=false→W3.heap[b]? = some o:=fun b o hb ho=>h3.ext.others h2.sim hb ho
      have hl3:W3.heap[lp]? = some rb:=hoth _ _ hlp hrn
      refine ⟨hl3,hoth,?_⟩
      have hglob:Globs E.gl R3:=fun g xs hx=>by obtain ⟨cs,c1,c2⟩:=hgW g xs hx; exact ⟨cs,h3.ext.imm _ _ c1,c2⟩
      have hput:Sim R3 p3 st1.H (W3.putObj lp rc):=by
        have:CAft R3 p3 st1.H ({ W3 with heap := #[] }) a3 st1 R3 p3 a3 W3:=⟨h3.rep,h3.sim,⟨fun _ _ h=>h,Nat.zero_le _,fun b hb _=>absurd hb (by simp),fun _ _ h => .inl h,fun _ h => .inl h,rfl,rfl,rfl⟩,h3.fresh,fun _=>rfl,h3.two,rfl⟩
        exact (this.put rc hl3 hrn (Nat.zero_le _)).sim
      refine ev_in hE hglob k c lb hrb st1 R3 p3 a3 (W3.putObj lp rc) .normal st' ⟨h3.rep,hput,Ext.refl _ _ _ _,h3.fresh,fun _=>rfl,h3.two,rfl⟩ hev _ ?_
      intro R4 p4 a4 W4 h4 k4
      refine hQ a4 W4 ?_ ?_
      · intro b o hb ho
        by_cases e:b=lp
        · subst e
          have hlt:b < W.heap.size:=(Array.getElem?_eq_some_iff.1 hlp).1
          have hlt3:b < W3.heap.size:=(Array.getElem?_eq_some_iff.1 hl3).1
          rw[World.putObj_heap_same hlt] at hb
          cases hb
          exact h4.ext.others hput (World.putObj_heap_same hlt3) ho
        · rw [World.putObj_heap_other e] at hb
          exact h4.ext.others hput (by rw[World.putObj_heap_other e]; exact hoth b o hb ho) ho
      · refine ⟨R4, p4, ?_, fun b cs hb => h4.ext.imm _ _ (h3.ext.imm _ _ hb)⟩
        have hW3:CAft R p H w { tmps:=a.tmps.setIfInBounds t xv,defers:=[] } st1 R3 p3 a3 W3 :=
          ⟨h3.rep,h3.sim,h2.ext.trans h3.ext,h3.fresh,fun k=>(h3.zero k).trans (h2.zero k),h3.two,h3.defers⟩
        have hW3':=hW3.put rc hl3 hrn hle
        refine ⟨?_,h4.sim,hW3'.ext.trans h4.ext,h4.fresh,fun k=>(h4.zero k).trans (hW3'.zero k),h4.two,h.defers⟩
        have hl4:=h4.rep.length
        have hl0:=hbase.rep.length
        refine mask_swap _ _ _ _ h4.rep ?_ ?_
        ·
          have e3:st1.tm.length=(begun keep t x st).tm.length:=ev_len hea
          have e4:st'.tm.length=st1.tm.length:=ev_len hev
          rw[←hl4,e4,e3,hl0]; simp
        · intro s hs
          obtain ⟨q1,q2,q3⟩:=hkeep s hs
          have e1:=k3 s q1
          have e2:=k4 s q2
          have e3:(a.tmps.setIfInBounds t xv)[s]? = a.tmps[s]? := by rw[Array.getElem?_setIfInBounds]; simp[Ne.symm q3]
          have:a4.tmps[s]? = a.tmps[s]? := e2.trans (e1.trans e3)
          simpa using this.symm
theorem rounds_cons {k:Nat} {la lb:LCode} {t:Nat} {keep:List Bool} {x:LV} {xs:List LV} {st stE:St} (h:rounds E k la lb t keep (x::xs) st=some stE) :
    ∃ st',ev E k (la.seq lb) (begun keep t x st)=some (.normal,st')∧rounds E k la lb t keep xs st'=some stE:=by
  simp only[rounds] at h
  split at h
  · rename_i st' he; exact ⟨st',he,h⟩
  · cases h
theorem range_wp (hE:CalOk P E) (hg:Globs E.gl R) {ca c:Code} {la lb:LCode} (hra:CRel P ca la) (hrb:CRel P c lb) {keep:List Bool} {t k:Nat}
    (hkeep:∀ s:Nat,keep[s]? = some true→s ∉ wr la∧s ∉ wr lb∧s≠t) {xs:List LV} {xv:Nat→Value} {R':Imm} {p0:qb5} (hp0:∀ n y,p0 n=some y→n.1=0∧p n=some y) (hx:∀ (i:Nat) (h:i < xs.length),Rep1 R' p0 xs[i] (xv i))
    {st stE:St} (hr:rounds E k la lb t keep xs st=some stE) {a:Act} {p':qb5} {W:World} (h:CAft R p H w a (masked keep st) R' p' a W)
    {g:Operand} {gf:Nat} {lbv:Array Value} (hga:a.eval g = .func (.func gf) #[] lbv) (eg:∀ args w,(callFunc gf args).run P w = .ok (.enter gf args) w)
    (hit : ∀ (l n : Nat) (J : Nat → World → Prop) (W1 : World), (∀ i W2, J i W2 → ∀ b cs, R' b = some cs → ∃ vs T fz, W2.heap[b]? = some (.cells vs T fz) ∧ vs.toList = cs) → (∀ i W2, J i W2 → J i W2.drew) →
      (∀ i W2,J i W2→i < xs.length→YieldAt Fence.wide n P l #[xv i] W2 fun e W3=>e = .returned (.bool true)∧J (i+1) W3)→J 0 W1 →
      CallsIn Fence.wide (n+1) P gf (#[.func (.yield l) #[] #[]]++lbv) W1 fun e W2=>(∃ v,e = .returned v)∧J xs.length W2)
    {Q : Exit → Act → World → Prop} (hQ : ∀ R'' p'' D W'', CAft R p H w a (masked keep stE) R'' p'' a W'' → w.heap.size ≤ D → W''.heap[D]? = some (.deferred (some [])) →
      Q .normal { a with defers:={ target := .collected D,args := #[] }::a.defers } W'') :
    (Code.rangeFunc g #[t] ca c).wp P Q a W:=by
  rw[←wpIn_wide (n:=3)]
  refine wpIn_rangeFunc ?_
  intro fn _
  obtain ⟨rec,hrec⟩:∃ rec:LoopState→Loop,rec=fun s=>{ state:=s,pending:=none,fn,tmps:=a.tmps,params := #[t],assign:=ca,body:=c,defers:=W.heap.size }:=⟨_,rfl⟩
  obtain ⟨W1,hW1⟩:∃ W1,(W.alloc (.deferred (some []))).alloc (.loop (rec .ready))=W1:=⟨_,rfl⟩
  have hL1:W1.heap[W.heap.size+1]? = some (.loop (rec .ready)):=by
    rw[←hW1]; have:=World.alloc_heap_new (W.alloc (.deferred (some []))) (.loop (rec .ready)); rwa [World.size_alloc] at this
  have hD1:W1.heap[W.heap.size]? = some (.deferred (some [])):=by
    rw[←hW1]; exact (Below.heap_alloc _ _ _ (by simp)).trans (World.alloc_heap_new W _)
  have hC1:CAft R p H w a (masked keep st) R' p' a W1:=by rw[←hW1]; exact (h.more _).more _
  have hsz:w.heap.size≤W.heap.size:=h.ext.size
  refine ⟨W.heap.size+1,[{ target := .collected W.heap.size,args := #[] }],W1,{ target := .fn (.func gf) lbv,args := #[.func (.yield (W.heap.size+1)) #[] #[]] },W1,gf,
    #[.func (.yield (W.heap.size+1)) #[] #[]]++lbv,W1,?_,?_,fun _ _=>trivial,?_,fun _=>by omega,?_⟩
  · rw[←hW1,hrec]; exact run_enterLoop_outer _ _ _ _ _
  · simp only [resolve, hga]
    simp[go_sem]
  · simp[invoke,go_sem,eg]
  · refine (hit (W.heap.size + 1) 1 (fun i W2 => ∃ st2 R2 p2, rounds E k la lb t keep (xs.drop i) st2 = some stE ∧ CAft R p H w a (masked keep st2) R2 p2 a W2 ∧ (∀ b cs, R' b = some cs → R2 b = some cs) ∧
      W2.heap[W.heap.size+1]? = some (.loop (rec .ready))∧W2.heap[W.heap.size]? = some (.deferred (some []))) W1 ?_ ?_ ?_ ?_).mono ?_
    · rintro i W2 ⟨st2, R2, p2, _, q2, q3, _, _⟩ b cs hb
      exact q2.sim.imm b cs (q3 b cs hb)
    · rintro i W2 ⟨st2, R2, p2, q1, q2, q3, q4, q5⟩
      exact ⟨st2,R2,p2,q1,q2.grow (Nat.le_refl _) (fun _ _ h _=>h) ⟨rfl,rfl,rfl⟩,q3,q4,q5⟩
    · rintro i W2 ⟨st2, R2, p2, q1, q2, q3, q4, q5⟩ hi
      rw[List.drop_eq_getElem_cons hi] at q1
      obtain ⟨st',hev,q1⟩:=rounds_cons q1
      have hy:=run_yield (P:=P) (args := #[xv i]) q4 (by rw[hrec]; simp)
      have htm:((rec .ready).params.zip #[xv i]).foldl (fun tmps (t,a)=>tmps.setIfInBounds t a) (rec .ready).tmps=a.tmps.setIfInBounds t (xv i):=by rw[hrec]; simp
      rw[htm] at hy
      refine ⟨_,_,_,_,hy,roundIn_of_wpIn trivial ?_⟩
      have e1:(rec .ready).assign=ca:=by rw[hrec]
      have e2:(rec .ready).body=c:=by rw[hrec]
      rw[e1,e2]
      refine wpIn_mono (round_one hE hg hra hrb hkeep hev q2 hp0 ((hx i hi).mono q3 (fun _ _ h => h)) (W.heap.size + 1) 1 (W.heap.size + 1) (.loop (rec .ready)) (.loop (rec .busy)) q4 rfl (by omega) rfl
        (Q := roundPost P (W.heap.size + 1) (fun e W3 => e = .returned (.bool true) ∧ ∃ st2 R2 p2, rounds E k la lb t keep (xs.drop (i + 1)) st2 = some stE ∧ CAft R p H w a (masked keep st2) R2 p2 a W3 ∧ (∀ b cs, R' b = some cs → R2 b = some cs) ∧
          W3.heap[W.heap.size+1]? = some (.loop (rec .ready))∧W3.heap[W.heap.size]? = some (.deferred (some [])))) ?_) ?_
      · intro a'' W'' ho ⟨R'', p'', c1, c2⟩
        have hlt:W.heap.size+1 < W2.heap.size:=(Array.getElem?_eq_some_iff.1 q4).1
        have hl:=ho (W.heap.size+1) (.loop (rec .busy)) (World.putObj_heap_same hlt) rfl
        have hd:=ho W.heap.size (.deferred (some [])) ((World.putObj_heap_other (by omega)).trans q5) rfl
        have hend:=run_endRound (P:=P) none hl
        have e3:({ rec .busy with state:=if (none:Option Code).isNone then .ready else .done,pending:=none }:Loop)=rec .ready:=by rw[hrec]; rfl
        rw[e3] at hend
        refine ⟨_,_,hend,rfl,st',R'',p'',q1,c1.put _ hl rfl (by omega),fun b cs hb=>c2 b cs (q3 b cs hb),World.putObj_heap_same (Array.getElem?_eq_some_iff.1 hl).1,(World.putObj_heap_other (by omega)).trans hd⟩
      · intro e a₁ W₁ hp
        cases e with
        | normal =>
          obtain ⟨b1,b2,b3⟩:=hp
          have hb:=run_beginRound (P:=P) b1 (by rw[hrec])
          have e3:({ rec .ready with state := .busy }:Loop)=rec .busy:=by rw[hrec]
          rw[e3] at hb
          exact ⟨_,hb,b3⟩
        | _=>exact hp.elim
    · exact ⟨st,R',p',by simpa using hr,hC1,fun _ _ h=>h,hL1,hD1⟩
    · rintro e W2 ⟨⟨v, rfl⟩, st2, R2, p2, q1, q2, q3, q4, q5⟩
      rw[List.drop_length] at q1
      obtain rfl:=Option.some.inj q1
      refine ⟨none,_,by have:=run_endLoop (P:=P) q4 (by rw[hrec]; simp); rw[hrec] at this; exact this,?_⟩
      refine hQ R2 p2 W.heap.size _ (q2.put _ q4 rfl (by omega)) hsz ((World.putObj_heap_other (by omega)).trans q5)
end Go.LE
namespace Go.LE
open Go.RowKit
variable {P:Program} {R:Imm} {p:qb5} {w:World} {E:Env} {H:Heap}
structure RFun where
  ntmps:Nat
  results:List LRes
  la:LCode
  lb:LCode
  lc:LCode
  g:Nat
  t:Nat
  ls:LCode
  lbd:LCode
  post:LCode
  keep:List Bool
def compR (P:Program) (f:FuncId):Option RFun :=
  match P.funcs[f]? with
  | none=>none
  | some fn=>if fn.name == "runtime.NumGoroutine" then none else match fn.body with
    | some (.seq a (.seq b (.seq (.seq c (.block _ (.rangeFunc (.tmp g) ps as bd))) post))) =>
      match comp P a,comp P b,comp P c,comp P as,comp P bd,comp P post,compRes P fn.results.toList,ps.toList with
      | some la,some lb,some lc,some ls,some lbd,some lp,some rs,[t] =>
        let n:=fn.ntmps
        let rb:=resBits rs
        let (lp',m):=annot n rb lp rb []
        let m1:=(annot n rb (ls.seq lbd) m []).2
        let kb:=orAll (((List.range n).filter fun s=>(m ||| m1).testBit s && !(wr ls).contains s && !(wr lbd).contains s && s != t).map (2 ^ ·))
        some { ntmps:=n,results:=rs,la:=la,lb:=lb,lc:=lc,g:=g,t:=t,ls:=ls,lbd:=(annot n rb lbd kb []).1,post:=lp',keep:=marked n kb }
      | _,_,_,_,_,_,_,_=>none
    | _=>none
def keepOk (rf:RFun):Bool:=rf.keep.zipIdx.all fun (b,s) => !b || (!(wr rf.ls).contains s && !(wr rf.lbd).contains s && s != rf.t)
theorem keepOk_spec {rf:RFun} (h:keepOk rf=true) (s:Nat) (hs:rf.keep[s]? = some true):s ∉ wr rf.ls∧s ∉ wr rf.lbd∧s≠rf.t:=by
  unfold keepOk at h
  rw[List.all_eq_true] at h
  have hm:(true,s) ∈ rf.keep.zipIdx:=by
    rw[List.mem_zipIdx_iff_getElem?]; exact hs
  have:=h _ hm
  simpa [and_assoc] using this
theorem compR_spec {f:FuncId} {rf:RFun} (h:compR P f=some rf):Plain P f∧∃ fn a b c i ps as bd post,P.funcs[f]? = some fn ∧
    fn.body=some (.seq a (.seq b (.seq (.seq c (.block i (.rangeFunc (.tmp rf.g) ps as bd))) post)))∧ps = #[rf.t]∧rf.ntmps=fn.ntmps∧compRes P fn.results.toList=some rf.results ∧
    CRel P a rf.la∧CRel P b rf.lb∧CRel P c rf.lc∧CRel P as rf.ls∧CRel P bd rf.lbd∧CRel P post rf.post:=by
  unfold compR at h
  split at h
  · cases h
  · rename_i fn hfn
    split at h
    · cases h
    · rename_i hname
      split at h
      · rename_i a b c i g ps as bd post hb
        split at h
        · rename_i la lb lc ls lbd lp rs t h1 h2 h3 h4 h5 h6 h7 h8
          obtain rfl:=Option.some.inj h
          refine ⟨⟨fn,hfn,by simpa using hname,by simp[hb]⟩,fn,a,b,c,i,ps,as,bd,post,hfn,hb,?_,rfl,h7,comp_rel _ _ h1,comp_rel _ _ h2,comp_rel _ _ h3,comp_rel _ _ h4,annot_rel _ _ _ _ (comp_rel _ _ h5),annot_rel _ _ _ _ (comp_rel _ _ h6)⟩
          exact Array.ext' h8
        · cases h
      · cases h
theorem ev_normal {k:Nat} {x y:LCode} {st st':St} (h:ev E k (x.seq y) st=some (.normal,st')):∃ s,ev E k x st=some (.normal,s)∧ev E k y s=some (.normal,st'):=by
  simp only[ev] at h
  cases hx:ev E k x st with
  | none=>simp[hx,andThen] at h
  | some r =>
    obtain ⟨e,s⟩:=r
    rw[hx] at h
    cases e with
    | normal=>exact ⟨s,rfl,h⟩
    | exit i=>simp[andThen] at h
    | ret=>simp[andThen] at h
theorem CAft.lend {a:Act} {st:St} {R':Imm} {p':qb5} {a':Act} {W:World} (h:CAft R p H w a st R' p' a' W) (L:List Nm) :
    CAft R p H w a { st with H:=unlent L st.H } (lentImm R' p' st.H L W) p' a' W:=by
  have hm:=lentImm_mono h.sim (L:=L)
  refine ⟨h.rep.mono hm (fun _ _ h=>h),h.sim.lend L,⟨fun b cs hb=>hm _ _ (h.ext.imm b cs hb),h.ext.size,h.ext.kept,?_,?_,h.ext.io⟩,h.fresh,h.zero,h.two,h.defers⟩
  · intro b cs hb
    by_cases hl:LentAt p' st.H L b
    · obtain ⟨n, _, ds, o, s, h1, h2⟩ := hl
      rcases h.ext.own b ⟨n,ds,o,s,h1,h2⟩ with h3 | h3
      · exact .inr (.inr h3)
      · exact .inr (.inl h3)
    · rw [lentImm_other hl] at hb
      exact h.ext.newImm b cs hb
  · rintro b ⟨n, cs, o, s, h1, h2⟩
    exact h.ext.own b ⟨n,cs,o,s,(unlent_sub n cs h1).1,h2⟩
theorem imm_cell {R':Imm} {W:World} {b o:Nat} {cs:List Value} (h:∃ vs T fz,W.heap[b]? = some (.cells vs T fz)∧vs.toList=cs) {v:Value} (hv:cs[o]? = some v):W.cell? ⟨b,o,none⟩=some v:=by
  obtain ⟨vs,T,fz,h1,rfl⟩:=h
  have:vs[o]? = some v:=by simpa using hv
  simp[World.cell?,h1,this]
theorem range_FTri (hE:CalOk P E) {k:Nat} {f:FuncId} {rf:RFun} (hc:compR P f=some rf) (hk:keepOk rf=true) {args:List LV} {objs:List qaR} {n1 n2:Nm} {sx y2:LV} {gf:Nat}
    {st1 stE st':St} {xs:List LV} {ex:Ex} {ret:LV}
    (hpre:ev E k (rf.la.seq (rf.lb.seq rf.lc)) { tm:=args++List.replicate (rf.ntmps - args.length) (.v (.tuple #[])),H:=qcV objs,nx:=2,np:=objs.length }=some (.normal,st1))
    (hgv:st1.tm.getD rf.g .undef = .fn (.func gf) [] [.ptr n1 0,.ptr n2 0]) (hn1:st1.H n1=some [sx]) (hn2:st1.H n2=some [y2])
    (eg:∀ args w,(callFunc gf args).run P w = .ok (.enter gf args) w)
    (hround:rounds E k rf.ls rf.lbd rf.t rf.keep xs { st1 with H:=unlent [n1,n2] st1.H }=some stE)
    (hpost:ev E k rf.post (qby rf.keep stE)=some (ex,st')) (hex:ex = .normal∨ex = .ret) (hret:resVal st' rf.results=some ret)
    (hit : ∀ (R' : Imm) (p' p0 : qb5) (sv v2 : Value), Rep1 R' p' sx sv → Rep1 R' p' y2 v2 → (∀ k x, p' (0, k) = some x → p0 (0, k) = some x) → ∃ xv : Nat → Value, (∀ (i : Nat) (h : i < xs.length), Rep1 R' p0 xs[i] (xv i)) ∧
      ∀ (l n B1 o1 B2 o2:Nat) (J:Nat→World→Prop) (W1:World),(∀ i W2,J i W2→W2.cell? ⟨B1,o1,none⟩=some sv∧W2.cell? ⟨B2,o2,none⟩=some v2)→(∀ i W2,J i W2→J i W2.drew) →
      (∀ i W2,J i W2→i < xs.length→YieldAt Fence.wide n P l #[xv i] W2 fun e W3=>e = .returned (.bool true)∧J (i+1) W3)→J 0 W1 →
      CallsIn Fence.wide (n+1) P gf #[.func (.yield l) #[] #[],.pointer (some ⟨B1,o1,none⟩),.pointer (some ⟨B2,o2,none⟩)] W1 fun e W2=>(∃ v,e = .returned v)∧J xs.length W2) :
    Plain P f∧FTri P E.gl f args objs (outOf objs.length st' ret):=by
  obtain ⟨hp,fn,a,b,c,i,ps,as,bd,post,hfn,hb,hps,hn,hres,ra,rb,rc,rs,rbd,rpost⟩:=compR_spec hc
  subst hps
  refine ⟨hp,?_⟩
  intro R p w vals hg hr hs hfresh
  refine ⟨by simp[outOf],?_⟩
  rw[←callsIn_wide (n:=3)]
  refine callsIn_of_wp_marks hfn hb trivial ?_ rfl
  refine (wpIn_wide (n:=3)).2 ?_
  obtain ⟨sa,ea,hpre⟩:=ev_normal hpre
  obtain ⟨sb,eb,ec⟩:=ev_normal hpre
  generalize ha0:({ tmps:=vals.toArray++Array.replicate (fn.ntmps - vals.toArray.size) undef,defers:=[] }:Act)=a0
  have hd0:a0.defers=[]:=by rw[←ha0]
  have h0:CAft R p (qcV objs) w a0 { tm:=args++List.replicate (rf.ntmps - args.length) (.v (.tuple #[])),H:=qcV objs,nx:=2,np:=objs.length } R p a0 w :=
    ⟨by rw[←ha0]; exact start_rep hr hn,hs,Ext.refl _ _ _ _,fun n hn=>hfresh n (by simp at hn; omega),fun _=>rfl,Nat.le_refl _,rfl⟩
  refine wp_seq (ev_sound hE hg k a rf.la ra _ R p _ w .normal sa h0 ea _ ?_)
  intro R1 p1 a1 w1 h1
  refine wp_seq (ev_sound hE hg k b rf.lb rb _ R1 p1 _ w1 .normal sb h1 eb _ ?_)
  intro R2 p2 a2 w2 h2
  refine wp_seq (wp_seq (ev_sound hE hg k c rf.lc rc _ R2 p2 _ w2 .normal st1 h2 ec _ ?_))
  intro R3 p3 a3 w3 h3
  refine wp_block ?_
  have hgl3:Globs E.gl R3:=fun g xs hx=>by obtain ⟨cs,c1,c2⟩:=hg g xs hx; exact ⟨cs,h3.ext.imm _ _ c1,c2⟩
  have hgr:=evX_rep hgl3 h3.rep (.tmp rf.g)
  rw[show evX E.gl st1.tm (qbV (.tmp rf.g)) = .fn (.func gf) [] [.ptr n1 0,.ptr n2 0] from hgv] at hgr
  generalize hgy:a3.eval (.tmp rf.g)=gy at hgr
  cases hgr with
  | @fn _ _ av _ bv _ _ q1 q2 _ =>
    cases q1
    obtain ⟨u1,us,rfl,q3,q4⟩:=q2.uncons
    obtain ⟨u2,us,rfl,q5,q6⟩:=q4.uncons
    cases q6
    cases q3 with
    | @ptr _ _ B1 o1 s1 _ _ pb1 _ =>
      cases q5 with
      | @ptr _ _ B2 o2 s2 _ _ pb2 _ =>
        obtain ⟨vs1,T1,fz1,l1⟩:=h3.sim.at hn1 pb1
        obtain ⟨vs2,T2,fz2,l2⟩:=h3.sim.at hn2 pb2
        have hL:=h3.lend [n1,n2]
        have hI1:=lentImm_lent (R:=R3) (p:=p3) (H:=st1.H) (L:=[n1,n2]) (b:=B1) ⟨n1,by simp,_,_,_,hn1,pb1⟩ l1.heap
        have hI2:=lentImm_lent (R:=R3) (p:=p3) (H:=st1.H) (L:=[n1,n2]) (b:=B2) ⟨n2,by simp,_,_,_,hn2,pb2⟩ l2.heap
        have hm:=lentImm_mono h3.sim (L:=[n1,n2])
        obtain ⟨sv,e1,r1⟩:∃ sv,vs1.toList[o1]? = some sv∧Rep1 R3 p3 sx sv:=by
          have hr1:=l1.rep
          cases hq:vs1.toList.drop o1 with
          | nil=>rw[hq] at hr1; cases hr1
          | cons v vs =>
            rw[hq] at hr1
            have e0:(List.drop o1 vs1.toList)[0]? = some v:=by rw[hq]; rfl
            rw[List.getElem?_drop] at e0
            exact ⟨v,by simpa using e0,by simpa using hr1⟩
        obtain ⟨v2,e2,r2⟩:∃ sv,vs2.toList[o2]? = some sv∧Rep1 R3 p3 y2 sv:=by
          have hr1:=l2.rep
          cases hq:vs2.toList.drop o2 with
          | nil=>rw[hq] at hr1; cases hr1
          | cons v vs =>
            rw[hq] at hr1
            have e0:(List.drop o2 vs2.toList)[0]? = some v:=by rw[hq]; rfl
            rw[List.getElem?_drop] at e0
            exact ⟨v,by simpa using e0,by simpa using hr1⟩
        obtain ⟨xv,hxv,hit⟩:=hit _ p3 (fun n=>if n.1=0 then p3 n else none) sv v2 (r1.mono hm (fun _ _ h=>h)) (r2.mono hm (fun _ _ h=>h)) (fun k x hx=>by simpa using hx)
        have hmask:CAft R p (qcV objs) w a3 (masked rf.keep { st1 with H:=unlent [n1,n2] st1.H }) (lentImm R3 p3 st1.H [n1,n2] w3) p3 a3 w3 :=
          ⟨mask_rep _ _ _ hL.rep,hL.sim,hL.ext,hL.fresh,hL.zero,hL.two,rfl⟩
        refine range_wp hE hg rs rbd (fun s hs=>keepOk_spec hk s hs) (p0:=fun n=>if n.1=0 then p3 n else none) ?_ hxv hround hmask hgy eg ?_ ?_
        · intro n y hy
          split at hy
          · rename_i h00
            refine ⟨h00,?_⟩
            obtain ⟨na,nb⟩:=n
            simp only at h00; subst h00
            rw[←h3.zero]; exact hy
          · cases hy
        · intro l n J W1 hJ1 hJ2 hJ3 hJ0
          have:=hit l n B1 o1 B2 o2 J W1 (fun i W2 hW=>⟨imm_cell (R':=R3) (hJ1 i W2 hW B1 _ hI1) e1,imm_cell (R':=R3) (hJ1 i W2 hW B2 _ hI2) e2⟩) hJ2 hJ3 hJ0
          simpa using this
        ·
          intro R4 p4' Dk W4 h4' hD hDk
          obtain ⟨p4,h4⟩:=h4'.canon rf.keep
          rw[canon_masked] at h4
          show post.wp P _ _ _
          have hglob:Globs E.gl R4:=fun g xs hx=>by obtain ⟨cs,c1,c2⟩:=hg g xs hx; exact ⟨cs,h4.ext.imm _ _ c1,c2⟩
          generalize hap:({ a3 with defers:={ target := .collected Dk,args := #[] }::a3.defers }:Act)=ap
          have htp:ap.tmps=a3.tmps:=by rw[←hap]
          refine ev_sound hE hglob k post rf.post rpost (qby rf.keep stE) R4 p4 ap W4 ex st' (a := ap) (p := p4) (H := (qby rf.keep stE).H) (w := W4)
            ⟨by rw[htp]; exact h4.rep,h4.sim,Ext.refl _ _ _ _,h4.fresh,fun _=>rfl,h4.two,rfl⟩ hpost _ ?_
          intro R5 p5 a5 W5 h5
          have hDk5:W5.heap[Dk]? = some (.deferred (some [])):=h5.ext.others h4.sim hDk rfl
          have hd5:a5.defers=[{ target := .collected Dk,args := #[] }]:=by
            rw[h5.defers,←hap]
            simp[h3.defers,hd0]
          have hall:CAft R p (qcV objs) w a5 st' R5 p5 a5 W5:=⟨h5.rep,h5.sim,h4.ext.trans h5.ext,h5.fresh,fun k=>(h5.zero k).trans (h4.zero k),h5.two,rfl⟩
          have hall6:=hall.put (.deferred none) hDk5 rfl hD
          have fin:=fun_end hres hall6 hret
          have hpm : LeavesInM Fence.wide 3 P fn a5.tmps (fun e w' => ∃ v R' p', e = .returned v ∧ Rep1 R' p' (outOf objs.length st' ret).1 v ∧ Sim R' p' (outHeap (outOf objs.length st' ret).2.1 (outOf objs.length st' ret).2.2) w' ∧
              Ext R p (qcV objs) w R' p' (outHeap (outOf objs.length st' ret).2.1 (outOf objs.length st' ret).2.2) w'∧(∀ k,p' (0,k)=p (0,k))) a5.defers .returning W5:=by
            rw[hd5]
            exact ⟨by simp,.inl ⟨Dk,_,rfl,run_takeDeferred hDk5,fin⟩⟩
          rcases hex with rfl | rfl
          · exact hpm
          · exact hpm
end Go.LE
namespace Go.LE
variable {E:Env} {tm:List LV} {H:Heap} {b:Nat}
def appFz (b size bytes k:Nat) (H:Heap) (x:LV):Option (List LV × List (Nm × Option qaR))→Option Out
  | some (new,ms)=>if bytes≤2 ^ 20∧new.all isCell=true then appX b size bytes k H ms new x else none
  | none=>none
def appKz (b size bytes:Nat) (H:Heap) (x y:LV):Option Nat→Option Out
  | some k=>match front H size k y with | some n0=>appFz b size bytes k H x (frozenAll H n0) | none=>none
  | none=>none
theorem qdf (size bytes:Nat) (x y:LX):qcq E tm H b (.append size bytes true x y)=appKz b size bytes H (evX E.gl tm x) (evX E.gl tm y) (lenOf (evX E.gl tm y)):=by
  simp only[qcq,qcn,heapOp]
  generalize evX E.gl tm y=y
  generalize evX E.gl tm x=x
  cases lenOf y with
  | none=>rfl
  | some k =>
    simp only[appKz]
    cases front H size k y with
    | none=>rfl
    | some new =>
      simp only[zC]
      cases frozenAll H new with
      | none=>rfl
      | some r=>rfl
theorem touch_appendz (gl:Nat→Option qaR) (size bytes:Nat) (x y:LX):touch gl tm H (.append size bytes true x y)=reach H FUEL [] (nms D (evX gl tm x)++nms D (evX gl tm y)):=by
  simp[touch,deep,looks]
theorem appKz_one (X:LV) (rn nb:Nm) (n:Nat) (c:Option Nat) (q:List (BitVec 8)) (h1:H rn=some [.sl nb 0 n c 1]) (h2:H nb=some (bs q)) (hn:n≠0) (hq:q.length=n) :
    appKz b 1 24 H X (.sl rn 0 1 (some 1) 1) (some 1)=appX b 1 24 1 H [(nb,none)] [.isl (bs q) n] X:=by
  have e1:front H 1 1 (.sl rn 0 1 (some 1) 1)=some [.sl nb 0 n c 1]:=by rw[qcI _ _ _ _ _ _ _ (by omega) (by omega),h1]; rfl
  have e2:frozenAll H [.sl nb 0 n c 1]=some ([.isl (bs q) n],[(nb,none)]):=by
    simp only[frozenAll,frozenOf,h2,if_neg hn,z8,zZ]
    rw[List.take_of_length_le (by rw[qag]; omega)]
    rfl
  simp only[appKz,e1,e2,appFz]
  rw[if_pos ⟨by decide,rfl⟩]
theorem appKz_isl (X:LV) (rn:Nm) (n:Nat) (v:List LV) (h1:H rn=some [.isl v n]) :
    appKz b 1 24 H X (.sl rn 0 1 (some 1) 1) (some 1)=appX b 1 24 1 H [] [.isl v n] X:=by
  have e1:front H 1 1 (.sl rn 0 1 (some 1) 1)=some [.isl v n]:=by rw[qcI _ _ _ _ _ _ _ (by omega) (by omega),h1]; rfl
  have e2:frozenAll H [.isl v n]=some ([.isl v n],[]):=rfl
  simp only[appKz,e1,e2,appFz]
  rw[if_pos ⟨by decide,rfl⟩]
theorem appX_nilz (ms:List (Nm × Option qaR)) (v:LV):appX b 1 24 1 H ms [v] Nil=some ⟨.sl (b,0) 0 1 none 1,[[v]],ms⟩:=by
  rw[Nil,appX,if_neg (by decide),if_pos (by decide)]
theorem appX_rowz (ms:List (Nm × Option qaR)) (m:Nm) (j:Nat) (cs:qaR) (v:LV) (hm:H m=some cs) (hj:cs.length=j) (h:(j+1)*24≤211106232532992) (hms:ms.all (fun p=>p.1 != m)=true) :
    appX b 1 24 1 H ms [v] (.sl m 0 j none 1)=some ⟨.sl (b,0) 0 (j+1) none 1,[cs++[v]],(m,none)::ms⟩:=by
  rw[appX,if_pos ⟨rfl,h,hms⟩,hm]
  simp only
  rw[if_pos (by omega),z8,List.take_of_length_le (by omega)]
theorem ev_seqz (k:Nat) (a:LCode) (s:Nat) (b:LCode) (st:St):ev E k (.seqz a s b) st=andThen (fun st1=>ev E k b (fzSt s st1)) (ev E k a st):=nf rfl
theorem fzSt_sl (s:Nat) (tm:List LV) (H:Heap) (nx np:Nat) (n:Nm) (len:Nat) (c:Option Nat) (q:List (BitVec 8)) (h:tm.getD s .undef = .sl n 0 len c 1) (hn:H n=some (bs q)) (h0:len≠0) (hq:q.length=len) :
    fzSt s ⟨tm,H,nx,np⟩=⟨tm.set s (.isl (bs q) len),upd H n none,nx,np⟩:=by
  have e:frozenAll H [.sl n 0 len c 1]=some ([.isl (bs q) len],[(n,none)]):=by
    simp only[frozenAll,frozenOf,hn,if_neg h0,z8,zZ]
    rw[List.take_of_length_le (by rw[qag]; omega)]
    rfl
  simp only[fzSt,h,e]
  rfl
end Go.LE
