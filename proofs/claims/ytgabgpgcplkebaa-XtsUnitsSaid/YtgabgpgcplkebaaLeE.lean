/- Loops by an invariant; long rows of cells as functions of the place. -/
import Derived.Test.YtgabgpgcplkebaaLeB
import Derived.ProofKit
import Derived.OpenShut
import Derived.ChangeOld
import Derived.Below
import Derived.SizedLaws
import Derived.ChangeSlices
import GoSem.ClaimJoined
import Derived.Laws.Strings
set_option linter.unusedVariables false
set_option linter.unusedSimpArgs false
namespace Go.LE
theorem loop_inv {f:St→Option (Ex × St)} {keep:List Bool} (J:Nat→St→Prop) (n:Nat)
    (round:∀ i st,i < n→J i st→∃ st1,f st=some (.normal,st1)∧J (i+1) (qcr keep st1))
    (stop:∀ st,J n st→∃ x st1,f st=some (x,st1)∧(match x with | .normal=>False | _=>True))
    {k:Nat} (hk:n < k) {st:St} {r:Option (Ex × St)} (hL:qbW keep f k st=r) (h0:J 0 (qcr keep st)) :
    ∃ st',J n st'∧r=f st':=by
  subst hL
  obtain ⟨m,rfl⟩:∃ m,k=m+n+1:=⟨k - n - 1,by omega⟩
  have go:∀ (d i:Nat) (st:St),i+d=n→J i (qcr keep st)→∃ st',J n st'∧qbW keep f (m+d+1) st=f st':=by
    intro d
    induction d with
    | zero =>
      intro i st hi hj
      obtain rfl:i=n:=by omega
      obtain ⟨x,st1,h1,h2⟩:=stop _ hj
      refine ⟨_,hj,?_⟩
      rw[h1]
      cases x with
      | normal=>exact h2.elim
      | exit j=>exact loopN_stop rfl h1
      | ret=>exact loopN_ret rfl h1
    | succ d ih =>
      intro i st hi hj
      obtain ⟨st1,h1,hj1⟩:=round i _ (by omega) hj
      obtain ⟨st',hj',e⟩:=ih (i+1) st1 (by omega) hj1
      refine ⟨st',hj',?_⟩
      rw[←e]
      exact loopN_next rfl h1
  exact go n 0 st (by omega) h0
theorem qby {goal:Prop} {f:St→Option (Ex × St)} {keep:List Bool} {k:Nat} {st:St} {r:Option (Ex × St)} (hL:qbW keep f k st=r) (J:Nat→St→Prop) (n:Nat) (hk:n < k)
    (round:∀ i st,i < n→J i st→∃ st1,f st=some (.normal,st1)∧J (i+1) (qcr keep st1)) (h0:J 0 (qcr keep st))
    (stop:∀ st,J n st→∃ x st1,f st=some (x,st1)∧(match x with | .normal=>False | _=>True))
    (next:∀ st',J n st'→r=f st'→goal):goal:=by
  obtain ⟨st',h1,h2⟩:=loop_inv J n round stop hk hL h0
  exact next st' h1 h2
theorem qaT {P:St→Prop} {keep:List Bool} {tm tm' tm'':List LV} {H:Heap} {nx np:Nat} (names:List Nm) (h0:mask keep tm=tm')
    (hn:qav H np tm'=names) (h2:tm'.map (ren D (qdg names))=tm'') (hp:P ⟨tm'',cN names H,2,np⟩):P (qcr keep ⟨tm,H,nx,np⟩):=by
  rw[canon_mem h0 hn h2]
  exact hp
theorem qbs {f:St→Option (Ex × St)} {st st1:St} {i:Nat} (h:f st=some (.exit i,st1)):∃ x st1,f st=some (x,st1)∧(match x with | .normal=>False | _=>True):=⟨_,_,h,trivial⟩
def arr (n:Nat) (f:Nat→LV):qaV:=(List.range n).map f
theorem rep_arr (n:Nat) (x:LV):List.replicate n x=arr n fun _=>x:=by
  apply List.ext_getElem <;> simp[arr]
theorem arr_length (n:Nat) (f:Nat→LV):(arr n f).length=n:=by simp[arr]
theorem arr_get (n:Nat) (f:Nat→LV) (i:Nat) (h:i < n):(arr n f)[i]? = some (f i):=by simp[arr,h]
theorem arr_getElem (n:Nat) (f:Nat→LV) (i:Nat) (h:i < (arr n f).length):(arr n f)[i]=f i:=by simp[arr]
theorem arr_ext (n:Nat) {f g:Nat→LV} (h:∀ i,i < n→f i=g i):arr n f=arr n g:=by
  apply List.ext_getElem
  · simp[arr]
  · intro i h1 h2
    simp only[arr_getElem]
    exact h i (by simpa [arr] using h1)
theorem cell_arr (n:Nat) (f:Nat→LV) (i:Nat) (h:i < n):cellK i 1 (some (arr n f))=some [f i]:=by
  have h1:i+1≤(arr n f).length:=by rw[arr_length]; omega
  rw[cellK_some,if_pos h1]
  congr 1
  apply List.ext_getElem
  · simp only[zzL,zzH,zK,zJ]; omega
  · intro j h2 h3
    obtain rfl:j=0:=by simp at h3; exact h3
    simp[arr]
theorem cells_arr (n:Nat) (f:Nat→LV):cellK 0 n (some (arr n f))=some (arr n f):=by
  rw[cellK_some,if_pos (by rw[arr_length]; omega),zw,List.take_of_length_le (by rw[arr_length]; exact Nat.le_refl _)]
def put1 (f:Nat→LV) (i:Nat) (x:LV):Nat→LV:=fun j=>if j=i then x else f j
theorem splice_arr (n:Nat) (f:Nat→LV) (i:Nat) (x:LV) (h:i < n):qbC (arr n f) i [x]=arr n (put1 f i x):=by
  have e:qbC (arr n f) i [x]=(arr n f).set i x:=by
    rw[List.set_eq_take_append_cons_drop,if_pos (by rw[arr_length]; exact h)]
    simp[qbC]
  rw[e]
  apply List.ext_getElem
  · simp[arr]
  · intro j h1 h2
    rw[List.getElem_set]
    simp only[arr_getElem,put1]
    by_cases hj:i=j
    · rw[if_pos hj,if_pos hj.symm]
    · rw[if_neg hj,if_neg (fun h=>hj h.symm)]
theorem st_arr (off n:Nat) (m:Nm) (x:LV) (f:Nat→LV) (h:off < n) (hx:isCell x=true) :
    stK 1 off m (some [x]) (some (arr n f))=some ⟨Un,[],[(m,some (arr n (put1 f off x)))]⟩:=by
  rw[stK_some,if_pos ⟨rfl,by rw[arr_length]; omega,by simp[hx]⟩,splice_arr _ _ _ _ h]
theorem st_arr_all (n:Nat) (m:Nm) (f g:Nat→LV) (hx:∀ i,i < n→isCell (g i)=true) :
    stK n 0 m (some (arr n g)) (some (arr n f))=some ⟨Un,[],[(m,some (arr n g))]⟩:=by
  have h1:(arr n g).all isCell=true:=by
    rw[List.all_eq_true]
    intro x hx'
    simp only[arr,List.mem_map,List.mem_range] at hx'
    obtain ⟨i,hi,rfl⟩:=hx'
    exact hx i hi
  rw[stK_some,if_pos ⟨arr_length _ _,by rw[arr_length]; omega,h1⟩]
  simp[qbC,arr_length]
theorem arr_nms (n:Nat) (f:Nat→LV) (h:∀ i,i < n→nms D (f i)=[]):(arr n f).flatMap (nms D)=[]:=by
  rw[List.flatMap_eq_nil_iff]
  intro x hx
  simp only[arr,List.mem_map,List.mem_range] at hx
  obtain ⟨i,hi,rfl⟩:=hx
  exact h i hi
theorem arr_ren (n:Nat) (f:Nat→LV) (π:Nm→Option Nm) (h:∀ i,i < n→ren D π (f i)=f i):(arr n f).map (ren D π)=arr n f:=by
  simp only[arr,List.map_map]
  apply List.map_congr_left
  intro i hi
  exact h i (List.mem_range.1 hi)
theorem ix1V_arr (len size n:Nat) (f:Nat→LV) (j:Nat) (h:j < len) (h2:j*size < n):ix1V len size (.agg (arr n f)) (some j)=some (f (j*size)):=by
  rw[ix1V_agg,if_pos h,arr_get _ _ _ h2]
theorem qct (off n:Nat) (c:LV) (cs:qaV):cellK off n (some (c::cs))=if off+n≤(c::cs).length then some (((c::cs).drop off).take n) else none:=cellK_some _ _ _
theorem qdh (n off:Nat) (m:Nm) (ys:qaV) (c:LV) (cs:qaV) :
    stK n off m (some ys) (some (c::cs))=if ys.length=n∧off+n≤(c::cs).length∧ys.all isCell=true then some ⟨Un,[],[(m,some (qbC (c::cs) off ys))]⟩ else none:=stK_some _ _ _ _ _
theorem iaV_lt (n size:Nat) (nm:Nm) (off j:Nat) (h:j < n):iaV n size (.ptr nm off) (some j)=some (.ptr nm (off+j*size)):=by
  rw[iaV_ptr,if_pos h]
theorem qbd (n:Nat):List.replicate (n+1) Un=Un::List.replicate n Un:=List.replicate_succ
end Go.LE
namespace Go.LE
def set1 {A:Type} (g:Nat→A) (i:Nat) (x:A):Nat→A:=fun j=>if j=i then x else g j
def aB (n:Nat) (g:Nat→BitVec 8):qaV:=arr n fun i=>B8 (g i)
theorem qcU (n:Nat) (x:BitVec 8):List.replicate n (B8 x)=aB n fun _=>x:=rep_arr n _
theorem qcj (n:Nat) (g:Nat→BitVec 8):(aB n g).length=n:=arr_length _ _
theorem aB_ext (n:Nat) {f g:Nat→BitVec 8} (h:∀ i,i < n→f i=g i):aB n f=aB n g:=arr_ext n fun i hi=>by rw[h i hi]
theorem aB_put1 (g:Nat→BitVec 8) (i:Nat) (x:BitVec 8):put1 (fun j=>B8 (g j)) i (B8 x)=fun j=>B8 (set1 g i x j):=by
  funext j; simp only[put1,set1]; split <;> rfl
theorem aB_cell (n:Nat) (g:Nat→BitVec 8) (i:Nat) (h:i < n):cellK i 1 (some (aB n g))=some [B8 (g i)]:=cell_arr n _ i h
theorem qcb (n:Nat) (g:Nat→BitVec 8):cellK 0 n (some (aB n g))=some (aB n g):=cells_arr n _
theorem aB_st (off n:Nat) (m:Nm) (x:BitVec 8) (g:Nat→BitVec 8) (h:off < n):stK 1 off m (some [B8 x]) (some (aB n g))=some ⟨Un,[],[(m,some (aB n (set1 g off x)))]⟩:=by
  rw[aB,st_arr off n m _ _ h rfl,aB_put1]; rfl
theorem qcz (n:Nat) (m:Nm) (f g:Nat→BitVec 8):stK n 0 m (some (aB n g)) (some (aB n f))=some ⟨Un,[],[(m,some (aB n g))]⟩:=st_arr_all n m _ _ fun _ _=>rfl
theorem qbP (n:Nat) (g:Nat→BitVec 8):(aB n g).flatMap (nms D)=[]:=arr_nms n _ fun _ _=>rfl
theorem qa4 (n:Nat) (g:Nat→BitVec 8) (π:Nm→Option Nm):(aB n g).map (ren D π)=aB n g:=arr_ren n _ π fun _ _=>rfl
theorem aB_ren7 (n:Nat) (g:Nat→BitVec 8) (π:Nm→Option Nm):(aB n g).map (ren 7 π)=aB n g:=by
  simp only[aB,arr,List.map_map]
  apply List.map_congr_left
  intro i hi
  rfl
theorem aB_nms7 (n:Nat) (g:Nat→BitVec 8):(aB n g).flatMap (nms 7)=[]:=by
  rw[List.flatMap_eq_nil_iff]
  intro x hx
  simp only[aB,arr,List.mem_map,List.mem_range] at hx
  obtain ⟨i,hi,rfl⟩:=hx
  rfl
theorem qbe (n:Nat) (g:Nat→BitVec 8):nms D (.agg (aB n g))=[]:=by
  rw[show nms D (.agg (aB n g))=(aB n g).flatMap (nms 7) from rfl,aB_nms7]
theorem qbN (n:Nat) (g:Nat→BitVec 8) (π:Nm→Option Nm):ren D π (.agg (aB n g)) = .agg (aB n g):=by
  rw[show ren D π (.agg (aB n g)) = .agg ((aB n g).map (ren 7 π)) from rfl,aB_ren7]
theorem aB_calK (b n:Nat) (g:Nat→BitVec 8):calK b (some (.agg (aB n g),[],[]))=some ⟨.agg (aB n g),[],[]⟩:=calK_plain b fun _=>qbN n g _
theorem aB_outOf (st:St) (n:Nat) (g:Nat→BitVec 8):outOf 0 st (.agg (aB n g))=(.agg (aB n g),[],[]):=outOf_plain (qbe n g) fun _=>qbN n g _
theorem aB_ix1 (len n:Nat) (g:Nat→BitVec 8) (j:Nat) (h:j < len) (h2:j < n):ix1V len 1 (.agg (aB n g)) (some j)=some (B8 (g j)):=by
  rw[aB,ix1V_arr _ _ _ _ _ h (by omega),zk]
theorem qae (n:Nat) (g:Nat→BitVec 8):(aB n g).all isCell=true:=by
  rw[List.all_eq_true]
  intro x hx
  simp only[aB,arr,List.mem_map,List.mem_range] at hx
  obtain ⟨i,hi,rfl⟩:=hx
  rfl
def aW (n:Nat) (g:Nat→BitVec 32):qaV:=arr n fun i=>B32 (g i)
theorem aW_ren7 (n:Nat) (g:Nat→BitVec 32) (π:Nm→Option Nm):(aW n g).map (ren 7 π)=aW n g:=by
  simp only[aW,arr,List.map_map]
  apply List.map_congr_left
  intro i hi
  rfl
theorem aW_nms7 (n:Nat) (g:Nat→BitVec 32):(aW n g).flatMap (nms 7)=[]:=by
  rw[List.flatMap_eq_nil_iff]
  intro x hx
  simp only[aW,arr,List.mem_map,List.mem_range] at hx
  obtain ⟨i,hi,rfl⟩:=hx
  rfl
theorem qc6 (n:Nat) (g:Nat→BitVec 32):nms D (.agg (aW n g))=[]:=by
  rw[show nms D (.agg (aW n g))=(aW n g).flatMap (nms 7) from rfl,aW_nms7]
theorem qc7 (n:Nat) (g:Nat→BitVec 32) (π:Nm→Option Nm):ren D π (.agg (aW n g)) = .agg (aW n g):=by
  rw[show ren D π (.agg (aW n g)) = .agg ((aW n g).map (ren 7 π)) from rfl,aW_ren7]
theorem qag (n:Nat) (g:Nat→BitVec 32):(aW n g).all isCell=true:=by
  rw[List.all_eq_true]
  intro x hx
  simp only[aW,arr,List.mem_map,List.mem_range] at hx
  obtain ⟨i,hi,rfl⟩:=hx
  rfl
def aD (n:Nat) (g:Nat→BitVec 64):qaV:=arr n fun i=>B64 (g i)
theorem aD_ren7 (n:Nat) (g:Nat→BitVec 64) (π:Nm→Option Nm):(aD n g).map (ren 7 π)=aD n g:=by
  simp only[aD,arr,List.map_map]
  apply List.map_congr_left
  intro i hi
  rfl
theorem aD_nms7 (n:Nat) (g:Nat→BitVec 64):(aD n g).flatMap (nms 7)=[]:=by
  rw[List.flatMap_eq_nil_iff]
  intro x hx
  simp only[aD,arr,List.mem_map,List.mem_range] at hx
  obtain ⟨i,hi,rfl⟩:=hx
  rfl
theorem qc8 (n:Nat) (g:Nat→BitVec 64):nms D (.agg (aD n g))=[]:=by
  rw[show nms D (.agg (aD n g))=(aD n g).flatMap (nms 7) from rfl,aD_nms7]
theorem qc9 (n:Nat) (g:Nat→BitVec 64) (π:Nm→Option Nm):ren D π (.agg (aD n g)) = .agg (aD n g):=by
  rw[show ren D π (.agg (aD n g)) = .agg ((aD n g).map (ren 7 π)) from rfl,aD_ren7]
def aO (n:Nat) (g:Nat→Bool):qaV:=arr n fun i=>Bo (g i)
theorem aO_rep (n:Nat) (x:Bool):List.replicate n (Bo x)=aO n fun _=>x:=rep_arr n _
theorem aO_ext (n:Nat) {f g:Nat→Bool} (h:∀ i,i < n→f i=g i):aO n f=aO n g:=arr_ext n fun i hi=>by rw[h i hi]
theorem aO_put1 (g:Nat→Bool) (i:Nat) (x:Bool):put1 (fun j=>Bo (g j)) i (Bo x)=fun j=>Bo (set1 g i x j):=by
  funext j; simp only[put1,set1]; split <;> rfl
theorem aO_cell (n:Nat) (g:Nat→Bool) (i:Nat) (h:i < n):cellK i 1 (some (aO n g))=some [Bo (g i)]:=cell_arr n _ i h
theorem aO_cells (n:Nat) (g:Nat→Bool):cellK 0 n (some (aO n g))=some (aO n g):=cells_arr n _
theorem aO_st (off n:Nat) (m:Nm) (x:Bool) (g:Nat→Bool) (h:off < n):stK 1 off m (some [Bo x]) (some (aO n g))=some ⟨Un,[],[(m,some (aO n (set1 g off x)))]⟩:=by
  rw[aO,st_arr off n m _ _ h rfl,aO_put1]; rfl
theorem aO_st_all (n:Nat) (m:Nm) (f g:Nat→Bool):stK n 0 m (some (aO n g)) (some (aO n f))=some ⟨Un,[],[(m,some (aO n g))]⟩:=st_arr_all n m _ _ fun _ _=>rfl
theorem aO_nms (n:Nat) (g:Nat→Bool):(aO n g).flatMap (nms D)=[]:=arr_nms n _ fun _ _=>rfl
theorem aO_ren (n:Nat) (g:Nat→Bool) (π:Nm→Option Nm):(aO n g).map (ren D π)=aO n g:=arr_ren n _ π fun _ _=>rfl
theorem aO_ren7 (n:Nat) (g:Nat→Bool) (π:Nm→Option Nm):(aO n g).map (ren 7 π)=aO n g:=by
  simp only[aO,arr,List.map_map]
  apply List.map_congr_left
  intro i hi
  rfl
theorem aO_nms7 (n:Nat) (g:Nat→Bool):(aO n g).flatMap (nms 7)=[]:=by
  rw[List.flatMap_eq_nil_iff]
  intro x hx
  simp only[aO,arr,List.mem_map,List.mem_range] at hx
  obtain ⟨i,hi,rfl⟩:=hx
  rfl
theorem qc3 (n:Nat) (g:Nat→Bool):nms D (.agg (aO n g))=[]:=by
  rw[show nms D (.agg (aO n g))=(aO n g).flatMap (nms 7) from rfl,aO_nms7]
theorem qcY (n:Nat) (g:Nat→Bool) (π:Nm→Option Nm):ren D π (.agg (aO n g)) = .agg (aO n g):=by
  rw[show ren D π (.agg (aO n g)) = .agg ((aO n g).map (ren 7 π)) from rfl,aO_ren7]
theorem aO_calK (b n:Nat) (g:Nat→Bool):calK b (some (.agg (aO n g),[],[]))=some ⟨.agg (aO n g),[],[]⟩:=calK_plain b fun _=>qcY n g _
theorem aO_outOf (st:St) (n:Nat) (g:Nat→Bool):outOf 0 st (.agg (aO n g))=(.agg (aO n g),[],[]):=outOf_plain (qc3 n g) fun _=>qcY n g _
def aI (n:Nat) (g:Nat→Int):qaV:=arr n fun i=>I (g i)
end Go.LE
namespace Go.LE
def N (i:Nat):LV:=I (i:Int)
theorem I_N (i:Nat):I (i:Int)=N i:=rfl
section
variable (e:EqT) (a b:Nat)
theorem qbz (h:a+b < 9223372036854775808):binV .add e (N a) (N b)=some (N (a+b)):=by
  rw[N,N,I_add _ _ _ (by omega),←Int.natCast_add]; rfl
theorem N_sub (h:b≤a) (ha:a < 9223372036854775808):binV .sub e (N a) (N b)=some (N (a - b)):=by
  rw[N,N,I_sub _ _ _ (by omega),←Int.natCast_sub h]; rfl
theorem N_mul (h:a*b < 9223372036854775808):binV .mul e (N a) (N b)=some (N (a*b)):=by
  have e1:(a:Int)*(b:Int)=((a*b:Nat):Int):=(Int.natCast_mul a b).symm
  rw[N,N,I_mul _ _ _ (by rw[e1]; omega),e1]; rfl
theorem N_quo (hb:0 < b) (h:a < 9223372036854775808):binV .quo e (N a) (N b)=some (N (a / b)):=by
  have e1:(a:Int).tdiv (b:Int)=((a / b:Nat):Int):=rfl
  have h2:a / b≤a:=Nat.div_le_self a b
  have key:∀ q:Nat,q≤a → -9223372036854775808≤(q:Int)∧(q:Int) < 9223372036854775808:=by omega
  rw[N,N,I_quo _ _ _ (by omega) (by rw[e1]; exact key _ h2),e1]; rfl
theorem N_rem (hb:0 < b):binV .rem e (N a) (N b)=some (N (a % b)):=by
  rw[N,N,I_rem _ _ _ (by omega)]; rfl
theorem N_shl (hb:b < 64) (h:a*2 ^ b < 9223372036854775808):binV .shl e (N a) (N b)=some (N (a*2 ^ b)):=by
  have e1:(a:Int)*2 ^ ((b:Int).toNat)=((a*2 ^ b:Nat):Int):=by simp
  rw[N,N,I_shl _ _ _ (by omega) (by omega) (by rw[e1]; omega),e1]; rfl
theorem N_shr (hb:b < 64):binV .shr e (N a) (N b)=some (N (a / 2 ^ b)):=by
  rw[N,N,I_shr _ _ _ (by omega) (by omega)]
  congr 2
theorem N_eql:binV .eql e (N a) (N b)=some (Bo (decide (a=b))):=by
  rw[N,N,I_eql]; congr 2; rw[Bool.eq_iff_iff,zm,decide_eq_true_iff]; omega
theorem N_neq:binV .neq e (N a) (N b)=some (Bo (decide (a≠b))):=by
  rw[N,N,I_neq]; congr 2; rw[Bool.eq_iff_iff,zo,decide_eq_true_iff]; omega
theorem qaW:binV .lss e (N a) (N b)=some (Bo (decide (a < b))):=by rw[N,N,I_lss]; congr 2; exact decide_eq_decide.2 (by omega)
theorem N_leq:binV .leq e (N a) (N b)=some (Bo (decide (a≤b))):=by rw[N,N,I_leq]; congr 2; exact decide_eq_decide.2 (by omega)
theorem N_gtr:binV .gtr e (N a) (N b)=some (Bo (decide (b < a))):=by rw[N,N,I_gtr]; congr 2; exact decide_eq_decide.2 (by omega)
theorem N_geq:binV .geq e (N a) (N b)=some (Bo (decide (b≤a))):=by rw[N,N,I_geq]; congr 2; exact decide_eq_decide.2 (by omega)
theorem qbJ:natOf (N a)=some a:=by rw[N,I_nat _ (by omega)]; rfl
end
theorem ofInt_nat (w i:Nat):BitVec.ofInt w (i:Int)=BitVec.ofNat w i:=by
  apply BitVec.eq_of_toNat_eq; simp
theorem cvt_N_8 (i:Nat):cvtV .u8 (N i)=some (B8 (BitVec.ofNat 8 i)):=by rw[N,cvt_I_8,ofInt_nat]
theorem cvt_N_32 (i:Nat):cvtV .u32 (N i)=some (B32 (BitVec.ofNat 32 i)):=by rw[N,cvt_I_32,ofInt_nat]
theorem cvt_N_64 (i:Nat):cvtV .u64 (N i)=some (B64 (BitVec.ofNat 64 i)):=by rw[N,cvt_I_64,ofInt_nat]
theorem cvt_8_N (x:BitVec 8):cvtV .i64 (B8 x)=some (N x.toNat):=cvt_8_I x
theorem cvt_32_N (x:BitVec 32):cvtV .i64 (B32 x)=some (N x.toNat):=cvt_32_I x
theorem cvt_64_N (x:BitVec 64) (h:x.toNat < 9223372036854775808):cvtV .i64 (B64 x)=some (N x.toNat):=by
  rw[cvt_I64,N,BitVec.toInt_eq_toNat_cond,if_pos (by omega)]
theorem cvt_N_N (i:Nat) (h:i < 9223372036854775808):cvtV .i64 (N i)=some (N i):=cvt_II _ (by omega)
theorem B8_shlN (e:EqT) (x:BitVec 8) (i:Nat):binV .shl e (B8 x) (N i)=some (B8 (x <<< i)):=B8_shlI _ _ (i:Int) (by omega)
theorem B8_shrN (e:EqT) (x:BitVec 8) (i:Nat):binV .shr e (B8 x) (N i)=some (B8 (x >>> i)):=B8_shrI _ _ (i:Int) (by omega)
theorem B32_shlN (e:EqT) (x:BitVec 32) (i:Nat):binV .shl e (B32 x) (N i)=some (B32 (x <<< i)):=B32_shlI _ _ (i:Int) (by omega)
theorem B32_shrN (e:EqT) (x:BitVec 32) (i:Nat):binV .shr e (B32 x) (N i)=some (B32 (x >>> i)):=B32_shrI _ _ (i:Int) (by omega)
theorem B64_shlN (e:EqT) (x:BitVec 64) (i:Nat):binV .shl e (B64 x) (N i)=some (B64 (x <<< i)):=B64_shlI _ _ (i:Int) (by omega)
theorem B64_shrN (e:EqT) (x:BitVec 64) (i:Nat):binV .shr e (B64 x) (N i)=some (B64 (x >>> i)):=B64_shrI _ _ (i:Int) (by omega)
theorem qbb (i:Nat):nms D (N i)=[]:=nf rfl
theorem ren_N (π:Nm→Option Nm) (i:Nat):ren D π (N i)=N i:=nf rfl
theorem cellsOf_N (i:Nat):qc2 (N i)=some [N i]:=nf rfl
theorem qai (i:Nat):isCell (N i)=true:=nf rfl
theorem calK_N (b:Nat) (i:Nat):calK b (some (N i,[],[]))=some ⟨N i,[],[]⟩:=calK_I b _
theorem outOf_N (st:St) (i:Nat):outOf 0 st (N i)=(N i,[],[]):=outOf_I st _
theorem qce (a b c d:Nat):(((a,b):Nm) == (c,d))=(a == c && b == d):=nf rfl
end Go.LE
namespace Go.LE
variable {E:Env} {tm:List LV} {H:Heap} {b:Nat}
def extV (i:Nat):LV→Option LV
  | .tup xs=>xs[i]?
  | _=>none
theorem qcJ (x:LX) (i:Nat):opRes E tm H b (.ext x i)=outR (extV i (evX E.gl tm x)):=by
  simp only[opRes,qcs,heapOp,extV]
  generalize evX E.gl tm x=p
  cases p with
  | tup xs=>dsimp only; cases xs[i]? <;> rfl
  | _=>rfl
theorem qcp (i:Nat) (xs:List LV):extV i (.tup xs)=xs[i]? := nf rfl
theorem ren7_I (π:Nm→Option Nm) (x:Int):ren 7 π (I x)=I x:=nf rfl
theorem ren7_N (π:Nm→Option Nm) (x:Nat):ren 7 π (N x)=N x:=nf rfl
theorem ren7_Bo (π:Nm→Option Nm) (x:Bool):ren 7 π (Bo x)=Bo x:=nf rfl
theorem ren7_B8 (π:Nm→Option Nm) (x:BitVec 8):ren 7 π (B8 x)=B8 x:=nf rfl
theorem ren7_B32 (π:Nm→Option Nm) (x:BitVec 32):ren 7 π (B32 x)=B32 x:=nf rfl
theorem ren7_B64 (π:Nm→Option Nm) (x:BitVec 64):ren 7 π (B64 x)=B64 x:=nf rfl
theorem nms7_I (x:Int):nms 7 (I x)=[]:=nf rfl
theorem nms7_N (x:Nat):nms 7 (N x)=[]:=nf rfl
theorem nms7_Bo (x:Bool):nms 7 (Bo x)=[]:=nf rfl
theorem nms7_B8 (x:BitVec 8):nms 7 (B8 x)=[]:=nf rfl
theorem nms7_B32 (x:BitVec 32):nms 7 (B32 x)=[]:=nf rfl
theorem nms7_B64 (x:BitVec 64):nms 7 (B64 x)=[]:=nf rfl
theorem qcV (xs:List LV):nms D (.tup xs)=xs.flatMap (nms 7):=nf rfl
theorem qb8 (π:Nm→Option Nm) (xs:List LV):ren D π (.tup xs) = .tup (xs.map (ren 7 π)):=nf rfl
end Go.LE
namespace Go.LE
variable {E:Env} {tm:List LV} {H:Heap} {b:Nat}
def bs (l:List (BitVec 8)):qaV:=l.map B8
theorem qad (l:List (BitVec 8)):(bs l).length=l.length:=by simp[bs]
theorem bs_append (l m:List (BitVec 8)):bs l++bs m=bs (l++m):=by simp[bs]
theorem qcF (l:List (BitVec 8)) (n:Nat):(bs l).take n=bs (l.take n):=by simp[bs]
theorem bs_drop (l:List (BitVec 8)) (n:Nat):(bs l).drop n=bs (l.drop n):=by simp[bs]
theorem bs_one (x:BitVec 8):[B8 x]=bs [x]:=nf rfl
theorem bs_rep (n:Nat) (x:BitVec 8):List.replicate n (B8 x)=bs (List.replicate n x):=by simp[bs]
theorem qaf (l:List (BitVec 8)):(bs l).all isCell=true:=by
  rw[List.all_eq_true]; intro x hx; simp only[bs,List.mem_map] at hx; obtain ⟨y,_,rfl⟩:=hx; rfl
theorem qaP (l:List (BitVec 8)):(bs l).flatMap (nms D)=[]:=by
  rw[List.flatMap_eq_nil_iff]; intro x hx; simp only[bs,List.mem_map] at hx; obtain ⟨y,_,rfl⟩:=hx; rfl
theorem qaK (l:List (BitVec 8)) (π:Nm→Option Nm):(bs l).map (ren D π)=bs l:=by
  simp only[bs,List.map_map]; apply List.map_congr_left; intro x _; rfl
theorem bs_cells (l:List (BitVec 8)) (i n:Nat) (h:i+n≤l.length):cellK i n (some (bs l))=some (bs ((l.drop i).take n)):=by
  rw[cellK_some,if_pos (by rw[qad]; omega),bs_drop,qcF]
theorem bs_splice (l m:List (BitVec 8)) (i:Nat):qbC (bs l) i (bs m)=bs (l.take i++m++l.drop (i+m.length)):=by
  simp only[qbC,qcF,bs_drop,bs_append,qad]
theorem bs_st (l:List (BitVec 8)) (i:Nat) (x:BitVec 8) (m:Nm) (h:i < l.length):stK 1 i m (some [B8 x]) (some (bs l))=some ⟨Un,[],[(m,some (bs (l.set i x)))]⟩:=by
  rw[stK_some,if_pos ⟨rfl,by rw[qad]; omega,rfl⟩,bs_one,bs_splice,List.set_eq_take_append_cons_drop,if_pos h]
  simp
theorem bs_aB (l:List (BitVec 8)) (n:Nat) (h:l.length=n):bs l=aB n fun i=>l.getD i 0#8:=by
  subst h
  apply List.ext_getElem
  · simp[bs,aB,arr]
  · intro i h1 h2
    have h3:i < l.length:=by simpa [bs] using h1
    simp[bs,aB,arr,h3]
theorem aB_bs (n:Nat) (g:Nat→BitVec 8):aB n g=bs ((List.range n).map g):=by
  simp only[aB,arr,bs,List.map_map]; rfl
def lenV:Option Nat→Option Out
  | some n=>some ⟨N n,[],[]⟩
  | none=>none
theorem qbA (n:Nat):lenV (some n)=some ⟨N n,[],[]⟩:=nf rfl
theorem qcm (x:LX):opRes E tm H b (.len x)=lenV (lenS (evX E.gl tm x)):=by
  simp only[opRes,qcs,heapOp]
  cases lenS (evX E.gl tm x) <;> rfl
theorem qb9 (n:Nm) (off len:Nat) (cap:Option Nat) (es:Nat):lenS (.sl n off len cap es)=some len:=nf rfl
theorem qcT (xs:List LV) (len:Nat):lenS (.isl xs len)=some len:=nf rfl
def Nil:LV := .v (.slice none 0 0)
theorem qch (n:Nm) (off len:Nat) (cap:Option Nat) (es:Nat):lenOf (.sl n off len cap es)=some len:=nf rfl
theorem lenOf_isl (xs:List LV) (len:Nat):lenOf (.isl xs len)=some len:=nf rfl
theorem lenOf_nil:lenOf Nil=some 0:=nf rfl
theorem qbj:nms D Nil=[]:=nf rfl
theorem qcD (π:Nm→Option Nm):ren D π Nil=Nil:=nf rfl
theorem qaa:isCell Nil=true:=nf rfl
theorem cellsOf_sl (n:Nm) (off len:Nat) (cap:Option Nat) (es:Nat):qc2 (.sl n off len cap es)=some [.sl n off len cap es]:=nf rfl
theorem qah (n:Nm) (off len:Nat) (cap:Option Nat) (es:Nat):isCell (.sl n off len cap es)=true:=nf rfl
theorem cellsOf_ptr (n:Nm) (off:Nat):qc2 (.ptr n off)=some [.ptr n off]:=nf rfl
theorem qab (n:Nm) (off:Nat):isCell (.ptr n off)=true:=nf rfl
def NilP:LV := .v (.pointer none)
def qcG (off size n:Nat):Option qaV→Option qaV
  | some cs=>if off+n*size≤cs.length then some ((cs.drop off).take (n*size)) else none
  | none=>none
theorem qcL (m:Nm) (off len:Nat) (cap:Option Nat) (es size n:Nat) (h:n≤len) (h0:n≠0):front H size n (.sl m off len cap es)=qcG off size n (H m):=by
  simp only[front,if_neg h0,if_pos h]
  cases H m <;> rfl
theorem front_sl0 (m:Nm) (off len:Nat) (cap:Option Nat) (es size:Nat):front H size 0 (.sl m off len cap es)=some []:=nf rfl
theorem front_isl (xs:List LV) (len size n:Nat) (h:n≤len) (h2:n*size≤xs.length):front H size n (.isl xs len)=some (xs.take (n*size)):=by
  simp only[front]
  by_cases h0:n=0
  · subst h0; simp
  · rw[if_neg h0,if_pos ⟨h,h2⟩]
theorem front_bytes (m:Nm) (off len:Nat) (cap:Option Nat) (l:List (BitVec 8)) (h:H m=some (bs l)) (hl:off+len≤l.length) :
    front H 1 len (.sl m off len cap 1)=some (bs ((l.drop off).take len)):=by
  by_cases h0:len=0
  · subst h0; simp[front_sl0,bs]
  · rw [qcL _ _ _ _ _ _ _ (Nat.le_refl _) h0, h]
    simp only[qcG,zk,qad,if_pos hl,bs_drop,qcF]
theorem qdw (l:List (BitVec 8)) (len:Nat) (hl:l.length=len):front H 1 len (.isl (bs l) len)=some (bs l):=by
  rw[front_isl _ _ _ _ (Nat.le_refl _) (by rw[qad]; omega),zk,List.take_of_length_le (by rw[qad]; omega)]
def appX (b size bytes k:Nat) (H:Heap) (ms:List (Nm × Option qaV)) (new:qaV):LV→Option Out
  | .sl m off len (some c) es =>
    if es=size∧(len+k)*bytes≤211106232532992∧ms.all (fun p=>p.1 != m)=true then
      if len+k≤c then (match H m with
        | some cs=>if off+(len+k)*size≤cs.length then some ⟨.sl m off (len+k) (some c) es,[],(m,some (qbC cs (off+len*size) new))::ms⟩ else none
        | none=>none)
      else (match front H size len (.sl m off len (some c) es) with
        | some old=>some ⟨.sl (b,0) 0 (len+k) none size,[old++new],ms⟩
        | none=>none)
    else none
  | .sl m off len none es =>
    if es=size∧(len+k)*bytes≤211106232532992∧ms.all (fun p=>p.1 != m)=true then (match H m with
      | some cs=>if off+len*size≤cs.length then some ⟨.sl (b,0) 0 (len+k) none size,[(cs.drop off).take (len*size)++new],(m,none)::ms⟩ else none
      | none=>none)
    else none
  | .v (.slice none 0 0)=>if k=0 then some ⟨.v (.slice none 0 0),[],ms⟩ else if k*bytes≤211106232532992 then some ⟨.sl (b,0) 0 k none size,[new],ms⟩ else none
  | _=>none
def appF (b size bytes k:Nat) (H:Heap) (x:LV):Option qaV→Option Out
  | some new=>if bytes≤2 ^ 20∧new.all isCell=true then appX b size bytes k H [] new x else none
  | none=>none
def appK (b size bytes:Nat) (H:Heap) (x y:LV):Option Nat→Option Out
  | some k=>appF b size bytes k H x (front H size k y)
  | none=>none
theorem qcA (size bytes:Nat) (x y:LX):opRes E tm H b (.append size bytes false x y)=appK b size bytes H (evX E.gl tm x) (evX E.gl tm y) (lenOf (evX E.gl tm y)):=by
  simp only[opRes,qcs,heapOp]
  generalize evX E.gl tm y=y
  generalize evX E.gl tm x=x
  cases lenOf y with
  | none=>rfl
  | some k =>
    simp only[appK]
    cases front H size k y with
    | none=>rfl
    | some new=>rfl
theorem qcB (size bytes k:Nat) (x y:LV):appK b size bytes H x y (some k)=appF b size bytes k H x (front H size k y):=nf rfl
theorem qcC (size bytes k:Nat) (x:LV) (new:qaV) (h1:bytes≤1048576) (h2:new.all isCell=true):appF b size bytes k H x (some new)=appX b size bytes k H [] new x:=by
  rw[appF,if_pos ⟨h1,h2⟩]
def appN (b size k off len:Nat) (m:Nm) (new:qaV):Option qaV→Option Out
  | some cs=>if off+len*size≤cs.length then some ⟨.sl (b,0) 0 (len+k) none size,[(cs.drop off).take (len*size)++new],[(m,none)]⟩ else none
  | none=>none
theorem appX_none (size bytes k:Nat) (m:Nm) (off len:Nat) (new:qaV) (h:(len+k)*bytes≤211106232532992):appX b size bytes k H [] new (.sl m off len none size)=appN b size k off len m new (H m):=by
  rw[appX,if_pos ⟨rfl,h,rfl⟩]; rfl
theorem appX_nil (size bytes k:Nat) (new:qaV) (h0:k≠0) (h:k*bytes≤211106232532992):appX b size bytes k H [] new Nil=some ⟨.sl (b,0) 0 k none size,[new],[]⟩:=by
  rw[Nil,appX,if_neg h0,if_pos h]
theorem appN_bytes (k off len:Nat) (m:Nm) (l new:List (BitVec 8)) (h:off+len≤l.length) :
    appN b 1 k off len m (bs new) (some (bs l))=some ⟨.sl (b,0) 0 (len+k) none 1,[bs ((l.drop off).take len++new)],[(m,none)]⟩:=by
  simp only[appN,zk,qad,if_pos h,bs_drop,qcF,bs_append]
def cpK (size:Nat) (H:Heap) (x y:LV):Option Nat→Option Out
  | some k=>(match x with
    | .sl m off len _ es =>
      if min k len=0 then some ⟨.v (.int .i64 0),[],[]⟩ else
      (match front H size (min k len) y,H m with
      | some new,some cs=>if es=size∧new.all isCell=true∧off+(min k len)*size≤cs.length then
          some ⟨.v (.int .i64 (min k len:Nat)),[],[(m,some (qbC cs off new))]⟩ else none
      | _,_=>none)
    | .v (.slice none 0 0)=>some ⟨.v (.int .i64 0),[],[]⟩
    | _=>none)
  | none=>none
theorem op_copy (size:Nat) (x y:LX):opRes E tm H b (.copy size x y)=cpK size H (evX E.gl tm x) (evX E.gl tm y) (lenOf (evX E.gl tm y)):=by
  simp only[opRes,qcs,heapOp]
  generalize evX E.gl tm y=y
  generalize evX E.gl tm x=x
  cases lenOf y with
  | none=>rfl
  | some k =>
    cases x with
    | sl m off len c es=>rfl
    | v y =>
      cases y with
      | slice a n c =>
        cases a with
        | some _=>rfl
        | none=>cases n <;> cases c <;> rfl
      | _=>rfl
    | _=>rfl
theorem cp_bytes (k:Nat) (m:Nm) (off len:Nat) (c:Option Nat) (y:LV) (l new:List (BitVec 8)) (h0:min k len≠0) (hf:front H 1 (min k len) y=some (bs new)) (hm:H m=some (bs l)) (hl:off+min k len≤l.length) :
    cpK 1 H (.sl m off len c 1) y (some k)=some ⟨N (min k len),[],[(m,some (bs (l.take off++new++l.drop (off+new.length))))]⟩:=by
  simp only[cpK,if_neg h0,hf,hm,qaf,zk,qad,hl,zu,zD,bs_splice]
  rfl
theorem qdi (gl:Nat→Option qaV) (d:Nat):qcQ gl tm d none=some d:=nf rfl
theorem qcg (gl:Nat→Option qaV) (d:Nat) (x:LX):qcQ gl tm d (some x)=natOf (evX gl tm x):=nf rfl
def slcV (size:Nat) (lo hi:Option Nat):LV→Option LV
  | .sl nm off len (some c) es=>match lo,hi with
    | some l,some h=>if l≤h∧h≤c∧es=size then some (.sl nm (off+l*size) (h - l) (some (c - l)) size) else none
    | _,_=>none
  | .sl nm off len none es=>match lo,hi with
    | some l,some h=>if l≤h∧h≤len∧es=size then some (.sl nm (off+l*size) (h - l) none size) else none
    | _,_=>none
  | .isl xs len=>match lo,hi with
    | some l,some h=>if l≤h∧h≤len then some (.isl ((xs.drop (l*size)).take ((h - l)*size)) (h - l)) else none
    | _,_=>none
  | .v (.slice none 0 0)=>match lo,hi with
    | some l,some h=>if l=0∧h=0 then some Nil else none
    | _,_=>none
  | _=>none
theorem op_slcS (size:Nat) (x:LX) (lo hi:Option LX):opRes E tm H b (.slcS size x lo hi none)=outR (slcV size (qcQ E.gl tm 0 lo) (qcQ E.gl tm ((lenS (evX E.gl tm x)).getD 0) hi) (evX E.gl tm x)):=by
  simp only[opRes,qcs,heapOp]
  generalize evX E.gl tm x=x
  cases x with
  | sl nm off len cap es =>
    cases cap with
    | none =>
      simp only[lenS,Option.getD_some,slcV,Option.isNone_none,zD]
      cases qcQ E.gl tm 0 lo <;> cases qcQ E.gl tm len hi <;> try rfl
      rename_i l h
      by_cases hc:l≤h∧h≤len∧es=size <;> simp[hc,outR]
    | some c =>
      simp only[lenS,Option.getD_some,slcV]
      cases qcQ E.gl tm 0 lo <;> cases qcQ E.gl tm len hi <;> try rfl
      rename_i l h
      by_cases hc:l≤h∧h≤c∧es=size <;> simp[hc,outR,qcQ]
  | isl xs len =>
    simp only[lenS,Option.getD_some,slcV,Option.isNone_none,zD]
    cases qcQ E.gl tm 0 lo <;> cases qcQ E.gl tm len hi <;> first | rfl | (rename_i l h; by_cases hc:l≤h∧h≤len <;> simp[hc,outR])
  | v y =>
    cases y with
    | slice a n c =>
      cases a with
      | some _=>rfl
      | none =>
        cases n with
        | succ _=>rfl
        | zero =>
          cases c with
          | succ _=>rfl
          | zero =>
            simp only[lenS,Option.getD_some,slcV,Option.isNone_none,zD]
            cases qcQ E.gl tm 0 lo <;> cases qcQ E.gl tm 0 hi <;> try rfl
            first | done | (rename_i l h; by_cases hc:l=0∧h=0 <;> simp[hc,outR,Nil])
    | _=>rfl
  | _=>rfl
theorem slcV_none (size:Nat) (nm:Nm) (off len l h:Nat) (h1:l≤h) (h2:h≤len):slcV size (some l) (some h) (.sl nm off len none size)=some (.sl nm (off+l*size) (h - l) none size):=by
  rw[slcV,if_pos ⟨h1,h2,rfl⟩]
theorem slcV_cap (size:Nat) (nm:Nm) (off len c l h:Nat) (h1:l≤h) (h2:h≤c):slcV size (some l) (some h) (.sl nm off len (some c) size)=some (.sl nm (off+l*size) (h - l) (some (c - l)) size):=by
  rw[slcV,if_pos ⟨h1,h2,rfl⟩]
theorem slcV_isl (size:Nat) (xs:List LV) (len l h:Nat) (h1:l≤h) (h2:h≤len):slcV size (some l) (some h) (.isl xs len)=some (.isl ((xs.drop (l*size)).take ((h - l)*size)) (h - l)):=by
  rw[slcV,if_pos ⟨h1,h2⟩]
theorem qcn (n:Nat):(some n).getD 0=n:=nf rfl
def arrpV (n:Nat):LV→Option LV
  | .sl m off len _ _=>if 0 < n∧n≤len then some (.ptr m off) else none
  | .isl xs len=>if 0 < n∧n≤len then some (.ipt xs) else none
  | _=>none
theorem op_arrp (n:Nat) (x:LX):opRes E tm H b (.arrp n x)=outR (arrpV n (evX E.gl tm x)):=by
  simp only[opRes,qcs,heapOp]
  generalize evX E.gl tm x=x
  cases x with
  | sl m off len c es=>simp only[arrpV]; by_cases hc:0 < n∧n≤len <;> simp[hc,outR]
  | isl xs len=>simp only[arrpV]; by_cases hc:0 < n∧n≤len <;> simp[hc,outR]
  | _=>rfl
theorem arrpV_isl (n:Nat) (xs:List LV) (len:Nat) (h0:0 < n) (h:n≤len):arrpV n (.isl xs len)=some (.ipt xs):=by rw[arrpV,if_pos ⟨h0,h⟩]
def iaSV (size:Nat) (j:Option Nat):LV→Option LV
  | .sl nm off len _ _=>match j with | some j=>if j < len then some (.ptr nm (off+j*size)) else none | none=>none
  | .isl xs len=>match j with | some j=>if j < len then some (.ipt (xs.drop (j*size))) else none | none=>none
  | _=>none
theorem op_iaS (size:Nat) (x i:LX):opRes E tm H b (.iaS size x i)=outR (iaSV size (natOf (evX E.gl tm i)) (evX E.gl tm x)):=by
  simp only[opRes,qcs,heapOp]
  generalize evX E.gl tm x=x
  cases natOf (evX E.gl tm i) with
  | none=>cases x <;> rfl
  | some j =>
    cases x with
    | sl m off len c es=>simp only[iaSV]; by_cases hc:j < len <;> simp[hc,outR]
    | isl xs len=>simp only[iaSV]; by_cases hc:j < len <;> simp[hc,outR]
    | _=>rfl
theorem qdf (size:Nat) (nm:Nm) (off len:Nat) (c:Option Nat) (es j:Nat) (h:j < len):iaSV size (some j) (.sl nm off len c es)=some (.ptr nm (off+j*size)):=by rw[iaSV,if_pos h]
theorem iaSV_isl (size:Nat) (xs:List LV) (len j:Nat) (h:j < len):iaSV size (some j) (.isl xs len)=some (.ipt (xs.drop (j*size))):=by rw[iaSV,if_pos h]
def slcAV (n size:Nat) (lo hi:Option Nat):LV→Option LV
  | .ptr nm off=>match lo,hi with
    | some l,some h=>if l≤h∧h≤n then some (.sl nm (off+l*size) (h - l) (some (n - l)) size) else none
    | _,_=>none
  | .ipt xs=>match lo,hi with
    | some l,some h=>if l≤h∧h≤n then some (.isl ((xs.drop (l*size)).take ((h - l)*size)) (h - l)) else none
    | _,_=>none
  | _=>none
theorem op_slcAV (n size:Nat) (x:LX) (lo hi:Option LX):opRes E tm H b (.slcA n size x lo hi none)=outR (slcAV n size (qcQ E.gl tm 0 lo) (qcQ E.gl tm n hi) (evX E.gl tm x)):=by
  simp only[opRes,qcs,heapOp]
  generalize evX E.gl tm x=x
  cases qcQ E.gl tm 0 lo with
  | none=>cases x <;> rfl
  | some l =>
    cases qcQ E.gl tm n hi with
    | none=>cases x <;> rfl
    | some h =>
      simp only[qcQ,Nat.le_refl,true_and,Option.isSome_none,zf,false_implies,zS]
      cases x with
      | ptr nm off=>simp only[slcAV]; by_cases hh:l≤h∧h≤n <;> simp[hh,outR]
      | ipt xs=>simp only[slcAV]; by_cases hh:l≤h∧h≤n <;> simp[hh,outR]
      | _=>simp[slcAV,outR]
theorem slcAV_ptr (n size:Nat) (nm:Nm) (off l h:Nat) (h1:l≤h) (h2:h≤n):slcAV n size (some l) (some h) (.ptr nm off)=some (.sl nm (off+l*size) (h - l) (some (n - l)) size):=by rw[slcAV,if_pos ⟨h1,h2⟩]
def mkK (b size bytes:Nat) (zero:qaV):Option Nat→Option Nat→Option Out
  | some l,some c=>if l≤c∧c*bytes≤2 ^ 47∧c < 2 ^ 62∧zero.length=size then some ⟨.sl (b,0) 0 l (some c) size,[(List.replicate c zero).flatten],[]⟩ else none
  | _,_=>none
theorem op_mkslice (size bytes:Nat) (zero:qaV) (l c:LX):opRes E tm H b (.mkslice size bytes zero l c)=mkK b size bytes zero (natOf (evX E.gl tm l)) (natOf (evX E.gl tm c)):=by
  simp only[opRes,qcs,heapOp]
  cases natOf (evX E.gl tm l) <;> cases natOf (evX E.gl tm c) <;> rfl
def rowK (b size len:Nat):Option qaV→Option Out
  | some cs=>some ⟨.sl (b,0) 0 len (some len) size,[cs],[]⟩
  | none=>none
theorem qdd (size:Nat) (zero:qaV) (ps:List (Nat × Nat × LX)) (len:Nat):opRes E tm H b (.mkrow size zero ps len)=rowK b size len (fill zero (ps.map fun p=>(p.1,p.2.1,evX E.gl tm p.2.2))):=by
  simp only[opRes,qcs,heapOp]
  cases fill zero (ps.map fun p=>(p.1,p.2.1,evX E.gl tm p.2.2)) <;> rfl
theorem qcX (size len:Nat) (cs:qaV):rowK b size len (some cs)=some ⟨.sl (b,0) 0 len (some len) size,[cs],[]⟩:=nf rfl
end Go.LE
namespace Go.LE
end Go.LE
namespace Go.LE
variable {E:Env} {tm:List LV} {H:Heap} {b:Nat}
def updN (b:Nat):Nat→List qaV→Heap→Heap
  | _,[],H=>H
  | j,z::zs,H=>updN b (j+1) zs (upd H (b,j) (some z))
theorem qaI (j:Nat) (H:Heap):updN b j [] H=H:=nf rfl
theorem qaZ (j:Nat) (z:qaV) (zs:List qaV) (H:Heap):updN b j (z::zs) H=updN b (j+1) zs (upd H (b,j) (some z)):=nf rfl
def modN:List (Nm × Option qaV)→Heap→Heap
  | [],H=>H
  | (n,x)::ms,H=>upd (modN ms H) n x
theorem qaA (H:Heap):modN [] H=H:=nf rfl
theorem qa6 (n:Nm) (x:Option qaV) (ms:List (Nm × Option qaV)) (H:Heap):modN ((n,x)::ms) H=upd (modN ms H) n x:=nf rfl
theorem modN_eq (H:Heap):∀ ms,modsAt H ms=modN ms H:=by
  intro ms
  induction ms with
  | nil=>rfl
  | cons p ms ih =>
    obtain ⟨n,x⟩:=p
    funext m
    simp only[modsAt,modN,upd,ih]
theorem updN_at (b:Nat):∀ (zs:List qaV) (j:Nat) (H:Heap) (m:Nm),updN b j zs H m=if m.1=b∧j≤m.2∧m.2 < j+zs.length then zs[m.2 - j]? else H m:=by
  intro zs
  induction zs with
  | nil=>intro j H m; rw[updN,if_neg (fun h=>by have:=h.2; simp only[zJ] at this; omega)]
  | cons z zs ih =>
    intro j H m
    rw[updN,ih]
    obtain ⟨m1,m2⟩:=m
    simp only[zK,upd]
    by_cases h1:m1=b
    · subst h1
      by_cases h2:m2=j
      · subst h2
        rw[if_neg (by omega),if_pos rfl,if_pos (by omega)]
        simp
      · by_cases h3 : j ≤ m2 ∧ m2 < j + (zs.length + 1)
        · rw [if_pos (by omega), if_pos (by omega)]
          have:m2 - j=(m2 - (j+1))+1:=by omega
          rw[this,List.getElem?_cons_succ]
        · rw[if_neg (by omega),if_neg (by simp; omega),if_neg (by omega)]
    · rw[if_neg (by omega),if_neg (by simp; omega),if_neg (by omega)]
theorem applyOut_gen (n:Nat) (r:Out) (H:Heap):qc0 n r H=updN n 0 r.news (modN r.mods H):=by
  funext m
  rw[updN_at,←modN_eq]
  simp only[qc0,zA,Nat.zero_le,true_and,Nat.sub_zero]
theorem qam (b i:Nat) (os:List LOper) (log:List Done) (d:Option Nat) (tm:List LV) (H:Heap) (nx np:Nat) (v:LV) (news:List qaV) (ms:List (Nm × Option qaV)) :
    stepK E b i os log d tm H nx np (some ⟨v,news,ms⟩)=qdb E b (i+1) os log ⟨put tm d v,updN (b+i) 0 news (modN ms H),nx,np⟩:=by
  simp only[stepK,applyOut_gen]
theorem qaU (b i:Nat) (os:List LOper) (log:List Done) (d:Option Nat) (bf:Nat) (X:List Nm) (tm:List LV) (H:Heap) (nx np:Nat) (v:LV) (news:List qaV) (ms:List (Nm × Option qaV)) :
    ordK E b i os log d bf X tm H nx np (some ⟨v,news,ms⟩)=if qbQ X (ms.map (·.1)) log b bf=true then qdb E b (i+1) os (⟨i,X,ms.map (·.1)⟩::log) ⟨put tm d v,updN (b+i) 0 news (modN ms H),nx,np⟩ else none:=by
  simp only[ordK,applyOut_gen]
def resK (names:List Nm) (base:Nat) (plain:Bool):Option CallRes→Option Out
  | some res=>if plain || plainRes res then some (backTo names base res) else none
  | none=>none
def callN (E:Env) (H:Heap) (base:Nat) (g:FuncId) (args':List LV) (lent names:List Nm):Option Out :=
  if lent.any (fun n=>names.contains n)=true then none else
    resK names base lent.isEmpty (E.cal g (args'.map (ren D (qbx names))) ((names.filterMap H).map fun cs=>cs.map (ren D (qbx names))))
def callL (E:Env) (H:Heap) (base:Nat) (g:FuncId):Option (List LV × List Nm)→Option Out
  | some (args',lent)=>callN E H base g args' lent (qbL H FUEL [] (args'.flatMap (nms D)))
  | none=>none
theorem callOp_L (g:FuncId) (args:List LV):qbD E H b g args=callL E H b g (lend H (E.borrow g) 0 args):=by
  unfold qbD callL
  cases lend H (E.borrow g) 0 args with
  | none=>rfl
  | some p =>
    obtain ⟨args',lent⟩:=p
    simp only[callN,resK]
    split
    · rfl
    · split <;> simp_all
theorem callL_some (base:Nat) (g:FuncId) (args':List LV) (lent:List Nm):callL E H base g (some (args',lent))=callN E H base g args' lent (qbL H FUEL [] (args'.flatMap (nms D))):=nf rfl
theorem callN_eq (base:Nat) (g:FuncId) (args':List LV) (lent names:List Nm) (h:lent.any (fun n=>names.contains n)=false) :
    callN E H base g args' lent names=resK names base lent.isEmpty (E.cal g (args'.map (ren D (qbx names))) ((names.filterMap H).map fun cs=>cs.map (ren D (qbx names)))):=by
  rw[callN,if_neg (by rw[h]; decide)]
theorem resK_sc (names:List Nm) (base:Nat) (res:CallRes):resK names base true (some res)=some (backTo names base res):=nf rfl
theorem qdp (names:List Nm) (base:Nat) (r:LV) (passed:List (Option qaV)) (news:List qaV) :
    backTo names base (r,passed,news)=⟨ren D (qc5 names base news.length) r,news.map (fun cs=>cs.map (ren D (qc5 names base news.length))),List.zipWith (fun n p=>(n,p.map fun cs=>cs.map (ren D (qc5 names base news.length)))) names passed⟩:=nf rfl
def lendC (x:Option (LV × List Nm)) (r:Option (List LV × List Nm)):Option (List LV × List Nm) :=
  match x,r with
  | some (y,a),some (ys,c)=>some (y::ys,a++c)
  | _,_=>none
theorem lend_nil (f:Nat→Bool) (i:Nat):lend H f i []=some ([],[]):=nf rfl
theorem qdq (f:Nat→Bool) (i:Nat) (x:LV) (xs:List LV):lend H f i (x::xs)=lendC (if f i=true then snap H D x else some (x,[])) (lend H f (i+1) xs):=by
  rw[lend]
  generalize (if f i=true then snap H D x else some (x,[]))=o
  generalize lend H f (i+1) xs=r
  cases o with
  | none=>rfl
  | some p=>cases r with
    | none=>rfl
    | some q=>rfl
theorem qde (y:LV) (a:List Nm) (ys:List LV) (c:List Nm):lendC (some (y,a)) (some (ys,c))=some (y::ys,a++c):=nf rfl
theorem snapL_bs (H:Heap) (d:Nat) (l:List (BitVec 8)):snapL (snap H (d+1)) (bs l)=some (bs l,[]):=by
  induction l with
  | nil=>rfl
  | cons x l ih=>simp only[bs,zG] at ih ⊢; simp only[snapL,ih]; rfl
theorem snap_bytes (n:Nm) (off len:Nat) (cap:Option Nat) (l:List (BitVec 8)) (h:H n=some (bs l)) (h0:len≠0) :
    snap H D (.sl n off len cap 1)=some (.isl (bs ((l.drop off).take len)) len,[n]):=by
  simp only[snap,if_neg h0,h,bs_drop,zk,qcF,snapL_bs,zH]
theorem snap_zero (n:Nm) (off:Nat) (cap:Option Nat) (es:Nat):snap H D (.sl n off 0 cap es)=some (.isl [] 0,[]):=nf rfl
theorem snap_isl (xs:List LV) (len:Nat):snap H D (.isl xs len)=some (.isl xs len,[]):=nf rfl
theorem toCallee_eq (names:List Nm) (n:Nm):qbx names n=(idx n names 0).map fun i=>(0,i):=nf rfl
theorem idx_cons (n m:Nm) (ms:List Nm) (i:Nat):idx n (m::ms) i=if m=n then some i else idx n ms (i+1):=nf rfl
theorem toCaller_0 (names:List Nm) (base k j:Nat):qc5 names base k (0,j)=names[j]? := by simp[qc5]
theorem toCaller_1 (names:List Nm) (base k j:Nat) (h:j < k):qc5 names base k (1,j)=some (base,j):=by simp[qc5,h]
theorem qbw (l:List (BitVec 8)) (n:Nat):nms D (.isl (bs l) n)=[]:=by
  show (bs l).flatMap (nms 7)=[]
  rw[List.flatMap_eq_nil_iff]; intro x hx; simp only[bs,List.mem_map] at hx; obtain ⟨y,_,rfl⟩:=hx; rfl
theorem qbO (π:Nm→Option Nm) (l:List (BitVec 8)) (n:Nat):ren D π (.isl (bs l) n) = .isl (bs l) n:=by
  show LV.isl ((bs l).map (ren 7 π)) n=_
  congr 1
  simp only[bs,List.map_map]; apply List.map_congr_left; intro x _; rfl
theorem qdk (np:Nat) (st:St) (ret:LV) (names:List Nm) (h:qav st.H np [ret]=names) :
    outOf np st ret=(ren D (qdg names) ret,(List.range np).map (fun i=>(st.H (0,i)).map fun cs=>cs.map (ren D (qdg names))),(names.filterMap st.H).map fun cs=>cs.map (ren D (qdg names))):=by
  subst h; rfl
theorem qcK (names:List Nm) (j:Nat):qdg names (0,j)=some (0,j):=by simp[qdg]
theorem canonMap_ne (names:List Nm) (i j:Nat) (h:i≠0):qdg names (i,j)=(idx (i,j) names 0).map fun i=>(1,i):=by simp[qdg,h]
end Go.LE
namespace Go.LE
def chkV:LV→Option LV
  | .ptr n off=>some (.ptr n off)
  | .ipt xs=>some (.ipt xs)
  | .fn (.func f) a b=>some (.fn (.func f) a b)
  | _=>none
theorem op_chk {E:Env} {tm:List LV} {H:Heap} {b:Nat} (x:LX):opRes E tm H b (.chk x)=outR (chkV (evX E.gl tm x)):=by
  simp only[opRes,qcs,heapOp]
  generalize evX E.gl tm x=y
  cases y with
  | fn f a c=>cases f <;> rfl
  | _=>rfl
theorem qcq (n:Nm) (off:Nat):chkV (.ptr n off)=some (.ptr n off):=nf rfl
theorem eqp_ptr (n:Nm) (off:Nat):binV .eql .ptr (.ptr n off) NilP=some (Bo false):=nf rfl
theorem eqp_nil:binV .eql .ptr NilP NilP=some (Bo true):=nf rfl
theorem nep_ptr (n:Nm) (off:Nat):binV .neq .ptr (.ptr n off) NilP=some (Bo true):=nf rfl
theorem qac (xs:List LV) (n:Nat):isCell (.isl xs n)=true:=nf rfl
theorem qbX (names:List Nm) (H:Heap) (j:Nat):cN names H (0,j)=(H (0,j)).map (fun cs=>cs.map (ren D (qdg names))):=nf rfl
end Go.LE
namespace Go.LE
theorem qck (objs:List qaV) (j:Nat):qb4 objs (0,j)=objs[j]? := by simp[qb4]
theorem qa2 (objs:List qaV) (i j:Nat) (h:i≠0):qb4 objs (i,j)=none:=by simp[qb4,h]
theorem range_one:List.range 1=[0]:=nf rfl
theorem qcc:List.range 2=[0,1]:=nf rfl
end Go.LE
namespace Go.LE
def ptrO (off:Nat):Option Nm→LV
  | some m => .ptr m off
  | none => .undef
def slO (off len:Nat) (c:Option Nat) (es:Nat):Option Nm→LV
  | some m => .sl m off len c es
  | none => .undef
theorem qb2 (π:Nm→Option Nm) (n:Nm) (off:Nat):ren D π (.ptr n off)=ptrO off (π n):=by
  simp only[ren,ptrO]; cases π n <;> rfl
theorem qbq (π:Nm→Option Nm) (n:Nm) (off len:Nat) (c:Option Nat) (es:Nat):ren D π (.sl n off len c es)=slO off len c es (π n):=by
  simp only[ren,slO]; cases π n <;> rfl
theorem qcE (off:Nat) (m:Nm):ptrO off (some m) = .ptr m off:=nf rfl
theorem qbK (off len:Nat) (c:Option Nat) (es:Nat) (m:Nm):slO off len c es (some m) = .sl m off len c es:=nf rfl
end Go.LE
namespace Go.LE
theorem nms_tup0:nms D (.tup [])=[]:=nf rfl
theorem ren_tup0 (π:Nm→Option Nm):ren D π (.tup []) = .tup []:=nf rfl
end Go.LE
namespace Go.LE
end Go.LE
namespace Go.LE
end Go.LE
namespace Go.LE
end Go.LE
namespace Go.LE
def txt (l:List (BitVec 8)):LV := .v (.string ⟨(l.map fun x=>UInt8.ofNat x.toNat).toArray⟩)
theorem bytesOf_bs (l:List (BitVec 8)):bytesOf (bs l)=some (l.map fun x=>UInt8.ofNat x.toNat):=by
  induction l with
  | nil=>rfl
  | cons x l ih=>simp only[bs,zG] at ih ⊢; simp only[B8,bytesOf,ih]; rfl
def b2sK:Option qaV→Option Out
  | some cs=>(bytesOf cs).map fun b=>⟨.v (.string ⟨b.toArray⟩),[],[]⟩
  | none=>none
theorem b2sK_bs (l:List (BitVec 8)):b2sK (some (bs l))=some ⟨txt l,[],[]⟩:=by
  simp only[b2sK,bytesOf_bs]; rfl
def b2sV (H:Heap) (y:LV):Option Nat→Option Out
  | some n=>(match y with
    | .v (.string _)=>none
    | y=>b2sK (front H 1 n y))
  | none=>none
theorem op_b2s {E:Env} {tm:List LV} {H:Heap} {b:Nat} (x:LX):opRes E tm H b (.b2s x)=b2sV H (evX E.gl tm x) (lenOf (evX E.gl tm x)):=by
  simp only[opRes,qcs,heapOp,b2sV]
  generalize evX E.gl tm x=y
  cases lenOf y with
  | none=>rfl
  | some n =>
    cases y with
    | v z=>cases z <;> (try rfl) <;> (simp only[b2sK]; cases front H 1 n _ <;> rfl)
    | _=>simp only[b2sK]; cases front H 1 n _ <;> rfl
theorem b2sV_sl (H:Heap) (m:Nm) (off len:Nat) (c:Option Nat) (es n:Nat):b2sV H (.sl m off len c es) (some n)=b2sK (front H 1 n (.sl m off len c es)):=nf rfl
theorem b2sV_isl (H:Heap) (xs:List LV) (len n:Nat):b2sV H (.isl xs len) (some n)=b2sK (front H 1 n (.isl xs len)):=nf rfl
end Go.LE
namespace Go.LE
open Go.ChangeShapes Go.WideShapes Go.ChangeAt Go.RowKit
def vB (n:Nat) (g:Nat→BitVec 8):List Value:=(List.range n).map fun i => .int .u8 ((g i).toNat:Int)
theorem rep_vB (R:Imm) (p:qcw) (n:Nat) (g:Nat→BitVec 8):Rep R p (aB n g) (vB n g):=by
  have h:aB n g=(vB n g).map .v:=by simp only[aB,arr,vB,List.map_map]; rfl
  rw[h]; exact Rep.plain _
section
variable {H:Type} {enc:TypeId × Value→H} {P:Program} {W:World} {base b:Nat} {sp:Nat→Bool} {held:Bool} {t e:TypeId} {n:Nat} {v:Value} {d:DataW H} {p:List MemPlace}
theorem open_ints {k:IntKind} (ht:P.underlying t=some (.array n e)) (he:P.underlying e=some (.int k)) (hc:P.cellsOf e=1) (hct:P.cellsOf t=n)
    (hv:Value.okWide P W .any base t v) (h:DataW.Trod enc P W b sp held t v d p) :
    ∃ cs:List Int,v = .agg (cs.map (Value.int k)).toArray∧cs.length=n∧(∀ x ∈ cs,(Lit.int k x).wf=true)∧p=[]:=by
  simp only[Value.okWide,ht] at hv
  obtain ⟨cs,rfl,hsz,_⟩:=hv
  obtain ⟨cs⟩:=cs
  obtain ⟨fuel,hf⟩:=h
  obtain ⟨xs,m,rfl,hx,hl,hn,hi⟩:=DataW.trod_array ht hf
  simp only[Value.cells] at hl hi hsz
  rw[hct] at hl
  have key:∀ i,i < n→∃ a:Int,cs[i]? = some (.int k a)∧(Lit.int k a).wf=true∧∃ y,xs[i]? = some y∧y.2=[]:=by
    intro i h1
    have h2:=hi i h1
    rw[hc,zk] at h2
    have h3:i < xs.length:=by omega
    rw[List.getElem?_eq_getElem h3] at h2
    obtain ⟨a,e0,e1,wa⟩:=DataW.trod_int he h2
    refine ⟨a,?_,wa,xs[i],List.getElem?_eq_getElem h3,?_⟩
    · have h4 : i < cs.length := by rw [hl]; exact h1
      have h5:(cs.drop i).take 1=[cs[i]]:=by
        rw[List.drop_eq_getElem_cons h4]; rfl
      have e0:(cs.drop i).take 1=[.int k a]:=by simpa using e0
      rw[h5] at e0
      rw[List.getElem?_eq_getElem h4]
      simpa using e0
    · rw[e1]
  have hex:∃ f:Nat→Int,∀ i,i < n→cs[i]? = some (.int k (f i))∧(Lit.int k (f i)).wf=true:=by
    refine ⟨fun i=>if h:i < n then (key i h).choose else 0,fun i h => ?_⟩
    simp only[h,dif_pos]
    exact ⟨(key i h).choose_spec.1,(key i h).choose_spec.2.1⟩
  obtain ⟨f,hf⟩:=hex
  refine ⟨(List.range n).map f,?_,by simp,?_,?_⟩
  · congr 2
    apply List.ext_getElem?
    intro i
    by_cases h1:i < n
    · rw [(hf i h1).1]; simp[h1]
    · rw[List.getElem?_eq_none (by omega),List.getElem?_eq_none (by simp; omega)]
  · intro x hx'
    simp only[List.mem_map,List.mem_range] at hx'
    obtain ⟨i,h1,rfl⟩:=hx'
    exact (hf i h1).2
  · simp only [zF] at hx
    rw[hx.2,List.flatMap_eq_nil_iff]
    intro y hy
    obtain ⟨i,h1,rfl⟩:=List.mem_iff_getElem.1 hy
    obtain ⟨_,_,_,y,h2,h3⟩:=key i (by omega)
    rw[List.getElem?_eq_getElem h1] at h2
    cases h2
    exact h3
theorem ints8 {cs:List Int} (h:∀ x ∈ cs,(Lit.int .u8 x).wf=true):∃ g:Nat→BitVec 8,cs.map (Value.int .u8)=vB cs.length g:=by
  refine ⟨fun i=>BitVec.ofInt 8 (cs.getD i 0),?_⟩
  apply List.ext_getElem
  · simp[vB]
  · intro i h1 h2
    have h3:i < cs.length:=by simpa using h1
    obtain ⟨x,hx⟩:=wf_u8 (h cs[i] (List.getElem_mem h3))
    simp[vB,h3,hx]
    have:=x.isLt
    omega
theorem open_arr8 (ht:P.underlying t=some (.array n e)) (he:P.underlying e=some (.int .u8)) (hc:P.cellsOf e=1) (hct:P.cellsOf t=n)
    (hv:Value.okWide P W .any base t v) (h:DataW.Trod enc P W b sp held t v d p):∃ g:Nat→BitVec 8,v = .agg (vB n g).toArray∧p=[]:=by
  obtain ⟨cs,rfl,hl,hw,hp⟩:=open_ints ht he hc hct hv h
  obtain ⟨g,hg⟩:=ints8 hw
  exact ⟨g,by rw[hg,hl],hp⟩
end
end Go.LE
namespace Go.LE
open Go.ChangeShapes Go.WideShapes Go.ChangeAt Go.RowKit
inductive LK where
  | int (k:IntKind)
  | bool
def leaves (P:Program):Nat→TypeId→Option (List (Nat × LK))
  | 0,_=>none
  | d+1,t=>match P.underlying t with
    | some (.int k)=>some [(0,.int k)]
    | some .bool=>some [(0,.bool)]
    | some (.array n e)=>match leaves P d e with
      | some ls=>some ((List.range n).flatMap fun i=>ls.map fun p=>(i*P.cellsOf e+p.1,p.2))
      | none=>none
    | some (.struct fs)=>match seqO (fs.toList.map fun f=>(leaves P d f.type).map fun ls=>ls.map fun p=>(f.offset+p.1,p.2)) with
      | some lss=>some lss.flatten
      | none=>none
    | _=>none
section
variable {H:Type} {enc:TypeId × Value→H} {P:Program} {W:World} {base b:Nat} {sp:Nat→Bool} {held:Bool}
end
end Go.LE
namespace Go.LE
open Go.ChangeShapes Go.WideShapes Go.ChangeAt Go.RowKit
section
variable {H:Type} {enc:TypeId × Value→H} {P:Program} {W:World} {base b:Nat} {sp:Nat→Bool} {held:Bool} {t e:TypeId} {n:Nat} {v:Value} {d:DataW H} {p:List MemPlace}
theorem trod_lt_all (h:DataW.Trod enc P W b sp held t v d p):∀ x ∈ p,x.block < W.heap.size:=by
  obtain ⟨n,h⟩:=h
  exact DataW.trod_lt n _ _ _ h
def SlLen (d:DataW H) (n:Nat):Prop:=(n=0∧d = .nil)∨∃ l s,d = .slice l s∧l.length=n
theorem cells_at {a:Addr} {n:Nat} (hn:0 < n) {f:Nat→Value} (h:∀ i,i < n→W.cell? (a.add i)=some (f i)) :
    ∃ o cs,a=⟨a.block,o,none⟩∧allImm W a.block=some cs∧(cs.drop o).take n=(List.range n).map f:=by
  obtain ⟨ab,ao,asp⟩:=a
  have h0:=h 0 hn
  simp only[Addr.add,if_pos,World.cell?] at h0
  split at h0
  · rename_i cs T fz hb
    cases asp with
    | some x=>simp at h0
    | none =>
      refine ⟨ao,cs.toList,rfl,by simp[allImm,hb],?_⟩
      apply List.ext_getElem?
      intro i
      by_cases hi:i < n
      · have h1 := h i hi
        have h2:(Addr.add ⟨ab,ao,none⟩ i)=⟨ab,ao+i,none⟩:=by
          unfold Addr.add; split
          · rename_i h3; subst h3; rfl
          · rfl
        rw[h2,World.cell?,hb] at h1
        simp only[Option.isSome_none,zf,zE] at h1
        rw[List.getElem?_take,if_pos hi,List.getElem?_drop,Array.getElem?_toList,h1]
        simp[hi]
      · rw[List.getElem?_take,if_neg hi,List.getElem?_eq_none (by simp; omega)]
  · cases h0
theorem open_slice8 (ht:P.underlying t=some (.slice e)) (he:P.underlying e=some (.int .u8)) (hc:P.cellsOf e=1)
    (hv:Value.okWide P W .any base t v) (h:DataW.Trod enc P W b sp held t v d p) :
    ∃ l:List (BitVec 8),Rep1 (allImm W) noPlaces (.isl (bs l) l.length) v∧SlLen d l.length:=by
  obtain ⟨a0,len0,cap0,rfl⟩:=okWide_slice ht hv
  obtain ⟨fuel,hf⟩:=h
  simp only[Value.cells] at hf
  rcases Go.ChangeShapes.open_ints ht he hc hf with ⟨h1,h2⟩ | ⟨a,len,cap,zs,h1,_,hlc,_,hz,hx,hcell,hwf⟩
  · simp at h1
    obtain ⟨rfl,rfl,rfl⟩:=h1
    simp only[zF] at h2
    exact ⟨[],.isl0 .nil,.inl ⟨rfl,h2.1⟩⟩
  · simp at h1
    obtain ⟨rfl,rfl,rfl⟩:=h1
    simp only[zF] at hx
    have hle:len0≤zs.length:=by rw[hz]; split <;> omega
    refine ⟨(zs.take len0).map (BitVec.ofInt 8),?_,.inr ⟨_,_,hx.1,by simp[lits]⟩⟩
    have hl:((zs.take len0).map (BitVec.ofInt 8)).length=len0:=by simp; omega
    rw[hl]
    by_cases hn:len0=0
    · subst hn; exact .isl0 .nil
    · obtain ⟨o, cs, ea, hi, ht⟩ := cells_at (W := W) (a := a) (n := len0) (by omega) (fun i hi => hcell i (by omega))
      rw[ea]
      refine .isl hi ?_ hlc .nil
      rw[qad,hl,ht]
      have e:(bs ((zs.take len0).map (BitVec.ofInt 8)))=((List.range len0).map fun i=>Value.int .u8 (zs.getD i 0)).map .v:=by
        apply List.ext_getElem
        · simp[bs]; omega
        · intro i h1 h2
          have h3:i < len0:=by simpa using h2
          have h4:i < zs.length:=by omega
          simp only[bs,List.getElem_map,List.getElem_take,List.getElem_range,B8]
          have:=hwf _ (List.getElem_mem h4)
          simp[Lit.wf,IntKind.min,IntKind.max,IntKind.signed,IntKind.bits] at this
          have e2:zs.getD i 0=zs[i]:=by simp[List.getD,h4]
          rw[e2]
          congr 2
          rw[BitVec.toNat_ofInt]
          have:=this.1
          omega
      rw[e]
      exact Rep.plain _
end
end Go.LE
namespace Go.LE
theorem weights_each {H:Type} {P:Program}:∀ {ts:List TypeId} {ds:List (DataW H)} {i:Nat} {t:TypeId} {d:DataW H},(DataW.weightsEach P ts ds).all (· ≤ reachBytes)=true→ts[i]? = some t→ds[i]? = some d →
    (d.weights P t).all (· ≤ reachBytes)=true:=by
  intro ts
  induction ts with
  | nil=>intro ds i t d _ h; simp at h
  | cons u ts ih =>
    intro ds i t d h ht hd
    cases ds with
    | nil=>simp at hd
    | cons e ds =>
      simp only[DataW.weightsEach,List.all_append,Bool.and_eq_true] at h
      cases i with
      | zero =>
        simp only[List.getElem?_cons_zero,Option.some.injEq] at ht hd
        subst ht; subst hd; exact h.1
      | succ i =>
        simp only[List.getElem?_cons_succ] at ht hd
        exact ih h.2 ht hd
theorem weights_sl {H:Type} {P:Program} {t e:TypeId} {d:DataW H} {n:Nat} (h:(d.weights P t).all (· ≤ reachBytes)=true) (ht:P.underlying t=some (.slice e)) (hl:SlLen d n):n*P.bytesOf e≤140737488351232:=by
  rcases hl with ⟨rfl,_⟩ | ⟨l,s,rfl,rfl⟩
  · omega
  · simp only [DataW.weights, ht, za, Bool.and_eq_true, decide_eq_true_eq] at h
    have h1:=h.1
    rw[Nat.add_mul] at h1
    unfold reachBytes at h1
    omega
theorem weigh_sl {H:Type} {P:Program} {ts:List TypeId} {ds:List (DataW H)} {t e:TypeId} {d:DataW H} {n:Nat} (h:(DataW.weightsEach P ts ds).all (· ≤ reachBytes)=true) (i:Nat) (h1:ts[i]? = some t) (h2:ds[i]? = some d)
    (ht:P.underlying t=some (.slice e)) (hl:SlLen d n):n*P.bytesOf e≤140737488351232:=weights_sl (weights_each h h1 h2) ht hl
end Go.LE
namespace Go.LE
open Go.ChangeShapes Go.WideShapes Go.ChangeAt Go.RowKit
theorem Rep.flatMap {R:Imm} {p:qcw} {f:Nat→List LV} {g:Nat→List Value}:∀ (l:List Nat),(∀ i ∈ l,Rep R p (f i) (g i))→Rep R p (l.flatMap f) (l.flatMap g):=by
  intro l
  induction l with
  | nil=>intro _; exact .nil
  | cons x l ih =>
    intro h
    rw[zV,zV]
    exact Rep.append (h x (by simp)) (ih fun i hi=>h i (by simp[hi]))
section
variable {H:Type} {enc:TypeId × Value→H} {P:Program} {W:World} {base b:Nat} {sp:Nat→Bool} {held:Bool} {t e:TypeId} {c:Nat} {v:Value}
end
section
variable {H:Type} {enc:TypeId × Value→H} {P:Program} {W:World} {base b:Nat} {sp:Nat→Bool} {held:Bool} {t u e:TypeId} {n:Nat} {v:Value} {d:DataW H} {p:List MemPlace}
end
end Go.LE
namespace Go.LE
variable {E:Env} {tm:List LV} {H:Heap} {b:Nat}
theorem frontK_bs (off n:Nat) (l:List (BitVec 8)) (h:off+n≤l.length):qcG off 1 n (some (bs l))=some (bs ((l.drop off).take n)):=by
  simp only[qcG,zk,qad,if_pos h,bs_drop,qcF]
theorem frontK_bs_all (n:Nat) (l:List (BitVec 8)) (h:n=l.length):qcG 0 1 n (some (bs l))=some (bs l):=by
  rw[frontK_bs 0 n l (by omega),zw,List.take_of_length_le (by omega)]
theorem qdo (gl:Nat→Option qaV) (tm:List LV) (H:Heap) (size bytes:Nat) (x y:LX):touch gl tm H (.append size bytes false x y)=nms D (evX gl tm x)++nms D (evX gl tm y):=by simp[touch,deep,looks]
end Go.LE
namespace Go.LE
theorem ibp_nms (l:List (BitVec 8)) (j:Nat):nms D (.ipt ((bs l).drop j))=[]:=by
  rw[bs_drop]
  show (bs (l.drop j)).flatMap (nms 7)=[]
  rw[List.flatMap_eq_nil_iff]; intro x hx; simp only[bs,List.mem_map] at hx; obtain ⟨y,_,rfl⟩:=hx; rfl
theorem ofInt_N (a:Nat) (h:a < 18446744073709551616):(BitVec.ofInt 64 (a:Int)).toNat=a:=by
  rw[ofInt_nat,BitVec.toNat_ofNat,Nat.mod_eq_of_lt (by simpa using h)]
theorem N_xor (e:EqT) (a b:Nat) (ha:a < 9223372036854775808) (hb:b < 9223372036854775808):binV .xor e (N a) (N b)=some (N (a ^^^ b)):=by
  have h:a ^^^ b < 9223372036854775808:=Nat.xor_lt_two_pow (n:=63) ha hb
  have e1:(BitVec.ofInt 64 (a:Int) ^^^ BitVec.ofInt 64 (b:Int)).toNat=a ^^^ b:=by rw[BitVec.toNat_xor,ofInt_N a (by omega),ofInt_N b (by omega)]
  show some (LV.v (Value.int .i64 (IntKind.i64.wrap ((BitVec.ofInt 64 (a:Int) ^^^ BitVec.ofInt 64 (b:Int)).toNat:Int))))=_
  rw[e1,w64 _ (by omega)]; rfl
end Go.LE
namespace Go.LE
theorem txt_eql (e:EqT) (a b:List (BitVec 8)):binV .eql e (txt a) (txt b)=some (Bo (decide (a=b))):=by
  have h:∀ l:List (BitVec 8),(ByteArray.mk (l.map fun x=>UInt8.ofNat x.toNat).toArray).toList=l.map fun x=>UInt8.ofNat x.toNat:=by
    intro l; rw[ByteArray.toList_eq]
  simp only[binV,txt,strOp,zH,Bo]
  congr 3
  rw[Bool.eq_iff_iff,zm,decide_eq_true_iff,h,h]
  constructor
  · intro e
    have inj:∀ x y:BitVec 8,UInt8.ofNat x.toNat=UInt8.ofNat y.toNat→x=y:=by
      intro x y e
      have e2:=congrArg UInt8.toNat e
      have hx:=x.isLt; have hy:=y.isLt
      simp[UInt8.toNat_ofNat] at e2
      exact BitVec.eq_of_toNat_eq (by omega)
    exact List.map_inj_right (fun x y e=>inj x y e) |>.1 e
  · rintro rfl; rfl
end Go.LE
namespace Go.LE
def appE0 (m:Nm):Option qaV→Option Out
  | some cs=>some ⟨.sl m 0 0 (some 0) 1,[],[(m,some cs)]⟩
  | none=>none
theorem appX_e0 (b:Nat) (H:Heap) (m:Nm):appX b 1 1 0 H [] [] (.sl m 0 0 (some 0) 1)=appE0 m (H m):=by
  rw[appX,if_pos ⟨rfl,by decide,rfl⟩,if_pos (by decide)]
  cases H m with
  | none=>rfl
  | some cs =>
    simp only[appE0]
    rw[if_pos (by omega)]
    simp[qbC]
theorem cellsOf_isl (xs:List LV) (n:Nat):qc2 (.isl xs n)=some [.isl xs n]:=nf rfl
theorem appE0_some (m:Nm) (cs:qaV):appE0 m (some cs)=some ⟨.sl m 0 0 (some 0) 1,[],[(m,some cs)]⟩:=nf rfl
theorem appX_e (b k:Nat) (H:Heap) (m:Nm) (new:qaV) (h0:k≠0) (h:k≤211106232532992):appX b 1 1 k H [] new (.sl m 0 0 (some 0) 1)=some ⟨.sl (b,0) 0 k none 1,[new],[]⟩:=by
  rw[appX,if_pos ⟨rfl,by omega,rfl⟩,if_neg (by omega),front_sl0]
  simp
end Go.LE
namespace Go.LE
def RowIs (H:Heap) (x:LV) (m:Nm) (l:List (BitVec 8)):Prop :=
  ∃ c l',x = .sl m 0 l.length c 1∧H m=some (bs l')∧l.length≤l'.length∧l'.take l.length=l∧(c=none∨c=some l.length)
theorem RowIs.congr {H H':Heap} {x:LV} {m:Nm} {l:List (BitVec 8)} (h:RowIs H x m l) (e:H' m=H m):RowIs H' x m l:=by
  obtain ⟨c,l',h1,h2,h3⟩:=h
  exact ⟨c,l',h1,e.trans h2,h3⟩
theorem RowIs.new {H:Heap} {m:Nm} {l:List (BitVec 8)} {n:Nat} (h:H m=some (bs l)) (hn:l.length=n):RowIs H (.sl m 0 n (some n) 1) m l:=by
  subst hn
  exact ⟨some l.length,l,rfl,h,Nat.le_refl _,List.take_length,.inr rfl⟩
theorem RowIs.un {H:Heap} {m:Nm} {l:List (BitVec 8)} {n:Nat} (h:H m=some (bs l)) (hn:l.length=n):RowIs H (.sl m 0 n none 1) m l:=by
  subst hn
  exact ⟨none,l,rfl,h,Nat.le_refl _,List.take_length,.inl rfl⟩
theorem RowIs.front {H:Heap} {x:LV} {m:Nm} {l:List (BitVec 8)} (h:RowIs H x m l):front H 1 l.length x=some (bs l):=by
  obtain ⟨c,l',rfl,h1,h2,h3,_⟩:=h
  rw[front_bytes m 0 l.length c l' h1 (by omega),zw,h3]
theorem RowIs.lenOf {H:Heap} {x:LV} {m:Nm} {l:List (BitVec 8)} (h:RowIs H x m l):lenOf x=some l.length:=by
  obtain ⟨c,l',rfl,_⟩:=h; rfl
theorem RowIs.lenS {H:Heap} {x:LV} {m:Nm} {l:List (BitVec 8)} (h:RowIs H x m l):lenS x=some l.length:=by
  obtain ⟨c,l',rfl,_⟩:=h; rfl
theorem RowIs.nms {H:Heap} {x:LV} {m:Nm} {l:List (BitVec 8)} (h:RowIs H x m l):nms D x=[m]:=by
  obtain ⟨c,l',rfl,_⟩:=h; rfl
theorem RowIs.isCell {H:Heap} {x:LV} {m:Nm} {l:List (BitVec 8)} (h:RowIs H x m l):isCell x=true:=by
  obtain ⟨c,l',rfl,_⟩:=h; rfl
theorem RowIs.cellsOf {H:Heap} {x:LV} {m:Nm} {l:List (BitVec 8)} (h:RowIs H x m l):qc2 x=some [x]:=by
  obtain ⟨c,l',rfl,_⟩:=h; rfl
end Go.LE
