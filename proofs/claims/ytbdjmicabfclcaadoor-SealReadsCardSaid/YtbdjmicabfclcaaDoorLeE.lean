/- Loops by an invariant; long rows of cells as functions of the place. -/
import Derived.Test.YtbdjmicabfclcaaDoorLeB
import Derived.ProofKit
import Derived.OpenShut
import Derived.ChangeOld
import Derived.Below
import Derived.SizedLaws
import Derived.ChangeSlices
import GoSem.ClaimJoined
import Derived.Laws.Strings
import Derived.RangeFuncLeaves
import Derived.LoopNIn
import Derived.OrdersIn
import Derived.RangeFuncRecord
import Derived.RangeFuncSeq
import Derived.RangeFuncOwn
import Derived.KernelRfl
set_option linter.unusedVariables false
set_option linter.unusedSimpArgs false
namespace Go.LE
theorem loop_inv {f:St→Option (Ex × St)} {keep:List Bool} (J:Nat→St→Prop) (n:Nat)
    (round:∀ i st,i < n→J i st→∃ st1,f st=some (.normal,st1)∧J (i+1) (qa8 keep st1))
    (stop:∀ st,J n st→∃ x st1,f st=some (x,st1)∧(match x with | .normal=>False | _=>True))
    {k:Nat} (hk:n < k) {st:St} {r:Option (Ex × St)} (hL:qa1 keep f k st=r) (h0:J 0 (qa8 keep st)) :
    ∃ st',J n st'∧r=f st':=by
  subst hL
  obtain ⟨m,rfl⟩:∃ m,k=m+n+1:=⟨k - n - 1,by omega⟩
  have go:∀ (d i:Nat) (st:St),i+d=n→J i (qa8 keep st)→∃ st',J n st'∧qa1 keep f (m+d+1) st=f st':=by
    intro d
    induction d with
    | zero =>
      intro i st hi hj
      obtain rfl:i=n:=by omega
      obtain ⟨x,st1,h1,h2⟩:=stop _ hj
      refine ⟨_,hj,?_⟩
      rw[h1]
      cases x with
      | normal=>exact h2.elim
      | exit j=>exact qgx rfl h1
      | ret=>exact loopN_ret rfl h1
    | succ d ih =>
      intro i st hi hj
      obtain ⟨st1,h1,hj1⟩:=round i _ (by omega) hj
      obtain ⟨st',hj',e⟩:=ih (i+1) st1 (by omega) hj1
      refine ⟨st',hj',?_⟩
      rw[←e]
      exact qgw rfl h1
  exact go n 0 st (by omega) h0
theorem qaR {goal:Prop} {f:St→Option (Ex × St)} {keep:List Bool} {k:Nat} {st:St} {r:Option (Ex × St)} (hL:qa1 keep f k st=r) (J:Nat→St→Prop) (n:Nat) (hk:n < k)
    (round:∀ i st,i < n→J i st→∃ st1,f st=some (.normal,st1)∧J (i+1) (qa8 keep st1)) (h0:J 0 (qa8 keep st))
    (stop:∀ st,J n st→∃ x st1,f st=some (x,st1)∧(match x with | .normal=>False | _=>True))
    (next:∀ st',J n st'→r=f st'→goal):goal:=by
  obtain ⟨st',h1,h2⟩:=loop_inv J n round stop hk hL h0
  exact next st' h1 h2
theorem qao {P:St→Prop} {keep:List Bool} {tm tm' tm'':List LV} {H:Heap} {nx np:Nat} (names:List Nm) (h0:mask keep tm=tm')
    (hn:qbE H np tm'=names) (h2:tm'.map (ren D (qbm names))=tm'') (hp:P ⟨tm'',cN names H,2,np⟩):P (qa8 keep ⟨tm,H,nx,np⟩):=by
  rw[canon_mem h0 hn h2]
  exact hp
theorem qaO {f:St→Option (Ex × St)} {st st1:St} {i:Nat} (h:f st=some (.exit i,st1)):∃ x st1,f st=some (x,st1)∧(match x with | .normal=>False | _=>True):=⟨_,_,h,trivial⟩
def arr (n:Nat) (f:Nat→LV):qal:=(List.range n).map f
theorem rep_arr (n:Nat) (x:LV):List.replicate n x=arr n fun _=>x:=by
  apply List.ext_getElem <;> simp[arr]
theorem qc2 (n:Nat) (f:Nat→LV):(arr n f).length=n:=by simp[arr]
theorem arr_get (n:Nat) (f:Nat→LV) (i:Nat) (h:i < n):(arr n f)[i]? = some (f i):=by simp[arr,h]
theorem qhk (n:Nat) (f:Nat→LV) (i:Nat) (h:i < (arr n f).length):(arr n f)[i]=f i:=by simp[arr]
theorem arr_ext (n:Nat) {f g:Nat→LV} (h:∀ i,i < n→f i=g i):arr n f=arr n g:=by
  apply List.ext_getElem
  · simp[arr]
  · intro i h1 h2
    simp only[qhk]
    exact h i (by simpa [arr] using h1)
theorem arr_succ (n:Nat) (f:Nat→LV):arr (n+1) f=f 0::arr n fun i=>f (i+1):=by
  simp only[arr,List.range_succ_eq_map,zB,List.map_map]
  rfl
theorem cell_arr (n:Nat) (f:Nat→LV) (i:Nat) (h:i < n):qaS i 1 (some (arr n f))=some [f i]:=by
  have h1:i+1≤(arr n f).length:=by rw[qc2]; omega
  rw[qbH,if_pos h1]
  congr 1
  apply List.ext_getElem
  · simp only[zU,zR,zE,zL]; omega
  · intro j h2 h3
    obtain rfl:j=0:=by simp at h3; exact h3
    simp[arr]
theorem cells_arr (n:Nat) (f:Nat→LV):qaS 0 n (some (arr n f))=some (arr n f):=by
  rw[qbH,if_pos (by rw[qc2]; omega),zF,List.take_of_length_le (by rw[qc2]; exact Nat.le_refl _)]
def put1 (f:Nat→LV) (i:Nat) (x:LV):Nat→LV:=fun j=>if j=i then x else f j
theorem splice_arr (n:Nat) (f:Nat→LV) (i:Nat) (x:LV) (h:i < n):qbh (arr n f) i [x]=arr n (put1 f i x):=by
  have e:qbh (arr n f) i [x]=(arr n f).set i x:=by
    rw[List.set_eq_take_append_cons_drop,if_pos (by rw[qc2]; exact h)]
    simp[qbh]
  rw[e]
  apply List.ext_getElem
  · simp[arr]
  · intro j h1 h2
    rw[List.getElem_set]
    simp only[qhk,put1]
    by_cases hj:i=j
    · rw[if_pos hj,if_pos hj.symm]
    · rw[if_neg hj,if_neg (fun h=>hj h.symm)]
theorem st_arr (off n:Nat) (m:Nm) (x:LV) (f:Nat→LV) (h:off < n) (hx:qaB x=true) :
    stK 1 off m (some [x]) (some (arr n f))=some ⟨Un,[],[(m,some (arr n (put1 f off x)))]⟩:=by
  rw[qcw,if_pos ⟨rfl,by rw[qc2]; omega,by simp[hx]⟩,splice_arr _ _ _ _ h]
theorem qhF (n:Nat) (m:Nm) (f g:Nat→LV) (hx:∀ i,i < n→qaB (g i)=true) :
    stK n 0 m (some (arr n g)) (some (arr n f))=some ⟨Un,[],[(m,some (arr n g))]⟩:=by
  have h1:(arr n g).all qaB=true:=by
    rw[List.all_eq_true]
    intro x hx'
    simp only[arr,List.mem_map,List.mem_range] at hx'
    obtain ⟨i,hi,rfl⟩:=hx'
    exact hx i hi
  rw[qcw,if_pos ⟨qc2 _ _,by rw[qc2]; omega,h1⟩]
  simp[qbh,qc2]
theorem arr_nms (n:Nat) (f:Nat→LV) (h:∀ i,i < n→nms D (f i)=[]):(arr n f).flatMap (nms D)=[]:=by
  rw[List.flatMap_eq_nil_iff]
  intro x hx
  simp only[arr,List.mem_map,List.mem_range] at hx
  obtain ⟨i,hi,rfl⟩:=hx
  exact h i hi
theorem arr_ren (n:Nat) (f:Nat→LV) (π:Nm→Option Nm) (h:∀ i,i < n→ren D π (f i)=f i):(arr n f).map (ren D π)=arr n f:=by
  simp only[arr,List.map_map]
  apply List.map_congr_left
  intro i hi
  exact h i (List.mem_range.1 hi)
theorem ix1V_arr (len size n:Nat) (f:Nat→LV) (j:Nat) (h:j < len) (h2:j*size < n):ix1V len size (.agg (arr n f)) (some j)=some (f (j*size)):=by
  rw[ix1V_agg,if_pos h,arr_get _ _ _ h2]
theorem cellK_cons (off n:Nat) (c:LV) (cs:qal):qaS off n (some (c::cs))=if off+n≤(c::cs).length then some (((c::cs).drop off).take n) else none:=qbH _ _ _
theorem stK_cons (n off:Nat) (m:Nm) (ys:qal) (c:LV) (cs:qal) :
    stK n off m (some ys) (some (c::cs))=if ys.length=n∧off+n≤(c::cs).length∧ys.all qaB=true then some ⟨Un,[],[(m,some (qbh (c::cs) off ys))]⟩ else none:=qcw _ _ _ _ _
theorem iaV_lt (n size:Nat) (nm:Nm) (off j:Nat) (h:j < n):iaV n size (.ptr nm off) (some j)=some (.ptr nm (off+j*size)):=by
  rw[iaV_ptr,if_pos h]
theorem repUn_succ (n:Nat):List.replicate (n+1) Un=Un::List.replicate n Un:=List.replicate_succ
end Go.LE
namespace Go.LE
def set1 {A:Type} (g:Nat→A) (i:Nat) (x:A):Nat→A:=fun j=>if j=i then x else g j
theorem set1_same {A:Type} (g:Nat→A) (i:Nat) (x:A):set1 g i x i=x:=by simp[set1]
def aB (n:Nat) (g:Nat→BitVec 8):qal:=arr n fun i=>B8 (g i)
theorem qfG (n:Nat) (x:BitVec 8):List.replicate n (B8 x)=aB n fun _=>x:=rep_arr n _
theorem qbX (n:Nat) (g:Nat→BitVec 8):(aB n g).length=n:=qc2 _ _
theorem qcn (n:Nat) {f g:Nat→BitVec 8} (h:∀ i,i < n→f i=g i):aB n f=aB n g:=arr_ext n fun i hi=>by rw[h i hi]
theorem aB_put1 (g:Nat→BitVec 8) (i:Nat) (x:BitVec 8):put1 (fun j=>B8 (g j)) i (B8 x)=fun j=>B8 (set1 g i x j):=by
  funext j; simp only[put1,set1]; split <;> rfl
theorem aB_cell (n:Nat) (g:Nat→BitVec 8) (i:Nat) (h:i < n):qaS i 1 (some (aB n g))=some [B8 (g i)]:=cell_arr n _ i h
theorem aB_cells (n:Nat) (g:Nat→BitVec 8):qaS 0 n (some (aB n g))=some (aB n g):=cells_arr n _
theorem aB_st (off n:Nat) (m:Nm) (x:BitVec 8) (g:Nat→BitVec 8) (h:off < n):stK 1 off m (some [B8 x]) (some (aB n g))=some ⟨Un,[],[(m,some (aB n (set1 g off x)))]⟩:=by
  rw[aB,st_arr off n m _ _ h rfl,aB_put1]; rfl
theorem aB_st_all (n:Nat) (m:Nm) (f g:Nat→BitVec 8):stK n 0 m (some (aB n g)) (some (aB n f))=some ⟨Un,[],[(m,some (aB n g))]⟩:=qhF n m _ _ fun _ _=>rfl
theorem qaN (n:Nat) (g:Nat→BitVec 8):(aB n g).flatMap (nms D)=[]:=arr_nms n _ fun _ _=>rfl
theorem qaE (n:Nat) (g:Nat→BitVec 8) (π:Nm→Option Nm):(aB n g).map (ren D π)=aB n g:=arr_ren n _ π fun _ _=>rfl
theorem aB_ren7 (n:Nat) (g:Nat→BitVec 8) (π:Nm→Option Nm):(aB n g).map (ren 7 π)=aB n g:=by
  simp only[aB,arr,List.map_map]
  apply List.map_congr_left
  intro i hi
  rfl
theorem aB_nms7 (n:Nat) (g:Nat→BitVec 8):(aB n g).flatMap (nms 7)=[]:=by
  rw[List.flatMap_eq_nil_iff]
  intro x hx
  simp only[aB,arr,List.mem_map,List.mem_range] at hx
  obtain ⟨i,hi,rfl⟩:=hx
  rfl
theorem qbt (n:Nat) (g:Nat→BitVec 8):nms D (.agg (aB n g))=[]:=by
  rw[show nms D (.agg (aB n g))=(aB n g).flatMap (nms 7) from rfl,aB_nms7]
theorem qbx (n:Nat) (g:Nat→BitVec 8) (π:Nm→Option Nm):ren D π (.agg (aB n g)) = .agg (aB n g):=by
  rw[show ren D π (.agg (aB n g)) = .agg ((aB n g).map (ren 7 π)) from rfl,aB_ren7]
theorem aB_calK (b n:Nat) (g:Nat→BitVec 8):calK b (some (.agg (aB n g),[],[]))=some ⟨.agg (aB n g),[],[]⟩:=qdD b fun _=>qbx n g _
theorem aB_outOf (st:St) (n:Nat) (g:Nat→BitVec 8):qbY 0 st (.agg (aB n g))=(.agg (aB n g),[],[]):=qbB (qbt n g) fun _=>qbx n g _
theorem aB_ix1 (len n:Nat) (g:Nat→BitVec 8) (j:Nat) (h:j < len) (h2:j < n):ix1V len 1 (.agg (aB n g)) (some j)=some (B8 (g j)):=by
  rw[aB,ix1V_arr _ _ _ _ _ h (by omega),zX]
theorem aB_isCell (n:Nat) (g:Nat→BitVec 8):(aB n g).all qaB=true:=by
  rw[List.all_eq_true]
  intro x hx
  simp only[aB,arr,List.mem_map,List.mem_range] at hx
  obtain ⟨i,hi,rfl⟩:=hx
  rfl
theorem aB_succ (n:Nat) (g:Nat→BitVec 8):aB (n+1) g=B8 (g 0)::aB n fun i=>g (i+1):=arr_succ n _
theorem aB_zero (g:Nat→BitVec 8):aB 0 g=[]:=nf rfl
def qdw (n:Nat) (f g:Nat→BitVec 8):Bool:=decide (∀ i,i < n→f i=g i)
theorem aB_eqU (n:Nat) (f g:Nat→BitVec 8):eqU .int (aB n f) (aB n g)=some (qdw n f g):=by
  induction n generalizing f g with
  | zero=>simp[aB_zero,qdw,eqU]
  | succ n ih =>
    rw[aB_succ,aB_succ]
    have h0:qdm .int (.int .u8 (f 0).toNat) (.int .u8 (g 0).toNat)=some (decide (f 0=g 0)):=by
      simp only[qdm,zG]
      congr 1
      rw[Bool.eq_iff_iff,beq_iff_eq,decide_eq_true_iff]
      constructor; · intro h; exact BitVec.eq_of_toNat_eq (by omega)
      · intro h; rw[h]
    simp only[B8,eqU,h0,ih]
    congr 1
    simp only[qdw]
    rw[Bool.eq_iff_iff]
    simp only[Bool.and_eq_true,decide_eq_true_iff]
    constructor
    · rintro ⟨h1, h2⟩ i hi
      cases i with
      | zero=>exact h1
      | succ i=>exact h2 i (by omega)
    · intro h
      exact ⟨h 0 (by omega),fun i hi=>h (i+1) (by omega)⟩
theorem aB_eql (n:Nat) (f g:Nat→BitVec 8):binV .eql (.flat [(n,.int)]) (.agg (aB n f)) (.agg (aB n g))=some (Bo (qdw n f g)):=by
  have h:eqR [(n,Leaf.int)] (aB n f) (aB n g)=some (qdw n f g):=by
    rw[eqR.eq_def]
    simp only[qbX,Nat.le_refl,and_self,zG]
    rw [List.take_of_length_le (by rw [qbX]; exact Nat.le_refl _), List.take_of_length_le (by rw [qbX]; exact Nat.le_refl _), aB_eqU,
      List.drop_of_length_le (by rw[qbX]; exact Nat.le_refl _),List.drop_of_length_le (by rw[qbX]; exact Nat.le_refl _)]
    simp[eqR]
  simp[binV,eqV,aggOf,h,Bo]
theorem aB_same_iff (n:Nat) (f g:Nat→BitVec 8):qdw n f g=true↔∀ i,i < n→f i=g i:=by simp[qdw]
def aW (n:Nat) (g:Nat→BitVec 32):qal:=arr n fun i=>B32 (g i)
theorem aW_rep (n:Nat) (x:BitVec 32):List.replicate n (B32 x)=aW n fun _=>x:=rep_arr n _
theorem qbr (n:Nat) (g:Nat→BitVec 32):(aW n g).length=n:=qc2 _ _
theorem aW_ext (n:Nat) {f g:Nat→BitVec 32} (h:∀ i,i < n→f i=g i):aW n f=aW n g:=arr_ext n fun i hi=>by rw[h i hi]
theorem aW_put1 (g:Nat→BitVec 32) (i:Nat) (x:BitVec 32):put1 (fun j=>B32 (g j)) i (B32 x)=fun j=>B32 (set1 g i x j):=by
  funext j; simp only[put1,set1]; split <;> rfl
theorem aW_cell (n:Nat) (g:Nat→BitVec 32) (i:Nat) (h:i < n):qaS i 1 (some (aW n g))=some [B32 (g i)]:=cell_arr n _ i h
theorem aW_cells (n:Nat) (g:Nat→BitVec 32):qaS 0 n (some (aW n g))=some (aW n g):=cells_arr n _
theorem aW_st (off n:Nat) (m:Nm) (x:BitVec 32) (g:Nat→BitVec 32) (h:off < n):stK 1 off m (some [B32 x]) (some (aW n g))=some ⟨Un,[],[(m,some (aW n (set1 g off x)))]⟩:=by
  rw[aW,st_arr off n m _ _ h rfl,aW_put1]; rfl
theorem qe6 (n:Nat) (m:Nm) (f g:Nat→BitVec 32):stK n 0 m (some (aW n g)) (some (aW n f))=some ⟨Un,[],[(m,some (aW n g))]⟩:=qhF n m _ _ fun _ _=>rfl
theorem qct (n:Nat) (g:Nat→BitVec 32):(aW n g).flatMap (nms D)=[]:=arr_nms n _ fun _ _=>rfl
theorem qbi (n:Nat) (g:Nat→BitVec 32) (π:Nm→Option Nm):(aW n g).map (ren D π)=aW n g:=arr_ren n _ π fun _ _=>rfl
theorem aW_ren7 (n:Nat) (g:Nat→BitVec 32) (π:Nm→Option Nm):(aW n g).map (ren 7 π)=aW n g:=by
  simp only[aW,arr,List.map_map]
  apply List.map_congr_left
  intro i hi
  rfl
theorem aW_nms7 (n:Nat) (g:Nat→BitVec 32):(aW n g).flatMap (nms 7)=[]:=by
  rw[List.flatMap_eq_nil_iff]
  intro x hx
  simp only[aW,arr,List.mem_map,List.mem_range] at hx
  obtain ⟨i,hi,rfl⟩:=hx
  rfl
theorem qcl (n:Nat) (g:Nat→BitVec 32):nms D (.agg (aW n g))=[]:=by
  rw[show nms D (.agg (aW n g))=(aW n g).flatMap (nms 7) from rfl,aW_nms7]
theorem qfk (n:Nat) (g:Nat→BitVec 32) (π:Nm→Option Nm):ren D π (.agg (aW n g)) = .agg (aW n g):=by
  rw[show ren D π (.agg (aW n g)) = .agg ((aW n g).map (ren 7 π)) from rfl,aW_ren7]
theorem aW_calK (b n:Nat) (g:Nat→BitVec 32):calK b (some (.agg (aW n g),[],[]))=some ⟨.agg (aW n g),[],[]⟩:=qdD b fun _=>qfk n g _
theorem aW_outOf (st:St) (n:Nat) (g:Nat→BitVec 32):qbY 0 st (.agg (aW n g))=(.agg (aW n g),[],[]):=qbB (qcl n g) fun _=>qfk n g _
theorem aW_ix1 (len n:Nat) (g:Nat→BitVec 32) (j:Nat) (h:j < len) (h2:j < n):ix1V len 1 (.agg (aW n g)) (some j)=some (B32 (g j)):=by
  rw[aW,ix1V_arr _ _ _ _ _ h (by omega),zX]
theorem aW_isCell (n:Nat) (g:Nat→BitVec 32):(aW n g).all qaB=true:=by
  rw[List.all_eq_true]
  intro x hx
  simp only[aW,arr,List.mem_map,List.mem_range] at hx
  obtain ⟨i,hi,rfl⟩:=hx
  rfl
def aD (n:Nat) (g:Nat→BitVec 64):qal:=arr n fun i=>B64 (g i)
def aO (n:Nat) (g:Nat→Bool):qal:=arr n fun i=>Bo (g i)
def aI (n:Nat) (g:Nat→Int):qal:=arr n fun i=>I (g i)
end Go.LE
namespace Go.LE
def N (i:Nat):LV:=I (i:Int)
section
variable (e:EqT) (a b:Nat)
theorem N_add (h:a+b < 9223372036854775808):binV .add e (N a) (N b)=some (N (a+b)):=by
  rw[N,N,I_add _ _ _ (by omega),←Int.natCast_add]; rfl
theorem N_sub (h:b≤a) (ha:a < 9223372036854775808):binV .sub e (N a) (N b)=some (N (a - b)):=by
  rw[N,N,I_sub _ _ _ (by omega),←Int.natCast_sub h]; rfl
theorem N_mul (h:a*b < 9223372036854775808):binV .mul e (N a) (N b)=some (N (a*b)):=by
  have e1:(a:Int)*(b:Int)=((a*b:Nat):Int):=(Int.natCast_mul a b).symm
  rw[N,N,I_mul _ _ _ (by rw[e1]; omega),e1]; rfl
theorem N_quo (hb:0 < b) (h:a < 9223372036854775808):binV .quo e (N a) (N b)=some (N (a / b)):=by
  have e1:(a:Int).tdiv (b:Int)=((a / b:Nat):Int):=rfl
  have h2:a / b≤a:=Nat.div_le_self a b
  have key:∀ q:Nat,q≤a → -9223372036854775808≤(q:Int)∧(q:Int) < 9223372036854775808:=by omega
  rw[N,N,I_quo _ _ _ (by omega) (by rw[e1]; exact key _ h2),e1]; rfl
theorem N_rem (hb:0 < b):binV .rem e (N a) (N b)=some (N (a % b)):=by
  rw[N,N,I_rem _ _ _ (by omega)]; rfl
theorem N_eql:binV .eql e (N a) (N b)=some (Bo (decide (a=b))):=by
  rw[N,N,I_eql]; congr 2; rw[Bool.eq_iff_iff,beq_iff_eq,decide_eq_true_iff]; omega
theorem N_neq:binV .neq e (N a) (N b)=some (Bo (decide (a≠b))):=by
  rw[N,N,I_neq]; congr 2; rw[Bool.eq_iff_iff,bne_iff_ne,decide_eq_true_iff]; omega
theorem N_lss:binV .lss e (N a) (N b)=some (Bo (decide (a < b))):=by rw[N,N,qc1]; congr 2; exact decide_eq_decide.2 (by omega)
theorem N_gtr:binV .gtr e (N a) (N b)=some (Bo (decide (b < a))):=by rw[N,N,I_gtr]; congr 2; exact decide_eq_decide.2 (by omega)
theorem N_geq:binV .geq e (N a) (N b)=some (Bo (decide (b≤a))):=by rw[N,N,I_geq]; congr 2; exact decide_eq_decide.2 (by omega)
theorem N_nat:qco (N a)=some a:=by rw[N,I_nat _ (by omega)]; rfl
end
theorem qg0 (w i:Nat):BitVec.ofInt w (i:Int)=BitVec.ofNat w i:=by
  apply BitVec.eq_of_toNat_eq; simp
theorem cvt_N_8 (i:Nat):cvtV .u8 (N i)=some (B8 (BitVec.ofNat 8 i)):=by rw[N,cvt_I_8,qg0]
theorem cvt_N_64 (i:Nat):cvtV .u64 (N i)=some (B64 (BitVec.ofNat 64 i)):=by rw[N,cvt_I_64,qg0]
theorem cvt_64_N (x:BitVec 64) (h:x.toNat < 9223372036854775808):cvtV .i64 (B64 x)=some (N x.toNat):=by
  rw[cvt_I64,N,BitVec.toInt_eq_toNat_cond,if_pos (by omega)]
theorem B32_shlN (e:EqT) (x:BitVec 32) (i:Nat):binV .shl e (B32 x) (N i)=some (B32 (x <<< i)):=B32_shlI _ _ (i:Int) (by omega)
theorem B32_shrN (e:EqT) (x:BitVec 32) (i:Nat):binV .shr e (B32 x) (N i)=some (B32 (x >>> i)):=B32_shrI _ _ (i:Int) (by omega)
theorem B64_shlN (e:EqT) (x:BitVec 64) (i:Nat):binV .shl e (B64 x) (N i)=some (B64 (x <<< i)):=B64_shlI _ _ (i:Int) (by omega)
theorem B64_shrN (e:EqT) (x:BitVec 64) (i:Nat):binV .shr e (B64 x) (N i)=some (B64 (x >>> i)):=B64_shrI _ _ (i:Int) (by omega)
theorem N_neg (i:Nat) (h:i < 9223372036854775808):unV .neg (N i)=some (I (-(i:Int))):=by
  simp only[unV,N,I,w64 (0 - (i:Int)) (by omega)]
  congr 3; omega
theorem qcR (i:Nat):nms D (N i)=[]:=nf rfl
theorem qew (π:Nm→Option Nm) (i:Nat):ren D π (N i)=N i:=nf rfl
theorem cellsOf_N (i:Nat):qbe (N i)=some [N i]:=nf rfl
theorem isCell_N (i:Nat):qaB (N i)=true:=nf rfl
theorem outOf_N (st:St) (i:Nat):qbY 0 st (N i)=(N i,[],[]):=outOf_I st _
theorem nm_beq (a b c d:Nat):(((a,b):Nm) == (c,d))=(a == c && b == d):=nf rfl
end Go.LE
namespace Go.LE
variable {E:Env} {tm:List LV} {H:Heap} {b:Nat}
def extV (i:Nat):LV→Option LV
  | .tup xs=>xs[i]?
  | _=>none
theorem op_extV (x:LX) (i:Nat):qa4 E tm H b (.ext x i)=outR (extV i (evX E.gl tm x)):=by
  simp only[qa4,qa2,qbz,extV]
  generalize evX E.gl tm x=p
  cases p with
  | tup xs=>dsimp only; cases xs[i]? <;> rfl
  | _=>rfl
theorem extV_tup (i:Nat) (xs:List LV):extV i (.tup xs)=xs[i]? := nf rfl
theorem op_mnmx (m:Bool) (as:List LX):qa4 E tm H b (.mnmx m as)=outR (mnmx m (as.map (evX E.gl tm))):=by
  simp only[qa4,qa2,qbz]
  cases mnmx m (as.map (evX E.gl tm)) <;> rfl
theorem qc8 (π:Nm→Option Nm) (x:Nat):ren 7 π (N x)=N x:=nf rfl
theorem qd0 (x:Nat):nms 7 (N x)=[]:=nf rfl
theorem qdx (xs:List LV):nms D (.tup xs)=xs.flatMap (nms 7):=nf rfl
theorem qb0 (π:Nm→Option Nm) (xs:List LV):ren D π (.tup xs) = .tup (xs.map (ren 7 π)):=nf rfl
end Go.LE
namespace Go.LE
variable {E:Env} {tm:List LV} {H:Heap} {b:Nat}
def bs (l:List (BitVec 8)):qal:=l.map B8
theorem qaM (l:List (BitVec 8)):(bs l).length=l.length:=by simp[bs]
theorem qe7 (l m:List (BitVec 8)):bs l++bs m=bs (l++m):=by simp[bs]
theorem qdO (l:List (BitVec 8)) (n:Nat):(bs l).take n=bs (l.take n):=by simp[bs]
theorem qd5 (l:List (BitVec 8)) (n:Nat):(bs l).drop n=bs (l.drop n):=by simp[bs]
theorem bs_one (x:BitVec 8):[B8 x]=bs [x]:=nf rfl
theorem qeM (n:Nat) (x:BitVec 8):List.replicate n (B8 x)=bs (List.replicate n x):=by simp[bs]
theorem qbn (l:List (BitVec 8)):(bs l).all qaB=true:=by
  rw[List.all_eq_true]; intro x hx; simp only[bs,List.mem_map] at hx; obtain ⟨y,_,rfl⟩:=hx; rfl
theorem qam (l:List (BitVec 8)):(bs l).flatMap (nms D)=[]:=by
  rw[List.flatMap_eq_nil_iff]; intro x hx; simp only[bs,List.mem_map] at hx; obtain ⟨y,_,rfl⟩:=hx; rfl
theorem qaq (l:List (BitVec 8)) (π:Nm→Option Nm):(bs l).map (ren D π)=bs l:=by
  simp only[bs,List.map_map]; apply List.map_congr_left; intro x _; rfl
theorem bs_cell (l:List (BitVec 8)) (i:Nat) (h:i < l.length):qaS i 1 (some (bs l))=some [B8 (l.getD i 0#8)]:=by
  have h2:i < (bs l).length:=by rw[qaM]; exact h
  rw[qbH,if_pos (by omega),List.drop_eq_getElem_cons h2,zf,zW]
  simp[bs,h]
theorem bs_cells (l:List (BitVec 8)) (i n:Nat) (h:i+n≤l.length):qaS i n (some (bs l))=some (bs ((l.drop i).take n)):=by
  rw[qbH,if_pos (by rw[qaM]; omega),qd5,qdO]
theorem qfP (l m:List (BitVec 8)) (i:Nat):qbh (bs l) i (bs m)=bs (l.take i++m++l.drop (i+m.length)):=by
  simp only[qbh,qdO,qd5,qe7,qaM]
theorem bs_st (l:List (BitVec 8)) (i:Nat) (x:BitVec 8) (m:Nm) (h:i < l.length):stK 1 i m (some [B8 x]) (some (bs l))=some ⟨Un,[],[(m,some (bs (l.set i x)))]⟩:=by
  rw[qcw,if_pos ⟨rfl,by rw[qaM]; omega,rfl⟩,bs_one,qfP,List.set_eq_take_append_cons_drop,if_pos h]
  simp
theorem qe0 (l:List (BitVec 8)) (n:Nat) (h:l.length=n):bs l=aB n fun i=>l.getD i 0#8:=by
  subst h
  apply List.ext_getElem
  · simp[bs,aB,arr]
  · intro i h1 h2
    have h3:i < l.length:=by simpa [bs] using h1
    simp[bs,aB,arr,h3]
theorem qdt (n:Nat) (g:Nat→BitVec 8):aB n g=bs ((List.range n).map g):=by
  simp only[aB,arr,bs,List.map_map]; rfl
def lenV:Option Nat→Option Out
  | some n=>some ⟨N n,[],[]⟩
  | none=>none
theorem lenV_some (n:Nat):lenV (some n)=some ⟨N n,[],[]⟩:=nf rfl
theorem op_len (x:LX):qa4 E tm H b (.len x)=lenV (lenS (evX E.gl tm x)):=by
  simp only[qa4,qa2,qbz]
  cases lenS (evX E.gl tm x) <;> rfl
theorem lenS_sl (n:Nm) (off len:Nat) (cap:Option Nat) (es:Nat):lenS (.sl n off len cap es)=some len:=nf rfl
theorem lenS_isl (xs:List LV) (len:Nat):lenS (.isl xs len)=some len:=nf rfl
def Nil:LV := .v (.slice none 0 0)
theorem lenS_nil:lenS Nil=some 0:=nf rfl
theorem lenOf_sl (n:Nm) (off len:Nat) (cap:Option Nat) (es:Nat):qcE (.sl n off len cap es)=some len:=nf rfl
theorem lenOf_isl (xs:List LV) (len:Nat):qcE (.isl xs len)=some len:=nf rfl
theorem lenOf_nil:qcE Nil=some 0:=nf rfl
theorem qbD:nms D Nil=[]:=nf rfl
theorem qbS (π:Nm→Option Nm):ren D π Nil=Nil:=nf rfl
theorem cellsOf_nil:qbe Nil=some [Nil]:=nf rfl
theorem cellsOf_sl (n:Nm) (off len:Nat) (cap:Option Nat) (es:Nat):qbe (.sl n off len cap es)=some [.sl n off len cap es]:=nf rfl
theorem isCell_sl (n:Nm) (off len:Nat) (cap:Option Nat) (es:Nat):qaB (.sl n off len cap es)=true:=nf rfl
theorem cellsOf_ptr (n:Nm) (off:Nat):qbe (.ptr n off)=some [.ptr n off]:=nf rfl
def NilP:LV := .v (.pointer none)
def qb8 (off size n:Nat):Option qal→Option qal
  | some cs=>if off+n*size≤cs.length then some ((cs.drop off).take (n*size)) else none
  | none=>none
theorem front_sl (m:Nm) (off len:Nat) (cap:Option Nat) (es size n:Nat) (h:n≤len) (h0:n≠0):qbp H size n (.sl m off len cap es)=qb8 off size n (H m):=by
  simp only[qbp,if_neg h0,if_pos h]
  cases H m <;> rfl
theorem qg1 (m:Nm) (off len:Nat) (cap:Option Nat) (es size:Nat):qbp H size 0 (.sl m off len cap es)=some []:=nf rfl
theorem front_isl (xs:List LV) (len size n:Nat) (h:n≤len) (h2:n*size≤xs.length):qbp H size n (.isl xs len)=some (xs.take (n*size)):=by
  simp only[qbp]
  by_cases h0:n=0
  · subst h0; simp
  · rw[if_neg h0,if_pos ⟨h,h2⟩]
theorem qbQ (m:Nm) (off len:Nat) (cap:Option Nat) (l:List (BitVec 8)) (h:H m=some (bs l)) (hl:off+len≤l.length) :
    qbp H 1 len (.sl m off len cap 1)=some (bs ((l.drop off).take len)):=by
  by_cases h0:len=0
  · subst h0; simp[qg1,bs]
  · rw [front_sl _ _ _ _ _ _ _ (Nat.le_refl _) h0, h]
    simp only[qb8,zX,qaM,if_pos hl,qd5,qdO]
theorem qb9 (l:List (BitVec 8)) (len:Nat) (hl:l.length=len):qbp H 1 len (.isl (bs l) len)=some (bs l):=by
  rw[front_isl _ _ _ _ (Nat.le_refl _) (by rw[qaM]; omega),zX,List.take_of_length_le (by rw[qaM]; omega)]
def appX (b size bytes k:Nat) (H:Heap) (ms:List (Nm × Option qal)) (new:qal):LV→Option Out
  | .sl m off len (some c) es =>
    if es=size∧(len+k)*bytes≤211106232532992∧ms.all (fun p=>p.1 != m)=true then
      if len+k≤c then (match H m with
        | some cs=>if off+(len+k)*size≤cs.length then some ⟨.sl m off (len+k) (some c) es,[],(m,some (qbh cs (off+len*size) new))::ms⟩ else none
        | none=>none)
      else (match qbp H size len (.sl m off len (some c) es) with
        | some old=>some ⟨.sl (b,0) 0 (len+k) none size,[old++new],ms⟩
        | none=>none)
    else none
  | .sl m off len none es =>
    if es=size∧(len+k)*bytes≤211106232532992∧ms.all (fun p=>p.1 != m)=true then (match H m with
      | some cs=>if off+len*size≤cs.length then some ⟨.sl (b,0) 0 (len+k) none size,[(cs.drop off).take (len*size)++new],(m,none)::ms⟩ else none
      | none=>none)
    else none
  | .v (.slice none 0 0)=>if k=0 then some ⟨.v (.slice none 0 0),[],ms⟩ else if k*bytes≤211106232532992 then some ⟨.sl (b,0) 0 k none size,[new],ms⟩ else none
  | _=>none
def appF (b size bytes k:Nat) (H:Heap) (x:LV):Option qal→Option Out
  | some new=>if bytes≤2 ^ 20∧new.all qaB=true then appX b size bytes k H [] new x else none
  | none=>none
def appK (b size bytes:Nat) (H:Heap) (x y:LV):Option Nat→Option Out
  | some k=>appF b size bytes k H x (qbp H size k y)
  | none=>none
theorem op_append (size bytes:Nat) (x y:LX):qa4 E tm H b (.append size bytes false x y)=appK b size bytes H (evX E.gl tm x) (evX E.gl tm y) (qcE (evX E.gl tm y)):=by
  simp only[qa4,qa2,qbz]
  generalize evX E.gl tm y=y
  generalize evX E.gl tm x=x
  cases qcE y with
  | none=>rfl
  | some k =>
    simp only[appK]
    cases qbp H size k y with
    | none=>rfl
    | some new=>rfl
theorem appK_some (size bytes k:Nat) (x y:LV):appK b size bytes H x y (some k)=appF b size bytes k H x (qbp H size k y):=nf rfl
theorem appF_some (size bytes k:Nat) (x:LV) (new:qal) (h1:bytes≤1048576) (h2:new.all qaB=true):appF b size bytes k H x (some new)=appX b size bytes k H [] new x:=by
  rw[appF,if_pos ⟨h1,h2⟩]
def appN (b size k off len:Nat) (m:Nm) (new:qal):Option qal→Option Out
  | some cs=>if off+len*size≤cs.length then some ⟨.sl (b,0) 0 (len+k) none size,[(cs.drop off).take (len*size)++new],[(m,none)]⟩ else none
  | none=>none
theorem qad (size bytes k:Nat) (m:Nm) (off len:Nat) (new:qal) (h:(len+k)*bytes≤211106232532992):appX b size bytes k H [] new (.sl m off len none size)=appN b size k off len m new (H m):=by
  rw[appX,if_pos ⟨rfl,h,rfl⟩]; rfl
theorem appX_nil (size bytes k:Nat) (new:qal) (h0:k≠0) (h:k*bytes≤211106232532992):appX b size bytes k H [] new Nil=some ⟨.sl (b,0) 0 k none size,[new],[]⟩:=by
  rw[Nil,appX,if_neg h0,if_pos h]
theorem appX_nil0 (size bytes:Nat) (new:qal):appX b size bytes 0 H [] new Nil=some ⟨Nil,[],[]⟩:=by
  rw[Nil,appX,if_pos rfl]
theorem qdf (k off len:Nat) (m:Nm) (l new:List (BitVec 8)) (h:off+len≤l.length) :
    appN b 1 k off len m (bs new) (some (bs l))=some ⟨.sl (b,0) 0 (len+k) none 1,[bs ((l.drop off).take len++new)],[(m,none)]⟩:=by
  simp only[appN,zX,qaM,if_pos h,qd5,qdO,qe7]
theorem qc9 (k:Nat) (m:Nm) (off len c:Nat) (l new:List (BitVec 8)) (hm:H m=some (bs l)) (hl:off+len≤l.length) (h:(len+k)*1≤211106232532992) (hc:c < len+k) :
    appX b 1 1 k H [] (bs new) (.sl m off len (some c) 1)=some ⟨.sl (b,0) 0 (len+k) none 1,[bs ((l.drop off).take len++new)],[]⟩:=by
  rw[appX,if_pos ⟨rfl,h,rfl⟩,if_neg (by omega),qbQ m off len (some c) l hm hl]
  simp only[qe7]
theorem appX_room (k:Nat) (m:Nm) (off len c:Nat) (l new:List (BitVec 8)) (hm:H m=some (bs l)) (hl:off+(len+k)≤l.length) (h:(len+k)*1≤211106232532992) (hc:len+k≤c) :
    appX b 1 1 k H [] (bs new) (.sl m off len (some c) 1)=some ⟨.sl m off (len+k) (some c) 1,[],[(m,some (bs (l.take (off+len)++new++l.drop (off+len+new.length))))]⟩:=by
  rw[appX,if_pos ⟨rfl,h,rfl⟩,if_pos hc,hm]
  simp only[zX,qaM,if_pos hl,qfP]
def cpK (size:Nat) (H:Heap) (x y:LV):Option Nat→Option Out
  | some k=>(match x with
    | .sl m off len _ es =>
      if min k len=0 then some ⟨.v (.int .i64 0),[],[]⟩ else
      (match qbp H size (min k len) y,H m with
      | some new,some cs=>if es=size∧new.all qaB=true∧off+(min k len)*size≤cs.length then
          some ⟨.v (.int .i64 (min k len:Nat)),[],[(m,some (qbh cs off new))]⟩ else none
      | _,_=>none)
    | .v (.slice none 0 0)=>some ⟨.v (.int .i64 0),[],[]⟩
    | _=>none)
  | none=>none
theorem op_copy (size:Nat) (x y:LX):qa4 E tm H b (.copy size x y)=cpK size H (evX E.gl tm x) (evX E.gl tm y) (qcE (evX E.gl tm y)):=by
  simp only[qa4,qa2,qbz]
  generalize evX E.gl tm y=y
  generalize evX E.gl tm x=x
  cases qcE y with
  | none=>rfl
  | some k =>
    cases x with
    | sl m off len c es=>rfl
    | v y =>
      cases y with
      | slice a n c =>
        cases a with
        | some _=>rfl
        | none=>cases n <;> cases c <;> rfl
      | _=>rfl
    | _=>rfl
theorem cp_zero (size k:Nat) (m:Nm) (off len:Nat) (c:Option Nat) (es:Nat) (y:LV) (h:min k len=0):cpK size H (.sl m off len c es) y (some k)=some ⟨N 0,[],[]⟩:=by
  simp only[cpK,h,zG]; rfl
theorem qeT (k:Nat) (m:Nm) (off len:Nat) (c:Option Nat) (y:LV) (l new:List (BitVec 8)) (h0:min k len≠0) (hf:qbp H 1 (min k len) y=some (bs new)) (hm:H m=some (bs l)) (hl:off+min k len≤l.length) :
    cpK 1 H (.sl m off len c 1) y (some k)=some ⟨N (min k len),[],[(m,some (bs (l.take off++new++l.drop (off+new.length))))]⟩:=by
  simp only[cpK,if_neg h0,hf,hm,qbn,zX,qaM,hl,and_self,zG,qfP]
  rfl
theorem optNat_none (gl:Nat→Option qal) (d:Nat):qbl gl tm d none=some d:=nf rfl
theorem optNat_some (gl:Nat→Option qal) (d:Nat) (x:LX):qbl gl tm d (some x)=qco (evX gl tm x):=nf rfl
def slcV (size:Nat) (lo hi:Option Nat):LV→Option LV
  | .sl nm off len (some c) es=>match lo,hi with
    | some l,some h=>if l≤h∧h≤c∧es=size then some (.sl nm (off+l*size) (h - l) (some (c - l)) size) else none
    | _,_=>none
  | .sl nm off len none es=>match lo,hi with
    | some l,some h=>if l≤h∧h≤len∧es=size then some (.sl nm (off+l*size) (h - l) none size) else none
    | _,_=>none
  | .isl xs len=>match lo,hi with
    | some l,some h=>if l≤h∧h≤len then some (.isl ((xs.drop (l*size)).take ((h - l)*size)) (h - l)) else none
    | _,_=>none
  | .v (.slice none 0 0)=>match lo,hi with
    | some l,some h=>if l=0∧h=0 then some Nil else none
    | _,_=>none
  | _=>none
theorem op_slcS (size:Nat) (x:LX) (lo hi:Option LX):qa4 E tm H b (.slcS size x lo hi none)=outR (slcV size (qbl E.gl tm 0 lo) (qbl E.gl tm ((lenS (evX E.gl tm x)).getD 0) hi) (evX E.gl tm x)):=by
  simp only[qa4,qa2,qbz]
  generalize evX E.gl tm x=x
  cases x with
  | sl nm off len cap es =>
    cases cap with
    | none =>
      simp only[lenS,Option.getD_some,slcV,Option.isNone_none,zG]
      cases qbl E.gl tm 0 lo <;> cases qbl E.gl tm len hi <;> try rfl
      rename_i l h
      by_cases hc:l≤h∧h≤len∧es=size <;> simp[hc,outR]
    | some c =>
      simp only[lenS,Option.getD_some,slcV]
      cases qbl E.gl tm 0 lo <;> cases qbl E.gl tm len hi <;> try rfl
      rename_i l h
      by_cases hc:l≤h∧h≤c∧es=size <;> simp[hc,outR,qbl]
  | isl xs len =>
    simp only[lenS,Option.getD_some,slcV,Option.isNone_none,zG]
    cases qbl E.gl tm 0 lo <;> cases qbl E.gl tm len hi <;> first | rfl | (rename_i l h; by_cases hc:l≤h∧h≤len <;> simp[hc,outR])
  | v y =>
    cases y with
    | slice a n c =>
      cases a with
      | some _=>rfl
      | none =>
        cases n with
        | succ _=>rfl
        | zero =>
          cases c with
          | succ _=>rfl
          | zero =>
            simp only[lenS,Option.getD_some,slcV,Option.isNone_none,zG]
            cases qbl E.gl tm 0 lo <;> cases qbl E.gl tm 0 hi <;> try rfl
            first | done | (rename_i l h; by_cases hc:l=0∧h=0 <;> simp[hc,outR,Nil])
    | _=>rfl
  | _=>rfl
theorem slcV_none (size:Nat) (nm:Nm) (off len l h:Nat) (h1:l≤h) (h2:h≤len):slcV size (some l) (some h) (.sl nm off len none size)=some (.sl nm (off+l*size) (h - l) none size):=by
  rw[slcV,if_pos ⟨h1,h2,rfl⟩]
theorem slcV_cap (size:Nat) (nm:Nm) (off len c l h:Nat) (h1:l≤h) (h2:h≤c):slcV size (some l) (some h) (.sl nm off len (some c) size)=some (.sl nm (off+l*size) (h - l) (some (c - l)) size):=by
  rw[slcV,if_pos ⟨h1,h2,rfl⟩]
theorem slcV_isl (size:Nat) (xs:List LV) (len l h:Nat) (h1:l≤h) (h2:h≤len):slcV size (some l) (some h) (.isl xs len)=some (.isl ((xs.drop (l*size)).take ((h - l)*size)) (h - l)):=by
  rw[slcV,if_pos ⟨h1,h2⟩]
theorem slcV_nil (size:Nat):slcV size (some 0) (some 0) Nil=some Nil:=nf rfl
theorem qdU (n:Nat):(some n).getD 0=n:=nf rfl
def arrpV (n:Nat):LV→Option LV
  | .sl m off len _ _=>if 0 < n∧n≤len then some (.ptr m off) else none
  | .isl xs len=>if 0 < n∧n≤len then some (.ipt xs) else none
  | _=>none
theorem op_arrp (n:Nat) (x:LX):qa4 E tm H b (.arrp n x)=outR (arrpV n (evX E.gl tm x)):=by
  simp only[qa4,qa2,qbz]
  generalize evX E.gl tm x=x
  cases x with
  | sl m off len c es=>simp only[arrpV]; by_cases hc:0 < n∧n≤len <;> simp[hc,outR]
  | isl xs len=>simp only[arrpV]; by_cases hc:0 < n∧n≤len <;> simp[hc,outR]
  | _=>rfl
theorem arrpV_sl (n:Nat) (m:Nm) (off len:Nat) (c:Option Nat) (es:Nat) (h0:0 < n) (h:n≤len):arrpV n (.sl m off len c es)=some (.ptr m off):=by rw[arrpV,if_pos ⟨h0,h⟩]
theorem arrpV_isl (n:Nat) (xs:List LV) (len:Nat) (h0:0 < n) (h:n≤len):arrpV n (.isl xs len)=some (.ipt xs):=by rw[arrpV,if_pos ⟨h0,h⟩]
def iaSV (size:Nat) (j:Option Nat):LV→Option LV
  | .sl nm off len _ _=>match j with | some j=>if j < len then some (.ptr nm (off+j*size)) else none | none=>none
  | .isl xs len=>match j with | some j=>if j < len then some (.ipt (xs.drop (j*size))) else none | none=>none
  | _=>none
theorem op_iaS (size:Nat) (x i:LX):qa4 E tm H b (.iaS size x i)=outR (iaSV size (qco (evX E.gl tm i)) (evX E.gl tm x)):=by
  simp only[qa4,qa2,qbz]
  generalize evX E.gl tm x=x
  cases qco (evX E.gl tm i) with
  | none=>cases x <;> rfl
  | some j =>
    cases x with
    | sl m off len c es=>simp only[iaSV]; by_cases hc:j < len <;> simp[hc,outR]
    | isl xs len=>simp only[iaSV]; by_cases hc:j < len <;> simp[hc,outR]
    | _=>rfl
theorem iaSV_sl (size:Nat) (nm:Nm) (off len:Nat) (c:Option Nat) (es j:Nat) (h:j < len):iaSV size (some j) (.sl nm off len c es)=some (.ptr nm (off+j*size)):=by rw[iaSV,if_pos h]
theorem iaSV_isl (size:Nat) (xs:List LV) (len j:Nat) (h:j < len):iaSV size (some j) (.isl xs len)=some (.ipt (xs.drop (j*size))):=by rw[iaSV,if_pos h]
theorem qgy (n:Nat) (xs:List LV):qb6 H n (.ipt xs)=if n≤xs.length then some (xs.take n) else none:=nf rfl
theorem qdP (l:List (BitVec 8)) (j:Nat) (h:j < l.length):qb6 H 1 (.ipt ((bs l).drop j))=some [B8 (l.getD j 0#8)]:=by
  have h2:j < (bs l).length:=by rw[qaM]; exact h
  rw[qgy,if_pos (by rw[zR]; omega),List.drop_eq_getElem_cons h2,zf,zW]
  simp[bs,h]
def slcAV (n size:Nat) (lo hi:Option Nat):LV→Option LV
  | .ptr nm off=>match lo,hi with
    | some l,some h=>if l≤h∧h≤n then some (.sl nm (off+l*size) (h - l) (some (n - l)) size) else none
    | _,_=>none
  | .ipt xs=>match lo,hi with
    | some l,some h=>if l≤h∧h≤n then some (.isl ((xs.drop (l*size)).take ((h - l)*size)) (h - l)) else none
    | _,_=>none
  | _=>none
theorem op_slcAV (n size:Nat) (x:LX) (lo hi:Option LX):qa4 E tm H b (.slcA n size x lo hi none)=outR (slcAV n size (qbl E.gl tm 0 lo) (qbl E.gl tm n hi) (evX E.gl tm x)):=by
  simp only[qa4,qa2,qbz]
  generalize evX E.gl tm x=x
  cases qbl E.gl tm 0 lo with
  | none=>cases x <;> rfl
  | some l =>
    cases qbl E.gl tm n hi with
    | none=>cases x <;> rfl
    | some h =>
      simp only[qbl,Nat.le_refl,true_and,Option.isSome_none,zP,false_implies,and_true]
      cases x with
      | ptr nm off=>simp only[slcAV]; by_cases hh:l≤h∧h≤n <;> simp[hh,outR]
      | ipt xs=>simp only[slcAV]; by_cases hh:l≤h∧h≤n <;> simp[hh,outR]
      | _=>simp[slcAV,outR]
theorem slcAV_ptr (n size:Nat) (nm:Nm) (off l h:Nat) (h1:l≤h) (h2:h≤n):slcAV n size (some l) (some h) (.ptr nm off)=some (.sl nm (off+l*size) (h - l) (some (n - l)) size):=by rw[slcAV,if_pos ⟨h1,h2⟩]
def mkK (b size bytes:Nat) (zero:qal):Option Nat→Option Nat→Option Out
  | some l,some c=>if l≤c∧c*bytes≤2 ^ 47∧c < 2 ^ 62∧zero.length=size then some ⟨.sl (b,0) 0 l (some c) size,[(List.replicate c zero).flatten],[]⟩ else none
  | _,_=>none
theorem op_mkslice (size bytes:Nat) (zero:qal) (l c:LX):qa4 E tm H b (.mkslice size bytes zero l c)=mkK b size bytes zero (qco (evX E.gl tm l)) (qco (evX E.gl tm c)):=by
  simp only[qa4,qa2,qbz]
  cases qco (evX E.gl tm l) <;> cases qco (evX E.gl tm c) <;> rfl
theorem qeU (x:BitVec 8) (l c:Nat) (h1:l≤c) (h2:c < 4611686018427387904) (h3:c≤140737488355328):mkK b 1 1 [B8 x] (some l) (some c)=some ⟨.sl (b,0) 0 l (some c) 1,[bs (List.replicate c x)],[]⟩:=by
  rw[mkK,if_pos ⟨h1,by omega,by omega,rfl⟩]
  congr 3
  rw[←qeM]
  clear h1 h2 h3
  induction c with
  | zero=>rfl
  | succ c ih=>rw[List.replicate_succ,List.replicate_succ,List.flatten_cons,ih]; rfl
def rowK (b size len:Nat):Option qal→Option Out
  | some cs=>some ⟨.sl (b,0) 0 len (some len) size,[cs],[]⟩
  | none=>none
theorem op_mkrow (size:Nat) (zero:qal) (ps:List (Nat × Nat × LX)) (len:Nat):qa4 E tm H b (.mkrow size zero ps len)=rowK b size len (fill zero (ps.map fun p=>(p.1,p.2.1,evX E.gl tm p.2.2))):=by
  simp only[qa4,qa2,qbz]
  cases fill zero (ps.map fun p=>(p.1,p.2.1,evX E.gl tm p.2.2)) <;> rfl
theorem rowK_some (size len:Nat) (cs:qal):rowK b size len (some cs)=some ⟨.sl (b,0) 0 len (some len) size,[cs],[]⟩:=nf rfl
end Go.LE
namespace Go.LE
def cvsV (H:Heap):LV→Option Out
  | .sl m off len c es=>if 0 < len then (match H m with
    | some cs=>some ⟨.sl m off len c es,[],[(m,some cs)]⟩
    | none=>none) else none
  | _=>none
theorem op_cvs {E:Env} {tm:List LV} {H:Heap} {b:Nat} (x:LX):qa4 E tm H b (.cvs x)=cvsV H (evX E.gl tm x):=by
  simp only[qa4,qa2,qbz]
  generalize evX E.gl tm x=y
  cases y <;> rfl
def cvsK (m:Nm) (off len:Nat) (c:Option Nat) (es:Nat):Option qal→Option Out
  | some cs=>some ⟨.sl m off len c es,[],[(m,some cs)]⟩
  | none=>none
theorem cvsV_sl (H:Heap) (m:Nm) (off len:Nat) (c:Option Nat) (es:Nat) (h:0 < len):cvsV H (.sl m off len c es)=cvsK m off len c es (H m):=by
  rw[cvsV,if_pos h]; rfl
theorem cvsK_some (m:Nm) (off len:Nat) (c:Option Nat) (es:Nat) (cs:qal):cvsK m off len c es (some cs)=some ⟨.sl m off len c es,[],[(m,some cs)]⟩:=nf rfl
end Go.LE
namespace Go.LE
variable {E:Env} {tm:List LV} {H:Heap} {b:Nat}
def updN (b:Nat):Nat→List qal→Heap→Heap
  | _,[],H=>H
  | j,z::zs,H=>updN b (j+1) zs (upd H (b,j) (some z))
theorem qcS (j:Nat) (H:Heap):updN b j [] H=H:=nf rfl
theorem qcW (j:Nat) (z:qal) (zs:List qal) (H:Heap):updN b j (z::zs) H=updN b (j+1) zs (upd H (b,j) (some z)):=nf rfl
def modN:List (Nm × Option qal)→Heap→Heap
  | [],H=>H
  | (n,x)::ms,H=>upd (modN ms H) n x
theorem qch (H:Heap):modN [] H=H:=nf rfl
theorem qce (n:Nm) (x:Option qal) (ms:List (Nm × Option qal)) (H:Heap):modN ((n,x)::ms) H=upd (modN ms H) n x:=nf rfl
theorem modN_eq (H:Heap):∀ ms,qbN H ms=modN ms H:=by
  intro ms
  induction ms with
  | nil=>rfl
  | cons p ms ih =>
    obtain ⟨n,x⟩:=p
    funext m
    simp only[qbN,modN,upd,ih]
theorem updN_at (b:Nat):∀ (zs:List qal) (j:Nat) (H:Heap) (m:Nm),updN b j zs H m=if m.1=b∧j≤m.2∧m.2 < j+zs.length then zs[m.2 - j]? else H m:=by
  intro zs
  induction zs with
  | nil=>intro j H m; rw[updN,if_neg (fun h=>by have:=h.2; simp only[zL] at this; omega)]
  | cons z zs ih =>
    intro j H m
    rw[updN,ih]
    obtain ⟨m1,m2⟩:=m
    simp only[zE,upd]
    by_cases h1:m1=b
    · subst h1
      by_cases h2:m2=j
      · subst h2
        rw[if_neg (by omega),if_pos rfl,if_pos (by omega)]
        simp
      · by_cases h3 : j ≤ m2 ∧ m2 < j + (zs.length + 1)
        · rw [if_pos (by omega), if_pos (by omega)]
          have:m2 - j=(m2 - (j+1))+1:=by omega
          rw[this,List.getElem?_cons_succ]
        · rw[if_neg (by omega),if_neg (by simp; omega),if_neg (by omega)]
    · rw[if_neg (by omega),if_neg (by simp; omega),if_neg (by omega)]
theorem qg2 (n:Nat) (r:Out) (H:Heap):qbv n r H=updN n 0 r.news (modN r.mods H):=by
  funext m
  rw[updN_at,←modN_eq]
  simp only[qbv,zO,Nat.zero_le,true_and,Nat.sub_zero]
theorem qai (b i:Nat) (os:List LOper) (log:List Done) (d:Option Nat) (tm:List LV) (H:Heap) (nx np:Nat) (v:LV) (news:List qal) (ms:List (Nm × Option qal)) :
    qdK E b i os log d tm H nx np (some ⟨v,news,ms⟩)=qbw E b (i+1) os log ⟨put tm d v,updN (b+i) 0 news (modN ms H),nx,np⟩:=by
  simp only[qdK,qg2]
theorem qaI (b i:Nat) (os:List LOper) (log:List Done) (d:Option Nat) (bf:Nat) (X:List Nm) (tm:List LV) (H:Heap) (nx np:Nat) (v:LV) (news:List qal) (ms:List (Nm × Option qal)) :
    ordK E b i os log d bf X tm H nx np (some ⟨v,news,ms⟩)=if ordOk X (ms.map (·.1)) log b bf=true then qbw E b (i+1) os (⟨i,X,ms.map (·.1)⟩::log) ⟨put tm d v,updN (b+i) 0 news (modN ms H),nx,np⟩ else none:=by
  simp only[ordK,qg2]
def resK (names:List Nm) (base:Nat) (plain:Bool):Option qcg→Option Out
  | some res=>if plain || qa5 res then some (qcG names base res) else none
  | none=>none
def callN (E:Env) (H:Heap) (base:Nat) (g:FuncId) (args':List LV) (lent names:List Nm):Option Out :=
  if lent.any (fun n=>names.contains n)=true then none else
    resK names base lent.isEmpty (E.cal g (args'.map (ren D (qaK names))) ((names.filterMap H).map fun cs=>cs.map (ren D (qaK names))))
def callL (E:Env) (H:Heap) (base:Nat) (g:FuncId):Option (List LV × List Nm)→Option Out
  | some (args',lent)=>callN E H base g args' lent (qa7 H FUEL [] (args'.flatMap (nms D)))
  | none=>none
theorem qbU (g:FuncId) (args:List LV):qar E H b g args=callL E H b g (lend H (E.borrow g) 0 args):=by
  unfold qar callL
  cases lend H (E.borrow g) 0 args with
  | none=>rfl
  | some p =>
    obtain ⟨args',lent⟩:=p
    simp only[callN,resK]
    split
    · rfl
    · split <;> simp_all
theorem qbA (base:Nat) (g:FuncId) (args':List LV) (lent:List Nm):callL E H base g (some (args',lent))=callN E H base g args' lent (qa7 H FUEL [] (args'.flatMap (nms D))):=nf rfl
theorem qbV (base:Nat) (g:FuncId) (args':List LV) (lent names:List Nm) (h:lent.any (fun n=>names.contains n)=false) :
    callN E H base g args' lent names=resK names base lent.isEmpty (E.cal g (args'.map (ren D (qaK names))) ((names.filterMap H).map fun cs=>cs.map (ren D (qaK names)))):=by
  rw[callN,if_neg (by rw[h]; decide)]
theorem qeB (names:List Nm) (base:Nat) (res:qcg):resK names base true (some res)=some (qcG names base res):=nf rfl
theorem qaT (names:List Nm) (base:Nat) (r:LV) (passed:List (Option qal)) (news:List qal) :
    qcG names base (r,passed,news)=⟨ren D (qbf names base news.length) r,news.map (fun cs=>cs.map (ren D (qbf names base news.length))),List.zipWith (fun n p=>(n,p.map fun cs=>cs.map (ren D (qbf names base news.length)))) names passed⟩:=nf rfl
def lendC (x:Option (LV × List Nm)) (r:Option (List LV × List Nm)):Option (List LV × List Nm) :=
  match x,r with
  | some (y,a),some (ys,c)=>some (y::ys,a++c)
  | _,_=>none
theorem qcC (f:Nat→Bool) (i:Nat):lend H f i []=some ([],[]):=nf rfl
theorem qbo (f:Nat→Bool) (i:Nat) (x:LV) (xs:List LV):lend H f i (x::xs)=lendC (if f i=true then snap H D x else some (x,[])) (lend H f (i+1) xs):=by
  rw[lend]
  generalize (if f i=true then snap H D x else some (x,[]))=o
  generalize lend H f (i+1) xs=r
  cases o with
  | none=>rfl
  | some p=>cases r with
    | none=>rfl
    | some q=>rfl
theorem qbc (y:LV) (a:List Nm) (ys:List LV) (c:List Nm):lendC (some (y,a)) (some (ys,c))=some (y::ys,a++c):=nf rfl
theorem snapL_bs (H:Heap) (d:Nat) (l:List (BitVec 8)):qet (snap H (d+1)) (bs l)=some (bs l,[]):=by
  induction l with
  | nil=>rfl
  | cons x l ih=>simp only[bs,zB] at ih ⊢; simp only[qet,ih]; rfl
theorem qhG (n:Nm) (off len:Nat) (cap:Option Nat) (l:List (BitVec 8)) (h:H n=some (bs l)) (h0:len≠0) :
    snap H D (.sl n off len cap 1)=some (.isl (bs ((l.drop off).take len)) len,[n]):=by
  simp only[snap,if_neg h0,h,qd5,zX,qdO,snapL_bs,zC]
theorem snap_zero (n:Nm) (off:Nat) (cap:Option Nat) (es:Nat):snap H D (.sl n off 0 cap es)=some (.isl [] 0,[]):=nf rfl
theorem snap_isl (xs:List LV) (len:Nat):snap H D (.isl xs len)=some (.isl xs len,[]):=nf rfl
def strL (l:List Nat):LV := .v (.string ⟨⟨l.map UInt8.ofNat⟩⟩)
theorem qbC (names:List Nm) (n:Nm):qaK names n=(idx n names 0).map fun i=>(0,i):=nf rfl
theorem idx_cons (n m:Nm) (ms:List Nm) (i:Nat):idx n (m::ms) i=if m=n then some i else idx n ms (i+1):=nf rfl
theorem qcI (names:List Nm) (base k j:Nat):qbf names base k (0,j)=names[j]? := by simp[qbf]
theorem qbd (names:List Nm) (base k j:Nat) (h:j < k):qbf names base k (1,j)=some (base,j):=by simp[qbf,h]
theorem qbg (l:List (BitVec 8)) (n:Nat):nms D (.isl (bs l) n)=[]:=by
  show (bs l).flatMap (nms 7)=[]
  rw[List.flatMap_eq_nil_iff]; intro x hx; simp only[bs,List.mem_map] at hx; obtain ⟨y,_,rfl⟩:=hx; rfl
theorem qbj (π:Nm→Option Nm) (l:List (BitVec 8)) (n:Nat):ren D π (.isl (bs l) n) = .isl (bs l) n:=by
  show LV.isl ((bs l).map (ren 7 π)) n=_
  congr 1
  simp only[bs,List.map_map]; apply List.map_congr_left; intro x _; rfl
theorem qaX (np:Nat) (st:St) (ret:LV) (names:List Nm) (h:qbE st.H np [ret]=names) :
    qbY np st ret=(ren D (qbm names) ret,(List.range np).map (fun i=>(st.H (0,i)).map fun cs=>cs.map (ren D (qbm names))),(names.filterMap st.H).map fun cs=>cs.map (ren D (qbm names))):=by
  subst h; rfl
theorem qcT (names:List Nm) (j:Nat):qbm names (0,j)=some (0,j):=by simp[qbm]
theorem qf0 (names:List Nm) (i j:Nat) (h:i≠0):qbm names (i,j)=(idx (i,j) names 0).map fun i=>(1,i):=by simp[qbm,h]
end Go.LE
namespace Go.LE
def chkV:LV→Option LV
  | .ptr n off=>some (.ptr n off)
  | .ipt xs=>some (.ipt xs)
  | .fn (.func f) a b=>some (.fn (.func f) a b)
  | _=>none
theorem op_chk {E:Env} {tm:List LV} {H:Heap} {b:Nat} (x:LX):qa4 E tm H b (.chk x)=outR (chkV (evX E.gl tm x)):=by
  simp only[qa4,qa2,qbz]
  generalize evX E.gl tm x=y
  cases y with
  | fn f a c=>cases f <;> rfl
  | _=>rfl
theorem chkV_ptr (n:Nm) (off:Nat):chkV (.ptr n off)=some (.ptr n off):=nf rfl
theorem eqp_ptr (n:Nm) (off:Nat):binV .eql .ptr (.ptr n off) NilP=some (Bo false):=nf rfl
theorem nep_ptr (n:Nm) (off:Nat):binV .neq .ptr (.ptr n off) NilP=some (Bo true):=nf rfl
theorem eqs_sl (n:Nm) (off len:Nat) (c:Option Nat) (es:Nat):binV .eql .slice (.sl n off len c es) Nil=some (Bo false):=nf rfl
theorem eqs_nil:binV .eql .slice Nil Nil=some (Bo true):=nf rfl
theorem calK_ptr_new (b:Nat) (z:qal) (off:Nat) (h:z.map (ren D (qbf [] b 1))=z):calK b (some (.ptr (1,0) off,[],[z]))=some ⟨.ptr (b,0) off,[z],[]⟩:=by
  simp only[calK,qcG,zE,zL,zB,zA,List.zipWith_nil_left]
  rw[show (0+1:Nat)=1 from rfl,h]
  rfl
theorem qaG (names:List Nm) (H:Heap) (j:Nat):cN names H (0,j)=(H (0,j)).map (fun cs=>cs.map (ren D (qbm names))):=nf rfl
end Go.LE
namespace Go.LE
theorem qac (objs:List qal) (j:Nat):qaY objs (0,j)=objs[j]? := by simp[qaY]
theorem qaa (objs:List qal) (i j:Nat) (h:i≠0):qaY objs (i,j)=none:=by simp[qaY,h]
theorem range_one:List.range 1=[0]:=nf rfl
theorem range_two:List.range 2=[0,1]:=nf rfl
theorem qhl:List.range 3=[0,1,2]:=nf rfl
end Go.LE
namespace Go.LE
def ptrO (off:Nat):Option Nm→LV
  | some m => .ptr m off
  | none => .undef
def slO (off len:Nat) (c:Option Nat) (es:Nat):Option Nm→LV
  | some m => .sl m off len c es
  | none => .undef
theorem qbk (π:Nm→Option Nm) (n:Nm) (off:Nat):ren D π (.ptr n off)=ptrO off (π n):=by
  simp only[ren,ptrO]; cases π n <;> rfl
theorem qaZ (π:Nm→Option Nm) (n:Nm) (off len:Nat) (c:Option Nat) (es:Nat):ren D π (.sl n off len c es)=slO off len c es (π n):=by
  simp only[ren,slO]; cases π n <;> rfl
theorem qbs (off:Nat) (m:Nm):ptrO off (some m) = .ptr m off:=nf rfl
theorem qa9 (off len:Nat) (c:Option Nat) (es:Nat) (m:Nm):slO off len c es (some m) = .sl m off len c es:=nf rfl
end Go.LE
namespace Go.LE
theorem qcr:nms D (.tup [])=[]:=nf rfl
theorem qeV (π:Nm→Option Nm):ren D π (.tup []) = .tup []:=nf rfl
end Go.LE
namespace Go.LE
theorem stepK_nm {E:Env} (b i:Nat) (os:List LOper) (log:List Done) (d:Option Nat) (tm:List LV) (H:Heap) (nx np:Nat) (v:LV) (z:qal) (n:Nm) (x:Option qal) :
    qdK E b i os log d tm H nx np (some ⟨v,[z],[(n,x)]⟩)=qbw E b (i+1) os log ⟨put tm d v,upd (upd H n x) (b+i,0) (some z),nx,np⟩:=by
  rw[qai]; rfl
theorem qaL (H:Heap) (f:Nat) (seen:List Nm) (n:Nm) (todo:List Nm):reachK H f seen n todo none=qa7 H f seen todo:=nf rfl
end Go.LE
namespace Go.LE
theorem stepK_nm2 {E:Env} (b i:Nat) (os:List LOper) (log:List Done) (d:Option Nat) (tm:List LV) (H:Heap) (nx np:Nat) (v:LV) (z:qal) (n:Nm) (x:Option qal) (n2:Nm) (x2:Option qal) :
    qdK E b i os log d tm H nx np (some ⟨v,[z],[(n,x),(n2,x2)]⟩)=qbw E b (i+1) os log ⟨put tm d v,upd (upd (upd H n2 x2) n x) (b+i,0) (some z),nx,np⟩:=by
  rw[qai]; rfl
theorem qhH {E:Env} (b i:Nat) (os:List LOper) (log:List Done) (d:Option Nat) (tm:List LV) (H:Heap) (nx np:Nat) (v:LV) (z z2:qal) (n:Nm) (x:Option qal) (n2:Nm) (x2:Option qal) :
    qdK E b i os log d tm H nx np (some ⟨v,[z,z2],[(n,x),(n2,x2)]⟩)=qbw E b (i+1) os log ⟨put tm d v,upd (upd (upd (upd H n2 x2) n x) (b+i,0) (some z)) (b+i,1) (some z2),nx,np⟩:=by
  rw[qai]; rfl
end Go.LE
namespace Go.LE
theorem stepK_m2 {E:Env} (b i:Nat) (os:List LOper) (log:List Done) (d:Option Nat) (tm:List LV) (H:Heap) (nx np:Nat) (v:LV) (n:Nm) (x:Option qal) (n2:Nm) (x2:Option qal) :
    qdK E b i os log d tm H nx np (some ⟨v,[],[(n,x),(n2,x2)]⟩)=qbw E b (i+1) os log ⟨put tm d v,upd (upd H n2 x2) n x,nx,np⟩:=by
  rw[qai]; rfl
end Go.LE
namespace Go.LE
def txt (l:List (BitVec 8)):LV := .v (.string ⟨(l.map fun x=>UInt8.ofNat x.toNat).toArray⟩)
theorem bytesOf_bs (l:List (BitVec 8)):qdl (bs l)=some (l.map fun x=>UInt8.ofNat x.toNat):=by
  induction l with
  | nil=>rfl
  | cons x l ih=>simp only[bs,zB] at ih ⊢; simp only[B8,qdl,ih]; rfl
def b2sK:Option qal→Option Out
  | some cs=>(qdl cs).map fun b=>⟨.v (.string ⟨b.toArray⟩),[],[]⟩
  | none=>none
theorem b2sK_bs (l:List (BitVec 8)):b2sK (some (bs l))=some ⟨txt l,[],[]⟩:=by
  simp only[b2sK,bytesOf_bs]; rfl
def b2sV (H:Heap) (y:LV):Option Nat→Option Out
  | some n=>(match y with
    | .v (.string _)=>none
    | y=>b2sK (qbp H 1 n y))
  | none=>none
theorem op_b2s {E:Env} {tm:List LV} {H:Heap} {b:Nat} (x:LX):qa4 E tm H b (.b2s x)=b2sV H (evX E.gl tm x) (qcE (evX E.gl tm x)):=by
  simp only[qa4,qa2,qbz,b2sV]
  generalize evX E.gl tm x=y
  cases qcE y with
  | none=>rfl
  | some n =>
    cases y with
    | v z=>cases z <;> (try rfl) <;> (simp only[b2sK]; cases qbp H 1 n _ <;> rfl)
    | _=>simp only[b2sK]; cases qbp H 1 n _ <;> rfl
theorem b2sV_sl (H:Heap) (m:Nm) (off len:Nat) (c:Option Nat) (es n:Nat):b2sV H (.sl m off len c es) (some n)=b2sK (qbp H 1 n (.sl m off len c es)):=nf rfl
theorem b2sV_isl (H:Heap) (xs:List LV) (len n:Nat):b2sV H (.isl xs len) (some n)=b2sK (qbp H 1 n (.isl xs len)):=nf rfl
end Go.LE
namespace Go.LE
open Go.ChangeShapes Go.WideShapes Go.ChangeAt Go.RowKit
def vB (n:Nat) (g:Nat→BitVec 8):List Value:=(List.range n).map fun i => .int .u8 ((g i).toNat:Int)
theorem rep_vB (R:Imm) (p:qa0) (n:Nat) (g:Nat→BitVec 8):Rep R p (aB n g) (vB n g):=by
  have h:aB n g=(vB n g).map .v:=by simp only[aB,arr,vB,List.map_map]; rfl
  rw[h]; exact Rep.plain _
section
variable {H:Type} {enc:TypeId × Value→H} {P:Program} {W:World} {base b:Nat} {sp:Nat→Bool} {held:Bool} {t e:TypeId} {n:Nat} {v:Value} {d:DataW H} {p:List MemPlace}
theorem open_ints {k:IntKind} (ht:P.underlying t=some (.array n e)) (he:P.underlying e=some (.int k)) (hc:P.cellsOf e=1) (hct:P.cellsOf t=n)
    (hv:Value.okWide P W .any base t v) (h:DataW.Trod enc P W b sp held t v d p) :
    ∃ cs:List Int,v = .agg (cs.map (Value.int k)).toArray∧cs.length=n∧(∀ x ∈ cs,(Lit.int k x).wf=true)∧p=[]:=by
  simp only[Value.okWide,ht] at hv
  obtain ⟨cs,rfl,hsz,_⟩:=hv
  obtain ⟨cs⟩:=cs
  obtain ⟨fuel,hf⟩:=h
  obtain ⟨xs,m,rfl,hx,hl,hn,hi⟩:=DataW.trod_array ht hf
  simp only[Value.cells] at hl hi hsz
  rw[hct] at hl
  have key:∀ i,i < n→∃ a:Int,cs[i]? = some (.int k a)∧(Lit.int k a).wf=true∧∃ y,xs[i]? = some y∧y.2=[]:=by
    intro i h1
    have h2:=hi i h1
    rw[hc,zX] at h2
    have h3:i < xs.length:=by omega
    rw[List.getElem?_eq_getElem h3] at h2
    obtain ⟨a,e0,e1,wa⟩:=DataW.trod_int he h2
    refine ⟨a,?_,wa,xs[i],List.getElem?_eq_getElem h3,?_⟩
    · have h4 : i < cs.length := by rw [hl]; exact h1
      have h5:(cs.drop i).take 1=[cs[i]]:=by
        rw[List.drop_eq_getElem_cons h4]; rfl
      have e0:(cs.drop i).take 1=[.int k a]:=by simpa using e0
      rw[h5] at e0
      rw[List.getElem?_eq_getElem h4]
      simpa using e0
    · rw[e1]
  have hex:∃ f:Nat→Int,∀ i,i < n→cs[i]? = some (.int k (f i))∧(Lit.int k (f i)).wf=true:=by
    refine ⟨fun i=>if h:i < n then (key i h).choose else 0,fun i h => ?_⟩
    simp only[h,dif_pos]
    exact ⟨(key i h).choose_spec.1,(key i h).choose_spec.2.1⟩
  obtain ⟨f,hf⟩:=hex
  refine ⟨(List.range n).map f,?_,by simp,?_,?_⟩
  · congr 2
    apply List.ext_getElem?
    intro i
    by_cases h1:i < n
    · rw [(hf i h1).1]; simp[h1]
    · rw[List.getElem?_eq_none (by omega),List.getElem?_eq_none (by simp; omega)]
  · intro x hx'
    simp only[List.mem_map,List.mem_range] at hx'
    obtain ⟨i,h1,rfl⟩:=hx'
    exact (hf i h1).2
  · simp only [za] at hx
    rw[hx.2,List.flatMap_eq_nil_iff]
    intro y hy
    obtain ⟨i,h1,rfl⟩:=List.mem_iff_getElem.1 hy
    obtain ⟨_,_,_,y,h2,h3⟩:=key i (by omega)
    rw[List.getElem?_eq_getElem h1] at h2
    cases h2
    exact h3
theorem ints8 {cs:List Int} (h:∀ x ∈ cs,(Lit.int .u8 x).wf=true):∃ g:Nat→BitVec 8,cs.map (Value.int .u8)=vB cs.length g:=by
  refine ⟨fun i=>BitVec.ofInt 8 (cs.getD i 0),?_⟩
  apply List.ext_getElem
  · simp[vB]
  · intro i h1 h2
    have h3:i < cs.length:=by simpa using h1
    obtain ⟨x,hx⟩:=wf_u8 (h cs[i] (List.getElem_mem h3))
    simp[vB,h3,hx]
    have:=x.isLt
    omega
theorem open_arr8 (ht:P.underlying t=some (.array n e)) (he:P.underlying e=some (.int .u8)) (hc:P.cellsOf e=1) (hct:P.cellsOf t=n)
    (hv:Value.okWide P W .any base t v) (h:DataW.Trod enc P W b sp held t v d p):∃ g:Nat→BitVec 8,v = .agg (vB n g).toArray∧p=[]:=by
  obtain ⟨cs,rfl,hl,hw,hp⟩:=open_ints ht he hc hct hv h
  obtain ⟨g,hg⟩:=ints8 hw
  exact ⟨g,by rw[hg,hl],hp⟩
end
end Go.LE
namespace Go.LE
open Go.ChangeShapes Go.WideShapes Go.ChangeAt Go.RowKit
inductive LK where
  | int (k:IntKind)
  | bool
def qdQ (P:Program):Nat→TypeId→Option (List (Nat × LK))
  | 0,_=>none
  | d+1,t=>match P.underlying t with
    | some (.int k)=>some [(0,.int k)]
    | some .bool=>some [(0,.bool)]
    | some (.array n e)=>match qdQ P d e with
      | some ls=>some ((List.range n).flatMap fun i=>ls.map fun p=>(i*P.cellsOf e+p.1,p.2))
      | none=>none
    | some (.struct fs)=>match seqO (fs.toList.map fun f=>(qdQ P d f.type).map fun ls=>ls.map fun p=>(f.offset+p.1,p.2)) with
      | some lss=>some lss.flatten
      | none=>none
    | _=>none
def isLeaf:LK→Value→Prop
  | .int k,v=>∃ a,v = .int k a∧(Lit.int k a).wf=true
  | .bool,v=>∃ b,v = .bool b
theorem seqO_mem {A:Type}:∀ (l:List (Option A)) (r:List A),seqO l=some r→∀ (i:Nat) (y:A),r[i]? = some y→l[i]? = some (some y):=by
  intro l
  induction l with
  | nil=>intro r h i y hy; simp only[seqO,Option.some.injEq] at h; subst h; simp at hy
  | cons o l ih =>
    intro r h i y hy
    cases o with
    | none=>simp[seqO] at h
    | some z =>
      simp only[seqO,zJ] at h
      obtain ⟨r',h1,rfl⟩:=h
      cases i with
      | zero=>simpa using hy
      | succ i=>simpa using ih r' h1 i y (by simpa using hy)
theorem seqO_len {A:Type}:∀ (l:List (Option A)) (r:List A),seqO l=some r→r.length=l.length:=by
  intro l
  induction l with
  | nil=>intro r h; simp only[seqO,Option.some.injEq] at h; subst h; rfl
  | cons o l ih =>
    intro r h
    cases o with
    | none=>simp[seqO] at h
    | some z =>
      simp only[seqO,zJ] at h
      obtain ⟨r',h1,rfl⟩:=h
      simp[ih r' h1]
section
variable {H:Type} {enc:TypeId × Value→H} {P:Program} {W:World} {base b:Nat} {sp:Nat→Bool} {held:Bool}
theorem sub_get {cs:List Value} {o n j:Nat} {c:Value} (h:((cs.drop o).take n)[j]? = some c):cs[o+j]? = some c:=by
  rw[List.getElem?_take] at h
  split at h
  · rw[List.getElem?_drop] at h; exact h
  · cases h
theorem leaves_ok:∀ (d:Nat) (t:TypeId) (ls:List (Nat × LK)),qdQ P d t=some ls→∀ (fuel:Nat) (cs:List Value) (x:DataW H × List MemPlace),
    DataW.trod enc P W b sp held fuel t cs=some x→(∀ q ∈ ls,∃ c,cs[q.1]? = some c∧isLeaf q.2 c)∧x.2=[]:=by
  intro d
  induction d with
  | zero=>intro t ls h; simp[qdQ] at h
  | succ d ih =>
    intro t ls h fuel cs x hx
    unfold qdQ at h
    split at h
    · rename_i k hu
      cases h
      obtain ⟨a,rfl,rfl,wa⟩:=DataW.trod_int hu hx
      refine ⟨?_,rfl⟩
      intro q hq
      simp only[List.mem_cons,List.not_mem_nil,or_false] at hq
      subst hq
      exact ⟨_,rfl,a,rfl,wa⟩
    · rename_i hu
      cases h
      obtain ⟨a,rfl,rfl⟩:=DataW.trod_bool hu hx
      refine ⟨?_,rfl⟩
      intro q hq
      simp only[List.mem_cons,List.not_mem_nil,or_false] at hq
      subst hq
      exact ⟨_,rfl,a,rfl⟩
    · rename_i n e hu
      split at h
      · rename_i le hle
        cases h
        obtain ⟨xs,m,rfl,rfl,hl,hn,hi⟩:=DataW.trod_array hu hx
        have hin:∀ i,i < n→∃ y,xs[i]? = some y:=fun i h=>⟨xs[i],List.getElem?_eq_getElem (by omega)⟩
        constructor
        · intro q hq
          simp only[List.mem_flatMap,List.mem_range,List.mem_map] at hq
          obtain ⟨i,h1,p,hp,rfl⟩:=hq
          obtain ⟨y,hy⟩:=hin i h1
          have h2:=hi i h1
          rw[hy] at h2
          obtain ⟨c,hc,hlf⟩:=(ih e le hle m _ y h2).1 p hp
          exact ⟨c,sub_get hc,hlf⟩
        · simp only [List.flatMap_eq_nil_iff]
          intro y hy
          obtain ⟨i,h1,rfl⟩:=List.mem_iff_getElem.1 hy
          have h2:=hi i (by omega)
          rw[List.getElem?_eq_getElem h1] at h2
          exact (ih e le hle m _ _ h2).2
      · cases h
    · rename_i fs hu
      split at h
      · rename_i lss hls
        cases h
        obtain ⟨xs,m,rfl,rfl,hl,hn,hi⟩:=DataW.trod_struct hu hx
        have hlen:=seqO_len _ _ hls
        simp only[zV,Array.length_toList] at hlen
        have key : ∀ i, i < fs.size → ∃ (f : Field) (lf : List (Nat × LK)) (y : DataW H × List MemPlace), fs[i]? = some f ∧ lss[i]? = some (lf.map fun p => (f.offset + p.1, p.2)) ∧ qdQ P d f.type = some lf ∧
            xs[i]? = some y∧DataW.trod enc P W b sp held m f.type ((cs.drop f.offset).take (P.cellsOf f.type))=some y:=by
          intro i h1
          have hf:fs[i]? = some fs[i]:=by simp[h1]
          have h3:lss[i]? = some lss[i]:=List.getElem?_eq_getElem (by omega)
          have h4:=seqO_mem _ _ hls i _ h3
          rw[List.getElem?_map,Array.getElem?_toList,hf] at h4
          simp only[zC,Option.some.injEq] at h4
          rw[zJ] at h4
          obtain ⟨lf,h5,h6⟩:=h4
          have hy:xs[i]? = some xs[i]:=List.getElem?_eq_getElem (by omega)
          refine ⟨fs[i],lf,xs[i],hf,by rw[h3,h6],h5,hy,?_⟩
          rw[hi i _ hf,hy]
        constructor
        · intro q hq
          rw[List.mem_flatten] at hq
          obtain ⟨l,hl1,hl2⟩:=hq
          obtain ⟨i,h1,rfl⟩:=List.mem_iff_getElem.1 hl1
          obtain ⟨f,lf,y,k1,k2,k3,k4,k5⟩:=key i (by omega)
          rw[List.getElem?_eq_getElem h1] at k2
          simp only[Option.some.injEq] at k2
          rw[k2,List.mem_map] at hl2
          obtain ⟨p,hp,rfl⟩:=hl2
          obtain ⟨c,hc,hlf⟩:=(ih f.type lf k3 m _ y k5).1 p hp
          exact ⟨c,sub_get hc,hlf⟩
        · simp only [List.flatMap_eq_nil_iff]
          intro y hy
          obtain ⟨i,h1,rfl⟩:=List.mem_iff_getElem.1 hy
          obtain ⟨f,lf,y',k1,k2,k3,k4,k5⟩:=key i (by omega)
          rw[List.getElem?_eq_getElem h1] at k4
          simp only[Option.some.injEq] at k4
          rw[k4]
          exact (ih f.type lf k3 m _ y' k5).2
      · cases h
    · cases h
theorem open_leaves {t:TypeId} {fs:Array Field} {v:Value} {dd:DataW H} {p:List MemPlace} (d:Nat) {ls:List (Nat × LK)} (hu:P.underlying t=some (.struct fs)) (hl:qdQ P d t=some ls)
    (hv:Value.okWide P W .any base t v) (h:DataW.Trod enc P W b sp held t v dd p) :
    ∃ cs:List Value,v = .agg cs.toArray∧cs.length=P.cellsOf t∧(∀ q ∈ ls,∃ c,cs[q.1]? = some c∧isLeaf q.2 c)∧p=[]:=by
  obtain ⟨cs,rfl,hsz⟩:=okWide_struct hu hv
  obtain ⟨fuel,hf⟩:=h
  obtain ⟨h1,h2⟩:=leaves_ok d t ls hl fuel _ _ hf
  obtain ⟨cs⟩:=cs
  exact ⟨cs,rfl,by simpa using hsz,by simpa [Value.cells] using h1,h2⟩
theorem qdV {cs:List Value} {j:Nat} {k:IntKind} (h:∃ c,cs[j]? = some c∧isLeaf (.int k) c):∃ a,cs[j]? = some (.int k a)∧(Lit.int k a).wf=true:=by
  obtain ⟨_,h1,a,rfl,w⟩:=h
  exact ⟨a,h1,w⟩
theorem leaf_bytes {cs:List Value} (o n:Nat) (hlen:cs.length=o+n) (h:∀ i,i < n→∃ c,cs[o+i]? = some c∧isLeaf (.int .u8) c):∃ g:Nat→BitVec 8,cs.drop o=vB n g:=by
  have hex:∃ f:Nat→Int,∀ i,i < n→cs[o+i]? = some (.int .u8 (f i))∧(Lit.int .u8 (f i)).wf=true:=by
    have key:=fun i h1=>qdV (h i h1)
    refine ⟨fun i=>if h:i < n then (key i h).choose else 0,fun i h => ?_⟩
    simp only[h,dif_pos]
    exact (key i h).choose_spec
  obtain ⟨f,hf⟩:=hex
  have hm:∀ x ∈ (List.range n).map f,(Lit.int .u8 x).wf=true:=by
    intro x hx'
    simp only[List.mem_map,List.mem_range] at hx'
    obtain ⟨i,h1,rfl⟩:=hx'
    exact (hf i h1).2
  obtain ⟨g,hg⟩:=ints8 hm
  simp only[zV,List.length_range] at hg
  refine ⟨g,?_⟩
  rw[←hg]
  apply List.ext_getElem?
  intro i
  rw[List.getElem?_drop]
  by_cases h1:i < n
  · rw [(hf i h1).1]; simp[h1]
  · rw[List.getElem?_eq_none (by omega),List.getElem?_eq_none (by simp; omega)]
end
end Go.LE
namespace Go.LE
open Go.ChangeShapes Go.WideShapes Go.ChangeAt Go.RowKit
section
variable {H:Type} {enc:TypeId × Value→H} {P:Program} {W:World} {base b:Nat} {sp:Nat→Bool} {held:Bool} {t e:TypeId} {n:Nat} {v:Value} {d:DataW H} {p:List MemPlace}
theorem qf1 (h:DataW.Trod enc P W b sp held t v d p):∀ x ∈ p,x.block < W.heap.size:=by
  obtain ⟨n,h⟩:=h
  exact DataW.trod_lt n _ _ _ h
def SlLen (d:DataW H) (n:Nat):Prop:=(n=0∧d = .nil)∨∃ l s,d = .slice l s∧l.length=n
theorem cells_at {a:Addr} {n:Nat} (hn:0 < n) {f:Nat→Value} (h:∀ i,i < n→W.cell? (a.add i)=some (f i)) :
    ∃ o cs,a=⟨a.block,o,none⟩∧allImm W a.block=some cs∧(cs.drop o).take n=(List.range n).map f:=by
  obtain ⟨ab,ao,asp⟩:=a
  have h0:=h 0 hn
  simp only[Addr.add,if_pos,World.cell?] at h0
  split at h0
  · rename_i cs T fz hb
    cases asp with
    | some x=>simp at h0
    | none =>
      refine ⟨ao,cs.toList,rfl,by simp[allImm,hb],?_⟩
      apply List.ext_getElem?
      intro i
      by_cases hi:i < n
      · have h1 := h i hi
        have h2:(Addr.add ⟨ab,ao,none⟩ i)=⟨ab,ao+i,none⟩:=by
          unfold Addr.add; split
          · rename_i h3; subst h3; rfl
          · rfl
        rw[h2,World.cell?,hb] at h1
        simp only[Option.isSome_none,zP,zM] at h1
        rw[List.getElem?_take,if_pos hi,List.getElem?_drop,Array.getElem?_toList,h1]
        simp[hi]
      · rw[List.getElem?_take,if_neg hi,List.getElem?_eq_none (by simp; omega)]
  · cases h0
theorem open_slice8 (ht:P.underlying t=some (.slice e)) (he:P.underlying e=some (.int .u8)) (hc:P.cellsOf e=1)
    (hv:Value.okWide P W .any base t v) (h:DataW.Trod enc P W b sp held t v d p) :
    ∃ l:List (BitVec 8),Rep1 (allImm W) noPlaces (.isl (bs l) l.length) v∧SlLen d l.length:=by
  obtain ⟨a0,len0,cap0,rfl⟩:=okWide_slice ht hv
  obtain ⟨fuel,hf⟩:=h
  simp only[Value.cells] at hf
  rcases Go.ChangeShapes.open_ints ht he hc hf with ⟨h1,h2⟩ | ⟨a,len,cap,zs,h1,_,hlc,_,hz,hx,hcell,hwf⟩
  · simp at h1
    obtain ⟨rfl,rfl,rfl⟩:=h1
    simp only[za] at h2
    exact ⟨[],.isl0 .nil,.inl ⟨rfl,h2.1⟩⟩
  · simp at h1
    obtain ⟨rfl,rfl,rfl⟩:=h1
    simp only[za] at hx
    have hle:len0≤zs.length:=by rw[hz]; split <;> omega
    refine ⟨(zs.take len0).map (BitVec.ofInt 8),?_,.inr ⟨_,_,hx.1,by simp[lits]⟩⟩
    have hl:((zs.take len0).map (BitVec.ofInt 8)).length=len0:=by simp; omega
    rw[hl]
    by_cases hn:len0=0
    · subst hn; exact .isl0 .nil
    · obtain ⟨o, cs, ea, hi, ht⟩ := cells_at (W := W) (a := a) (n := len0) (by omega) (fun i hi => hcell i (by omega))
      rw[ea]
      refine .isl hi ?_ hlc .nil
      rw[qaM,hl,ht]
      have e:(bs ((zs.take len0).map (BitVec.ofInt 8)))=((List.range len0).map fun i=>Value.int .u8 (zs.getD i 0)).map .v:=by
        apply List.ext_getElem
        · simp[bs]; omega
        · intro i h1 h2
          have h3:i < len0:=by simpa using h2
          have h4:i < zs.length:=by omega
          simp only[bs,List.getElem_map,List.getElem_take,List.getElem_range,B8]
          have:=hwf _ (List.getElem_mem h4)
          simp[Lit.wf,IntKind.min,IntKind.max,IntKind.signed,IntKind.bits] at this
          have e2:zs.getD i 0=zs[i]:=by simp[List.getD,h4]
          rw[e2]
          congr 2
          rw[BitVec.toNat_ofInt]
          have:=this.1
          omega
      rw[e]
      exact Rep.plain _
end
end Go.LE
namespace Go.LE
theorem weights_each {H:Type} {P:Program}:∀ {ts:List TypeId} {ds:List (DataW H)} {i:Nat} {t:TypeId} {d:DataW H},(DataW.weightsEach P ts ds).all (· ≤ reachBytes)=true→ts[i]? = some t→ds[i]? = some d →
    (d.weights P t).all (· ≤ reachBytes)=true:=by
  intro ts
  induction ts with
  | nil=>intro ds i t d _ h; simp at h
  | cons u ts ih =>
    intro ds i t d h ht hd
    cases ds with
    | nil=>simp at hd
    | cons e ds =>
      simp only[DataW.weightsEach,List.all_append,Bool.and_eq_true] at h
      cases i with
      | zero =>
        simp only[List.getElem?_cons_zero,Option.some.injEq] at ht hd
        subst ht; subst hd; exact h.1
      | succ i =>
        simp only[List.getElem?_cons_succ] at ht hd
        exact ih h.2 ht hd
theorem weights_sl {H:Type} {P:Program} {t e:TypeId} {d:DataW H} {n:Nat} (h:(d.weights P t).all (· ≤ reachBytes)=true) (ht:P.underlying t=some (.slice e)) (hl:SlLen d n):n*P.bytesOf e≤140737488351232:=by
  rcases hl with ⟨rfl,_⟩ | ⟨l,s,rfl,rfl⟩
  · omega
  · simp only [DataW.weights, ht, zT, Bool.and_eq_true, decide_eq_true_eq] at h
    have h1:=h.1
    rw[Nat.add_mul] at h1
    unfold reachBytes at h1
    omega
theorem weigh_sl {H:Type} {P:Program} {ts:List TypeId} {ds:List (DataW H)} {t e:TypeId} {d:DataW H} {n:Nat} (h:(DataW.weightsEach P ts ds).all (· ≤ reachBytes)=true) (i:Nat) (h1:ts[i]? = some t) (h2:ds[i]? = some d)
    (ht:P.underlying t=some (.slice e)) (hl:SlLen d n):n*P.bytesOf e≤140737488351232:=weights_sl (weights_each h h1 h2) ht hl
end Go.LE
namespace Go.LE
open Go.ChangeShapes Go.WideShapes Go.ChangeAt Go.RowKit
theorem Rep.flatMap {R:Imm} {p:qa0} {f:Nat→List LV} {g:Nat→List Value}:∀ (l:List Nat),(∀ i ∈ l,Rep R p (f i) (g i))→Rep R p (l.flatMap f) (l.flatMap g):=by
  intro l
  induction l with
  | nil=>intro _; exact .nil
  | cons x l ih =>
    intro h
    rw[zK,zK]
    exact Rep.append (h x (by simp)) (ih fun i hi=>h i (by simp[hi]))
section
variable {H:Type} {enc:TypeId × Value→H} {P:Program} {W:World} {base b:Nat} {sp:Nat→Bool} {held:Bool} {t e:TypeId} {c:Nat} {v:Value}
end
def sls (L:List (List (BitVec 8))):qal:=L.map fun b => .isl (bs b) b.length
section
variable {H:Type} {enc:TypeId × Value→H} {P:Program} {W:World} {base b:Nat} {sp:Nat→Bool} {held:Bool} {t u e:TypeId} {n:Nat} {v:Value} {d:DataW H} {p:List MemPlace}
end
theorem sls_nms7 (L:List (List (BitVec 8))):(sls L).flatMap (nms 7)=[]:=by
  rw[List.flatMap_eq_nil_iff]; intro x hx
  simp only[sls,List.mem_map] at hx
  obtain ⟨b,_,rfl⟩:=hx
  show (bs b).flatMap (nms 6)=[]
  rw[List.flatMap_eq_nil_iff]; intro x hx
  simp only[bs,List.mem_map] at hx
  obtain ⟨y,_,rfl⟩:=hx
  rfl
theorem sls_nms (L:List (List (BitVec 8))) (n:Nat):nms D (.isl (sls L) n)=[]:=sls_nms7 L
theorem bs_ren_d (d:Nat) (l:List (BitVec 8)) (π:Nm→Option Nm):(bs l).map (ren (d+1) π)=bs l:=by
  simp only[bs,List.map_map]; apply List.map_congr_left; intro x _; rfl
theorem sls_ren (π:Nm→Option Nm) (L:List (List (BitVec 8))) (n:Nat):ren D π (.isl (sls L) n) = .isl (sls L) n:=by
  show LV.isl ((sls L).map (ren 7 π)) n=_
  congr 1
  simp only[sls,List.map_map]
  apply List.map_congr_left
  intro b _
  show LV.isl ((bs b).map (ren 6 π)) b.length=_
  rw[bs_ren_d 5]
theorem sls_cell {H:Heap} (L:List (List (BitVec 8))) (i:Nat) (h:i < L.length):qb6 H 1 (.ipt ((sls L).drop i))=some [.isl (bs (L.getD i [])) (L.getD i []).length]:=by
  have h2:i < (sls L).length:=by simp[sls,h]
  rw[qgy,if_pos (by rw[zR]; omega),List.drop_eq_getElem_cons h2,zf,zW]
  simp[sls,h]
theorem aB_neq (n:Nat) (f g:Nat→BitVec 8):binV .neq (.flat [(n,.int)]) (.agg (aB n f)) (.agg (aB n g))=some (Bo !(qdw n f g)):=by
  have h:=aB_eql n f g
  simp only[binV] at h ⊢
  rw[zJ] at h
  obtain ⟨x,h1,h2⟩:=h
  have e:x=qdw n f g:=by cases x <;> cases h3:qdw n f g <;> simp_all [Bo]
  rw[h1,e]; rfl
end Go.LE
namespace Go.LE
open Go.ChangeShapes Go.WideShapes Go.ChangeAt Go.RowKit
section
variable {H:Type} {enc:TypeId × Value→H} {P:Program} {W:World} {base b:Nat} {sp:Nat→Bool} {held:Bool} {t u e:TypeId} {n:Nat} {v:Value} {d:DataW H} {p:List MemPlace}
end
end Go.LE
namespace Go.LE
variable {E:Env} {tm:List LV} {H:Heap} {b:Nat}
theorem frontK_bs (off n:Nat) (l:List (BitVec 8)) (h:off+n≤l.length):qb8 off 1 n (some (bs l))=some (bs ((l.drop off).take n)):=by
  simp only[qb8,zX,qaM,if_pos h,qd5,qdO]
theorem qag (n:Nat) (l:List (BitVec 8)) (h:n=l.length):qb8 0 1 n (some (bs l))=some (bs l):=by
  rw[frontK_bs 0 n l (by omega),zF,List.take_of_length_le (by omega)]
theorem frontK_aB (n:Nat) (g:Nat→BitVec 8):qb8 0 1 n (some (aB n g))=some (bs ((List.range n).map g)):=by
  rw[qdt,qag n _ (by simp)]
def appW (b k off len:Nat) (new:qal):Option qal→Option Out
  | some cs=>if off+len≤cs.length then some ⟨.sl (b,0) 0 (len+k) none 1,[(cs.drop off).take len++new],[]⟩ else none
  | none=>none
theorem appX_cap (k:Nat) (m:Nm) (off len c:Nat) (new:qal) (h0:0 < len) (hc:c < len+k) (h:len+k≤211106232532992) :
    appX b 1 1 k H [] new (.sl m off len (some c) 1)=appW b k off len new (H m):=by
  rw[appX,if_pos ⟨rfl,by omega,rfl⟩,if_neg (by omega),front_sl _ _ _ _ _ _ _ (Nat.le_refl _) (by omega)]
  cases H m with
  | none=>rfl
  | some cs =>
    simp only[qb8,appW,zX]
    by_cases h1:off+len≤cs.length
    · rw[if_pos h1,if_pos h1]
    · rw[if_neg h1,if_neg h1]
theorem appW_bs (k off len:Nat) (l new:List (BitVec 8)) (h:off+len≤l.length) :
    appW b k off len (bs new) (some (bs l))=some ⟨.sl (b,0) 0 (len+k) none 1,[bs ((l.drop off).take len++new)],[]⟩:=by
  rw[appW,if_pos (by rw[qaM]; exact h),qd5,qdO,qe7]
theorem appW_bs_all (k len:Nat) (l new:List (BitVec 8)) (h:len=l.length) :
    appW b k 0 len (bs new) (some (bs l))=some ⟨.sl (b,0) 0 (len+k) none 1,[bs (l++new)],[]⟩:=by
  rw[appW_bs _ _ _ _ _ (by omega),zF,List.take_of_length_le (by omega)]
theorem touch_append (gl:Nat→Option qal) (tm:List LV) (H:Heap) (size bytes:Nat) (x y:LX):qcj gl tm H (.append size bytes false x y)=nms D (evX gl tm x)++nms D (evX gl tm y):=by simp[qcj,deep,qd6]
end Go.LE
namespace Go.LE
theorem ibp_nms (l:List (BitVec 8)) (j:Nat):nms D (.ipt ((bs l).drop j))=[]:=by
  rw[qd5]
  show (bs (l.drop j)).flatMap (nms 7)=[]
  rw[List.flatMap_eq_nil_iff]; intro x hx; simp only[bs,List.mem_map] at hx; obtain ⟨y,_,rfl⟩:=hx; rfl
theorem ofInt_N (a:Nat) (h:a < 18446744073709551616):(BitVec.ofInt 64 (a:Int)).toNat=a:=by
  rw[qg0,BitVec.toNat_ofNat,Nat.mod_eq_of_lt (by simpa using h)]
theorem N_xor (e:EqT) (a b:Nat) (ha:a < 9223372036854775808) (hb:b < 9223372036854775808):binV .xor e (N a) (N b)=some (N (a ^^^ b)):=by
  have h:a ^^^ b < 9223372036854775808:=Nat.xor_lt_two_pow (n:=63) ha hb
  have e1:(BitVec.ofInt 64 (a:Int) ^^^ BitVec.ofInt 64 (b:Int)).toNat=a ^^^ b:=by rw[BitVec.toNat_xor,ofInt_N a (by omega),ofInt_N b (by omega)]
  show some (LV.v (Value.int .i64 (IntKind.i64.wrap ((BitVec.ofInt 64 (a:Int) ^^^ BitVec.ofInt 64 (b:Int)).toNat:Int))))=_
  rw[e1,w64 _ (by omega)]; rfl
theorem N_or (e:EqT) (a b:Nat) (ha:a < 9223372036854775808) (hb:b < 9223372036854775808):binV .or e (N a) (N b)=some (N (a ||| b)):=by
  have h:a ||| b < 9223372036854775808:=Nat.or_lt_two_pow (n:=63) ha hb
  have e1:(BitVec.ofInt 64 (a:Int) ||| BitVec.ofInt 64 (b:Int)).toNat=a ||| b:=by rw[BitVec.toNat_or,ofInt_N a (by omega),ofInt_N b (by omega)]
  show some (LV.v (Value.int .i64 (IntKind.i64.wrap ((BitVec.ofInt 64 (a:Int) ||| BitVec.ofInt 64 (b:Int)).toNat:Int))))=_
  rw[e1,w64 _ (by omega)]; rfl
theorem mnmx_min (a b:Nat):mnmx false [N a,N b]=some (N (min a b)):=by
  simp only[N,I,mnmx,mnmx.go,mn2,zP,zM]
  congr 3
  split <;> omega
end Go.LE
namespace Go.LE
theorem txt_eql (e:EqT) (a b:List (BitVec 8)):binV .eql e (txt a) (txt b)=some (Bo (decide (a=b))):=by
  have h:∀ l:List (BitVec 8),(ByteArray.mk (l.map fun x=>UInt8.ofNat x.toNat).toArray).toList=l.map fun x=>UInt8.ofNat x.toNat:=by
    intro l; rw[ByteArray.toList_eq]
  simp only[binV,txt,strOp,zC,Bo]
  congr 3
  rw[Bool.eq_iff_iff,beq_iff_eq,decide_eq_true_iff,h,h]
  constructor
  · intro e
    have inj:∀ x y:BitVec 8,UInt8.ofNat x.toNat=UInt8.ofNat y.toNat→x=y:=by
      intro x y e
      have e2:=congrArg UInt8.toNat e
      have hx:=x.isLt; have hy:=y.isLt
      simp[UInt8.toNat_ofNat] at e2
      exact BitVec.eq_of_toNat_eq (by omega)
    exact List.map_inj_right (fun x y e=>inj x y e) |>.1 e
  · rintro rfl; rfl
end Go.LE
namespace Go.LE
def appE0 (m:Nm):Option qal→Option Out
  | some cs=>some ⟨.sl m 0 0 (some 0) 1,[],[(m,some cs)]⟩
  | none=>none
theorem appX_e0 (b:Nat) (H:Heap) (m:Nm):appX b 1 1 0 H [] [] (.sl m 0 0 (some 0) 1)=appE0 m (H m):=by
  rw[appX,if_pos ⟨rfl,by decide,rfl⟩,if_pos (by decide)]
  cases H m with
  | none=>rfl
  | some cs =>
    simp only[appE0]
    rw[if_pos (by omega)]
    simp[qbh]
theorem appX_e0b (b:Nat) (H:Heap) (m:Nm):appX b 1 1 0 H [] (bs []) (.sl m 0 0 (some 0) 1)=appE0 m (H m):=appX_e0 b H m
theorem qf2 (xs:List LV) (n:Nat):qbe (.isl xs n)=some [.isl xs n]:=nf rfl
theorem appE0_some (m:Nm) (cs:qal):appE0 m (some cs)=some ⟨.sl m 0 0 (some 0) 1,[],[(m,some cs)]⟩:=nf rfl
theorem appX_e (b k:Nat) (H:Heap) (m:Nm) (new:qal) (h0:k≠0) (h:k≤211106232532992):appX b 1 1 k H [] new (.sl m 0 0 (some 0) 1)=some ⟨.sl (b,0) 0 k none 1,[new],[]⟩:=by
  rw[appX,if_pos ⟨rfl,by omega,rfl⟩,if_neg (by omega),qg1]
  simp
end Go.LE
namespace Go.LE
def qdg (H:Heap) (x:LV) (m:Nm) (l:List (BitVec 8)):Prop :=
  ∃ c l',x = .sl m 0 l.length c 1∧H m=some (bs l')∧l.length≤l'.length∧l'.take l.length=l∧(c=none∨c=some l.length)
theorem qdg.congr {H H':Heap} {x:LV} {m:Nm} {l:List (BitVec 8)} (h:qdg H x m l) (e:H' m=H m):qdg H' x m l:=by
  obtain ⟨c,l',h1,h2,h3⟩:=h
  exact ⟨c,l',h1,e.trans h2,h3⟩
theorem qdg.new {H:Heap} {m:Nm} {l:List (BitVec 8)} {n:Nat} (h:H m=some (bs l)) (hn:l.length=n):qdg H (.sl m 0 n (some n) 1) m l:=by
  subst hn
  exact ⟨some l.length,l,rfl,h,Nat.le_refl _,List.take_length,.inr rfl⟩
theorem qdg.un {H:Heap} {m:Nm} {l:List (BitVec 8)} {n:Nat} (h:H m=some (bs l)) (hn:l.length=n):qdg H (.sl m 0 n none 1) m l:=by
  subst hn
  exact ⟨none,l,rfl,h,Nat.le_refl _,List.take_length,.inl rfl⟩
theorem qdg.front {H:Heap} {x:LV} {m:Nm} {l:List (BitVec 8)} (h:qdg H x m l):qbp H 1 l.length x=some (bs l):=by
  obtain ⟨c,l',rfl,h1,h2,h3,_⟩:=h
  rw[qbQ m 0 l.length c l' h1 (by omega),zF,h3]
theorem qdg.lenOf {H:Heap} {x:LV} {m:Nm} {l:List (BitVec 8)} (h:qdg H x m l):qcE x=some l.length:=by
  obtain ⟨c,l',rfl,_⟩:=h; rfl
theorem qdg.lenS {H:Heap} {x:LV} {m:Nm} {l:List (BitVec 8)} (h:qdg H x m l):lenS x=some l.length:=by
  obtain ⟨c,l',rfl,_⟩:=h; rfl
theorem qdg.nms {H:Heap} {x:LV} {m:Nm} {l:List (BitVec 8)} (h:qdg H x m l):nms D x=[m]:=by
  obtain ⟨c,l',rfl,_⟩:=h; rfl
theorem qdg.isCell {H:Heap} {x:LV} {m:Nm} {l:List (BitVec 8)} (h:qdg H x m l):qaB x=true:=by
  obtain ⟨c,l',rfl,_⟩:=h; rfl
theorem qdg.cellsOf {H:Heap} {x:LV} {m:Nm} {l:List (BitVec 8)} (h:qdg H x m l):qbe x=some [x]:=by
  obtain ⟨c,l',rfl,_⟩:=h; rfl
def LentA (H:Heap) (B:LV) (b:List (BitVec 8)) (lent:List Nm):Prop := ∀ d,snap H (d+2) B=some (.isl (bs b) b.length,lent)
theorem lentA_zero (H:Heap) (n:Nm) (off:Nat) (c:Option Nat) (es:Nat):LentA H (.sl n off 0 c es) [] []:=fun _=>nf rfl
theorem lentA_isl (H:Heap) (b:List (BitVec 8)):LentA H (.isl (bs b) b.length) b []:=fun _=>nf rfl
theorem snapL_row (H:Heap) (d:Nat):∀ (xs:List (LV × List (BitVec 8) × List Nm)),(∀ p ∈ xs,LentA H p.1 p.2.1 p.2.2) →
    qet (snap H (d+2)) (xs.map (·.1))=some (sls (xs.map (·.2.1)),(xs.map (·.2.2)).flatten):=by
  intro xs
  induction xs with
  | nil=>intro _; rfl
  | cons p xs ih =>
    intro h
    have h1:=h p (by simp) d
    have h2:=ih fun q hq=>h q (by simp[hq])
    simp only[zB,qet,h1,h2]
    rfl
theorem snap_row (H:Heap) (n:Nm) (c:Option Nat) (xs:List (LV × List (BitVec 8) × List Nm)) (h:∀ p ∈ xs,LentA H p.1 p.2.1 p.2.2) (hn:H n=some (xs.map (·.1))) (h0:xs≠[]) :
    snap H D (.sl n 0 xs.length c 1)=some (.isl (sls (xs.map (·.2.1))) xs.length,n::(xs.map (·.2.2)).flatten):=by
  have h1:¬ xs.length=0:=by simpa using h0
  have h2:=snapL_row H 5 xs h
  show snap H (7+1) _=_
  simp only[snap,if_neg h1,hn,zF,zX]
  rw[List.take_of_length_le (by simp),h2]
  rfl
end Go.LE
namespace Go.LE
variable {P:Program} {R:Imm} {p:qa0} {w:World} {E:Env} {H:Heap}
variable {ro:Option Nat} {n:Nat}
def Same (dst:Option Nat) (a a':Act):Prop := ∀ t,dst≠some t→a'.tmps[t]? = a.tmps[t]?
def SameAll (ops:Array Oper) (a a':Act):Prop := ∀ t,(∀ (i:Nat) (o:Oper),ops[i]? = some o→o.dst≠some t)→a'.tmps[t]? = a.tmps[t]?
theorem Same.all {ops:Array Oper} {i:Nat} {o:Oper} (ho:ops[i]? = some o) {a0 a a':Act} (h0:SameAll ops a0 a) (h:Same o.dst a a'):SameAll ops a0 a' :=
  fun t ht=>(h t (ht i o ho)).trans (h0 t ht)
end Go.LE
namespace Go.LE
open Go.RowKit
variable {P:Program} {R:Imm} {p:qa0} {w:World} {E:Env} {H:Heap}
theorem CAft.grow {a:Act} {st:St} {R':Imm} {p':qa0} {a':Act} {W W':World} (h:CAft R p H w a st R' p' a' W) (hsz:W.heap.size≤W'.heap.size)
    (hb:∀ (b:Nat) (o:Obj),W.heap[b]? = some o→(o.isCells=true∨b < w.heap.size)→W'.heap[b]? = some o) (hio:W'.os=W.os∧W'.output=W.output∧W'.tape=W.tape):CAft R p H w a st R' p' a' W':=by
  refine ⟨h.rep,⟨?_,h.sim.inj,?_⟩,⟨h.ext.imm,Nat.le_trans h.ext.size hsz,?_,h.ext.newImm,h.ext.own,hio.1.trans h.ext.io.1,hio.2.1.trans h.ext.io.2.1,hio.2.2.trans h.ext.io.2.2⟩,h.fresh,h.zero,h.two,h.defers⟩
  · intro n cs hn
    rcases h.sim.obj n cs hn with h1 | ⟨b,o,s,vs,T,fz,a,l⟩
    · exact .inl h1
    · exact .inr ⟨b,o,s,vs,T,fz,a,hb _ _ l.heap (.inl rfl),l.imm,l.free,l.size,l.fits,l.rep⟩
  · intro b cs hi
    obtain ⟨vs,T,fz,e1,e2⟩:=h.sim.imm b cs hi
    exact ⟨vs,T,fz,hb _ _ e1 (.inl rfl),e2⟩
  · intro b hlt hn
    have h1:=h.ext.kept b hlt hn
    have hlt':b < W.heap.size:=Nat.lt_of_lt_of_le hlt h.ext.size
    have h2:=Array.getElem?_eq_getElem hlt'
    rw[hb b W.heap[b] h2 (.inr hlt),←h2,h1]
theorem CAft.put {a:Act} {st:St} {R':Imm} {p':qa0} {a':Act} {W:World} (h:CAft R p H w a st R' p' a' W) {l:Nat} {o:Obj} (o':Obj) (hl:W.heap[l]? = some o) (ho:o.isCells=false) (hle:w.heap.size≤l) :
    CAft R p H w a st R' p' a' (W.putObj l o') :=
  h.grow (by simp [World.putObj]) (fun b o1 h1 h2 => by
    have:b≠l:=by
      rintro rfl
      rcases h2 with h2 | h2
      · rw[hl] at h1; cases h1; rw[ho] at h2; cases h2
      · omega
    rw[World.putObj_heap_other this]; exact h1) ⟨rfl,rfl,rfl⟩
def begun (keep:List Bool) (t:Nat) (x:LV) (st:St):St:={ qa8 keep st with tm:=(qa8 keep st).tm.set t x }
def qe8 (E:Env) (k:Nat) (la lb:LCode) (t:Nat) (keep:List Bool):List LV→St→Option St
  | [],st=>some st
  | x::xs,st=>match ev E k (la.seq lb) (begun keep t x st) with
    | some (.normal,st')=>qe8 E k la lb t keep xs st'
    | _=>none
end Go.LE
namespace Go.LE
open Go.RowKit
variable {P:Program} {R:Imm} {p:qa0} {w:World} {E:Env} {H:Heap}
structure RFun where
  ntmps:Nat
  results:List LRes
  la:LCode
  lb:LCode
  lc:LCode
  g:Nat
  t:Nat
  ls:LCode
  lbd:LCode
  post:LCode
  keep:List Bool
theorem CAft.lend {a:Act} {st:St} {R':Imm} {p':qa0} {a':Act} {W:World} (h:CAft R p H w a st R' p' a' W) (L:List Nm) :
    CAft R p H w a { st with H:=qgc L st.H } (qdN R' p' st.H L W) p' a' W:=by
  have hm:=qec h.sim (L:=L)
  refine ⟨h.rep.mono hm (fun _ _ h=>h),h.sim.lend L,⟨fun b cs hb=>hm _ _ (h.ext.imm b cs hb),h.ext.size,h.ext.kept,?_,?_,h.ext.io⟩,h.fresh,h.zero,h.two,h.defers⟩
  · intro b cs hb
    by_cases hl:qgb p' st.H L b
    · obtain ⟨n, _, ds, o, s, h1, h2⟩ := hl
      rcases h.ext.own b ⟨n,ds,o,s,h1,h2⟩ with h3 | h3
      · exact .inr (.inr h3)
      · exact .inr (.inl h3)
    · rw [qdv hl] at hb
      exact h.ext.newImm b cs hb
  · rintro b ⟨n, cs, o, s, h1, h2⟩
    exact h.ext.own b ⟨n,cs,o,s,(qfi n cs h1).1,h2⟩
end Go.LE
namespace Go.LE
variable {E:Env} {tm:List LV} {H:Heap} {b:Nat}
end Go.LE
set_option linter.defProp false
namespace Go.LE
def leB:=And.intro @Go.LE.funSem_eq (And.intro @Go.LE.ev_skip (And.intro @Go.LE.ev_ret (And.intro @Go.LE.ev_exit (And.intro @Go.LE.ev_seq (And.intro @Go.LE.ev_block (And.intro @Go.LE.ev_region (And.intro @Go.LE.regK_some (And.intro @Go.LE.evOpers_nil (And.intro @Go.LE.evOpers_cons (And.intro @Go.LE.qhU (And.intro @Go.LE.stepK_pure (And.intro @Go.LE.guardK_true (And.intro @Go.LE.guardK_false (And.intro @Go.LE.guardK_true' (And.intro @Go.LE.guardK_false' (And.intro @Go.LE.guardK_un (And.intro @Go.LE.put_some (And.intro @Go.LE.put_none (And.intro @Go.LE.evX_t (And.intro @Go.LE.evX_c (And.intro @Go.LE.outR_some (And.intro @Go.LE.pickV_true (And.intro @Go.LE.pickV_false (And.intro @Go.LE.op_mv (And.intro @Go.LE.op_pick (And.intro @Go.LE.op_bin (And.intro @Go.LE.op_un (And.intro @Go.LE.op_cvt (And.intro @Go.LE.op_call (And.intro @Go.LE.callV_fn (And.intro @Go.LE.qhS (And.intro @Go.LE.andThen_ret (And.intro @Go.LE.andThen_exit (And.intro @Go.LE.qhT (And.intro @Go.LE.inBlock_ret (And.intro @Go.LE.inBlock_exit (And.intro @Go.LE.ev_cond (And.intro @Go.LE.condK_true (And.intro @Go.LE.condK_false (And.intro @Go.LE.retK_ret (And.intro @Go.LE.retK_normal (And.intro @Go.LE.resVal_tmp (And.intro @Go.LE.nms_B8 (And.intro @Go.LE.nms_B32 (And.intro @Go.LE.qgd (And.intro @Go.LE.nms_I (And.intro @Go.LE.nms_Bo (And.intro @Go.LE.nms_Un (And.intro @Go.LE.ren_B8 (And.intro @Go.LE.ren_B32 (And.intro @Go.LE.qdb (And.intro @Go.LE.ren_I (And.intro @Go.LE.qeK (And.intro @List.set_cons_zero.{0} (And.intro @List.set_cons_succ.{0} (And.intro @List.getD_cons_zero.{0} (And.intro @List.getD_cons_succ.{0} (And.intro @List.map_cons.{0,0} (And.intro @List.map_nil.{0,0} (And.intro @List.flatMap_cons.{0,0} (And.intro @List.flatMap_nil.{0,0} (And.intro @List.nil_append.{0} (And.intro @List.cons_append.{0} (And.intro @List.append_nil.{0} (And.intro @Go.LE.repUn_succ (And.intro @List.replicate_zero.{0} (And.intro @List.length_cons.{0} (And.intro @List.length_nil.{0} (And.intro @Go.LE.B8_and (And.intro @Go.LE.B8_or (And.intro @Go.LE.B8_xor (And.intro @Go.LE.B8_eql (And.intro @Go.LE.B8_gtr (And.intro @Go.LE.B8_geq (And.intro @Go.LE.B8_nat (And.intro @Go.LE.B8_shl64 (And.intro @Go.LE.B8_shr64 (And.intro @Go.LE.cvt_8_32 (And.intro @Go.LE.cvt_8_64 (And.intro @Go.LE.B32_add (And.intro @Go.LE.B32_and (And.intro @Go.LE.B32_or (And.intro @Go.LE.B32_xor (And.intro @Go.LE.B32_not (And.intro @Go.LE.B32_shl64 (And.intro @Go.LE.B32_shr64 (And.intro @Go.LE.cvt_32_8 (And.intro @Go.LE.B64_mul (And.intro @Go.LE.B64_sub (And.intro @Go.LE.B64_and (And.intro @Go.LE.B64_or (And.intro @Go.LE.B64_xor (And.intro @Go.LE.B64_eql (And.intro @Go.LE.B64_neq (And.intro @Go.LE.B64_lss (And.intro @Go.LE.B64_shl64 (And.intro @Go.LE.B64_shr64 (And.intro @Go.LE.cvt_64_8 (And.intro @Go.LE.cvt_I_64 (And.intro @Go.LE.cvt_8_I (And.intro @Go.LE.cvt_I64 (And.intro @Go.LE.qc1 (And.intro @Go.LE.I_leq (And.intro @Go.LE.I_gtr (And.intro @Go.LE.I_geq (And.intro @Go.LE.Bo_not (And.intro @Go.LE.calK_B8 (And.intro @Go.LE.calK_B32 (And.intro @Go.LE.outOf_B8 (And.intro @Go.LE.outOf_B32 (And.intro @Go.LE.outOf_Bo (And.intro @Option.map_some.{0,0} (And.intro @BitVec.toNat_ofNat (@Go.LE.ev_loop))))))))))))))))))))))))))))))))))))))))))))))))))))))))))))))))))))))))))))))))))))))))))))))))))))))))))))))))))
def memB:=And.intro @Go.LE.qby (And.intro @Go.LE.stepK_new (And.intro @Go.LE.stepK_mod (And.intro @Go.LE.qfZ (And.intro @Go.LE.cellsOf_B8 (And.intro @Go.LE.cellsOf_B32 (And.intro @Go.LE.cellsOf_B64 (And.intro @Go.LE.cellsOf_I (And.intro @Go.LE.cellsOf_Bo (And.intro @Go.LE.isCell_B8 (And.intro @Go.LE.isCell_B64 (And.intro @Go.LE.isCell_I (And.intro @Go.LE.isCell_Bo (And.intro @Go.LE.cellAt_ptr (And.intro @Go.LE.cellK_cons (And.intro @Go.LE.ld1K_some (And.intro @Go.LE.ldK_some (And.intro @Go.LE.op_ld1 (And.intro @Go.LE.op_ld (And.intro @Go.LE.op_new (And.intro @Go.LE.op_box (And.intro @Go.LE.boxK_some (And.intro @Go.LE.op_st (And.intro @Go.LE.stV_ptr (And.intro @Go.LE.stK_cons (And.intro @Go.LE.op_fa (And.intro @Go.LE.faV_ptr (And.intro @Go.LE.op_iaA (And.intro @Go.LE.iaV_lt (And.intro @Go.LE.fill_nil (And.intro @Go.LE.fillK_some (And.intro @Go.LE.aggR_some (And.intro @Go.LE.op_build (And.intro @Go.LE.agg_Hf (And.intro @Go.LE.cellsOf_Hf (And.intro @Go.LE.qfE (And.intro @Go.LE.qfF (And.intro @Go.LE.calK_Hf (And.intro @Go.LE.outOf_Hf (And.intro @Go.LE.qbh.eq_1 (And.intro @List.take_succ_cons.{0} (And.intro @List.take_zero.{0} (And.intro @List.drop_succ_cons.{0} (And.intro @List.drop_zero.{0} (And.intro @List.drop_nil.{0} (And.intro @List.take_nil.{0} (And.intro @List.all_cons.{0} (And.intro @List.all_nil.{0} (And.intro @Bool.and_true (And.intro @Prod.mk.injEq.{0,0} (And.intro @and_true (And.intro @true_and (And.intro @and_false (And.intro @false_and (And.intro @and_self (And.intro @zO (And.intro @zZ (And.intro @Nat.le_refl (And.intro @decide_true (And.intro @decide_false (And.intro @Nat.one_ne_zero (And.intro @Nat.zero_ne_one (And.intro @Go.LE.resVal_agg (And.intro @Go.LE.aggV_some (And.intro @Go.LE.resVal_tt (@Go.LE.op_ix1)))))))))))))))))))))))))))))))))))))))))))))))))))))))))))))))))
def arrB:=And.intro @Go.LE.qfG (And.intro @Go.LE.qbX (And.intro @Go.LE.aB_cell (And.intro @Go.LE.aB_cells (And.intro @Go.LE.aB_st (And.intro @Go.LE.aB_st_all (And.intro @Go.LE.qaN (And.intro @Go.LE.qbt (And.intro @Go.LE.qbx (And.intro @Go.LE.aB_calK (And.intro @Go.LE.aB_outOf (And.intro @Go.LE.aB_ix1 (And.intro @Go.LE.aB_isCell (And.intro @Go.LE.aW_rep (And.intro @Go.LE.aW_cell (And.intro @Go.LE.aW_cells (And.intro @Go.LE.aW_st (And.intro @Go.LE.qe6 (And.intro @Go.LE.qcl (And.intro @Go.LE.qfk (And.intro @Go.LE.aW_calK (And.intro @Go.LE.aW_outOf (And.intro @Go.LE.aW_ix1 (And.intro @zX (And.intro @zZ (And.intro @zO (@Go.LE.B8_nat))))))))))))))))))))))))))
def numB:=And.intro @Go.LE.N_add (And.intro @Go.LE.N_sub (And.intro @Go.LE.N_mul (And.intro @Go.LE.N_quo (And.intro @Go.LE.N_rem (And.intro @Go.LE.N_eql (And.intro @Go.LE.N_neq (And.intro @Go.LE.N_lss (And.intro @Go.LE.N_gtr (And.intro @Go.LE.N_geq (And.intro @Go.LE.N_nat (And.intro @Go.LE.cvt_N_8 (And.intro @Go.LE.cvt_N_64 (And.intro @Go.LE.B32_shlN (And.intro @Go.LE.B32_shrN (And.intro @Go.LE.B64_shlN (And.intro @Go.LE.B64_shrN (And.intro @Go.LE.qcR (And.intro @Go.LE.qew (And.intro @Go.LE.cellsOf_N (And.intro @Go.LE.isCell_N (And.intro @Go.LE.outOf_N (And.intro @decide_not (And.intro @zY (And.intro @decide_false (And.intro @decide_true (And.intro @Go.LE.nm_beq (And.intro @Bool.not_false (@Bool.not_true))))))))))))))))))))))))))))
def qaf:=And.intro @Go.LE.op_chk (And.intro @Go.LE.chkV_ptr (And.intro @Go.LE.eqp_ptr (And.intro @Go.LE.nep_ptr (And.intro @Go.LE.eqs_sl (And.intro @Go.LE.eqs_nil (And.intro @Go.LE.op_len (And.intro @Go.LE.lenV_some (And.intro @Go.LE.lenS_sl (And.intro @Go.LE.lenS_isl (And.intro @Go.LE.lenS_nil (And.intro @Go.LE.lenOf_sl (And.intro @Go.LE.lenOf_isl (And.intro @Go.LE.lenOf_nil (And.intro @Go.LE.qbD (And.intro @Go.LE.qbS (And.intro @Go.LE.cellsOf_nil (And.intro @Go.LE.cellsOf_sl (And.intro @Go.LE.isCell_sl (And.intro @Go.LE.cellsOf_ptr (And.intro @Go.LE.qg1 (And.intro @Go.LE.op_append (And.intro @Go.LE.appK_some (And.intro @Go.LE.appF_some (And.intro @Go.LE.appX_nil (And.intro @Go.LE.appX_nil0 (And.intro @Go.LE.qdf (And.intro @Go.LE.op_copy (And.intro @Go.LE.optNat_none (And.intro @Go.LE.optNat_some (And.intro @Go.LE.op_slcS (And.intro @Go.LE.slcV_none (And.intro @Go.LE.slcV_cap (And.intro @Go.LE.slcV_isl (And.intro @Go.LE.slcV_nil (And.intro @Go.LE.qdU (And.intro @Go.LE.op_arrp (And.intro @Go.LE.arrpV_sl (And.intro @Go.LE.arrpV_isl (And.intro @Go.LE.op_iaS (And.intro @Go.LE.iaSV_sl (And.intro @Go.LE.iaSV_isl (And.intro @Go.LE.op_slcAV (And.intro @Go.LE.slcAV_ptr (And.intro @Go.LE.op_mkslice (And.intro @Go.LE.op_mkrow (And.intro @Go.LE.rowK_some (And.intro @Go.LE.op_cvs (And.intro @Go.LE.cvsV_sl (And.intro @Go.LE.cvsK_some (And.intro @Go.LE.idx_cons (And.intro @Go.LE.qcT (And.intro @Go.LE.qf0 (And.intro @Go.LE.qcS (And.intro @Go.LE.qcW (And.intro @Go.LE.qch (And.intro @Go.LE.qce (And.intro @List.filterMap_nil.{0,0} (And.intro @Option.map_some.{0,0} (And.intro @Option.map_none.{0,0} (And.intro @Go.LE.qbn (And.intro @Go.LE.qam (And.intro @Go.LE.qaq (And.intro @Go.LE.qbg (And.intro @Go.LE.qbj (And.intro @Nat.sub_zero (And.intro @zX (And.intro @Go.LE.range_one (And.intro @Go.LE.range_two (And.intro @Go.LE.qhl (And.intro @List.getElem?_cons_zero.{0} (And.intro @List.getElem?_cons_succ.{0} (And.intro @List.filterMap_cons.{0,0} (And.intro @List.range_zero (And.intro @Go.LE.qbk (And.intro @Go.LE.qaZ (And.intro @Go.LE.qbs (And.intro @Go.LE.qa9 (And.intro @Go.LE.resVal_none (And.intro @Go.LE.qeV (And.intro @Go.LE.stepK_nm (And.intro @Go.LE.stepK_nm2 (And.intro @Go.LE.qhH (@Go.LE.stepK_m2)))))))))))))))))))))))))))))))))))))))))))))))))))))))))))))))))))))))))))))))))))
def opsB:=And.intro @Go.LE.op_extV (And.intro @Go.LE.extV_tup (And.intro @Go.LE.op_mnmx (And.intro @List.getElem?_cons_zero.{0} (@List.getElem?_cons_succ.{0}))))
def ordB:=And.intro @Go.LE.evOpers_ord (And.intro @Go.LE.evOpers_ord_g (And.intro @Go.LE.guardO_true (And.intro @Go.LE.stepO_eq (And.intro @Go.LE.ordK_pure (And.intro @Go.LE.ordK_mod (And.intro @Go.LE.only_at (And.intro @Go.LE.touch_ld1 (And.intro @Go.LE.touch_ld (And.intro @Go.LE.touch_st (And.intro @Go.LE.touch_call (And.intro @Go.LE.touch_b2s (And.intro @Go.LE.touch_copy (And.intro @Go.LE.reach_none (And.intro @Go.LE.nms_fn (And.intro @Go.LE.qcp (And.intro @List.contains_cons.{0} (And.intro @List.contains_nil.{0} (And.intro @beq_self_eq_true.{0} (And.intro @Bool.or_true (And.intro @Bool.or_false (And.intro @Go.LE.ordOk.eq_1 (And.intro @Go.LE.qdy.eq_1 (And.intro @List.all_cons.{0} (And.intro @List.all_nil.{0} (And.intro @Nat.testBit.eq_1 (And.intro @Bool.not_true (And.intro @Bool.not_false (And.intro @Bool.and_self (And.intro @Bool.and_true (And.intro @Bool.and_false (And.intro @bne.eq_1.{0} (And.intro @Go.LE.envC_trim (And.intro @Go.LE.trimO_f (And.intro @Go.LE.trimO_pure (And.intro @Go.LE.isCall_ld1 (And.intro @Go.LE.isCall_ld (And.intro @Go.LE.isCall_st (And.intro @Go.LE.isCall_b2s (And.intro @Go.LE.isCall_cvs (And.intro @Go.LE.isCall_copy (And.intro @Go.LE.isCall_append (And.intro @Go.LE.isCall_call (@Go.LE.touch_cvs)))))))))))))))))))))))))))))))))))))))))))
def qan:=And.intro @Go.LE.frontK_aB (And.intro @Go.LE.appX_cap (And.intro @Go.LE.appW_bs_all (And.intro @Go.LE.front_sl (And.intro @Go.LE.qaI (And.intro @Go.LE.qai (And.intro @Go.LE.touch_append (And.intro @Go.LE.qf2 (And.intro @Go.LE.appX_e0 (And.intro @Go.LE.appX_e0b (@Go.LE.appE0_some))))))))))
def qak:=And.intro @Go.LE.qbE.eq_1 (And.intro @Go.LE.FUEL.eq_1 (And.intro @Go.LE.qcc (And.intro @Go.LE.qba (And.intro @Go.LE.qcp (And.intro @Go.LE.qa3 (And.intro @Go.LE.nms_B8 (And.intro @Go.LE.nms_B32 (And.intro @Go.LE.qgd (And.intro @Go.LE.nms_I (And.intro @Go.LE.nms_Bo (And.intro @Go.LE.nms_Un (And.intro @Go.LE.nms_undef (And.intro @Go.LE.qfE (And.intro @List.flatMap_cons.{0,0} (And.intro @List.flatMap_nil.{0,0} (And.intro @List.nil_append.{0} (And.intro @List.cons_append.{0} (And.intro @List.append_nil.{0} (And.intro @List.range_zero (And.intro @List.map_nil.{0,0} (And.intro @List.map_cons.{0,0} (And.intro @List.contains_nil.{0} (And.intro @List.contains_cons.{0} (And.intro @Prod.mk.injEq.{0,0} (And.intro @beq_iff_eq.{0} (And.intro @Bool.or_eq_true (And.intro @zP (And.intro @and_true (And.intro @true_and (And.intro @and_false (And.intro @false_and (And.intro @or_false (And.intro @or_true (And.intro @Nat.one_ne_zero (And.intro @Nat.zero_ne_one (And.intro @List.filter_cons.{0} (And.intro @List.filter_nil.{0} (And.intro @Go.LE.qby (And.intro @Go.LE.qdn (And.intro @Go.LE.qc7 (And.intro @Go.LE.qcP (And.intro @Go.LE.range_one (And.intro @Go.LE.range_two (And.intro @Go.LE.qhl (And.intro @List.getElem?_cons_zero.{0} (And.intro @List.getElem?_cons_succ.{0} (And.intro @Go.LE.qcR (@Go.LE.qbD))))))))))))))))))))))))))))))))))))))))))))))))
def nmsB:=And.intro @Go.LE.nms_B8 (And.intro @Go.LE.nms_B32 (And.intro @Go.LE.qgd (And.intro @Go.LE.nms_I (And.intro @Go.LE.qcR (And.intro @Go.LE.nms_Bo (And.intro @Go.LE.nms_Un (And.intro @Go.LE.nms_undef (And.intro @Go.LE.qfE (And.intro @Go.LE.qcp (And.intro @Go.LE.qa3 (And.intro @Go.LE.qbt (And.intro @Go.LE.qcl (And.intro @List.flatMap_cons.{0,0} (And.intro @List.flatMap_nil.{0,0} (And.intro @List.nil_append.{0} (And.intro @List.append_nil.{0} (And.intro @Go.LE.ren_B8 (And.intro @Go.LE.ren_B32 (And.intro @Go.LE.qdb (And.intro @Go.LE.ren_I (And.intro @Go.LE.qew (And.intro @Go.LE.qeK (And.intro @Go.LE.qfF (And.intro @Go.LE.qbx (And.intro @Go.LE.qfk (And.intro @List.map_cons.{0,0} (And.intro @List.map_nil.{0,0} (And.intro @Go.LE.qbn (And.intro @Go.LE.qam (And.intro @Go.LE.qaq (And.intro @Go.LE.qbg (And.intro @Go.LE.qbj (And.intro @Go.LE.aB_isCell (And.intro @Go.LE.isCell_sl (@Go.LE.isCell_N)))))))))))))))))))))))))))))))))))
end Go.LE
namespace Go.LE
def cB8 (n:Nat):LV := .v (.int .u8 n)
def cB32 (n:Nat):LV := .v (.int .u32 n)
def cB64 (n:Nat):LV := .v (.int .u64 n)
def cNat (n:Nat):LV := .v (.int .i64 n)
def cI (n:Nat):LV := .v (.int .i64 (-n))
def cBo (b:Bool):LV := .v (.bool b)
def cNil:LV := .v (.slice none 0 0)
def cNilP:LV := .v (.pointer none)
def cStr (l:List Nat):LV := .v (.string ⟨⟨l.map UInt8.ofNat⟩⟩)
def cRep (n:Nat) (x:LV):List LV:=List.replicate n x
def cApp (a b:List LV):List LV:=a++b
theorem qat (n:Nat):cNat n=N n:=rfl
theorem qaF (n:Nat):cI n=I (-n):=rfl
theorem qaC (b:Bool):cBo b=Bo b:=rfl
theorem qau:cNil=Nil:=rfl
theorem qap:cNilP=NilP:=rfl
theorem qav (l:List Nat):cStr l=strL l:=rfl
theorem qaw (n:Nat) (x:LV):cRep n x=List.replicate n x:=rfl
theorem qax (a b:List LV):cApp a b=a++b:=rfl
theorem qaD (n:Nat) (h:n < 256):cB8 n=B8 (BitVec.ofNat 8 n):=by
  rw[cB8,B8,BitVec.toNat_ofNat,Nat.mod_eq_of_lt h]
theorem qay (n:Nat) (h:n < 4294967296):cB32 n=B32 (BitVec.ofNat 32 n):=by
  rw[cB32,B32,BitVec.toNat_ofNat,Nat.mod_eq_of_lt h]
theorem qaz (n:Nat) (h:n < 18446744073709551616):cB64 n=B64 (BitVec.ofNat 64 n):=by
  rw[cB64,B64,BitVec.toNat_ofNat,Nat.mod_eq_of_lt h]
def mV:LV→LV
  | .v (.int .u8 (.ofNat n))=>cB8 n
  | .v (.int .u32 (.ofNat n))=>cB32 n
  | .v (.int .u64 (.ofNat n))=>cB64 n
  | .v (.int .i64 (.ofNat n))=>cNat n
  | .v (.int .i64 (.negSucc n))=>cI (n+1)
  | .v (.bool b)=>cBo b
  | .v (.slice none 0 0)=>cNil
  | .v (.pointer none)=>cNilP
  | .v (.string s)=>cStr (s.data.toList.map UInt8.toNat)
  | x=>x
def sameV:LV→LV→Bool
  | .v (.int .u8 a),.v (.int .u8 b)=>a == b
  | .v (.int .u32 a),.v (.int .u32 b)=>a == b
  | .v (.int .u64 a),.v (.int .u64 b)=>a == b
  | .v (.int .i64 a),.v (.int .i64 b)=>a == b
  | .v (.bool a),.v (.bool b)=>a == b
  | _,_=>false
def runOf (x:LV):List LV→Nat × List LV
  | []=>(0,[])
  | y::l=>if sameV x y then let r:=runOf x l; (r.1+1,r.2) else (0,y::l)
def mL (xs:List LV):List LV :=
  match xs.reverse with
  | []=>[]
  | x::l =>
    let r:=runOf x l
    if r.1 < 7 then xs.map mV else match r.2 with
      | []=>cRep (r.1+1) (mV x)
      | l=>cApp (l.reverse.map mV) (cRep (r.1+1) (mV x))
def mA:LV→LV
  | .agg xs => .agg (mL xs)
  | x=>mV x
def mX:LX→LX
  | .c x => .c (mA x)
  | x=>x
def mP:List (Nat × Nat × LX)→List (Nat × Nat × LX):=List.map fun p=>(p.1,p.2.1,mX p.2.2)
def mOp:LOp→LOp
  | .mv x => .mv (mX x)
  | .pick c a b => .pick (mX c) (mX a) (mX b)
  | .new z => .new (mL z)
  | .box x => .box (mX x)
  | .build z ps => .build (mL z) (mP ps)
  | .mkrow s z ps l => .mkrow s (mL z) (mP ps) l
  | .ld1 x => .ld1 (mX x)
  | .ld n x => .ld n (mX x)
  | .st n x y => .st n (mX x) (mX y)
  | .chk x => .chk (mX x)
  | .bin o e x y => .bin o e (mX x) (mX y)
  | .un o x => .un o (mX x)
  | .cvt k x => .cvt k (mX x)
  | .s2b x => .s2b (mX x)
  | .b2s x => .b2s (mX x)
  | .arrp n x => .arrp n (mX x)
  | .fn f a b => .fn f (a.map mX) (b.map mX)
  | .mkslice s b z l c => .mkslice s b (mL z) (mX l) (mX c)
  | .slcA n s x a b c => .slcA n s (mX x) (a.map mX) (b.map mX) (c.map mX)
  | .slcS s x a b c => .slcS s (mX x) (a.map mX) (b.map mX) (c.map mX)
  | .slcT x a b => .slcT (mX x) (a.map mX) (b.map mX)
  | .fa k x => .fa k (mX x)
  | .fld1 o x => .fld1 o (mX x)
  | .fld o n x => .fld o n (mX x)
  | .iaA n s x i => .iaA n s (mX x) (mX i)
  | .iaS s x i => .iaS s (mX x) (mX i)
  | .ix1 l s x i => .ix1 l s (mX x) (mX i)
  | .ix l s n x i => .ix l s n (mX x) (mX i)
  | .ixT x i => .ixT (mX x) (mX i)
  | .ext x i => .ext (mX x) i
  | .call f as => .call (mX f) (as.map mX)
  | .len x => .len (mX x)
  | .lenT x => .lenT (mX x)
  | .lenA n => .lenA n
  | .append s b f x y => .append s b f (mX x) (mX y)
  | .appz s b z x y => .appz s b (mL z) (mX x) (mX y)
  | .copy s x y => .copy s (mX x) (mX y)
  | .mnmx m as => .mnmx m (as.map mX)
  | .cvs x => .cvs (mX x)
def mO (o:LOper):LOper:=⟨o.dst,mOp o.op,o.guard,o.ord⟩
def nmC (K:List (List Bool)) (B:List LCode):LCode→List (List Bool × LCode)→LCode × List (List Bool × LCode)
  | .skip,l=>(.skip,l)
  | .region ops,l=>(.region (ops.map mO),l)
  | .seq a b,l=>let r:=nmC K B b l; let q:=nmC K B a r.2; (.seq q.1 r.1,q.2)
  | .seqz a s b,l=>let r:=nmC K B b l; let q:=nmC K B a r.2; (.seqz q.1 s r.1,q.2)
  | .cond c a b,l=>let r:=nmC K B b l; let q:=nmC K B a r.2; (.cond (mX c) q.1 r.1,q.2)
  | .block i c,l=>let r:=nmC K B c l; (.block i r.1,r.2)
  | .loop k c,l=>let r:=nmC K B c l; (.loop (K.getD r.2.length []) (B.getD r.2.length .skip),r.2++[(k,r.1)])
  | .exit i,l=>(.exit i,l)
  | .ret,l=>(.ret,l)
def cuR (P:Program) (ops:Array Oper) (draw:Bool):Option (List LOper):=qcv P ops draw (if draw then qcB ops.toList else []) 0 ops.toList
def cu (P:Program):Code→Option LCode
  | .skip=>some .skip
  | .region _ ops draw=>(cuR P ops draw).map .region
  | .seq a b=>match cu P a,cu P b with | some x,some y=>some (.seq x y) | _,_=>none
  | .cond c a b=>match cu P a,cu P b with | some x,some y=>some (.cond (qaQ c) x y) | _,_=>none
  | .block id c=>(cu P c).map (.block id)
  | .loop c=>(cu P c).map (.loop [])
  | .exit id=>some (.exit id)
  | .ret=>some .ret
  | _=>none
def cuF (P:Program) (fn:Func):Option LFun :=
  match fn.body with
  | none=>none
  | some c=>match cu P c,qdu P fn.results.toList with
    | some lc,some rs=>some { ntmps:=fn.ntmps,results:=rs,body:=(qeh fn.ntmps (qf8 rs) lc (qf8 rs) []).1 }
    | _,_=>none
def bodyO:Option LFun→LCode | some f=>f.body | none => .skip
def lk (f:Option LFun) (i:Nat):List Bool:=((nmC [] [] (bodyO f) []).2.getD i ([],.skip)).1
def lb (K:List (List Bool)) (B:List LCode) (f:Option LFun) (i:Nat):LCode:=((nmC K B (bodyO f) []).2.getD i ([],.skip)).2
def lf (K:List (List Bool)) (B:List LCode):Option LFun→LFun
  | some f=>⟨f.ntmps,f.results,(nmC K B f.body []).1⟩
  | none=>⟨0,[],.skip⟩
end Go.LE
