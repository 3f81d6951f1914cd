/- codec: readers, evaluated. -/
import Derived.Test.YtbdjmicabfclcaaDoorLeJ
set_option linter.unusedVariables false
set_option linter.unusedSimpArgs false
open List renaming reduceReplicate → rR
open Nat renaming reduceSubDiff → rS
namespace Sl
open Go Go.LE Tb
open Sha (Lent qbq)
set_option maxRecDepth 20000
theorem clone_G (k off len:Nat) (c:Option Nat) (l:List (BitVec 8)) (hl:off+len≤l.length) (h0:0 < len) (hb:len≤211106232532992) :
    F C (k+1) 37 [.sl (0,0) off len c 1] [bs l]=some (.sl (1,0) 0 len none 1,[some (bs l)],[bs ((l.drop off).take len)]):=by
  rw[qaH f37]
  have hf:qbp (upd (qaY [bs l]) (5,0) (some [])) 1 len (.sl (0,0) off len c 1)=some (bs ((l.drop off).take len)):=by
    rw[qbQ (0,0) off len c l (by simp only[simprocAttr,-rR,-rS,leB,memB,qaf,qae,qab,qad,qac,qaa]) (by omega)]
  have ha:=qc9 (b:=7) (H:=upd (qaY [bs l]) (5,0) (some [])) len (5,0) 0 0 0 [] ((l.drop off).take len) (by simp only[simprocAttr,-rR,-rS,memB,qab] <;> rfl) (by simp) (by omega) (by omega)
  simp only[List.drop_nil,List.take_nil,zI,zO] at ha
  simp (disch:=first|omega|decide|simp only[nmsB,lB]) only[simprocAttr,-rR,-rS,leB,memB,arrB,numB,qaf,L37,hf,ha,qae,qab,qad,qac,qaa]
  refine Aes.qbK (names:=[(7,0)]) ?_ ?_
  · simp only[simprocAttr,-rR,-rS,qak,qam,qah,qac,qaa]
  · simp (disch:=first|omega|decide|simp only[nmsB,lB]) only[simprocAttr,-rR,-rS,leB,memB,qaf,qae,qab,qad,qac,qaa]
theorem qhO (k b off len:Nat) (c:Option Nat) (l:List (BitVec 8)) (H:Heap) (m:Nm) (hm:H m=some (bs l)) (hl:off+len≤l.length) (h0:0 < len) (hb:len≤211106232532992) :
    qar (envC C (k+1)) H b 37 [.sl m off len c 1]=some ⟨.sl (b,0) 0 len none 1,[bs ((l.drop off).take len)],[(m,some (bs l))]⟩:=by
  have hi:∀ x:Nm,idx x [x] 0=some 0:=fun x=>by simp[idx]
  rw[Aes.qb4 (k+1) b 37 l37 H [.sl m off len c 1] [.sl (0,0) off len c 1] [m] [m] [bs l] _ rfl ((Aes.qaA rfl hm (qam l)).trans (qba _ _ _)) (by simp only[zB,zA,qaZ,qbC,hi,zC,qa9]) (by simp only[List.filterMap_cons,zQ,hm,zB,zA,qaq]) (clone_G k off len c l hl h0 hb),qaT]
  simp only[qaZ,qbd,zE,zL,zO,Nat.lt_one_iff,qa9,zB,zA,qaq,List.zipWith_cons_cons,List.zipWith_nil_left,zC]
def rdC (m:Nm) (off len:Nat) (bad:Bool):qal:=[.sl m off len none 1,Bo bad]
theorem newReader_F (k len:Nat) (c:Option Nat) (l:List (BitVec 8)) (hl:len≤l.length) (h0:0 < len) (hb:len≤211106232532992) :
    F C (k+2) 32 [.sl (0,0) 0 len c 1] [bs l]=some (.ptr (1,0) 0,[some (bs l)],[rdC (1,1) 0 len false,bs (l.take len)]):=by
  rw[qaH f32]
  have hc:=fun b=>qhO k b 0 len c l (qaY [bs l]) (0,0) rfl (by omega) h0 hb
  simp (disch:=first|omega|decide|simp only[nmsB,lB]) only[simprocAttr,-rR,-rS,leB,memB,arrB,numB,qaf,L32,hc,zF,qab,qad,qac,qaa]
  refine Aes.qbK (names:=[(6,0),(4,0)]) ?_ ?_
  · simp only[simprocAttr,-rR,-rS,qak,qam,qa3,qah,qac,qaa]
  · simp (disch := first | omega | decide | simp only [nmsB, lB]) only [simprocAttr, -rR, -rS, leB, memB, qaf, qae, qab, qad, qac, qaa]
    rfl
theorem isWide_F (k n:Nat) (h:n=1∨n=2∨n=4∨n=8):F C (k+1) 41 [N n] []=some (Bo true,[],[]):=by
  rw[qaH f41]
  rcases h with rfl | rfl | rfl | rfl <;> simp (disch:=first|omega|decide|simp only[nmsB,lB]) only[simprocAttr,-rR,-rS,leB,memB,arrB,numB,qaf,L41,qae,qab,qad,qac,qaa]
theorem rBytes_F (k n off len:Nat) (l:List (BitVec 8)) (h0:0 < n) (hn:n≤len) (hl:off+len≤l.length) (hb:off+len≤211106232532992) :
    F C (k+2) 33 [.ptr (0,0) 0,N n] [rdC (0,1) off len false,bs l]=some (.sl (1,0) 0 n none 1,[some (rdC (0,1) (off+n) (len - n) false),some (bs l)],[bs ((l.drop off).take n)]):=by
  rw[qaH f33]
  have hn2:¬ len < n:=by omega
  simp (disch:=first|omega|decide|simp only[nmsB,lB]) only[simprocAttr,-rR,-rS,leB,memB,arrB,numB,qaf,qan,qai,L33,rdC,hn,hn2,Nat.not_lt_zero,qab,qad,qac,qaa,qag]
  rw[qhO k _ off n none l _ (0,1) rfl (by omega) h0 (by omega)]
  simp (disch:=first|omega|decide|simp only[nmsB,lB]) only[simprocAttr,-rR,-rS,leB,memB,arrB,numB,qaf,qan,qai,hn,hn2,Nat.not_lt_zero,qab,qad,qac,qaa,qag]
  refine Aes.qbK (names:=[(36,0)]) ?_ ?_
  · simp only[simprocAttr,-rR,-rS,qak,qam,qa3,qah,qac,qaa]
  · simp (disch:=first|omega|decide|simp only[nmsB,lB]) only[simprocAttr,-rR,-rS,leB,memB,qaf,qae,qab,qad,qac,qaa]
theorem qgl (m:Nm) (off len:Nat) (bad:Bool):(rdC m off len bad).flatMap (nms D)=[m]:=rfl
theorem qfv (m m':Nm) (π:Nm→Option Nm) (h:π m=some m') (off len:Nat) (bad:Bool):(rdC m off len bad).map (ren D π)=rdC m' off len bad:=by
  simp only[rdC,zB,zA,qaZ,h,qa9,qeK]
theorem toCee2 {p x:Nm} (h:p≠x):qaK [p,x] p=some (0,0)∧qaK [p,x] x=some (0,1):=by
  constructor <;> simp[qaK,idx,h]
theorem rd_call {K b g:Nat} (hg:qaJ g=fun _=>false) {H:Heap} {p x:Nm} (hpx:p≠x) {off len n off' len':Nat} {l:List (BitVec 8)} (hp:H p=some (rdC x off len false)) (hx:H x=some (bs l)) {v v':LV} {news news':List qal}
    (hv:ren D (qbf [p,x] b news.length) v=v') (hnews:news.map (fun cs=>cs.map (ren D (qbf [p,x] b news.length)))=news')
    (hF:F C K g [.ptr (0,0) 0,N n] [rdC (0,1) off len false,bs l]=some (v,[some (rdC (0,1) off' len' false),some (bs l)],news)) :
    qar (envC C K) H b g [.ptr p 0,N n]=some ⟨v',news',[(p,some (rdC x off' len' false)),(x,some (bs l))]⟩:=by
  obtain ⟨c0,c1⟩:=toCee2 hpx
  rw [Aes.qb4 K b g hg H [.ptr p 0, N n] [.ptr (0, 0) 0, N n] [p] [p, x] [rdC (0, 1) off len false, bs l] _ rfl
    ((Aes.qaA rfl hp (qgl _ _ _ _)).trans ((Aes.qaA (by simpa using Ne.symm hpx) hx (qam l)).trans (qba _ _ _)))
    (by simp only[zB,zA,qbk,c0,qbs,qew]) (by simp only[List.filterMap_cons,zQ,hp,hx,zB,zA,qaq,qfv x (0,1) _ c1]) hF,qaT,hv,hnews]
  simp only[List.zipWith_cons_cons,List.zipWith_nil_left,zC,qaq]
  rw[qfv (0,1) x _ (by rw[qcI] <;> rfl)]
def leU (L:List (BitVec 8)):Nat→BitVec 64
  | 0=>0#64
  | i+1=>leU L i ||| (L.getD i 0#8).setWidth 64 <<< (8*i)
def ruJ (rd:qal) (l:List (BitVec 8)) (n:Nat) (L:List (BitVec 8)) (i:Nat) (st:St):Prop := ∃ (H:Heap),st=⟨[.undef,.undef,.undef,.undef,.undef,B64 (leU L i),.undef,.undef,.undef,.undef,.undef,.undef,.undef,.sl (1,0) 0 n none 1,N n,N i,.undef,.undef,.undef,.undef,.undef,.undef,.undef,.undef,.undef,.undef,.undef,.undef,.undef],H,2,2⟩∧H (0,0)=some rd∧H (0,1)=some (bs l)∧H (1,0)=some (bs L)
theorem ru_round (k K n:Nat) (rd:qal) (hrd:rd.flatMap (nms D)=[(0,1)]) (hrr:∀ names,rd.map (ren D (qbm names))=rd) (l L:List (BitVec 8)) (hL:L.length=n) (hn:n≤8) (i:Nat) (hi:i < n) (st:St) (hJ:ruJ rd l n L i st) :
    ∃ st1,ev (envC C k) K L34b0 st=some (.normal,st1)∧ruJ rd l n L (i+1) (qa8 L34k0 st1):=by
  obtain ⟨H,rfl,h0,h1,h2⟩:=hJ
  have hc:qaS i 1 (some (bs L))=some [B8 (L.getD i 0#8)]:=by rw[qe0 L n hL,aB_cell _ _ _ hi]
  have h8:8*i < 64:=by omega
  apply Exists.intro
  apply And.intro
  · simp (disch := first | omega | decide | simp only [nmsB, lB]) only [simprocAttr, -rR, -rS, leB, memB, arrB, numB, qaf, L34b0, hi, h0, h1, h2, hc, qae, qab, qad, qac, qaa]
    rfl
  · refine qao [(1, 0)] rfl (by simp only [simprocAttr, -rR, -rS, qak, L34k0, hrd, qam, h0, h1, h2, qah, qac, qaa]) rfl ⟨_, rfl, ?_, ?_, ?_⟩
    · rw[qaG,h0,zC,hrr]
    · rw[qaG,h1,zC,qaq]
    · exact qaj (1,0) rfl h2 (qaq _ _)
theorem qes (k b n off len:Nat) (l:List (BitVec 8)) (H:Heap) (p x:Nm) (hpx:p≠x) (hp:H p=some (rdC x off len false)) (hx:H x=some (bs l)) (h0:0 < n) (hn:n≤len) (hl:off+len≤l.length) (hb:off+len≤211106232532992) :
    qar (envC C (k+2)) H b 33 [.ptr p 0,N n]=some ⟨.sl (b,0) 0 n none 1,[bs ((l.drop off).take n)],[(p,some (rdC x (off+n) (len - n) false)),(x,some (bs l))]⟩ :=
  rd_call l33 hpx hp hx (by simp only[qaZ,qbd,zE,zL,zO,Nat.lt_one_iff,qa9]) (by simp only[zB,zA,qaq]) (rBytes_F k n off len l h0 hn hl hb)
theorem qf4 (k b n:Nat) (h:n=1∨n=2∨n=4∨n=8) (H:Heap):qar (envC C (k+1)) H b 41 [N n]=some ⟨Bo true,[],[]⟩:=by
  rw[qae l41 rfl rfl,isWide_F k n h,calK_Bo]
theorem rUint_F (k n off len:Nat) (l:List (BitVec 8)) (h:n=1∨n=2∨n=4∨n=8) (hn:n≤len) (hl:off+len≤l.length) (hb:off+len≤211106232532992) :
    F C (k+30) 34 [.ptr (0,0) 0,N n] [rdC (0,1) off len false,bs l]=some (B64 (leU ((l.drop off).take n) n),[some (rdC (0,1) (off+n) (len - n) false),some (bs l)],[]):=by
  rw[qaH f34]
  have hw:=fun b H=>qf4 (k+28) b n h H
  have hr:=fun b=>qes (k+27) b n off len l (qaY [rdC (0,1) off len false,bs l]) (0,0) (0,1) (by decide) rfl rfl (by omega) hn hl hb
  have hlen:((l.drop off).take n).length=n:=by rw[zU,zR]; omega
  simp (disch:=first|omega|decide|simp only[nmsB,lB]) only[simprocAttr,-rR,-rS,leB,memB,arrB,numB,qaf,qan,qai,L34,hw,hr,qab,qad,qac,qaa,qag]
  generalize hL:qa1 L34k0 _ _ _=r
  refine qaR hL (ruJ (rdC (0,1) (off+n) (len - n) false) l n ((l.drop off).take n)) n (by omega) (fun i st hi hJ=>ru_round _ _ n _ rfl (fun names=>qfv _ _ _ (qcT _ _) _ _ _) l _ hlen (by omega) i hi st hJ) ?_ ?_ ?_
  · refine qao [(9, 0)] rfl (by simp only [simprocAttr, -rR, -rS, qak, L34k0, qgl, qam, qah, qac, qaa]) rfl ⟨_, rfl, ?_, ?_, ?_⟩
    · rw[qaG,qby,if_neg (by decide),qby,if_pos rfl,zC,qfv _ _ _ (qcT _ _)]
    · rw[qaG,qby,if_neg (by decide),qby,if_neg (by decide),qby,if_pos rfl,zC,qaq]
    · exact qaj (9,0) rfl rfl (qaq _ _)
  · rintro st ⟨H, rfl, h0, h1, h2⟩
    apply qaO
    simp (disch:=first|omega|decide|simp only[nmsB,lB]) only[simprocAttr,-rR,-rS,leB,memB,arrB,numB,qaf,L34b0,zY,qae,qab,qad,qac,qaa]
    rfl
  · rintro st ⟨H, rfl, h0, h1, h2⟩ rfl
    simp (disch:=first|omega|decide|simp only[nmsB,lB]) only[simprocAttr,-rR,-rS,leB,memB,arrB,numB,qaf,L34b0,zY,qae,qab,qad,qac,qaa]
    refine Aes.qbK (names:=[]) ?_ ?_
    · simp only[simprocAttr,-rR,-rS,qak,qgl,qam,h0,h1,qah,qac,qaa]
    · simp (disch:=first|omega|decide|simp only[nmsB,lB]) only[simprocAttr,-rR,-rS,leB,memB,qaf,h0,h1,qfv _ _ _ (qcT _ _),qae,qab,qad,qac,qaa]
theorem qep (k b n off len:Nat) (l:List (BitVec 8)) (H:Heap) (p x:Nm) (hpx:p≠x) (hp:H p=some (rdC x off len false)) (hx:H x=some (bs l)) (h:n=1∨n=2∨n=4∨n=8) (hn:n≤len) (hl:off+len≤l.length) (hb:off+len≤211106232532992) :
    qar (envC C (k+30)) H b 34 [.ptr p 0,N n]=some ⟨B64 (leU ((l.drop off).take n) n),[],[(p,some (rdC x (off+n) (len - n) false)),(x,some (bs l))]⟩ :=
  rd_call l34 hpx hp hx (qdb _ _) rfl (rUint_F k n off len l h hn hl hb)
end Sl
namespace Sl
open Go Go.LE Tb
open Sha (Lent qbq)
set_option maxRecDepth 20000
theorem qeq (k b len:Nat) (c:Option Nat) (l:List (BitVec 8)) (H:Heap) (m:Nm) (hm:H m=some (bs l)) (hl:len≤l.length) (h0:0 < len) (hb:len≤211106232532992) :
    qar (envC C (k+2)) H b 32 [.sl m 0 len c 1]=some ⟨.ptr (b,0) 0,[rdC (b,1) 0 len false,bs (l.take len)],[(m,some (bs l))]⟩:=by
  have hi:∀ x:Nm,idx x [x] 0=some 0:=fun x=>by simp[idx]
  rw[Aes.qb4 (k+2) b 32 l32 H [.sl m 0 len c 1] [.sl (0,0) 0 len c 1] [m] [m] [bs l] _ rfl ((Aes.qaA rfl hm (qam l)).trans (qba _ _ _)) (by simp only[zB,zA,qaZ,qbC,hi,zC,qa9]) (by simp only[List.filterMap_cons,zQ,hm,zB,zA,qaq]) (newReader_F k len c l hl h0 hb),qaT]
  simp only[qbk,qbd,zE,zL,zO,Nat.reduceAdd,Nat.reduceLT,zG,qbs,zB,zA,qaq,List.zipWith_cons_cons,List.zipWith_nil_left,zC]
  rw[qfv (1,1) (b,1) _ (by simp[qbd])]
theorem leU_lt (L:List (BitVec 8)):∀ i,i≤8→(leU L i).toNat < 2 ^ (8*i):=by
  intro i
  induction i with
  | zero=>intro _; simp[leU]
  | succ i ih =>
    intro h
    have h1:=ih (by omega)
    rw[leU,BitVec.toNat_or]
    have h2:((L.getD i 0#8).setWidth 64 <<< (8*i)).toNat < 2 ^ (8*(i+1)):=by
      rw[BitVec.toNat_shiftLeft,BitVec.toNat_setWidth,Nat.shiftLeft_eq]
      have h3:=(L.getD i 0#8).isLt
      have h4:(L.getD i 0#8).toNat % 2 ^ 64=(L.getD i 0#8).toNat:=Nat.mod_eq_of_lt (by omega)
      rw[h4]
      have h5:(L.getD i 0#8).toNat*2 ^ (8*i) < 2 ^ (8*(i+1)):=by
        rw[show 8*(i+1)=8+8*i by omega,Nat.pow_add]
        exact Nat.mul_lt_mul_of_pos_right h3 (Nat.two_pow_pos _)
      exact Nat.lt_of_le_of_lt (Nat.mod_le _ _) h5
    exact Nat.or_lt_two_pow (Nat.lt_of_lt_of_le h1 (Nat.pow_le_pow_right (by decide) (by omega))) h2
def epN (R:List (BitVec 8)):Nat:=(leU (R.take 4) 4).toNat
theorem epN_lt (R:List (BitVec 8)):epN R < 4294967296:=leU_lt _ 4 (by decide)
def epR (R:List (BitVec 8)):LV:=if epN R=0∧R≠List.replicate 64 0#8 then .tup [N 0,N 160] else .tup [N (epN R),N 0]
theorem same_z (R:List (BitVec 8)) (h:R.length=64):qdw 64 (fun j=>R.getD j 0#8) (fun _=>0#8)=decide (R=List.replicate 64 0#8):=by
  rw[same_rec R (fun _=>0#8) h,decide_eq_decide,show (List.range 64).map (fun _=>0#8)=List.replicate 64 0#8 from rfl]
  exact eq_comm
theorem N_shl64 (e:EqT) (a:Nat) (z:BitVec 64) (hz:z.toNat < 64) (h:a*2 ^ z.toNat < 9223372036854775808):binV .shl e (N a) (B64 z)=some (N (a*2 ^ z.toNat)):=by
  show (binI .shl .i64 (a:Int) .u64 (z.toNat:Int)).map LV.v=_
  have h1:¬ ((z.toNat:Int) < 0):=by omega
  simp only[binI,if_neg h1,zC]
  have e1:(a:Int)*2 ^ z.toNat=((a*2 ^ z.toNat:Nat):Int):=by push_cast; rfl
  rw[Int.toNat_natCast,Nat.min_eq_left (by simp[IntKind.bits]; omega),e1,w64 _ (by omega)]
  rfl
theorem epN_or (R:List (BitVec 8)) (h:4≤R.length):epN R=((R.getD 0 0#8).toNat ||| (R.getD 1 0#8).toNat*256 ||| (R.getD 2 0#8).toNat*65536) ||| (R.getD 3 0#8).toNat*16777216:=by
  have hg:∀ i,i < 4→(R.take 4).getD i 0#8=R.getD i 0#8:=fun i hi=>by
    simp only[List.getD_eq_getElem?_getD,List.getElem?_take,if_pos hi]
  have key:∀ (x:BitVec 8) (s:Nat),s≤24→((x.setWidth 64) <<< s).toNat=x.toNat*2 ^ s:=fun x s hs=>by
    have h1:=x.isLt
    have h2:2 ^ s≤2 ^ 24:=Nat.pow_le_pow_right (by decide) hs
    have h3:x.toNat*2 ^ s≤255*2 ^ 24:=Nat.mul_le_mul (by omega) h2
    rw[BitVec.toNat_shiftLeft,BitVec.toNat_setWidth,Nat.shiftLeft_eq,Nat.mod_eq_of_lt (a:=x.toNat) (by omega),Nat.mod_eq_of_lt (by omega)]
  simp only[epN,leU]
  rw[hg 0 (by decide),hg (0+1) (by decide),hg (0+1+1) (by decide),hg (0+1+1+1) (by decide)]
  rw[BitVec.toNat_or,BitVec.toNat_or,BitVec.toNat_or,BitVec.toNat_or,key _ _ (by decide),key _ _ (by decide),key _ _ (by decide),key _ _ (by decide)]
  rw[show (0#64:BitVec 64).toNat=0 from rfl,Nat.zero_or,show 2 ^ (8*0)=1 from rfl,zX]
theorem Epoch_F (k:Nat) (R:List (BitVec 8)) (h:R.length=64):F C (k+40) 30 [.agg (bs R)] []=some (epR R,[],[]):=by
  rw[qaH f30]
  have hc:=fun b (H:Heap) (h2:H (2,0)=some (bs R))=>qeq (k+37) b 64 (some 64) R H (2,0) h2 (by omega) (by decide) (by decide)
  simp (disch:=first|omega|decide|simp only[nmsB,lB]) only[simprocAttr,-rR,-rS,leB,memB,arrB,numB,qaf,opsB,qan,qai,L30,qbn,qab,qad,qac,qaa,qag]
  rw[hc _ _ rfl,List.take_of_length_le (by omega)]
  simp (disch:=first|omega|decide|simp only[nmsB,lB]) only[simprocAttr,-rR,-rS,leB,memB,arrB,numB,qaf,opsB,qan,qai,qab,qad,qac,qaa,qag]
  rw[qep (k+9) _ 4 0 64 R _ (6,0) (6,1) (by decide) rfl rfl (by decide) (by decide) (by omega) (by decide)]
  have hlt:(leU (R.take 4) 4).toNat < 9223372036854775808:=Nat.lt_trans (epN_lt R) (by decide)
  rw[zF]
  obtain ⟨x,hx⟩:∃ x,x=leU (R.take 4) 4:=⟨_,rfl⟩
  have he:epN R=x.toNat:=by rw[hx]; rfl
  rw[←hx] at hlt ⊢
  rw[epR,he]
  rw[qe0 R 64 h]
  by_cases h1:x.toNat=0
  · by_cases h2 : R = List.replicate 64 0#8
    · rw [if_neg (by simp [h2])]
      have hd:decide (R=List.replicate 64 0#8)=true:=decide_eq_true h2
      simp (disch:=first|omega|decide|simp only[nmsB,lB]) only[simprocAttr,-rR,-rS,leB,memB,arrB,numB,qaf,opsB,qan,qai,cvt_64_N x hlt,h1,aB_neq,same_z R h,hd,qab,qad,qac,qaa,qag]
      rw[qbB rfl (fun _=>rfl)]
    · rw [if_pos ⟨h1, h2⟩]
      have hd:decide (R=List.replicate 64 0#8)=false:=decide_eq_false h2
      simp (disch:=first|omega|decide|simp only[nmsB,lB]) only[simprocAttr,-rR,-rS,leB,memB,arrB,numB,qaf,opsB,qan,qai,cvt_64_N x hlt,h1,aB_neq,same_z R h,hd,qab,qad,qac,qaa,qag]
      rw[qbB rfl (fun _=>rfl)]
  · rw [if_neg (fun h => h1 h.1)]
    simp (disch:=first|omega|decide|simp only[nmsB,lB]) only[simprocAttr,-rR,-rS,leB,memB,arrB,numB,qaf,opsB,qan,qai,cvt_64_N x hlt,h1,qab,qad,qac,qaa,qag]
    rw[qbB rfl (fun _=>rfl)]
end Sl
namespace Sl
open Go Go.LE Tb
open Sha (Lent qbq)
set_option maxRecDepth 20000
def xsA (i:Nat):Nat→BitVec 8:=fun j=>if j < i then 120#8 else 0#8
theorem xsA_succ (i:Nat):set1 (xsA i) i 120#8=xsA (i+1):=by
  funext j
  simp only[set1,xsA]
  by_cases h:j=i
  · subst h; rw[if_pos rfl,if_pos (by omega)]
  · rw [if_neg h]
    by_cases h2:j < i
    · rw[if_pos h2,if_pos (by omega)]
    · rw[if_neg h2,if_neg (by omega)]
def qd9:List (BitVec 8):=List.replicate 512 120#8
theorem xsA_all:aB 512 (xsA 512)=bs qd9:=by
  rw[qd9,←qeM,qfG]
  exact qcn 512 fun j hj=>if_pos hj
def blJ (i:Nat) (st:St):Prop := ∃ (H:Heap) (x9 x10 x11:LV),st=⟨[.sl (0,0) 0 1 (some 1) 1,.undef,.undef,.sl (1,0) 0 512 (some 512) 1,N i,.undef,.undef,.undef,.undef,x9,x10,x11,.undef,.undef,.undef,.undef,.undef,.undef,.undef,.undef,.undef,.undef,.undef,.undef,.undef,.undef],H,2,1⟩ ∧
  H (0,0)=some (bs [120#8])∧H (1,0)=some (aB 512 (xsA i))
theorem bl_round (k K i:Nat) (hi:i < 512) (st:St) (hJ:blJ i st):∃ st1,ev (envC C k) K L28b0 st=some (.normal,st1)∧blJ (i+1) (qa8 L28k0 st1):=by
  obtain ⟨H,x9,x10,x11,rfl,h0,h1⟩:=hJ
  have hc:qaS 0 1 (some (bs [120#8]))=some [B8 120#8]:=rfl
  have hm:i % 1=0:=Nat.mod_one i
  have hs:=xsA_succ i
  apply Exists.intro
  apply And.intro
  · simp (disch := first | omega | decide | simp only [nmsB, lB]) only [simprocAttr, -rR, -rS, leB, memB, arrB, numB, qaf, L28b0, hi, h0, h1, hc, hm, hs, qae, qab, qad, qac, qaa]
    rfl
  · refine qao [(1, 0)] rfl (by simp only [simprocAttr, -rR, -rS, qak, L28k0, qaN, qam, qa3, h0, h1, qah, qac, qaa]) rfl ⟨_, _, _, _, rfl, ?_, ?_⟩
    · rw[qaG]; simp (disch:=first|omega|decide|simp only[nmsB,lB]) only[simprocAttr,-rR,-rS,memB,h0,zC,qaq,qab]
    · exact qaj (1,0) rfl (by simp (disch:=first|omega|decide|simp only[nmsB,lB]) only[simprocAttr,-rR,-rS,memB,qab]) (qaE _ _ _)
theorem Block_F (k:Nat):F C (k+600) 28 [.sl (0,0) 0 1 (some 1) 1] [bs [120#8]]=some (.sl (1,0) 0 512 (some 512) 1,[some (bs [120#8])],[bs qd9]):=by
  rw[qaH f28]
  have hmk:∀ b,mkK b 1 1 [B8 0#8] (some 512) (some 512)=some ⟨.sl (b,0) 0 512 (some 512) 1,[aB 512 fun _=>0#8],[]⟩:=fun b=>by
    rw[Aes.mk_z b 512 (by decide),←qeM,qfG]
  simp (disch:=first|omega|decide|simp only[nmsB,lB]) only[simprocAttr,-rR,-rS,leB,memB,arrB,numB,qaf,qan,L28,hmk,qae,qab,qad,qac,qaa,qag]
  generalize hL:qa1 L28k0 _ _ _=r
  refine qaR hL blJ 512 (by omega) (fun i st hi hJ=>bl_round _ _ i hi st hJ) ?_ ?_ ?_
  · refine qao [(3, 0)] rfl (by simp only [simprocAttr, -rR, -rS, qak, L28k0, qaN, qam, qa3, qah, qac, qaa]) rfl ⟨_, _, _, _, rfl, ?_, ?_⟩
    · rw[qaG]; rfl
    · exact qaj (3,0) rfl rfl (qaE _ _ _)
  · rintro st ⟨H, x9, x10, x11, rfl, h0, h1⟩
    apply qaO
    simp (disch:=first|omega|decide|simp only[nmsB,lB]) only[simprocAttr,-rR,-rS,leB,memB,arrB,numB,qaf,L28b0,qae,qab,qad,qac,qaa]
    rfl
  · rintro st ⟨H, x9, x10, x11, rfl, h0, h1⟩ rfl
    rw[xsA_all] at h1
    simp (disch:=first|omega|decide|simp only[nmsB,lB]) only[simprocAttr,-rR,-rS,leB,memB,arrB,numB,qaf,L28b0,qae,qab,qad,qac,qaa]
    refine Aes.qbK (names:=[(1,0)]) ?_ ?_
    · simp only[simprocAttr,-rR,-rS,qak,qam,h0,h1,qah,qac,qaa]
    · simp (disch:=first|omega|decide|simp only[nmsB,lB]) only[simprocAttr,-rR,-rS,leB,memB,qaf,h0,h1,qae,qab,qad,qac,qaa]
def HC (g:BitVec 64) (s sl j sg ti me la:Int) (nm:List (BitVec 8)):qal:=B64 g::I s::I sl::I j::I sg::I ti::I me::I la::bs nm
theorem qcm (g:BitVec 64) (s sl j sg ti me la:Int) (nm:List (BitVec 8)):PC (HC g s sl j sg ti me la nm) := .B64 _ (.I _ (.I _ (.I _ (.I _ (.I _ (.I _ (.I _ (.bs _))))))))
theorem Head_F (k n:Nat):F C (k+1) 31 [N n] []=some (.agg (HC 1#64 n 1 40 2 1 8 1 (List.replicate 16 0#8)),[],[]):=by
  rw[qaH f31]
  have h1:List.drop 16 (aB 16 fun _=>0#8)=[]:=List.drop_of_length_le (by rw[qbX]; exact Nat.le_refl _)
  have h2:List.take 16 (aB 16 fun _=>0#8)=bs (List.replicate 16 0#8):=by rw[List.take_of_length_le (by rw[qbX]; exact Nat.le_refl _),←qfG]; exact qeM 16 _
  simp (disch:=first|omega|decide|simp only[nmsB,lB]) only[simprocAttr,-rR,-rS,leB,memB,arrB,numB,qaf,qan,L31,h1,h2,zD,qbX,zC,qae,qab,qad,qac,qaa,qag]
  exact congrArg some ((qcm 1#64 n 1 40 2 1 8 1 (List.replicate 16 0#8)).outOf _)
theorem hwithin_F (k:Nat) (n a b:Int):F C (k+1) 38 [I n,I a,I b] []=some (Bo (decide (a≤n∧n≤b)),[],[]):=by
  rw[qaH f38]
  by_cases h1:a≤n
  · by_cases h2:n≤b <;> simp (disch:=first|omega|decide|simp only[nmsB,lB]) only[simprocAttr,-rR,-rS,leB,memB,arrB,numB,qaf,L38,h1,h2,decide_true,decide_false,true_and,false_and,qae,qab,qad,qac,qaa]
  · simp (disch:=first|omega|decide|simp only[nmsB,lB]) only[simprocAttr,-rR,-rS,leB,memB,arrB,numB,qaf,L38,h1,decide_true,decide_false,true_and,false_and,qae,qab,qad,qac,qaa]
theorem awithin_F (k:Nat) (n a b:Int):F C (k+1) 53 [I n,I a,I b] []=some (Bo (decide (a≤n∧n≤b)),[],[]):=by
  rw[qaH f53]
  by_cases h1:a≤n
  · by_cases h2:n≤b <;> simp (disch:=first|omega|decide|simp only[nmsB,lB]) only[simprocAttr,-rR,-rS,leB,memB,arrB,numB,qaf,L53,h1,h2,decide_true,decide_false,true_and,false_and,qae,qab,qad,qac,qaa]
  · simp (disch:=first|omega|decide|simp only[nmsB,lB]) only[simprocAttr,-rR,-rS,leB,memB,arrB,numB,qaf,L53,h1,decide_true,decide_false,true_and,false_and,qae,qab,qad,qac,qaa]
theorem hwithin_call (k b:Nat) (H:Heap) (n x y:Int):qar (envC C (k+1)) H b 38 [I n,I x,I y]=some ⟨Bo (decide (x≤n∧n≤y)),[],[]⟩:=by
  rw[qae l38 rfl rfl,hwithin_F,calK_Bo]
theorem qg8 (k b:Nat) (H:Heap) (n x y:Int):qar (envC C (k+1)) H b 53 [I n,I x,I y]=some ⟨Bo (decide (x≤n∧n≤y)),[],[]⟩:=by
  rw[qae l53 rfl rfl,awithin_F,calK_Bo]
def acOk (ti me la:Int):Prop:=(1≤ti∧ti≤8)∧(1≤la∧la≤4)∧8*la≤me∧me≤256
instance (ti me la:Int):Decidable (acOk ti me la):=by unfold acOk; infer_instance
theorem aCheck_F (k:Nat) (ti me la:Int):F C (k+2) 39 [.agg [I ti,I me,I la]] []=some (N (if acOk ti me la then 0 else 80),[],[]):=by
  rw[qaH f39]
  have hw:∀ b H n x y,qar (envC C (k+1)) H b 53 [I n,N x,N y]=some ⟨Bo (decide ((x:Int)≤n∧n≤(y:Int))),[],[]⟩:=fun b H n x y=>qg8 k b H n x y
  have hw2:∀ b H n x y,qar (envC C (k+1)) H b 53 [I n,I x,N y]=some ⟨Bo (decide (x≤n∧n≤(y:Int))),[],[]⟩:=fun b H n x y=>qg8 k b H n x y
  by_cases h1:1≤ti∧ti≤8
  · have d1 : decide (1 ≤ ti ∧ ti ≤ 8) = true := decide_eq_true h1
    by_cases h2:1≤la∧la≤4
    · have d2 : decide (1 ≤ la ∧ la ≤ 4) = true := decide_eq_true h2
      have hm:binV .mul .none (N 8) (I la)=some (I (8*la)):=I_mul .none 8 la (by omega)
      by_cases h3:8*la≤me∧me≤256
      · have d3 : decide (8 * la ≤ me ∧ me ≤ 256) = true := decide_eq_true h3
        rw[if_pos ⟨h1,h2,h3⟩]
        simp (disch:=first|omega|decide|simp only[nmsB,lB]) only[simprocAttr,-rR,-rS,leB,memB,arrB,numB,qaf,L39,hw,hw2,d1,d2,d3,hm,qab,qad,qac,qaa]
      · have d3 : decide (8 * la ≤ me ∧ me ≤ 256) = false := decide_eq_false h3
        rw[if_neg (fun h=>h3 h.2.2)]
        simp (disch:=first|omega|decide|simp only[nmsB,lB]) only[simprocAttr,-rR,-rS,leB,memB,arrB,numB,qaf,L39,hw,hw2,d1,d2,d3,hm,qab,qad,qac,qaa]
    · have d2 : decide (1 ≤ la ∧ la ≤ 4) = false := decide_eq_false h2
      rw[if_neg (fun h=>h2 h.2.1)]
      simp (disch:=first|omega|decide|simp only[nmsB,lB]) only[simprocAttr,-rR,-rS,leB,memB,arrB,numB,qaf,L39,hw,hw2,d1,d2,qab,qad,qac,qaa]
  · have d1 : decide (1 ≤ ti ∧ ti ≤ 8) = false := decide_eq_false h1
    rw[if_neg (fun h=>h1 h.1)]
    simp (disch:=first|omega|decide|simp only[nmsB,lB]) only[simprocAttr,-rR,-rS,leB,memB,arrB,numB,qaf,L39,hw,hw2,d1,qab,qad,qac,qaa]
theorem pc3 (a b c:Int):PC [I a,I b,I c] := .I _ (.I _ (.I _ .nil))
theorem aCheck_call (k b:Nat) (H:Heap) (ti me la:Int):qar (envC C (k+2)) H b 39 [.agg [I ti,I me,I la]]=some ⟨N (if acOk ti me la then 0 else 80),[],[]⟩:=by
  rw[qae l39 (by simp only[zK,zN,(pc3 ti me la).anms,zD]) (by simp only[zB,zA,(pc3 ti me la).aren]),aCheck_F]
  rfl
def hcOk (g:BitVec 64) (s sl j sg ti me la:Int):Prop:=g≠0#64∧(1≤s∧s≤1024)∧(1≤sl∧sl≤8)∧(16≤j∧j≤256)∧(1≤sg∧sg≤16)∧¬ j < sg+10∧acOk ti me la
instance (g:BitVec 64) (s sl j sg ti me la:Int):Decidable (hcOk g s sl j sg ti me la):=by unfold hcOk; infer_instance
theorem hCheck_F (k:Nat) (g:BitVec 64) (s sl j sg ti me la:Int) (nm:List (BitVec 8)) (hnm:nm.length=16):F C (k+10) 16 [.agg (HC g s sl j sg ti me la nm)] []=some (N (if hcOk g s sl j sg ti me la then 0 else 1),[],[]):=by
  rw[qaH f16]
  have hp:=qcm g s sl j sg ti me la nm
  have hw:∀ b H n x y,qar (envC C (k+9)) H b 38 [I n,N x,N y]=some ⟨Bo (decide ((x:Int)≤n∧n≤(y:Int))),[],[]⟩:=fun b H n x y=>hwithin_call (k+8) b H n x y
  have ha:=fun b H=>aCheck_call (k+7) b H ti me la
  have c0:qaS 0 1 (some (HC g s sl j sg ti me la nm))=some [B64 g]:=rfl
  have c1:qaS 1 1 (some (HC g s sl j sg ti me la nm))=some [I s]:=by simp only[HC,qbH,zE]; rw[if_pos (by omega)]; rfl
  have c2:qaS 2 1 (some (HC g s sl j sg ti me la nm))=some [I sl]:=by simp only[HC,qbH,zE]; rw[if_pos (by omega)]; rfl
  have c3:qaS 3 1 (some (HC g s sl j sg ti me la nm))=some [I j]:=by simp only[HC,qbH,zE]; rw[if_pos (by omega)]; rfl
  have c4:qaS 4 1 (some (HC g s sl j sg ti me la nm))=some [I sg]:=by simp only[HC,qbH,zE]; rw[if_pos (by omega)]; rfl
  have c5:qaS 5 3 (some (HC g s sl j sg ti me la nm))=some [I ti,I me,I la]:=by simp only[HC,qbH,zE]; rw[if_pos (by omega)]; rfl
  by_cases h0:g=0#64
  · have e0 : (g == 0#64) = true := by simpa using h0
    rw[if_neg (fun h=>h.1 h0)]
    simp (disch:=first|omega|decide|simp only[nmsB,lB]) only[simprocAttr,-rR,-rS,leB,memB,arrB,numB,qaf,qan,qai,L16,hp.isCell,c0,e0,qab,qad,qac,qaa,qag]
  · have e0 : (g == 0#64) = false := by simpa using h0
    by_cases h1:1≤s∧s≤1024
    · have d1 : decide (1 ≤ s ∧ s ≤ 1024) = true := decide_eq_true h1
      by_cases h2:1≤sl∧sl≤8
      · have d2 : decide (1 ≤ sl ∧ sl ≤ 8) = true := decide_eq_true h2
        by_cases h3:16≤j∧j≤256
        · have d3 : decide (16 ≤ j ∧ j ≤ 256) = true := decide_eq_true h3
          by_cases h4:1≤sg∧sg≤16
          · have d4 : decide (1 ≤ sg ∧ sg ≤ 16) = true := decide_eq_true h4
            have hadd:binV .add .none (I sg) (N 10)=some (I (sg+10)):=I_add .none sg 10 (by omega)
            by_cases h5:j < sg+10
            · have d5 : decide (j < sg + 10) = true := decide_eq_true h5
              rw[if_neg (fun h=>h.2.2.2.2.2.1 h5)]
              simp (disch:=first|omega|decide|simp only[nmsB,lB]) only[simprocAttr,-rR,-rS,leB,memB,arrB,numB,qaf,qan,qai,L16,hp.isCell,c0,c1,c2,c3,c4,c5,e0,hw,ha,d1,d2,d3,d4,d5,hadd,qab,qad,qac,qaa,qag]
            · have d5 : decide (j < sg + 10) = false := decide_eq_false h5
              by_cases h6:acOk ti me la
              · rw [if_pos ⟨h0, h1, h2, h3, h4, h5, h6⟩]
                simp (disch:=first|omega|decide|simp only[nmsB,lB]) only[simprocAttr,-rR,-rS,leB,memB,arrB,numB,qaf,qan,qai,L16,hp.isCell,c0,c1,c2,c3,c4,c5,e0,hw,ha,d1,d2,d3,d4,d5,hadd,h6,qab,qad,qac,qaa,qag]
              · rw [if_neg (fun h => h6 h.2.2.2.2.2.2)]
                simp (disch:=first|omega|decide|simp only[nmsB,lB]) only[simprocAttr,-rR,-rS,leB,memB,arrB,numB,qaf,qan,qai,L16,hp.isCell,c0,c1,c2,c3,c4,c5,e0,hw,ha,d1,d2,d3,d4,d5,hadd,h6,qab,qad,qac,qaa,qag]
          · have d4 : decide (1 ≤ sg ∧ sg ≤ 16) = false := decide_eq_false h4
            rw[if_neg (fun h=>h4 h.2.2.2.2.1)]
            simp (disch:=first|omega|decide|simp only[nmsB,lB]) only[simprocAttr,-rR,-rS,leB,memB,arrB,numB,qaf,qan,qai,L16,hp.isCell,c0,c1,c2,c3,c4,c5,e0,hw,ha,d1,d2,d3,d4,qab,qad,qac,qaa,qag]
        · have d3 : decide (16 ≤ j ∧ j ≤ 256) = false := decide_eq_false h3
          rw[if_neg (fun h=>h3 h.2.2.2.1)]
          simp (disch:=first|omega|decide|simp only[nmsB,lB]) only[simprocAttr,-rR,-rS,leB,memB,arrB,numB,qaf,qan,qai,L16,hp.isCell,c0,c1,c2,c3,c4,c5,e0,hw,ha,d1,d2,d3,qab,qad,qac,qaa,qag]
      · have d2 : decide (1 ≤ sl ∧ sl ≤ 8) = false := decide_eq_false h2
        rw[if_neg (fun h=>h2 h.2.2.1)]
        simp (disch:=first|omega|decide|simp only[nmsB,lB]) only[simprocAttr,-rR,-rS,leB,memB,arrB,numB,qaf,qan,qai,L16,hp.isCell,c0,c1,c2,c3,c4,c5,e0,hw,ha,d1,d2,qab,qad,qac,qaa,qag]
    · have d1 : decide (1 ≤ s ∧ s ≤ 1024) = false := decide_eq_false h1
      rw[if_neg (fun h=>h1 h.2.1)]
      simp (disch:=first|omega|decide|simp only[nmsB,lB]) only[simprocAttr,-rR,-rS,leB,memB,arrB,numB,qaf,qan,qai,L16,hp.isCell,c0,c1,c2,c3,c4,c5,e0,hw,ha,d1,qab,qad,qac,qaa,qag]
end Sl
namespace Sl
open Go Go.LE Tb
open Sha (Lent qbq)
set_option maxRecDepth 20000
def wC (s:LV) (size:Nat):qal:=[s,N size,Bo false]
def wS (m:Nm) (len:Nat):LV := .sl m 0 len none 1
theorem qgm (m:Nm) (len size:Nat):(wC (wS m len) size).flatMap (nms D)=[m]:=rfl
theorem wC_nms0 (size:Nat):(wC Nil size).flatMap (nms D)=[]:=rfl
theorem qeP (m m':Nm) (π:Nm→Option Nm) (h:π m=some m') (len size:Nat):(wC (wS m len) size).map (ren D π)=wC (wS m' len) size:=by
  simp only[wC,wS,zB,zA,qaZ,h,qa9,qeK,qew]
theorem qgn (π:Nm→Option Nm) (size:Nat):(wC Nil size).map (ren D π)=wC Nil size:=rfl
theorem newWriter_F (k size:Nat) (h:size≤16777216):F C (k+1) 20 [N size] []=some (.ptr (1,0) 0,[],[wC Nil size]):=by
  rw[qaH f20]
  have h2:¬ 16777216 < size:=by omega
  simp (disch:=first|omega|decide|simp only[nmsB,lB]) only[simprocAttr,-rR,-rS,leB,memB,arrB,numB,qaf,L20,h2,Nat.not_lt_zero,qae,qab,qad,qac,qaa]
  refine Aes.qbK (names:=[(11,0)]) ?_ ?_
  · simp only[simprocAttr,-rR,-rS,qak,qah,qac,qaa]
  · simp (disch := first | omega | decide | simp only [nmsB, lB]) only [simprocAttr, -rR, -rS, leB, memB, qaf, numB, qae, qab, qad, qac, qaa]
    rfl
theorem left_F (k len size:Nat) (l:List (BitVec 8)) (h:len≤size) (hs:size≤16777216):F C (k+1) 54 [.ptr (0,0) 0] [wC (wS (0,1) len) size,bs l]=some (N (size - len),[some (wC (wS (0,1) len) size),some (bs l)],[]):=by
  rw[qaH f54]
  simp (disch:=first|omega|decide|simp only[nmsB,lB]) only[simprocAttr,-rR,-rS,leB,memB,arrB,numB,qaf,ordB,qak,L54,wC,wS,qae,qab,qad,qac,qaa,qas,qah]
  refine Aes.qbK (names:=[]) ?_ ?_
  · simp only[simprocAttr,-rR,-rS,qak,qam,qa3,qah,qac,qaa]
  · simp (disch:=first|omega|decide|simp only[nmsB,lB]) only[simprocAttr,-rR,-rS,leB,memB,qaf,numB,qae,qab,qad,qac,qaa]
theorem left_0 (k size:Nat) (hs:size≤16777216):F C (k+1) 54 [.ptr (0,0) 0] [wC Nil size]=some (N size,[some (wC Nil size)],[]):=by
  rw[qaH f54]
  simp (disch:=first|omega|decide|simp only[nmsB,lB]) only[simprocAttr,-rR,-rS,leB,memB,arrB,numB,qaf,ordB,qak,L54,wC,qae,qab,qad,qac,qaa,qas,qah]
  refine Aes.qbK (names:=[]) ?_ ?_
  · simp only[simprocAttr,-rR,-rS,qak,qam,qa3,qah,qac,qaa]
  · simp (disch:=first|omega|decide|simp only[nmsB,lB]) only[simprocAttr,-rR,-rS,leB,memB,qaf,numB,qae,qab,qad,qac,qaa]
theorem w_call {K b g:Nat} {H:Heap} {p x:Nm} (hpx:p≠x) {len size:Nat} {l:List (BitVec 8)} (hp:H p=some (wC (wS x len) size)) (hx:H x=some (bs l)) {ys ys':List LV} {lent:List Nm} {res:qcg}
    (hl:lend H (qaJ g) 0 (.ptr p 0::ys)=some (.ptr p 0::ys',lent)) (hd:lent.any (fun n=>[p,x].contains n)=false) (hn:ys'.flatMap (nms D)=[]) (hr:∀ π,ys'.map (ren D π)=ys') (hpl:qa5 res=true)
    (hF:F C K g (.ptr (0,0) 0::ys') [wC (wS (0,1) len) size,bs l]=some res):qar (envC C K) H b g (.ptr p 0::ys)=some (qcG [p,x] b res):=by
  obtain ⟨c0,c1⟩:=toCee2 hpx
  exact Aes.call_gen K b g H _ _ _ [p,x] lent _ _ hl (by
      rw[zK,hn,qcp,zD]
      exact (Aes.qaA rfl hp (qgm _ _ _)).trans ((Aes.qaA (by simpa using Ne.symm hpx) hx (qam l)).trans (qba _ _ _))) hd
    (by rw[zB,hr,qbk,c0,qbs]) (by simp only[List.filterMap_cons,zQ,hp,hx,zB,zA,qaq,qeP x (0,1) _ c1]) hF hpl
theorem w_call0 {K b g:Nat} {H:Heap} {p:Nm} {size:Nat} (hp:H p=some (wC Nil size)) {ys ys':List LV} {lent:List Nm} {res:qcg}
    (hl:lend H (qaJ g) 0 (.ptr p 0::ys)=some (.ptr p 0::ys',lent)) (hd:lent.any (fun n=>[p].contains n)=false) (hn:ys'.flatMap (nms D)=[]) (hr:∀ π,ys'.map (ren D π)=ys') (hpl:qa5 res=true)
    (hF:F C K g (.ptr (0,0) 0::ys') [wC Nil size]=some res):qar (envC C K) H b g (.ptr p 0::ys)=some (qcG [p] b res):=by
  have hi:∀ x:Nm,idx x [x] 0=some 0:=fun x=>by simp[idx]
  exact Aes.call_gen K b g H _ _ _ [p] lent _ _ hl (by
      rw[zK,hn,qcp,zD]
      exact (Aes.qaA rfl hp (wC_nms0 _)).trans (qba _ _ _)) hd
    (by rw[zB,hr,qbk,qbC,hi] <;> rfl) (by simp only[List.filterMap_cons,zQ,hp,zB,zA,qgn]) hF hpl
theorem pl2 {v:LV} (h:qbP D v=true) (m:Nm) (len size:Nat) (l:List (BitVec 8)):qa5 (v,[some (wC (wS m len) size),some (bs l)],[])=true:=by
  simp only[qa5,zT,List.all_nil,Aes.qcD,h]; rfl
theorem pl1 {v:LV} (h:qbP D v=true) (size:Nat):qa5 (v,[some (wC Nil size)],[])=true:=by
  simp only[qa5,zT,List.all_nil,h]; rfl
theorem wC_back (p x:Nm) (b n len size:Nat):(wC (wS (0,1) len) size).map (ren D (qbf [p,x] b n))=wC (wS x len) size:=qeP (0,1) x _ (by rw[qcI] <;> rfl) len size
theorem wC_new (ps:List Nm) (b n len size:Nat) (h:0 < n):(wC (wS (1,0) len) size).map (ren D (qbf ps b n))=wC (wS (b,0) len) size:=qeP (1,0) (b,0) _ (by simp[qbd,h]) len size
theorem qfw {K g:Nat} (hg:qaJ g=fun _=>false) (H:Heap) (ys:List LV):lend H (qaJ g) 0 ys=some (ys,[]):=by rw[hg]; exact qdC _ _ _
theorem left_call (k b len size:Nat) (l:List (BitVec 8)) (H:Heap) (p x:Nm) (hpx:p≠x) (hp:H p=some (wC (wS x len) size)) (hx:H x=some (bs l)) (h:len≤size) (hs:size≤16777216) :
    qar (envC C (k+1)) H b 54 [.ptr p 0]=some ⟨N (size - len),[],[(p,some (wC (wS x len) size)),(x,some (bs l))]⟩:=by
  rw[w_call hpx hp hx (ys:=[]) (ys':=[]) (qfw (K:=0) l54 H _) rfl rfl (fun _=>rfl) (pl2 rfl _ _ _ _) (left_F k len size l h hs),qaT]
  simp only[zA,qew,List.zipWith_cons_cons,List.zipWith_nil_left,zC,qaq,wC_back]
theorem left_call0 (k b size:Nat) (H:Heap) (p:Nm) (hp:H p=some (wC Nil size)) (hs:size≤16777216) :
    qar (envC C (k+1)) H b 54 [.ptr p 0]=some ⟨N size,[],[(p,some (wC Nil size))]⟩:=by
  rw[w_call0 hp (ys:=[]) (ys':=[]) (qfw (K:=0) l54 H _) rfl rfl (fun _=>rfl) (pl1 rfl _) (left_0 k size hs),qaT]
  simp only[zA,qew,List.zipWith_cons_cons,List.zipWith_nil_left,zC,qgn]
theorem room_F (k len size n:Nat) (l:List (BitVec 8)) (h:len+n≤size) (hs:size≤16777216):F C (k+2) 40 [.ptr (0,0) 0,N n] [wC (wS (0,1) len) size,bs l]=some (Bo true,[some (wC (wS (0,1) len) size),some (bs l)],[]):=by
  rw[qaH f40]
  have hc:=fun b H h1 h2=>left_call k b len size l H (0,0) (0,1) (by decide) h1 h2 (by omega) hs
  simp only[wC,wS] at hc
  have h2:¬ size - len < n:=by omega
  simp (disch:=first|omega|decide|simp only[nmsB,lB]) only[simprocAttr,-rR,-rS,leB,memB,arrB,numB,qaf,L40,wC,wS,Nat.not_lt_zero,qab,qad,qac,qaa]
  rw[hc _ _ rfl rfl]
  simp (disch:=first|omega|decide|simp only[nmsB,lB]) only[simprocAttr,-rR,-rS,leB,memB,arrB,numB,qaf,h2,qab,qad,qac,qaa]
  refine Aes.qbK (names:=[]) ?_ ?_
  · simp only[simprocAttr,-rR,-rS,qak,qam,qa3,qah,qac,qaa]
  · simp (disch:=first|omega|decide|simp only[nmsB,lB]) only[simprocAttr,-rR,-rS,leB,memB,qaf,numB,qae,qab,qad,qac,qaa]
theorem room_0 (k size n:Nat) (h:n≤size) (hs:size≤16777216):F C (k+2) 40 [.ptr (0,0) 0,N n] [wC Nil size]=some (Bo true,[some (wC Nil size)],[]):=by
  rw[qaH f40]
  have hc:=fun b H h1=>left_call0 k b size H (0,0) h1 hs
  simp only[wC] at hc
  have h2:¬ size < n:=by omega
  simp (disch:=first|omega|decide|simp only[nmsB,lB]) only[simprocAttr,-rR,-rS,leB,memB,arrB,numB,qaf,L40,wC,Nat.not_lt_zero,qab,qad,qac,qaa]
  rw[hc _ _ rfl]
  simp (disch:=first|omega|decide|simp only[nmsB,lB]) only[simprocAttr,-rR,-rS,leB,memB,arrB,numB,qaf,h2,qab,qad,qac,qaa]
  refine Aes.qbK (names:=[]) ?_ ?_
  · simp only[simprocAttr,-rR,-rS,qak,qam,qa3,qah,qac,qaa]
  · simp (disch:=first|omega|decide|simp only[nmsB,lB]) only[simprocAttr,-rR,-rS,leB,memB,qaf,numB,qae,qab,qad,qac,qaa]
theorem room_call (k b len size n:Nat) (l:List (BitVec 8)) (H:Heap) (p x:Nm) (hpx:p≠x) (hp:H p=some (wC (wS x len) size)) (hx:H x=some (bs l)) (h:len+n≤size) (hs:size≤16777216) :
    qar (envC C (k+2)) H b 40 [.ptr p 0,N n]=some ⟨Bo true,[],[(p,some (wC (wS x len) size)),(x,some (bs l))]⟩:=by
  rw[w_call hpx hp hx (ys:=[N n]) (ys':=[N n]) (qfw (K:=0) l40 H _) rfl rfl (fun _=>rfl) (pl2 rfl _ _ _ _) (room_F k len size n l h hs),qaT]
  simp only[zA,qeK,List.zipWith_cons_cons,List.zipWith_nil_left,zC,qaq,wC_back]
theorem room_call0 (k b size n:Nat) (H:Heap) (p:Nm) (hp:H p=some (wC Nil size)) (h:n≤size) (hs:size≤16777216) :
    qar (envC C (k+2)) H b 40 [.ptr p 0,N n]=some ⟨Bo true,[],[(p,some (wC Nil size))]⟩:=by
  rw[w_call0 hp (ys:=[N n]) (ys':=[N n]) (qfw (K:=0) l40 H _) rfl rfl (fun _=>rfl) (pl1 rfl _) (room_0 k size n h hs),qaT]
  simp only[zA,qeK,List.zipWith_cons_cons,List.zipWith_nil_left,zC,qgn]
theorem wBytes_0 (k size:Nat) (a:List (BitVec 8)) (h0:0 < a.length) (h:a.length≤size) (hs:size≤16777216) :
    F C (k+3) 18 [.ptr (0,0) 0,.isl (bs a) a.length] [wC Nil size]=some (.tup [],[some (wC (wS (1,0) a.length) size)],[bs a]):=by
  rw[qaH f18]
  have hc:=fun b H h1=>room_call0 k b size a.length H (0,0) h1 h hs
  simp only[wC] at hc
  have hf:∀ H,qbp H 1 a.length (.isl (bs a) a.length)=some (bs a):=fun H=>qb9 a a.length rfl
  have ha:a.length≠0:=by omega
  simp (disch:=first|omega|decide|simp only[nmsB,lB]) only[simprocAttr,-rR,-rS,leB,memB,arrB,numB,qaf,L18,wC,wS,Nat.not_lt_zero,qab,qad,qac,qaa]
  rw[hc _ _ rfl]
  simp (disch:=first|omega|decide|simp only[nmsB,lB]) only[simprocAttr,-rR,-rS,leB,memB,arrB,numB,qaf,hf,ha,qab,qad,qac,qaa]
  refine Aes.qbK (names:=[(12,0)]) ?_ ?_
  · simp only[simprocAttr,-rR,-rS,qak,qam,qa3,qcr,qah,qac,qaa]
  · simp (disch:=first|omega|decide|simp only[nmsB,lB]) only[simprocAttr,-rR,-rS,leB,memB,qaf,numB,qae,qab,qad,qac,qaa]
theorem wBytes_F (k len size:Nat) (l a:List (BitVec 8)) (hl:l.length=len) (h0:0 < a.length) (h:len+a.length≤size) (hs:size≤16777216) :
    F C (k+3) 18 [.ptr (0,0) 0,.isl (bs a) a.length] [wC (wS (0,1) len) size,bs l]=some (.tup [],[some (wC (wS (1,0) (len+a.length)) size),none],[bs (l++a)]):=by
  rw[qaH f18]
  have hc:=fun b H h1 h2=>room_call k b len size a.length l H (0,0) (0,1) (by decide) h1 h2 h hs
  simp only[wC,wS] at hc
  have hf:∀ H,qbp H 1 a.length (.isl (bs a) a.length)=some (bs a):=fun H=>qb9 a a.length rfl
  simp (disch:=first|omega|decide|simp only[nmsB,lB]) only[simprocAttr,-rR,-rS,leB,memB,arrB,numB,qaf,L18,wC,wS,Nat.not_lt_zero,qab,qad,qac,qaa]
  rw[hc _ _ rfl rfl]
  simp (disch:=first|omega|decide|simp only[nmsB,lB]) only[simprocAttr,-rR,-rS,leB,memB,arrB,numB,qaf,hf,hl,zF,List.take_of_length_le (Nat.le_of_eq hl),qab,qad,qac,qaa]
  refine Aes.qbK (names:=[(12,0)]) ?_ ?_
  · simp only[simprocAttr,-rR,-rS,qak,qam,qa3,qcr,qaL,qah,qac,qaa]
  · simp (disch:=first|omega|decide|simp only[nmsB,lB]) only[simprocAttr,-rR,-rS,leB,memB,qaf,numB,qae,qab,qad,qac,qaa]
theorem qf5 (k b len size:Nat) (l a:List (BitVec 8)) (H:Heap) (p x:Nm) (B:LV) (lent:List Nm) (hpx:p≠x) (hp:H p=some (wC (wS x len) size)) (hx:H x=some (bs l)) (hB:snap H D B=some (.isl (bs a) a.length,lent)) (hd:lent.any (fun n=>[p,x].contains n)=false)
    (hl:l.length=len) (h0:0 < a.length) (h:len+a.length≤size) (hs:size≤16777216) :
    qar (envC C (k+3)) H b 18 [.ptr p 0,B]=some ⟨.tup [],[bs (l++a)],[(p,some (wC (wS (b,0) (len+a.length)) size)),(x,none)]⟩:=by
  rw[w_call hpx hp hx (ys:=[B]) (ys':=[.isl (bs a) a.length]) (by
      rw[qbo,qbo,qcC,if_neg (show ¬ qaJ 18 0=true by decide),if_pos (show qaJ 18 (0+1)=true by decide),hB,qbc,qbc,zD,zI]) hd
    (by simp only[zK,zN,qbg,zD]) (fun π=>by simp only[zB,zA,qbj]) (by simp only[qa5,zT,List.all_nil,Aes.qcD] <;> rfl) (wBytes_F k len size l a hl h0 h hs),qaT]
  simp only[zB,zA,qaq,List.zipWith_cons_cons,List.zipWith_nil_left,zC,Option.map_none,zE,zL,wC_new [p,x] b _ _ _ (Nat.lt_succ_self 0)]
  rfl
theorem wBytes_call0 (k b size:Nat) (a:List (BitVec 8)) (H:Heap) (p:Nm) (B:LV) (lent:List Nm) (hp:H p=some (wC Nil size)) (hB:snap H D B=some (.isl (bs a) a.length,lent)) (hd:lent.any (fun n=>[p].contains n)=false)
    (h0:0 < a.length) (h:a.length≤size) (hs:size≤16777216) :
    qar (envC C (k+3)) H b 18 [.ptr p 0,B]=some ⟨.tup [],[bs a],[(p,some (wC (wS (b,0) a.length) size))]⟩:=by
  rw[w_call0 hp (ys:=[B]) (ys':=[.isl (bs a) a.length]) (by
      rw[qbo,qbo,qcC,if_neg (show ¬ qaJ 18 0=true by decide),if_pos (show qaJ 18 (0+1)=true by decide),hB,qbc,qbc,zD,zI]) hd
    (by simp only[zK,zN,qbg,zD]) (fun π=>by simp only[zB,zA,qbj]) (by simp only[qa5,zT,List.all_nil,Aes.qcD] <;> rfl) (wBytes_0 k size a h0 h hs),qaT]
  simp only[zB,zA,qaq,List.zipWith_cons_cons,List.zipWith_nil_left,zC,Option.map_none,zE,zL,wC_new [p] b _ _ _ (Nat.lt_succ_self 0)]
  rfl
end Sl
namespace Sl
open Go Go.LE Tb
open Sha (Lent qbq)
set_option maxRecDepth 20000
def nB8 (x:BitVec 64) (n:Nat):List (BitVec 8):=(List.range n).map fun j=>(x >>> (8*j)).setWidth 8
theorem qca (x:BitVec 64) (n:Nat):(nB8 x n).length=n:=by rw[nB8,zV,List.length_range]
theorem nB8_succ (x:BitVec 64) (n:Nat):nB8 x (n+1)=nB8 x n++[(x >>> (8*n)).setWidth 8]:=by
  rw[nB8,nB8,List.range_succ,List.map_append]; rfl
def wuJ (x:BitVec 64) (n size len:Nat) (l:List (BitVec 8)) (i:Nat) (st:St):Prop := ∃ (H:Heap),
  st=⟨[.ptr (0,0) 0,.undef,B64 x,.undef,.undef,.undef,.undef,.undef,.undef,.undef,.undef,.undef,.undef,.undef,.undef,.undef,.undef,.undef,.undef,.undef,.undef,.undef,.undef,.undef,N n,N i,.undef,.undef,.undef,.undef,.undef,.undef,.undef,.undef,.undef,.undef,.undef,.undef,.undef,.undef,.undef,.undef,.undef],H,2,2⟩ ∧
  ((i=0∧H (0,0)=some (wC (wS (0,1) len) size)∧H (0,1)=some (bs l))∨(0 < i∧H (0,0)=some (wC (wS (1,0) (len+i)) size)∧H (0,1)=none∧H (1,0)=some (bs (l++nB8 x i))))
theorem frontK_o1 (y:BitVec 8):qb8 0 1 1 (some [B8 y])=some (bs [y]):=rfl
theorem wC_nm (m:Nm) (o len:Nat) (c:Option Nat) (e size:Nat):(wC (.sl m o len c e) size).flatMap (nms D)=[m]:=rfl
theorem wC_k0 (s:LV) (size:Nat):qaS 0 1 (some (wC s size))=some [s]:=rfl
theorem wC_st (s s':LV) (size:Nat) (m:Nm) (h:qaB s'=true):stK 1 0 m (some [s']) (some (wC s size))=some ⟨Un,[],[(m,some (wC s' size))]⟩:=by
  rw[qcw,if_pos ⟨rfl,by simp[wC],by simp[h]⟩]; rfl
theorem wu_round (k K n size len:Nat) (x:BitVec 64) (l:List (BitVec 8)) (hl:l.length=len) (hn:n≤8) (hb:len+n≤16777216) (i:Nat) (hi:i < n) (st:St) (hJ:wuJ x n size len l i st) :
    ∃ st1,ev (envC C k) K L19b0 st=some (.normal,st1)∧wuJ x n size len l (i+1) (qa8 L19k0 st1):=by
  obtain ⟨H,rfl,h⟩:=hJ
  have h8:8*i < 64:=by omega
  rcases h with ⟨rfl,h0,h1⟩ | ⟨hi0,h0,h1,h2⟩
  · have ha:∀ (b:Nat) (y:BitVec 8),appN b 1 1 0 len (0,1) (bs [y]) (some (bs l))=some ⟨.sl (b,0) 0 (len+1) none 1,[bs (l++[y])],[((0,1),none)]⟩:=fun b y=>by
      rw[qdf 1 0 len (0,1) l [y] (by omega),zF,List.take_of_length_le (Nat.le_of_eq hl)]
    apply Exists.intro
    apply And.intro
    · simp (disch := first | omega | decide | simp only [nmsB, lB]) only [simprocAttr, -rR, -rS, leB, memB, arrB, numB, qaf, ordB, qak, qan, qai, qaI, L19b0, hi, h0, h1, wC_k0, wS, frontK_o1, ha, wC_st, qab, qad, qac, qaa, qas, qah, qag]
      rfl
    · refine qao [(16, 0)] rfl (by simp only [simprocAttr, -rR, -rS, qak, L19k0, wC_nm, qam, qaL, qhH, qah, qac, qaa]) rfl ⟨_, rfl, .inr ⟨by omega, ?_, ?_, ?_⟩⟩
      · rw[qaG,qby,if_pos rfl,zC,show LV.sl (16,0) 0 (len+1) none 1=wS (16,0) (len+1) from rfl,qeP (16,0) (1,0) _ (by simp[qbm,idx])]
      · rw[qaG,qby,if_neg (by decide),qby,if_neg (by decide),qby,if_pos rfl]; rfl
      · rw[show nB8 x (0+1)=[BitVec.setWidth 8 (x >>> 0)] from rfl]; exact qaj (16,0) rfl (by simp (disch:=first|omega|decide|simp only[nmsB,lB]) only[simprocAttr,-rR,-rS,memB,qab]) (qaq _ _)
  · have hlen : (l ++ nB8 x i).length = len + i := by rw [zH, hl, qca]
    have ha:∀ (b:Nat) (y:BitVec 8),appN b 1 1 0 (len+i) (1,0) (bs [y]) (some (bs (l++nB8 x i)))=some ⟨.sl (b,0) 0 (len+i+1) none 1,[bs (l++nB8 x i++[y])],[((1,0),none)]⟩:=fun b y=>by
      rw[qdf 1 0 (len+i) (1,0) (l++nB8 x i) [y] (by omega),zF,List.take_of_length_le (Nat.le_of_eq hlen)]
    apply Exists.intro
    apply And.intro
    · simp (disch := first | omega | decide | simp only [nmsB, lB]) only [simprocAttr, -rR, -rS, leB, memB, arrB, numB, qaf, ordB, qak, qan, qai, qaI, L19b0, hi, h0, h1, h2, wC_k0, wS, frontK_o1, ha, wC_st, qab, qad, qac, qaa, qas, qah, qag]
      rfl
    · refine qao [(16, 0)] rfl (by simp only [simprocAttr, -rR, -rS, qak, L19k0, wC_nm, qam, qaL, h1, qah, qac, qaa]) rfl ⟨_, rfl, .inr ⟨by omega, ?_, ?_, ?_⟩⟩
      · rw [qaG, qby, if_pos rfl, zC, show LV.sl (16, 0) 0 (len + i + 1) none 1 = wS (16, 0) (len + i + 1) from rfl, qeP (16, 0) (1, 0) _ (by simp [qbm, idx])]
        rfl
      · rw[qaG,qby,if_neg (by decide),qby,if_neg (by decide),qby,if_neg (by decide),qby,if_neg (by decide),h1]; rfl
      · rw[nB8_succ,←List.append_assoc]; exact qaj (16,0) rfl (by simp (disch:=first|omega|decide|simp only[nmsB,lB]) only[simprocAttr,-rR,-rS,memB,qab]) (qaq _ _)
theorem wC_c10 (len size:Nat):(wC (wS (1,0) len) size).map (ren D (qbm [(1,0)]))=wC (wS (1,0) len) size:=qeP (1,0) (1,0) _ (by simp[qbm,idx]) len size
theorem wUint_F (k len size n:Nat) (x:BitVec 64) (l:List (BitVec 8)) (hl:l.length=len) (h:n=1∨n=2∨n=4∨n=8) (hx:n < 8→x >>> (8*n)=0#64) (hr:len+n≤size) (hs:size≤16777216) :
    F C (k+30) 19 [.ptr (0,0) 0,N n,B64 x] [wC (wS (0,1) len) size,bs l]=some (.tup [],[some (wC (wS (1,0) (len+n)) size),none],[bs (l++nB8 x n)]):=by
  rw[qaH f19]
  have hw:=fun b H=>qf4 (k+28) b n h H
  have hc:=fun b H h1 h2=>room_call (k+27) b len size n l H (0,0) (0,1) (by decide) h1 h2 hr hs
  have hn8:n≤8:=by omega
  by_cases h8:n < 8
  · have h0 := hx h8
    have hmul:8*n < 64:=by omega
    simp (disch:=first|omega|decide|simp only[nmsB,lB]) only[simprocAttr,-rR,-rS,leB,memB,arrB,numB,qaf,L19,hw,h8,h0,qab,qad,qac,qaa]
    rw[hc _ _ rfl rfl]
    simp (disch:=first|omega|decide|simp only[nmsB,lB]) only[simprocAttr,-rR,-rS,leB,memB,arrB,numB,qaf,qab,qad,qac,qaa]
    generalize hL:qa1 L19k0 _ _ _=r
    refine qaR hL (wuJ x n size len l) n (by omega) (fun i st hi hJ=>wu_round _ _ n size len x l hl (by omega) (by omega) i hi st hJ) ?_ ?_ ?_
    · exact qao [] rfl (by simp only[simprocAttr,-rR,-rS,qak,L19k0,qgm,qam,qah,qac,qaa]) rfl ⟨_,rfl,.inl ⟨rfl,by rw[qaG,qby,if_pos rfl,zC,qeP (0,1) (0,1) _ (qcT _ _)],by rw[qaG,qby,if_neg (by decide),qby,if_pos rfl,zC,qaq]⟩⟩
    · rintro st ⟨H, rfl, _⟩
      apply qaO
      simp (disch:=first|omega|decide|simp only[nmsB,lB]) only[simprocAttr,-rR,-rS,leB,memB,arrB,numB,qaf,L19b0,zY,qae,qab,qad,qac,qaa]
      rfl
    · rintro st ⟨H, rfl, hH⟩ rfl
      rcases hH with ⟨hz,_⟩ | ⟨_,h0,h1,h2⟩
      · omega
      simp (disch:=first|omega|decide|simp only[nmsB,lB]) only[simprocAttr,-rR,-rS,leB,memB,arrB,numB,qaf,L19b0,zY,qae,qab,qad,qac,qaa]
      refine Aes.qbK (names:=[(1,0)]) ?_ ?_
      · simp only[simprocAttr,-rR,-rS,qak,qgm,qam,qcr,qaL,h0,h1,h2,qah,qac,qaa]
      · simp (disch:=first|omega|decide|simp only[nmsB,lB]) only[simprocAttr,-rR,-rS,leB,memB,qaf,h0,h1,h2,wC_c10,qae,qab,qad,qac,qaa]
  · obtain rfl : n = 8 := by omega
    simp (disch:=first|omega|decide|simp only[nmsB,lB]) only[simprocAttr,-rR,-rS,leB,memB,arrB,numB,qaf,L19,hw,h8,qab,qad,qac,qaa]
    rw[hc _ _ rfl rfl]
    simp (disch:=first|omega|decide|simp only[nmsB,lB]) only[simprocAttr,-rR,-rS,leB,memB,arrB,numB,qaf,qab,qad,qac,qaa]
    generalize hL:qa1 L19k0 _ _ _=r
    refine qaR hL (wuJ x 8 size len l) 8 (by omega) (fun i st hi hJ=>wu_round _ _ 8 size len x l hl (by omega) (by omega) i hi st hJ) ?_ ?_ ?_
    · exact qao [] rfl (by simp only[simprocAttr,-rR,-rS,qak,L19k0,qgm,qam,qah,qac,qaa]) rfl ⟨_,rfl,.inl ⟨rfl,by rw[qaG,qby,if_pos rfl,zC,qeP (0,1) (0,1) _ (qcT _ _)],by rw[qaG,qby,if_neg (by decide),qby,if_pos rfl,zC,qaq]⟩⟩
    · rintro st ⟨H, rfl, _⟩
      apply qaO
      simp (disch:=first|omega|decide|simp only[nmsB,lB]) only[simprocAttr,-rR,-rS,leB,memB,arrB,numB,qaf,L19b0,zY,qae,qab,qad,qac,qaa]
      rfl
    · rintro st ⟨H, rfl, hH⟩ rfl
      rcases hH with ⟨hz,_⟩ | ⟨_,h0,h1,h2⟩
      · omega
      simp (disch:=first|omega|decide|simp only[nmsB,lB]) only[simprocAttr,-rR,-rS,leB,memB,arrB,numB,qaf,L19b0,zY,qae,qab,qad,qac,qaa]
      refine Aes.qbK (names:=[(1,0)]) ?_ ?_
      · simp only[simprocAttr,-rR,-rS,qak,qgm,qam,qcr,qaL,h0,h1,h2,qah,qac,qaa]
      · simp (disch:=first|omega|decide|simp only[nmsB,lB]) only[simprocAttr,-rR,-rS,leB,memB,qaf,h0,h1,h2,wC_c10,qae,qab,qad,qac,qaa]
theorem qgG (k b len size n:Nat) (x:BitVec 64) (l:List (BitVec 8)) (H:Heap) (p q:Nm) (hpq:p≠q) (hp:H p=some (wC (wS q len) size)) (hq:H q=some (bs l)) (hl:l.length=len) (h:n=1∨n=2∨n=4∨n=8) (hx:n < 8→x >>> (8*n)=0#64) (hr:len+n≤size) (hs:size≤16777216) :
    qar (envC C (k+30)) H b 19 [.ptr p 0,N n,B64 x]=some ⟨.tup [],[bs (l++nB8 x n)],[(p,some (wC (wS (b,0) (len+n)) size)),(q,none)]⟩:=by
  rw[w_call hpq hp hq (ys:=[N n,B64 x]) (ys':=[N n,B64 x]) (qfw (K:=0) l19 H _) rfl rfl (fun _=>rfl) (by simp only[qa5,zT,List.all_nil,Aes.qcD] <;> rfl) (wUint_F k len size n x l hl h hx hr hs),qaT]
  simp only[zB,zA,qaq,List.zipWith_cons_cons,List.zipWith_nil_left,zC,Option.map_none,zE,zL,wC_new [p,q] b _ _ _ (Nat.lt_succ_self 0)]
  rfl
theorem wDone_F (k len size:Nat) (l:List (BitVec 8)) (hl:l.length=len) (h0:0 < len) (h:len≤size) (hs:size < 1048576) :
    F C (k+1) 21 [.ptr (0,0) 0] [wC (wS (0,1) len) size,bs l]=some (.tup [.sl (1,0) 0 size (some size) 1,N 0],[some (wC (wS (0,1) len) size),some (bs l)],[bs (l++List.replicate (size - len) 0#8)]):=by
  rw[qaH f21]
  have hmk:=fun b=>Aes.mk_z b size hs
  simp (disch:=first|omega|decide|simp only[nmsB,lB]) only[simprocAttr,-rR,-rS,leB,memB,arrB,numB,qaf,opsB,qan,L21,wC,wS,hmk,qab,qad,qac,qaa,qag]
  have hcp:∀ H:Heap,H (16,0)=some (bs (List.replicate size 0#8))→H (0,1)=some (bs l)→cpK 1 H (.sl (16,0) 0 size (some size) 1) (.sl (0,1) 0 len none 1) (some len)=some ⟨N len,[],[((16,0),some (bs (l++List.replicate (size - len) 0#8)))]⟩:=fun H h1 h2=>by
    have hf:qbp H 1 (min len size) (.sl (0,1) 0 len none 1)=some (bs l):=by
      rw[Nat.min_eq_left h,qbQ (0,1) 0 len none l h2 (by omega),zF,List.take_of_length_le (by omega)]
    rw[qeT len (16,0) 0 size _ _ _ _ (by rw[Nat.min_eq_left h]; omega) hf h1 (by rw[List.length_replicate,Nat.min_eq_left h]; omega),Nat.min_eq_left h,zW,zI,hl,List.drop_replicate,zO]
  rw[hcp _ rfl rfl]
  simp (disch:=first|omega|decide|simp only[nmsB,lB]) only[simprocAttr,-rR,-rS,leB,memB,arrB,numB,qaf,opsB,qan,zC,qab,qad,qac,qaa,qag]
  refine Aes.qbK (names:=[(16,0)]) ?_ ?_
  · simp only[simprocAttr,-rR,-rS,qak,qam,qa3,qdx,qd0,n7_sl,qah,qac,qaa]
  · simp (disch := first | omega | decide | simp only [nmsB, lB]) only [simprocAttr, -rR, -rS, leB, memB, qaf, numB, qb0, qc8, qae, qab, qad, qac, qaa]
    rfl
theorem qfm (k b len size:Nat) (l:List (BitVec 8)) (H:Heap) (p q:Nm) (hpq:p≠q) (hp:H p=some (wC (wS q len) size)) (hq:H q=some (bs l)) (hl:l.length=len) (h0:0 < len) (h:len≤size) (hs:size < 1048576) :
    qar (envC C (k+1)) H b 21 [.ptr p 0]=some ⟨.tup [.sl (b,0) 0 size (some size) 1,N 0],[bs (l++List.replicate (size - len) 0#8)],[(p,some (wC (wS q len) size)),(q,some (bs l))]⟩:=by
  rw[w_call hpq hp hq (ys:=[]) (ys':=[]) (qfw (K:=0) l21 H _) rfl rfl (fun _=>rfl) (by simp only[qa5,zT,List.all_nil,Aes.qcD] <;> rfl) (wDone_F k len size l hl h0 h hs),qaT]
  have e:ren D (qbf [p,q] b 1) (.tup [.sl (1,0) 0 size (some size) 1,N 0]) = .tup [.sl (b,0) 0 size (some size) 1,N 0]:=by
    have e1:ren 7 (qbf [p,q] b 1) (.sl (1,0) 0 size (some size) 1) = .sl (b,0) 0 size (some size) 1:=by simp[ren,qbd]
    rw[qb0,zB,zB,zA,e1,qc8]
  simp only[zB,zA,qaq,List.zipWith_cons_cons,List.zipWith_nil_left,zC,zE,zL,zO,wC_back,e]
theorem qhV (k b size:Nat) (H:Heap) (h:size≤16777216):qar (envC C (k+1)) H b 20 [N size]=some ⟨.ptr (b,0) 0,[wC Nil size],[]⟩:=by
  rw[Aes.qb4 (k+1) b 20 l20 H [N size] [N size] [] [] [] _ rfl rfl rfl rfl (newWriter_F k size h),qaT]
  simp only[zB,zA,qbk,zE,zL,qbd,zO,Nat.lt_one_iff,qbs,List.zipWith_nil_left,qgn]
end Sl
namespace Sl
open Go Go.LE Tb
open Sha (Lent qbq)
set_option maxRecDepth 20000
def RC (c:BitVec 64) (rk:Bool) (f:Int) (tr:List (BitVec 8)):qal:=B64 c::Bo rk::I f::bs tr
theorem qbZ (c:BitVec 64) (rk:Bool) (f:Int) (tr:List (BitVec 8)):PC (RC c rk f tr) := .B64 _ (.boo _ (.I _ (.bs _)))
theorem RC_k (c:BitVec 64) (rk:Bool) (f:Int) (tr:List (BitVec 8)):qaS 0 1 (some (RC c rk f tr))=some [B64 c]∧qaS 1 1 (some (RC c rk f tr))=some [Bo rk]∧qaS 2 1 (some (RC c rk f tr))=some [I f]:=by
  refine ⟨?_,?_,?_⟩ <;> simp only[RC,qbH,zE] <;> rw[if_pos (by omega)] <;> rfl
theorem RC_tr (c:BitVec 64) (rk:Bool) (f:Int) (tr:List (BitVec 8)) (h:tr.length=32):((RC c rk f tr).drop 3).take 32=bs tr:=by
  rw[RC,zd,zd,zd,zF,List.take_of_length_le (by rw[qaM]; omega)]
def qc4:List (BitVec 8):=[82#8,79#8,79#8,84#8]
def onB (rk:Bool):BitVec 64:=if rk then 1#64 else 0#64
def qb2 (c:BitVec 64) (rk:Bool) (f:Nat) (tr:List (BitVec 8)):List (BitVec 8):=qc4++nB8 c 8++nB8 (onB rk) 1++nB8 (BitVec.ofNat 64 f) 4++tr
theorem qb1 (c:BitVec 64) (rk:Bool) (f:Nat) (tr:List (BitVec 8)) (h:tr.length=32):(qb2 c rk f tr).length=49:=by
  simp only[qb2,zH,qca,h]; rfl
theorem shr_small (f:Nat) (h:f < 4294967296):BitVec.ofNat 64 f >>> (8*4)=0#64:=by
  apply BitVec.eq_of_toNat_eq
  rw[BitVec.toNat_ushiftRight,BitVec.toNat_ofNat,Nat.shiftRight_eq_div_pow,Nat.mod_eq_of_lt (by omega)]
  exact Nat.div_eq_of_lt (by omega)
theorem write_F (k size f:Nat) (c:BitVec 64) (rk:Bool) (tr:List (BitVec 8)) (ht:tr.length=32) (hf:f < 4294967296) (h:49≤size) (hs:size≤16777216) :
    F C (k+60) 17 [.ptr (0,0) 0,.ptr (0,1) 0,.ptr (0,2) 0] [wC Nil size,RC c rk f tr,[B64 (onB rk)]]=some (.tup [],[some (wC (wS (1,0) 49) size),some (RC c rk f tr),some [B64 (onB rk)]],[bs (qb2 c rk f tr)]):=by
  rw[qaH f17]
  obtain ⟨k0,k1,k2⟩:=RC_k c rk f tr
  have hk2:qaS 2 1 (some (RC c rk f tr))=some [N f]:=k2
  simp (disch:=first|omega|decide|simp only[nmsB,lB]) only[simprocAttr,-rR,-rS,leB,memB,arrB,numB,qaf,opsB,qan,qai,L17,qab,qad,qac,qaa,qag]
  rw[wBytes_call0 (k+56) _ size qc4 _ (0,0) _ [(3,0)] rfl (qbJ _ (3,0) 0 4 _ _ qc4 rfl rfl rfl (by decide) 6) rfl (by decide) (by show 4≤size; omega) hs]
  simp (disch:=first|omega|decide|simp only[nmsB,lB]) only[simprocAttr,-rR,-rS,leB,memB,arrB,numB,qaf,opsB,qan,qai,k0,qab,qad,qac,qaa,qag]
  rw[qgG (k+29) _ 4 size 8 c qc4 _ (0,0) (5,0) (by decide) rfl rfl rfl (by decide) (by omega) (by omega) hs]
  simp (disch:=first|omega|decide|simp only[nmsB,lB]) only[simprocAttr,-rR,-rS,leB,memB,arrB,numB,qaf,opsB,qan,qai,k0,qab,qad,qac,qaa,qag]
  have l12:(qc4++nB8 c 8).length=12:=by rw[zH,qca]; rfl
  have l13:(qc4++nB8 c 8++nB8 (onB rk) 1).length=13:=by rw[zH,qca,l12]
  have l17:(qc4++nB8 c 8++nB8 (onB rk) 1++nB8 (BitVec.ofNat 64 f) 4).length=17:=by rw[zH,qca,l13]
  rw[qgG (k+29) _ 12 size 1 (onB rk) _ _ (0,0) (9,0) (by decide) rfl rfl l12 (by decide) (fun _=>by cases rk <;> rfl) (by omega) hs]
  simp (disch:=first|omega|decide|simp only[nmsB,lB]) only[simprocAttr,-rR,-rS,leB,memB,arrB,numB,qaf,opsB,qan,qai,hk2,qab,qad,qac,qaa,qag]
  rw[qgG (k+29) _ 13 size 4 (BitVec.ofNat 64 f) _ _ (0,0) (12,0) (by decide) rfl rfl l13 (by decide) (fun _=>shr_small f hf) (by omega) hs]
  simp (disch:=first|omega|decide|simp only[nmsB,lB]) only[simprocAttr,-rR,-rS,leB,memB,arrB,numB,qaf,opsB,qan,qai,qab,qad,qac,qaa,qag]
  rw [qf5 (k + 56) _ 17 size _ tr _ (0, 0) (17, 0) _ [(0, 1)] (by decide) rfl rfl
    (qbJ _ (0,1) 3 32 (some 32) (RC c rk f tr) tr rfl (RC_tr c rk f tr ht) ht (by decide) 6) rfl l17 (by omega) (by omega) hs,ht]
  simp (disch:=first|omega|decide|simp only[nmsB,lB]) only[simprocAttr,-rR,-rS,leB,memB,arrB,numB,qaf,opsB,qan,qai,qab,qad,qac,qaa,qag]
  generalize hG:upd _ (21,0) _=G
  have g0:G (0,0)=some (wC (wS (21,0) 49) size):=by rw[←hG]; rfl
  have g1:G (0,1)=some (RC c rk f tr):=by rw[←hG]; rfl
  have g2:G (0,2)=some [B64 (onB rk)]:=by rw[←hG]; rfl
  have g3:G (21,0)=some (bs (qb2 c rk f tr)):=by rw[←hG]; rfl
  have hp:=qbZ c rk f tr
  refine Aes.qbK (names:=[(21,0)]) ?_ ?_
  · simp only[simprocAttr,-rR,-rS,qak,qgm,qam,qcr,hp.nms,g0,g1,g2,g3,qah,qac,qaa]
  · simp (disch:=first|omega|decide|simp only[nmsB,lB]) only[simprocAttr,-rR,-rS,leB,memB,qaf,g0,g1,g2,g3,hp.ren,qeP (21,0) (1,0) (qbm [(21,0)]) (by simp[qbm,idx]) 49 size,qae,qab,qad,qac,qaa]
end Sl
namespace Sl
open Go Go.LE Tb
open Sha (tagv qdY Lent qbq)
set_option maxRecDepth 20000
theorem qfU {E:Env} {H:Heap} {b:Nat} (g:FuncId) (w x y:LV):callV E H b [w] (.fn (.func g) [] [x,y])=qar E H b g [w,x,y]:=by simp[callV]
theorem toCee3 {p q o:Nm} (h1:q≠p) (h2:o≠p) (h3:o≠q):qaK [p,q,o] p=some (0,0)∧qaK [p,q,o] q=some (0,1)∧qaK [p,q,o] o=some (0,2):=by
  refine ⟨?_,?_,?_⟩ <;> simp[qaK,idx,h1,h2,h3,Ne.symm h1,Ne.symm h2,Ne.symm h3]
theorem qfn (k b size f:Nat) (c:BitVec 64) (rk:Bool) (tr:List (BitVec 8)) (H:Heap) (p q o:Nm) (h1:q≠p) (h2:o≠p) (h3:o≠q) (hp:H p=some (wC Nil size)) (hq:H q=some (RC c rk f tr)) (ho:H o=some [B64 (onB rk)])
    (ht:tr.length=32) (hf:f < 4294967296) (h:49≤size) (hs:size≤16777216) :
    qar (envC C (k+60)) H b 17 [.ptr p 0,.ptr q 0,.ptr o 0]=some ⟨.tup [],[bs (qb2 c rk f tr)],[(p,some (wC (wS (b,0) 49) size)),(q,some (RC c rk f tr)),(o,some [B64 (onB rk)])]⟩:=by
  obtain ⟨c0,c1,c2⟩:=toCee3 h1 h2 h3
  have hpc:=qbZ c rk f tr
  have ho1:([B64 (onB rk)]:qal).flatMap (nms D)=[]:=rfl
  rw [Aes.qb4 (k + 60) b 17 l17 H _ [.ptr (0, 0) 0, .ptr (0, 1) 0, .ptr (0, 2) 0] [p, q, o] [p, q, o] [wC Nil size, RC c rk f tr, [B64 (onB rk)]] _ rfl
    ((Aes.qaA rfl hp (wC_nms0 _)).trans ((Aes.qaA (by simpa using h1) hq (hpc.nms 7)).trans ((Aes.qaA (by simp[h2,h3]) ho ho1).trans (qba _ _ _))))
    (by simp only[zB,zA,qbk,c0,c1,c2,qbs]) (by simp only[List.filterMap_cons,zQ,hp,hq,ho,zB,zA,qgn,hpc.ren 7,qdb]) (write_F k size f c rk tr ht hf h hs),qaT]
  simp only[zB,zA,qaq,List.zipWith_cons_cons,List.zipWith_nil_left,zC,zE,zL,wC_new [p,q,o] b _ _ _ (Nat.lt_succ_self 0),hpc.ren 7,qdb]
  rfl
theorem qdI (k b:Nat) (H:Heap) (g:BitVec 64) (s sl j sg ti me la:Int) (nm:List (BitVec 8)) (hnm:nm.length=16):qar (envC C (k+10)) H b 16 [.agg (HC g s sl j sg ti me la nm)]=some ⟨N (if hcOk g s sl j sg ti me la then 0 else 1),[],[]⟩:=by
  have hp:=qcm g s sl j sg ti me la nm
  rw[qae l16 (by simp only[zK,zN,hp.anms,zD]) (by simp only[zB,zA,hp.aren]),hCheck_F k g s sl j sg ti me la nm hnm]
  rfl
theorem qcz (g:BitVec 64) (s sl j sg ti me la:Int) (nm:List (BitVec 8)) (hnm:nm.length=16):qaS 0 24 (some (HC g s sl j sg ti me la nm))=some (HC g s sl j sg ti me la nm):=by
  have h:(HC g s sl j sg ti me la nm).length=24:=by simp only[HC,zE,qaM,hnm]
  rw[qaS,if_pos (by omega),zF,List.take_of_length_le (by omega)]
theorem HC_k1 (g:BitVec 64) (s sl j sg ti me la:Int) (nm:List (BitVec 8)):qaS 1 1 (some (HC g s sl j sg ti me la nm))=some [I s]:=by
  simp only[HC,qbH,zE]; rw[if_pos (by omega)]; rfl
theorem HC_nm (g:BitVec 64) (s sl j sg ti me la:Int) (nm:List (BitVec 8)) (hnm:nm.length=16):((HC g s sl j sg ti me la nm).drop 8).take 16=bs nm:=by
  simp only[HC,zd,zF]
  rw[List.take_of_length_le (by rw[qaM]; omega)]
def qbL (key:List (BitVec 8)) (s:Nat) (nm:List (BitVec 8)) (c:BitVec 64) (rk:Bool) (f:Nat) (tr:List (BitVec 8)):List (BitVec 8) :=
  qb2 c rk f tr++tagL key (qb2 c rk f tr++(nm++f4 s))++List.replicate 431 0#8
theorem qhn (k:Nat) (key:List (BitVec 8)) (hkey:key.length=32) (g:BitVec 64) (s:Nat) (sl j sg ti me la:Int) (nm:List (BitVec 8)) (hnm:nm.length=16) (hh:hcOk g s sl j sg ti me la) (c:BitVec 64) (rk:Bool) (f:Nat) (tr:List (BitVec 8)) (ht:tr.length=32) (hf:f≤s) (hr:rk=false→f=0) :
    F C (k+1400) 7 [.agg (bs key),.agg (HC g s sl j sg ti me la nm),.agg (RC c rk f tr)] []=some (.tup [.sl (1,0) 0 512 (some 512) 1,N 0],[],[bs (qbL key s nm c rk f tr)]):=by
  rw[qaH f7]
  have hpH:=qcm g s sl j sg ti me la nm
  have hpR:=qbZ c rk f tr
  obtain ⟨k0,k1,k2⟩:=RC_k c rk f tr
  have hk2:qaS 2 1 (some (RC c rk f tr))=some [N f]:=k2
  have hk1:qaS 1 1 (some (HC g s sl j sg ti me la nm))=some [N s]:=HC_k1 g s sl j sg ti me la nm
  have hc:=fun b H=>qdI (k+1389) b H g s sl j sg ti me la nm hnm
  rw[if_pos hh] at hc
  have hs:=hh.2.1
  have hfs:¬ s < f:=by omega
  have hnw:=fun b size H (h:size≤16777216)=>qhV (k+1398) b size H h
  cases rk with
  | true =>
    simp (disch:=first|omega|decide|simp only[nmsB,lB]) only[simprocAttr,-rR,-rS,leB,memB,arrB,numB,qaf,opsB,qan,qai,L7,hpH.isCell,hpR.isCell,qbn,qcz g s sl j sg ti me la nm hnm,hc,k1,hk1,hk2,hfs,Nat.not_lt_zero,Aes.op_fn,hnw,qfU,qab,qad,qac,qaa,qag]
    rw[qfn (k+1339) _ 49 f c true tr _ (39,0) (4,0) (32,0) (by decide) (by decide) (by decide) rfl rfl rfl ht (by omega) (by decide) (by decide)]
    simp (disch:=first|omega|decide|simp only[nmsB,lB]) only[simprocAttr,-rR,-rS,leB,memB,arrB,numB,qaf,opsB,qan,qai,qab,qad,qac,qaa,qag]
    rw[qfm (k+1398) _ 49 49 (qb2 c true f tr) _ (39,0) (43,0) (by decide) rfl rfl (qb1 c true f tr ht) (by decide) (by decide) (by decide),show List.replicate (49 - 49) (0#8:BitVec 8)=[] from rfl,zD]
    simp (disch:=first|omega|decide|simp only[nmsB,lB]) only[simprocAttr,-rR,-rS,leB,memB,arrB,numB,qaf,opsB,qan,qai,qab,qad,qac,qaa,qag]
    generalize hG:upd _ (45,0) _=G
    have g2:G (2,0)=some (bs key):=by rw[←hG]; rfl
    have g3:G (3,0)=some (HC g s sl j sg ti me la nm):=by rw[←hG]; rfl
    have g4:G (4,0)=some (RC c true f tr):=by rw[←hG]; rfl
    have g5:G (32,0)=some [B64 (onB true)]:=by rw[←hG]; rfl
    have g6:G (45,0)=some (bs (qb2 c true f tr)):=by rw[←hG]; rfl
    clear hG
    have h4:=fun (b n:Nat) H=>qg7 (k+1398) b n H
    simp (disch:=first|omega|decide|simp only[nmsB,lB]) only[simprocAttr,-rR,-rS,leB,memB,arrB,numB,qaf,opsB,ordB,qak,qan,qai,g2,g3,g6,hk1,hpH.nms,h4,qab,qad,qac,qaa,qas,qah,qag]
    generalize hc:qar _ _ _ _ _=r
    have e1 := qdY (k := k + 1399) (L := [qb2 c true f tr, nm, f4 s]) (key := key) hc ⟨[(2, 0)], qbJ _ (2, 0) 0 32 _ (bs key) key (by exact g2) (by rw [zF, List.take_of_length_le (by rw [qaM]; omega)]) hkey (by decide) 6, rfl⟩
      (snap_row _ (58,0) (some 3) [(.sl (45,0) 0 49 (some 49) 1,qb2 c true f tr,[(45,0)]),(.sl (3,0) 8 16 (some 16) 1,nm,[(3,0)]),(.sl (57,0) 0 4 (some 4) 1,f4 s,[(57,0)])] (by
        intro p hp
        simp only[List.mem_cons,List.not_mem_nil,or_false] at hp
        rcases hp with rfl | rfl | rfl
        · exact qbJ _ (45,0) 0 49 _ _ (qb2 c true f tr) (by exact g6) (by rw[zF,List.take_of_length_le (by rw[qaM,qb1 c true f tr ht]; omega)]) (qb1 c true f tr ht) (by decide)
        · exact qbJ _ (3,0) 8 16 _ _ nm (by exact g3) (HC_nm g s sl j sg ti me la nm hnm) hnm (by decide)
        · exact qbJ _ (57,0) 0 4 _ _ (f4 s) rfl rfl rfl (by decide)) rfl (by simp)) (by omega) (by simp[f4,qb1 c true f tr ht,hnm]) (by simp) (by simp[f4,qb1 c true f tr ht,hnm,hkey])
    subst e1
    clear hc
    simp (disch:=first|omega|decide|simp only[nmsB,lB]) only[simprocAttr,-rR,-rS,leB,memB,arrB,numB,qaf,opsB,ordB,qak,qan,qai,hnw,qfU,qab,qad,qac,qaa,qas,qah,qag]
    rw[qfn (k+1339) _ 512 f c true tr _ (62,0) (4,0) (32,0) (by decide) (by decide) (by decide) rfl (by exact g4) (by exact g5) ht (by omega) (by decide) (by decide)]
    simp (disch:=first|omega|decide|simp only[nmsB,lB]) only[simprocAttr,-rR,-rS,leB,memB,arrB,numB,qaf,opsB,qan,qai,qab,qad,qac,qaa,qag]
    have hl:[qb2 c true f tr,nm,f4 s].flatten=qb2 c true f tr++(nm++f4 s):=by simp
    have l49:=qb1 c true f tr ht
    rw[hl,aB_tagL]
    rw [qf5 (k + 1396) _ 49 512 _ (tagL key (qb2 c true f tr ++ (nm ++ f4 s))) _ (62, 0) (66, 0) _ [(60, 0)] (by decide) rfl rfl
      (qbJ _ (60,0) 0 32 (some 32) (bs (tagL key (qb2 c true f tr++(nm++f4 s)))) _ rfl (by rw[zF,List.take_of_length_le (by rw[qaM,qbR]; omega)]) (qbR _ _) (by decide) 6) rfl l49 (by rw[qbR]; omega) (by rw[qbR]; omega) (by decide),qbR]
    simp (disch:=first|omega|decide|simp only[nmsB,lB]) only[simprocAttr,-rR,-rS,leB,memB,arrB,numB,qaf,opsB,qan,qai,qab,qad,qac,qaa,qag]
    have l81:(qb2 c true f tr++tagL key (qb2 c true f tr++(nm++f4 s))).length=81:=by rw[zH,l49,qbR]
    rw[qfm (k+1398) _ 81 512 _ _ (62,0) (69,0) (by decide) rfl rfl l81 (by decide) (by decide) (by decide)]
    simp (disch:=first|omega|decide|simp only[nmsB,lB]) only[simprocAttr,-rR,-rS,leB,memB,arrB,numB,qaf,opsB,qan,qai,qab,qad,qac,qaa,qag]
    exact out_st _ _ _ 71 512 0 (some 512) _ (by decide) rfl
  | false =>
    obtain rfl:=hr rfl
    have hpR:PC (RC c false (0:Int) tr):=hpR
    have k1:qaS 1 1 (some (RC c false (0:Int) tr))=some [Bo false]:=k1
    have hk2:qaS 2 1 (some (RC c false (0:Int) tr))=some [N 0]:=hk2
    simp (disch:=first|omega|decide|simp only[nmsB,lB]) only[simprocAttr,-rR,-rS,leB,memB,arrB,numB,qaf,opsB,qan,qai,L7,hpH.isCell,hpR.isCell,qbn,qcz g s sl j sg ti me la nm hnm,hc,k1,hk1,hk2,hfs,Nat.not_lt_zero,Aes.op_fn,hnw,qfU,qab,qad,qac,qaa,qag]
    rw[qfn (k+1339) _ 49 0 c false tr _ (38,0) (4,0) (32,0) (by decide) (by decide) (by decide) rfl rfl rfl ht (by omega) (by decide) (by decide)]
    simp (disch:=first|omega|decide|simp only[nmsB,lB]) only[simprocAttr,-rR,-rS,leB,memB,arrB,numB,qaf,opsB,qan,qai,qab,qad,qac,qaa,qag]
    rw[qfm (k+1398) _ 49 49 (qb2 c false 0 tr) _ (38,0) (42,0) (by decide) rfl rfl (qb1 c false 0 tr ht) (by decide) (by decide) (by decide),show List.replicate (49 - 49) (0#8:BitVec 8)=[] from rfl,zD]
    simp (disch:=first|omega|decide|simp only[nmsB,lB]) only[simprocAttr,-rR,-rS,leB,memB,arrB,numB,qaf,opsB,qan,qai,qab,qad,qac,qaa,qag]
    generalize hG:upd _ (44,0) _=G
    have g2:G (2,0)=some (bs key):=by rw[←hG]; rfl
    have g3:G (3,0)=some (HC g s sl j sg ti me la nm):=by rw[←hG]; rfl
    have g4:G (4,0)=some (RC c false (0:Int) tr):=by rw[←hG]; rfl
    have g5:G (32,0)=some [B64 (onB false)]:=by rw[←hG]; rfl
    have g6:G (44,0)=some (bs (qb2 c false 0 tr)):=by rw[←hG]; rfl
    clear hG
    have h4:=fun (b n:Nat) H=>qg7 (k+1398) b n H
    simp (disch:=first|omega|decide|simp only[nmsB,lB]) only[simprocAttr,-rR,-rS,leB,memB,arrB,numB,qaf,opsB,ordB,qak,qan,qai,g2,g3,g6,hk1,hpH.nms,h4,qab,qad,qac,qaa,qas,qah,qag]
    generalize hc:qar _ _ _ _ _=r
    have e1 := qdY (k := k + 1399) (L := [qb2 c false 0 tr, nm, f4 s]) (key := key) hc ⟨[(2, 0)], qbJ _ (2, 0) 0 32 _ (bs key) key (by exact g2) (by rw [zF, List.take_of_length_le (by rw [qaM]; omega)]) hkey (by decide) 6, rfl⟩
      (snap_row _ (57,0) (some 3) [(.sl (44,0) 0 49 (some 49) 1,qb2 c false 0 tr,[(44,0)]),(.sl (3,0) 8 16 (some 16) 1,nm,[(3,0)]),(.sl (56,0) 0 4 (some 4) 1,f4 s,[(56,0)])] (by
        intro p hp
        simp only[List.mem_cons,List.not_mem_nil,or_false] at hp
        rcases hp with rfl | rfl | rfl
        · exact qbJ _ (44,0) 0 49 _ _ (qb2 c false 0 tr) (by exact g6) (by rw[zF,List.take_of_length_le (by rw[qaM,qb1 c false 0 tr ht]; omega)]) (qb1 c false 0 tr ht) (by decide)
        · exact qbJ _ (3,0) 8 16 _ _ nm (by exact g3) (HC_nm g s sl j sg ti me la nm hnm) hnm (by decide)
        · exact qbJ _ (56,0) 0 4 _ _ (f4 s) rfl rfl rfl (by decide)) rfl (by simp)) (by omega) (by simp[f4,qb1 c false 0 tr ht,hnm]) (by simp) (by simp[f4,qb1 c false 0 tr ht,hnm,hkey])
    subst e1
    clear hc
    simp (disch:=first|omega|decide|simp only[nmsB,lB]) only[simprocAttr,-rR,-rS,leB,memB,arrB,numB,qaf,opsB,ordB,qak,qan,qai,hnw,qfU,qab,qad,qac,qaa,qas,qah,qag]
    rw[qfn (k+1339) _ 512 0 c false tr _ (61,0) (4,0) (32,0) (by decide) (by decide) (by decide) rfl (by exact g4) (by exact g5) ht (by omega) (by decide) (by decide)]
    simp (disch:=first|omega|decide|simp only[nmsB,lB]) only[simprocAttr,-rR,-rS,leB,memB,arrB,numB,qaf,opsB,qan,qai,qab,qad,qac,qaa,qag]
    have hl:[qb2 c false 0 tr,nm,f4 s].flatten=qb2 c false 0 tr++(nm++f4 s):=by simp
    have l49:=qb1 c false 0 tr ht
    rw[hl,aB_tagL]
    rw [qf5 (k + 1396) _ 49 512 _ (tagL key (qb2 c false 0 tr ++ (nm ++ f4 s))) _ (61, 0) (65, 0) _ [(59, 0)] (by decide) rfl rfl
      (qbJ _ (59,0) 0 32 (some 32) (bs (tagL key (qb2 c false 0 tr++(nm++f4 s)))) _ rfl (by rw[zF,List.take_of_length_le (by rw[qaM,qbR]; omega)]) (qbR _ _) (by decide) 6) rfl l49 (by rw[qbR]; omega) (by rw[qbR]; omega) (by decide),qbR]
    simp (disch:=first|omega|decide|simp only[nmsB,lB]) only[simprocAttr,-rR,-rS,leB,memB,arrB,numB,qaf,opsB,qan,qai,qab,qad,qac,qaa,qag]
    have l81:(qb2 c false 0 tr++tagL key (qb2 c false 0 tr++(nm++f4 s))).length=81:=by rw[zH,l49,qbR]
    rw[qfm (k+1398) _ 81 512 _ _ (61,0) (68,0) (by decide) rfl rfl l81 (by decide) (by decide) (by decide)]
    simp (disch:=first|omega|decide|simp only[nmsB,lB]) only[simprocAttr,-rR,-rS,leB,memB,arrB,numB,qaf,opsB,qan,qai,qab,qad,qac,qaa,qag]
    exact out_st _ _ _ 70 512 0 (some 512) _ (by decide) rfl
end Sl
namespace Sl
open Go Go.LE Tb
open Sha (tagv qdY Lent qbq)
set_option maxRecDepth 20000
theorem nB8_get (x:BitVec 64) (n i:Nat) (h:i < n):(nB8 x n).getD i 0#8=(x >>> (8*i)).setWidth 8:=by
  rw[nB8,List.getD_eq_getElem?_getD,List.getElem?_map,List.getElem?_range h]; rfl
theorem leU_nB8 (x:BitVec 64) (n:Nat):∀ i,i≤n→i≤8→∀ j,(leU (nB8 x n) i).getLsbD j=(decide (j < 8*i) && x.getLsbD j):=by
  intro i
  induction i with
  | zero=>intro _ _ j; simp[leU]
  | succ i ih =>
    intro hn h8 j
    rw[leU,BitVec.getLsbD_or,ih (by omega) (by omega) j,nB8_get x n i (by omega),BitVec.getLsbD_shiftLeft,BitVec.getLsbD_setWidth,BitVec.getLsbD_setWidth,BitVec.getLsbD_ushiftRight]
    by_cases h1:j < 8*i
    · simp[h1]; intro; omega
    · by_cases h2 : j < 8 * (i + 1)
      · have e : 8 * i + (j - 8 * i) = j := by omega
        have h3:j < 64:=by omega
        have h4:j - 8*i < 8:=by omega
        have h5:j - 8*i < 64:=by omega
        simp[h1,h2,h3,h4,h5,e]
      · have h4 : ¬ j - 8 * i < 8 := by omega
        simp[h1,h2,h4]
theorem leU_nB (x:BitVec 64) (n:Nat) (h8:n≤8) (h:n < 8→x >>> (8*n)=0#64):leU (nB8 x n) n=x:=by
  apply BitVec.eq_of_getLsbD_eq
  intro j hj
  rw[leU_nB8 x n n (Nat.le_refl _) h8]
  by_cases h1:j < 8*n
  · simp[h1]
  · have h2 := congrArg (fun y => y.getLsbD (j - 8 * n)) (h (by omega))
    simp only[BitVec.getLsbD_ushiftRight,show 8*n+(j - 8*n)=j by omega] at h2
    rw[h2]; simp[h1]
theorem qgH (a m r:List (BitVec 8)) (i n:Nat) (hi:a.length=i) (hn:m.length=n):((a++(m++r)).drop i).take n=m:=by
  subst hi; subst hn
  rw[List.drop_left,List.take_left]
theorem qfo (key:List (BitVec 8)) (s:Nat) (nm:List (BitVec 8)) (c:BitVec 64) (rk:Bool) (f:Nat) (tr:List (BitVec 8)) (ht:tr.length=32) :
    (qbL key s nm c rk f tr).length=512∧((qbL key s nm c rk f tr).drop 4).take 8=nB8 c 8∧((qbL key s nm c rk f tr).drop 12).take 1=nB8 (onB rk) 1 ∧
    ((qbL key s nm c rk f tr).drop 13).take 4=nB8 (BitVec.ofNat 64 f) 4∧((qbL key s nm c rk f tr).drop 17).take 32=tr:=by
  have l49:=qb1 c rk f tr ht
  generalize hT:tagL key (qb2 c rk f tr++(nm++f4 s))++List.replicate 431 0#8=T
  have hTl:T.length=463:=by rw[←hT,zH,qbR,List.length_replicate]
  have e:qbL key s nm c rk f tr=qc4++(nB8 c 8++(nB8 (onB rk) 1++(nB8 (BitVec.ofNat 64 f) 4++(tr++T)))):=by
    rw[qbL,List.append_assoc,hT,qb2]; simp only[List.append_assoc]
  have m4:qc4.length=4:=rfl
  refine ⟨?_,?_,?_,?_,?_⟩
  · rw[qbL,List.append_assoc,hT,zH,l49,hTl]
  · rw[e]; exact qgH qc4 (nB8 c 8) _ 4 8 rfl (qca _ _)
  · rw[e,←List.append_assoc]; exact qgH (qc4++nB8 c 8) (nB8 (onB rk) 1) _ 12 1 (by rw[zH,qca,m4]) (qca _ _)
  · rw[e,←List.append_assoc,←List.append_assoc]; exact qgH (qc4++nB8 c 8++nB8 (onB rk) 1) (nB8 (BitVec.ofNat 64 f) 4) _ 13 4 (by rw[zH,zH,qca,qca,m4]) (qca _ _)
  · rw[e,←List.append_assoc,←List.append_assoc,←List.append_assoc]; exact qgH (qc4++nB8 c 8++nB8 (onB rk) 1++nB8 (BitVec.ofNat 64 f) 4) tr _ 17 32 (by rw[zH,zH,zH,qca,qca,qca,m4]) ht
theorem rc_cp (c:BitVec 64) (rk:Bool) (f:Int) (tr:List (BitVec 8)) (ht:tr.length=32) (H:Heap) (m:Nm) (h1:H (17,0)=some (B64 c::Bo rk::I f::aB 32 fun _=>0#8)) (h2:H m=some (bs tr)) :
    cpK 1 H (.sl (17,0) 3 32 (some 32) 1) (.sl m 0 32 none 1) (some 32)=some ⟨N 32,[],[((17,0),some (RC c rk f tr))]⟩:=by
  have hf:qbp H 1 (min 32 32) (.sl m 0 32 none 1)=some (bs tr):=by
    rw[show min 32 32=32 from rfl,qbQ m 0 32 none _ h2 (by omega),zF,List.take_of_length_le (by omega)]
  have hl:3+min 32 32*1≤(B64 c::Bo rk::I f::aB 32 fun _=>0#8).length:=by simp only[zE,qbX]; decide
  have hs:qbh (B64 c::Bo rk::I f::aB 32 fun _=>0#8) 3 (bs tr)=RC c rk f tr:=by
    simp only[qbh,zf,zW,qaM,ht,zd,RC,zS,zI]
    rw[List.drop_of_length_le (by simp only[qbX,zE]; decide),zD]
  simp only[cpK,if_neg (show ¬ min 32 32=0 by decide),hf,h1,qbn,hl,and_self,zG,hs]
  rfl
theorem trim_rd (H:Heap) (v:LV) (news:List qal) (ms:List (Nm × Option qal)) (m x:Nm) (off len off' len':Nat) (h:H m=some (rdC x off len false)) (hne:off≠off') :
    qdp true H (some ⟨v,news,(m,some (rdC x off' len' false))::ms⟩)=some ⟨v,news,(m,some (rdC x off' len' false))::ms⟩:=by
  have e:qcY (H m) (some (rdC x off' len' false))=false:=by
    rw[h]; simp[qcY,qdJ,rdC,qeu,hne]
  show some (if _ then _ else _)=_
  rw[if_neg (by rw[zT,e]; simp)]
theorem call_newT {K b g:Nat} (hg:qaJ g=fun _=>false) (H:Heap) {args:List LV} {l:List (BitVec 8)} {n c z:Nat} (hn:args.flatMap (nms D)=[]) (hr:args.map (ren D (qaK []))=args)
    (hF:F C K g args []=some (.tup [.sl (1,0) 0 n (some c) 1,N z],[],[bs l])):qar (envC C K) H b g args=some ⟨.tup [.sl (b,0) 0 n (some c) 1,N z],[bs l],[]⟩:=by
  rw[Aes.qb4 K b g hg H args args [] [] [] _ hn rfl hr rfl hF,qaT]
  have e:ren 7 (qbf [] b 1) (.sl (1,0) 0 n (some c) 1) = .sl (b,0) 0 n (some c) 1:=by simp[ren,qbd]
  simp only[qb0,zB,zA,qaq,qaZ,qc8,e,zE,zL,qbd,zO,Nat.lt_one_iff,qa9,zG,List.zipWith_nil_left]
def ta (z:LV):Option LV→Option LV
  | some a=>some (.tup [a,z])
  | none=>none
theorem qcF (tm:List LV) (H:Heap) (u n w nx np:Nat):qcO ⟨tm,H,nx,np⟩ [.agg u n,.tmp w]=ta (tm.getD w .undef) (aggV (qb6 H n (tm.getD u .undef))):=by
  simp only[qcO,zB,zA,qev]
  cases qb6 H n (tm.getD u .undef) <;> rfl
theorem readRoot_F (k:Nat) (key:List (BitVec 8)) (hkey:key.length=32) (g:BitVec 64) (s:Nat) (sl j sg ti me la:Int) (nm:List (BitVec 8)) (hnm:nm.length=16) (hh:hcOk g s sl j sg ti me la) (c:BitVec 64) (rk:Bool) (f:Nat) (tr:List (BitVec 8)) (ht:tr.length=32) (hf:f≤s) (hr:rk=false→f=0) (cp:Option Nat) :
    F C (k+1500) 10 [.agg (bs key),.agg (HC g s sl j sg ti me la nm),.sl (0,0) 0 512 cp 1] [bs (qbL key s nm c rk f tr)]=some (.tup [.agg (RC c rk f tr),N 0],[some (bs (qbL key s nm c rk f tr))],[]):=by
  rw[qaH f10]
  have hpH:=qcm g s sl j sg ti me la nm
  have hc:=fun b H=>qdI (k+1489) b H g s sl j sg ti me la nm hnm
  rw[if_pos hh] at hc
  obtain ⟨bl,b4,b12,b13,b17⟩:=qfo key s nm c rk f tr ht
  have hB:=qhn (k+99) key hkey g s sl j sg ti me la nm hnm hh c rk f tr ht hf hr
  generalize qbL key s nm c rk f tr=B at *
  simp (disch:=first|omega|decide|simp only[nmsB,lB]) only[simprocAttr,-rR,-rS,leB,memB,arrB,numB,qaf,opsB,qan,qai,L10,hpH.isCell,qbn,qcz g s sl j sg ti me la nm hnm,hc,qab,qad,qac,qaa,qag]
  rw[qeq (k+1497) _ 512 cp B _ (0,0) rfl (by omega) (by decide) (by decide),List.take_of_length_le (by omega)]
  simp (disch:=first|omega|decide|simp only[nmsB,lB]) only[simprocAttr,-rR,-rS,leB,memB,arrB,numB,qaf,opsB,qan,qai,qab,qad,qac,qaa,qag]
  rw[qes (k+1497) _ 4 0 512 B _ (10,0) (10,1) (by decide) rfl rfl (by decide) (by decide) (by omega) (by decide)]
  simp (disch:=first|omega|decide|simp only[nmsB,lB]) only[simprocAttr,-rR,-rS,leB,memB,arrB,numB,qaf,opsB,qan,qai,qab,qad,qac,qaa,qag]
  rw[qep (k+1469) _ 8 4 508 B _ (10,0) (10,1) (by decide) rfl rfl (by decide) (by decide) (by omega) (by decide),b4,leU_nB c 8 (by decide) (by omega)]
  simp (disch:=first|omega|decide|simp only[nmsB,lB]) only[simprocAttr,-rR,-rS,leB,memB,arrB,numB,qaf,opsB,qan,qai,qab,qad,qac,qaa,qag]
  rw[qep (k+1469) _ 1 12 500 B _ (10,0) (10,1) (by decide) rfl rfl (by decide) (by decide) (by omega) (by decide),b12,leU_nB (onB rk) 1 (by decide) (fun _=>by cases rk <;> rfl)]
  have eo:(onB rk == 1#64)=rk:=by cases rk <;> rfl
  have ed:List.drop 32 (aB 32 fun _=>0#8)=[]:=List.drop_of_length_le (by rw[qbX]; exact Nat.le_refl _)
  simp (disch:=first|omega|decide|simp only[nmsB,lB]) only[simprocAttr,-rR,-rS,leB,memB,arrB,numB,qaf,opsB,qan,qai,eo,ed,zD,qab,qad,qac,qaa,qag]
  rw[qep (k+1469) _ 4 13 499 B _ (10,0) (10,1) (by decide) rfl rfl (by decide) (by decide) (by omega) (by decide),b13,leU_nB (BitVec.ofNat 64 f) 4 (by decide) (fun _=>shr_small f (by have:=hh.2.1; omega))]
  simp (disch:=first|omega|decide|simp only[nmsB,lB]) only[simprocAttr,-rR,-rS,leB,memB,arrB,numB,qaf,opsB,qan,qai,eo,ed,zD,qab,qad,qac,qaa,qag]
  have ef:(BitVec.ofNat 64 f).toInt=(f:Int):=by
    have:=hh.2.1
    rw[BitVec.toInt_ofNat',Int.bmod_eq_of_le (by omega) (by omega)]
  rw[ef]
  simp (disch:=first|omega|decide|simp only[nmsB,lB]) only[simprocAttr,-rR,-rS,leB,memB,arrB,numB,qaf,opsB,ordB,qak,qan,qai,eo,ed,zD,qgl,qam,qab,qad,qac,qaa,qas,qah,qag]
  rw[qes (k+1497) _ 32 17 495 B _ (10,0) (10,1) (by decide) rfl rfl (by decide) (by decide) (by omega) (by decide),b17]
  simp (disch:=first|omega|decide|simp only[nmsB,lB]) only[simprocAttr,-rR,-rS,leB,memB,arrB,numB,qaf,opsB,ordB,qak,qan,qai,qab,qad,qac,qaa,qas,qah,qag]
  rw[trim_rd _ _ _ _ (10,0) (10,1) 17 495 49 463 rfl (by decide)]
  simp (disch:=first|omega|decide|simp only[nmsB,lB]) only[simprocAttr,-rR,-rS,leB,memB,arrB,numB,qaf,opsB,ordB,qak,qan,qai,qab,qad,qac,qaa,qas,qah,qag]
  rw[rc_cp c rk f tr ht _ (32,0) (by exact rfl) (by exact rfl)]
  simp (disch:=first|omega|decide|simp only[nmsB,lB]) only[simprocAttr,-rR,-rS,leB,memB,arrB,numB,qaf,opsB,ordB,qak,qan,qai,qab,qad,qac,qaa,qas,qah,qag]
  have hka:qaS 0 32 (some (bs key))=some (bs key):=by
    rw[qaS,if_pos (by rw[qaM]; omega),zF,List.take_of_length_le (by rw[qaM]; omega)]
  have hra:qaS 0 35 (some (RC c rk f tr))=some (RC c rk f tr):=by
    have h:(RC c rk f tr).length=35:=by simp only[RC,zE,qaM,ht]
    rw[qaS,if_pos (by omega),zF,List.take_of_length_le (by omega)]
  have hpR:=qbZ c rk f tr
  have hrl:(RC c rk f tr).length=35:=by simp only[RC,zE,qaM,ht]
  simp (disch:=first|omega|decide|simp only[nmsB,lB]) only[simprocAttr,-rR,-rS,leB,memB,arrB,numB,qaf,opsB,qan,qai,hka,hra,qcz g s sl j sg ti me la nm hnm,qab,qad,qac,qaa,qag]
  rw[call_newT l7 _ (by simp only[zK,zN,hpH.anms,hpR.anms,(PC.bs key).anms,zD]) (by simp only[zB,zA,hpH.aren,hpR.aren,(PC.bs key).aren]) hB]
  simp (disch:=first|omega|decide|simp only[nmsB,lB]) only[simprocAttr,-rR,-rS,leB,memB,arrB,numB,qaf,opsB,qan,qai,qab,qad,qac,qaa,qag]
  rw [Sha.qeO (k + 1499) _ _ _ _ B B ⟨[(0, 0)], qbJ _ (0, 0) 0 512 cp (bs B) B rfl (by rw [zF, List.take_of_length_le (by rw [qaM]; omega)]) bl (by decide) 6, rfl⟩
    ⟨[(37,0)],qbJ _ (37,0) 0 512 (some 512) (bs B) B rfl (by rw[zF,List.take_of_length_le (by rw[qaM]; omega)]) bl (by decide) 6,rfl⟩ (by omega) (by omega) (by omega),decide_eq_true rfl]
  simp (disch:=first|omega|decide|simp only[nmsB,lB]) only[simprocAttr,-rR,-rS,leB,memB,arrB,numB,qaf,opsB,qan,qai,hra,hpR.isCell,hrl,ed,zD,qcF,qab,qad,qac,qaa,qag]
  generalize hG:upd _ (4,0) _=G
  have g0:G (0,0)=some (bs B):=by rw[←hG]; rfl
  clear hG
  show some (qbY 1 _ (.tup [.agg (RC c rk f tr),N 0]))=_
  refine Aes.qbK (names:=[]) ?_ ?_
  · simp only[simprocAttr,-rR,-rS,qak,qam,qdx,hpR.n7,g0,qd0,qah,qac,qaa]
  · simp (disch:=first|omega|decide|simp only[nmsB,lB]) only[simprocAttr,-rR,-rS,leB,memB,qaf,g0,hpR.r7,qb0,qc8,qae,qab,qad,qac,qaa]
end Sl
