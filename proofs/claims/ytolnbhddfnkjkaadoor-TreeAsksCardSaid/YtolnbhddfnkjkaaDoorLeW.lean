/- A digest of a mark and a part: what digest, Leaf, Node and root tell, and the document's. -/
import Derived.Test.YtolnbhddfnkjkaaDoorLeV
import Derived.Test.YtolnbhddfnkjkaaDoorLeE
set_option linter.unusedVariables false
set_option linter.unusedSimpArgs false
namespace Sha
open Go Go.LE
def dl (b:List (BitVec 8)):List (BitVec 8):=(List.range 32).map (dig b)
theorem dl_length (b:List (BitVec 8)):(dl b).length=32:=by simp[dl]
theorem aB_dl (b:List (BitVec 8)):aB 32 (dig b)=bs (dl b):=aB_bs 32 _
theorem ibs_one_nms (b:List (BitVec 8)) (n:Nat):nms D (.isl [.isl (bs b) n] 1)=[]:=by
  show (nms 7 (.isl (bs b) n))++[]=[]
  show ((bs b).flatMap (nms 6))++[]=[]
  rw[zR,List.flatMap_eq_nil_iff]; intro x hx; simp only[bs,List.mem_map] at hx; obtain ⟨y,_,rfl⟩:=hx; rfl
theorem ibs_one_ren (π:Nm→Option Nm) (b:List (BitVec 8)) (n:Nat):ren D π (.isl [.isl (bs b) n] 1) = .isl [.isl (bs b) n] 1:=by
  show LV.isl [.isl ((bs b).map (ren 6 π)) n] 1=_
  have:(bs b).map (ren 6 π)=bs b:=by
    conv=>rhs; rw[←List.map_id (bs b)]
    apply List.map_congr_left
    intro x hx; simp only[bs,List.mem_map] at hx; obtain ⟨y,_,rfl⟩:=hx; rfl
  rw[this]
theorem cell_one (H:Heap) (b:List (BitVec 8)) (n:Nat):cellAt H 1 (.ipt [.isl (bs b) n])=some [.isl (bs b) n]:=by rw[cellAt_ipt]; rfl
def dJ (mk b:List (BitVec 8)) (i:Nat) (st:St):Prop := ∃ (H:Heap),st=⟨[.undef,.undef,.undef,.undef,.ptr (1,0) 0,.ptr (1,1) 0,.undef,.undef,.undef,.undef,.undef,.undef,.isl [.isl (bs b) b.length] 1,N 1,N i,.undef,.undef,.undef,.undef,.undef,.undef,.undef,.undef,.undef],H,2,0⟩ ∧
  H (1,0)=some (aB 32 fun _=>0#8)∧HG H (1,1) (1,2) (if i=0 then mk else mk++b)
set_option maxRecDepth 20000 in
theorem d_round (K k0:Nat) (mk b:List (BitVec 8)) (hm:mk.length≤8) (hb:b.length≤140737488351300) (hk:b.length / 64+300≤k0) (i:Nat) (hi:i < 1) (st:St) (hI:dJ mk b i st) :
    ∃ st1,ev (envC C k0) K L31b0 st=some (.normal,st1)∧dJ mk b (i+1) (qby L31k0 st1):=by
  obtain rfl:i=0:=by omega
  obtain ⟨H,rfl,h0,hg⟩:=hI
  rw[if_pos rfl] at hg
  simp (disch:=first|omega|decide|simp only[qai,qag,qak,qaj,qah,qae,qac,qad,qan]) only[qba,qau,qa3,qao,qap,qam,qaf,qaq,qaz,qaI,qar,qaF,qaB,qa1,qaT,qaa,qaw,qaY,zK,zL,zN,zO,zG,zF,zJ,zM,Nat.reduceAdd,qbe,qbx,z8,Nat.reduceLT,zB,zE,zT,zZ,zE,zB,qa2,qbO,Nat.reduceLT,Nat.reduceAdd,zT,qb7,qbC,qax,qay,zZ,qal,L31b0,cell_one]
  generalize hc:qb1 _ _ _ _ _=r
  obtain ⟨rN,news,ms,H2,rfl,hH2,hg2,hr,hfr⟩:=write_G (bb:=b) hc hg (lent_isl _ b _) (by omega) (by omega) (by decide) (by decide)
  simp (disch:=first|omega|decide|simp only[qai,qag,qak,qaj,qah,qae,qac,qad,qan]) only[qao,qap,qam,qaf,qaq,qaz,qaI,qar,qaF,qaB,qaa,qa4,zK,zL,zN,zO,zJ,zM,Nat.reduceAdd,zB,zE,zE,zB,qbY,Nat.reduceAdd,qax,qay,qal,hH2]
  refine ⟨_,rfl,?_⟩
  have k0':H2 (1,0)=some (aB 32 fun _=>0#8):=(hfr _ (by decide) (by decide) (by decide)).trans h0
  obtain ⟨hne,c,l,hrf,e1,e2⟩:=hg2
  rcases hr with rfl | ⟨rfl,_⟩
  all_goals
    refine qaU [(1,0),(1,1),_] rfl (by simp only[qaA,FUEL,qaH,qaD,qaE,qaP,qaK,qaL,zS,zW,zP,zV,zR,zk,zF,zY,za,zD,zt,zo,ze,Nat.reduceEqDiff,zH,zU,zp,zC,zA,zd,zi,zm,zg,zl,ne_eq,zq,qaJ,qaC,qav,qaO,L31k0,k0',e1,e2,qdb,qbh,qbS,ibs_one_nms,qaK]; rfl) ?_ ⟨_,rfl,?_,by decide,c,l,hrf,?_,?_⟩
    · simp only [L31k0, zG, zF, qbT, qaC, qav, qaJ, qa9, ibs_one_ren]
      rfl
    · exact qas (1,0) rfl k0' (qbj _ _ _)
    · rw [cN_one _ _ 1 (1, 1) _ rfl e1, qcu]
      rfl
    · exact qas _ rfl e2 (qaW _ _)
set_option maxRecDepth 20000 in
theorem digest_F (K:Nat) (mk b:List (BitVec 8)) (hm0:mk≠[]) (hm:mk.length≤8) (hb:b.length≤140737488351300) (hK:b.length / 64+300≤K) :
    F C (K+1) 31 [.isl (bs mk) mk.length,.isl [.isl (bs b) b.length] 1] []=some (.agg (aB 32 (dig (mk++b))),[],[]):=by
  obtain ⟨k,rfl⟩:∃ k,K=k+2:=⟨K - 2,by omega⟩
  rw[qch f31]
  simp (disch:=first|omega|decide|simp only[qai,qag,qak,qaj,qah,qae,qac,qad,qan]) only[qbb,qau,qao,qap,qam,qaf,qaq,qaz,qaI,qaF,qa1,qaT,qaa,zK,zL,zN,zO,zG,zF,zP,zV,qa5,zy,zJ,zM,Nat.reduceAdd,Nat.reduceSub,qbR,zB,zE,qbH,zE,zB,Nat.reduceAdd,qax,qaM,qay,qal,L31,new_call,qal]
  generalize hc:qb1 _ _ _ _ _=r
  have h0:H0 (upd (upd (qcV []) (2,0) (some (aB 32 fun _=>0#8))) (3,0) (some (HsC ini Nil 0))) (3,0):=by
    unfold H0; simp only[qab,zD,Nat.reduceEqDiff,zH,zC,zA]
  obtain ⟨news,ms,H2,rfl,hH2,hg,hfr⟩:=write_1 hc h0 (lent_isl _ mk _) hm0 (by omega) (by omega) (by decide)
  have hz:H2 (2,0)=some (aB 32 fun _=>0#8):=(hfr _ (by decide) (by decide)).trans (by simp only[qab,zD,Nat.reduceEqDiff,zH,zC,zA])
  simp (disch:=first|omega|decide|simp only[qai,qag,qak,qaj,qah,qae,qac,qad,qan]) only[qau,qa3,qao,qap,qam,qaf,qaq,qaz,qaI,qaF,qaa,zK,zL,zN,zO,zJ,zM,qbZ,Nat.reduceAdd,zB,zE,zE,zB,Nat.reduceAdd,qbi,qaV,qbD,qax,qay,qal,hH2]
  generalize hL:qca L31k0 _ _ _=r
  refine qbJ hL (dJ mk b) 1 (by omega) (fun i st hi hI=>d_round _ _ mk b hm hb (by omega) i hi st hI) ?_ ?_ ?_
  · obtain ⟨hne, c, l, hrf, e1, e2⟩ := hg
    refine qaU [(2,0),(3,0),_] rfl (by simp only[qaA,FUEL,qaH,qaD,qaE,qaP,qaK,qaL,zS,zW,zP,zV,zR,zk,zF,zY,za,zD,zt,zo,ze,Nat.reduceEqDiff,zH,zp,zC,zA,zm,zg,zl,ne_eq,zq,qaJ,qaC,qav,qaO,L31k0,hz,e1,e2,qdb,qbh,qbS,ibs_one_nms,qaK]; rfl) ?_ ⟨_,rfl,?_,by decide,c,l,hrf,?_,?_⟩
    · simp only [L31k0, zG, zF, qbT, qaC, qav, qaJ, qa9, ibs_one_ren]
      rfl
    · exact qas (2,0) rfl hz (qbj _ _ _)
    · rw [cN_one _ _ 1 (3, 0) _ rfl e1, qcu]
      rfl
    · exact qas _ rfl e2 (qaW _ _)
  · rintro st ⟨H, rfl, h0, hg⟩
    apply qbs
    simp (disch:=first|omega|decide|simp only[qai,qag,qak,qaj,qah,qae,qac,qad,qan]) only[qa6,qau,qao,qap,qam,qaf,qaN,qaq,qaz,qar,qaB,qaa,qaG,qaw,qat,zK,zL,zN,zO,zJ,zM,Nat.reduceAdd,zB,zE,zQ,qa2,Nat.reduceAdd,zj,zQ,L31b0,zj]
    rfl
  · rintro st ⟨H, rfl, h0, hg⟩ rfl
    rw[if_neg (by decide)] at hg
    simp (disch:=first|omega|decide|simp only[qai,qag,qak,qaj,qah,qae,qac,qad,qan]) only[qa6,qau,qao,qap,qam,qaf,qaN,qaq,qaz,qaI,qar,qaF,qaB,qa1,qaT,qaa,qaG,qbc,qaw,qat,zK,zL,zN,zO,zG,zF,zJ,zM,Nat.reduceAdd,zC,zB,zE,zQ,zE,zB,qa2,Nat.reduceAdd,zj,zQ,L31b0,zj]
    generalize hc:qb1 _ _ _ _ _=r
    obtain ⟨x,y,rfl,hx,hy⟩:=sum_G hc hg (by rw[zzI]; omega) (by omega)
    simp (disch:=first|omega|decide|simp only[qai,qag,qak,qaj,qah,qae,qac,qad,qan]) only[qbp,qap,qam,qaf,qaq,qa7,qaz,qaa,qbg,zK,zL,zN,zO,zI,Nat.reduceAdd,qab,qaX,qaQ,qbt,qbf,zC,resVal_agg,aggV_some,qbP,qbm,aB_outOf,Nat.reduceAdd,qax,qay,qa0,zI,qal,upd_id hx,upd_id hy,h0]
theorem noImm_aB (n:Nat) (g:Nat→BitVec 8):noImm D (.agg (aB n g))=true:=by
  show (aB n g).all (noImm 7)=true
  rw[List.all_eq_true]; intro x hx
  simp only[aB,arr,List.mem_map,List.mem_range] at hx
  obtain ⟨i,_,rfl⟩:=hx; rfl
theorem bytes_call (k b g n:Nat) (hg:lentF g 0=true) (r:Nat→BitVec 8) (H:Heap) (B:LV) (bb:List (BitVec 8)) (hB:Lent H B bb [])
    (hw:F C k g [.isl (bs bb) bb.length] []=some (.agg (aB n r),[],[])):qb1 (envC C k) H b g [B]=some ⟨.agg (aB n r),[],[]⟩:=by
  obtain ⟨lent,hs,hl⟩:=hB.snap
  have hlend:lend H ((envC C k).borrow g) 0 [B]=some ([.isl (bs bb) bb.length],lent):=by
    rw[qde,lend_nil,envC_borrow,C_bor,if_pos hg,hs,lendC_some,zR]
  rw[callOp_L,hlend,callL_some]
  have hn:([.isl (bs bb) bb.length]:List LV).flatMap (nms D)=[]:=by
    simp only[zS,zW,qbd,zR]
  rw[hn,show reach H FUEL [] []=[] from rfl,callN_eq _ _ _ _ _ hl]
  have ha:([.isl (bs bb) bb.length]:List LV).map (ren D (qc7 []))=[.isl (bs bb) bb.length]:=by
    simp only[zG,zF,qa8]
  rw[ha,zzC,zF,envC_cal,hw,resK_any _ _ _ _ (by simp[plainRes,noImm_aB]),qc9]
  simp only[qbM,zF,List.zipWith_nil_left]
theorem rsum_call (k b:Nat) (H:Heap) (B:LV) (bb:List (BitVec 8)) (hb:bb.length≤211106232000000) (hB:Lent H B bb []) (hk:bb.length / 64+301≤k) :
    qb1 (envC C k) H b 32 [B]=some ⟨.agg (aB 32 (dig bb)),[],[]⟩:=by
  have:=rsum_F (k - bb.length / 64 - 301) bb hb
  rw[show k - bb.length / 64 - 301+bb.length / 64+301=k by omega] at this
  exact bytes_call k b 32 32 rfl _ H B bb hB this
theorem digest_call (k b:Nat) (H:Heap) (M Q:LV) (mk bb:List (BitVec 8)) (lent:List Nm) (hM:Lent H M mk []) (hQ:snap H D Q=some (.isl [.isl (bs bb) bb.length] 1,lent))
    (hm0:mk≠[]) (hm:mk.length≤8) (hb:bb.length≤140737488351300) (hk:bb.length / 64+301≤k):qb1 (envC C k) H b 31 [M,Q]=some ⟨.agg (aB 32 (dig (mk++bb))),[],[]⟩:=by
  have hw:=digest_F (k - 1) mk bb hm0 hm hb (by omega)
  rw[show k - 1+1=k by omega] at hw
  obtain ⟨lm,hs,_⟩:=hM.snap
  have hlend:lend H ((envC C k).borrow 31) 0 [M,Q]=some ([.isl (bs mk) mk.length,.isl [.isl (bs bb) bb.length] 1],lm++(lent++[])):=by
    simp only[lend,envC_borrow,C_bor]
    rw[show lentF 31 0=true from rfl,show lentF 31 (0+1)=true from rfl,if_pos rfl,if_pos rfl,hs,hQ]
  rw[callOp_L,hlend,callL_some]
  have hn:([.isl (bs mk) mk.length,.isl [.isl (bs bb) bb.length] 1]:List LV).flatMap (nms D)=[]:=by
    simp only[zS,zW,qbd,ibs_one_nms,zR]
  rw[hn,show reach H FUEL [] []=[] from rfl,callN_eq _ _ _ _ _ (by rw[List.any_eq_false]; intro x _; simp)]
  have ha:([.isl (bs mk) mk.length,.isl [.isl (bs bb) bb.length] 1]:List LV).map (ren D (qc7 []))=[.isl (bs mk) mk.length,.isl [.isl (bs bb) bb.length] 1]:=by
    simp only[zG,zF,qa8,ibs_one_ren]
  rw[ha,zzC,zF,envC_cal,hw,resK_any _ _ _ _ (by simp[plainRes,noImm_aB]),qc9]
  simp only[qbM,zF,List.zipWith_nil_left]
theorem snap_one_isl (H:Heap) (n:Nm) (c:Option Nat) (b:List (BitVec 8)) (h:H n=some [.isl (bs b) b.length]):snap H D (.sl n 0 1 c 1)=some (.isl [.isl (bs b) b.length] 1,[n]):=by
  show (if (1:Nat)=0 then some (LV.isl [] 0,[]) else match H n with | some cs=>(snapL (snap H 7) ((cs.drop 0).take (1*1))).map fun r=>(LV.isl r.1 1,n::r.2) | none=>none)=_
  rw[if_neg (by decide),h]
  rfl
theorem snap_one_sl (H:Heap) (n m:Nm) (c c2:Option Nat) (l:Nat) (b:List (BitVec 8)) (h:H n=some [.sl m 0 l c2 1]) (hm:H m=some (bs b)) (hl:b.length=l) (h0:l≠0):snap H D (.sl n 0 1 c 1)=some (.isl [.isl (bs b) b.length] 1,[n,m]):=by
  have hs:snapL (snap H 6) (bs b)=some (bs b,[]):=by
    have:∀ l:List (BitVec 8),snapL (snap H 6) (bs l)=some (bs l,[]):=by
      intro l
      induction l with
      | nil=>rfl
      | cons x l ih =>
        show (match snap H 6 (B8 x),snapL (snap H 6) (bs l) with | some (y,a),some (ys,b)=>some (y::ys,a++b) | _,_=>none)=_
        rw[ih]; rfl
    exact this b
  have h1:snap H 7 (.sl m 0 l c2 1)=some (.isl (bs b) b.length,[m]):=by
    show (if l=0 then some (LV.isl [] 0,[]) else match H m with | some cs=>(snapL (snap H 6) ((cs.drop 0).take (l*1))).map fun r=>(LV.isl r.1 l,m::r.2) | none=>none)=_
    rw[if_neg h0,hm]
    simp only
    rw[z8,List.take_of_length_le (by rw[qag]; omega),hs,←hl]
    rfl
  show (if (1:Nat)=0 then some (LV.isl [] 0,[]) else match H n with | some cs=>(snapL (snap H 7) ((cs.drop 0).take (1*1))).map fun r=>(LV.isl r.1 1,n::r.2) | none=>none)=_
  rw[if_neg (by decide),h]
  show (snapL (snap H 7) [.sl m 0 l c2 1]).map (fun r=>(LV.isl r.1 1,n::r.2))=_
  simp only[snapL,h1]
  rfl
theorem leaf_F (K:Nat) (b:List (BitVec 8)) (hb:b.length≤140737488351300) (hK:b.length / 64+302≤K):F C (K+1) 13 [.isl (bs b) b.length] []=some (.agg (aB 32 (dig (0#8::b))),[],[]):=by
  rw[qch f13]
  have hd := fun (b' : Nat) (H : Heap) (h1 : H (3, 0) = some (bs [0#8])) (h2 : H (5, 0) = some [.isl (bs b) b.length]) => digest_call K b' H (.sl (3, 0) 0 1 (some 1) 1) (.sl (5, 0) 0 1 (some 1) 1) [0#8] b _
    (by have:=lent_sl H (3,0) 0 1 (some 1) [0#8] [] h1 (by decide) rfl; exact this) (snap_one_isl H (5,0) (some 1) b h2) (by decide) (by decide) hb (by omega)
  simp (disch:=first|omega|decide|simp only[qai,qag,qak,qaj,qah,qae,qac,qad,qan]) only[qbb,qau,qao,qap,qam,qaf,qaq,qaz,qaI,qaF,qa1,qaT,qaa,zK,zL,zN,zO,zG,zF,zP,zV,zR,qa5,zy,zJ,zM,Nat.reduceAdd,Nat.reduceSub,qdl,qbR,qbW,qcx,qco,qb2,zzB,zzE,zzD,zX,zC,zB,zE,Nat.le_refl,qbH,zE,zB,Nat.reduceAdd,qbK,qbw,qax,qaM,qay,qal,qdp,L13]
  rw[hd _ _ (by simp only[qab,zD,Nat.reduceEqDiff,zH,zC,zA]; rfl) (by simp only[qab,zD,Nat.reduceEqDiff,zH,zC,zA])]
  simp (disch:=first|omega|decide|simp only[qai,qag,qak,qaj,qah,qae,qac,qad,qan]) only[qbp,qap,qam,qaf,qaq,qa7,qaz,qaa,qbg,zK,zL,zN,zO,zP,zV,zI,Nat.reduceAdd,qab,qaX,qaQ,qbt,qbf,zD,Nat.reduceEqDiff,zH,zC,zA,resVal_agg,aggV_some,qbP,qbm,aB_outOf,Nat.reduceEqDiff,Nat.reduceAdd,qax,qay,qa0,zI,qaZ,qal]
theorem node_F (K:Nat) (z:Int) (b:List (BitVec 8)) (hb:b.length≤140737488351300) (hK:b.length / 64+302≤K):F C (K+1) 15 [I z,.isl (bs b) b.length] []=some (.agg (aB 32 (dig (1#8::BitVec.ofInt 8 z::b))),[],[]):=by
  rw[qch f15]
  have hd := fun (b' : Nat) (H : Heap) (h1 : H (5, 0) = some (bs [1#8, BitVec.ofInt 8 z])) (h2 : H (7, 0) = some [.isl (bs b) b.length]) => digest_call K b' H (.sl (5, 0) 0 2 (some 2) 1) (.sl (7, 0) 0 1 (some 1) 1) [1#8, BitVec.ofInt 8 z] b _
    (by have:=lent_sl H (5,0) 0 2 (some 2) [1#8,BitVec.ofInt 8 z] [] h1 (by simp) rfl; exact this) (snap_one_isl H (7,0) (some 1) b h2) (by simp) (by simp) hb (by omega)
  simp (disch:=first|omega|decide|simp only[qai,qag,qak,qaj,qah,qae,qac,qad,qan]) only[qbb,qau,qao,qap,qam,qaf,qaq,qaz,qaI,qar,qaF,op_cvt,qa1,qaT,qaa,zK,zL,zN,zO,zG,zF,zP,zV,zR,qa5,zy,zJ,zM,cvt_I_8,Nat.reduceAdd,Nat.reduceSub,qdl,qbR,qbW,qcx,qco,qb2,zzK,zzB,zzE,z8,zzD,Nat.reduceLeDiff,zX,zC,zB,zE,Nat.le_refl,qbH,zE,zB,Nat.reduceLeDiff,Nat.reduceAdd,qbK,qbw,qax,qaM,qay,qal,qdp,L15]
  rw[hd _ _ (by simp only[qab,zD,Nat.reduceEqDiff,zH,zC,zA]; rfl) (by simp only[qab,zD,Nat.reduceEqDiff,zH,zC,zA])]
  simp (disch:=first|omega|decide|simp only[qai,qag,qak,qaj,qah,qae,qac,qad,qan]) only[qbp,qap,qam,qaf,qaq,qa7,qaz,qaa,qbg,zK,zL,zN,zO,zP,zV,zI,Nat.reduceAdd,qab,qaX,qaQ,qbt,qbf,zD,Nat.reduceEqDiff,zH,zC,zA,resVal_agg,aggV_some,qbP,qbm,aB_outOf,Nat.reduceEqDiff,Nat.reduceAdd,qax,qay,qa0,zI,qaZ,qal]
theorem lent_row {H:Heap} {x:LV} {m:Nm} {l:List (BitVec 8)} (h:RowIs H x m l):Lent H x l []:=by
  obtain ⟨lent,h1,_⟩:=lentA_row h
  exact ⟨lent,h1 6,by simp⟩
set_option maxRecDepth 20000 in
theorem rleaf_F (K:Nat) (b:List (BitVec 8)) (hb:b.length≤140737488351300) (hK:b.length / 64+302≤K):F C (K+1) 14 [.isl (bs b) b.length] []=some (.agg (aB 32 (dig (0#8::b))),[],[]):=by
  rw[qch f14]
  have hfr:∀ H:Heap,front H 1 b.length (.isl (bs b) b.length)=some (bs b):=fun H=>qdn b b.length rfl
  simp (disch:=first|omega|decide|simp only[qai,qag,qak,qaj,qah,qae,qac,qad,qan]) only[qbb,qau,qao,qap,qam,qaf,qaq,qaz,qaI,qaF,qaa,zK,zL,zN,zO,zG,zF,zP,zV,zR,qa5,zy,zJ,zM,Nat.reduceAdd,Nat.reduceSub,qdl,qbR,qbW,qcx,qco,qb2,zzB,zzE,zzD,zX,zC,zB,zE,Nat.le_refl,qbH,zE,zB,Nat.reduceAdd,qcT,qb8,qb9,qcb,qbK,qbw,qax,qaM,qay,qal,L14,hfr,qcb]
  generalize hc:appX _ _ _ _ _ _ _ _=r
  obtain ⟨x',m',news,ms,H2,rfl,hH2,hrow,_,hk⟩:=app_any hc (RowIs.new (l:=[0#8]) (by simp only[qab,zD,Nat.reduceEqDiff,zH,zC,zA]; rfl) rfl) rfl (by simp; omega)
  have h0:H2 (2,0)=some (aB 32 fun _=>0#8):=(hk _ (by decide) (by decide)).trans (by simp only[qab,zD,Nat.reduceEqDiff,zH,zC,zA])
  simp (disch:=first|omega|decide|simp only[qai,qag,qak,qaj,qah,qae,qac,qad,qan]) only[qbp,qap,qam,qaf,qaq,qa7,qaz,qaI,qa1,qaT,qaa,qbg,zK,zL,zN,zO,zG,zF,zP,zV,zI,Nat.reduceAdd,qab,qaX,qaQ,qbt,qbf,zC,resVal_agg,aggV_some,qbP,qbm,aB_outOf,Nat.reduceAdd,qax,qay,qa0,zI,qal,qal,hH2,rsum_call K _ H2 x' ([0#8]++b) (by simp; omega) (lent_row hrow) (by simp; omega),h0]
set_option maxRecDepth 20000 in
theorem rnode_F (K:Nat) (z:Int) (b:List (BitVec 8)) (hb:b.length≤140737488351300) (hK:b.length / 64+302≤K):F C (K+1) 16 [I z,.isl (bs b) b.length] []=some (.agg (aB 32 (dig (1#8::BitVec.ofInt 8 z::b))),[],[]):=by
  rw[qch f16]
  have hfr:∀ H:Heap,front H 1 b.length (.isl (bs b) b.length)=some (bs b):=fun H=>qdn b b.length rfl
  simp (disch:=first|omega|decide|simp only[qai,qag,qak,qaj,qah,qae,qac,qad,qan]) only[qbb,qau,qao,qap,qam,qaf,qaq,qaz,qaI,qar,qaF,op_cvt,qaa,zK,zL,zN,zO,zG,zF,zP,zV,zR,qa5,zy,zJ,zM,cvt_I_8,Nat.reduceAdd,Nat.reduceSub,qdl,qbR,qbW,qcx,qco,qb2,zzK,zzB,zzE,z8,zzD,Nat.reduceLeDiff,zX,zC,zB,zE,Nat.le_refl,qbH,zE,zB,Nat.reduceLeDiff,Nat.reduceAdd,qcT,qb8,qb9,qcb,qbK,qbw,qax,qaM,qay,qal,L16,hfr,qcb]
  generalize hc:appX _ _ _ _ _ _ _ _=r
  obtain ⟨x',m',news,ms,H2,rfl,hH2,hrow,_,hk⟩:=app_any hc (RowIs.new (l:=[1#8,BitVec.ofInt 8 z]) (by simp only[qab,zD,Nat.reduceEqDiff,zH,zC,zA]; rfl) rfl) rfl (by simp; omega)
  have h0:H2 (2,0)=some (aB 32 fun _=>0#8):=(hk _ (by decide) (by decide)).trans (by simp only[qab,zD,Nat.reduceEqDiff,zH,zC,zA])
  simp (disch:=first|omega|decide|simp only[qai,qag,qak,qaj,qah,qae,qac,qad,qan]) only[qbp,qap,qam,qaf,qaq,qa7,qaz,qaI,qa1,qaT,qaa,qbg,zK,zL,zN,zO,zG,zF,zP,zV,zI,Nat.reduceAdd,qab,qaX,qaQ,qbt,qbf,zC,resVal_agg,aggV_some,qbP,qbm,aB_outOf,Nat.reduceAdd,qax,qay,qa0,zI,qal,qal,hH2,rsum_call K _ H2 x' ([1#8,BitVec.ofInt 8 z]++b) (by simp; omega) (lent_row hrow) (by simp; omega),h0]
theorem leaf_call (k b g:Nat) (hg:g=13∨g=14) (H:Heap) (B:LV) (bb:List (BitVec 8)) (hB:Lent H B bb []) (hb:bb.length≤140737488351300) (hk:bb.length / 64+303≤k) :
    qb1 (envC C k) H b g [B]=some ⟨.agg (aB 32 (dig (0#8::bb))),[],[]⟩:=by
  rcases hg with rfl | rfl
  · have := leaf_F (k - 1) bb hb (by omega)
    rw[show k - 1+1=k by omega] at this
    exact bytes_call k b 13 32 rfl _ H B bb hB this
  · have := rleaf_F (k - 1) bb hb (by omega)
    rw[show k - 1+1=k by omega] at this
    exact bytes_call k b 14 32 rfl _ H B bb hB this
theorem node_call (k b g:Nat) (hg:g=15∨g=16) (H:Heap) (z:Int) (B:LV) (bb:List (BitVec 8)) (hB:Lent H B bb []) (hb:bb.length≤140737488351300) (hk:bb.length / 64+303≤k) :
    qb1 (envC C k) H b g [I z,B]=some ⟨.agg (aB 32 (dig (1#8::BitVec.ofInt 8 z::bb))),[],[]⟩:=by
  have hw:F C k g [I z,.isl (bs bb) bb.length] []=some (.agg (aB 32 (dig (1#8::BitVec.ofInt 8 z::bb))),[],[]):=by
    rcases hg with rfl | rfl
    · have := node_F (k - 1) z bb hb (by omega)
      rwa [show k - 1+1=k by omega] at this
    · have := rnode_F (k - 1) z bb hb (by omega)
      rwa [show k - 1+1=k by omega] at this
  have hl0:lentF g 0=false∧lentF g (0+1)=true:=by rcases hg with rfl | rfl <;> exact ⟨rfl,rfl⟩
  obtain ⟨lent,hs,hl⟩:=hB.snap
  have hlend:lend H ((envC C k).borrow g) 0 [I z,B]=some ([I z,.isl (bs bb) bb.length],lent):=by
    simp only[lend,envC_borrow,C_bor,hl0.1,hl0.2,hs,zC,ze,zA,zR,zP]
  rw[callOp_L,hlend,callL_some]
  have hn:([I z,.isl (bs bb) bb.length]:List LV).flatMap (nms D)=[]:=by
    simp only[zS,zW,qbd,zR]; rfl
  rw[hn,show reach H FUEL [] []=[] from rfl,callN_eq _ _ _ _ _ hl]
  have ha:([I z,.isl (bs bb) bb.length]:List LV).map (ren D (qc7 []))=[I z,.isl (bs bb) bb.length]:=by
    simp only[zG,zF,qa8]; rfl
  rw[ha,zzC,zF,envC_cal,hw,resK_any _ _ _ _ (by simp[plainRes,noImm_aB]),qc9]
  simp only[qbM,zF,List.zipWith_nil_left]
end Sha
namespace Sha
open Go Go.LE
def nodeB (lv:Nat) (b:List (BitVec 8)):List (BitVec 8):=1#8::BitVec.ofInt 8 (lv:Int)::b
theorem qdj (k b g:Nat) (hg:g=15∨g=16) (H:Heap) (lv:Nat) (B:LV) (bb:List (BitVec 8)) (hB:Lent H B bb []) (hb:bb.length≤140737488351300) (hk:bb.length / 64+303≤k) :
    qb1 (envC C k) H b g [N lv,B]=some ⟨.agg (aB 32 (dig (nodeB lv bb))),[],[]⟩:=node_call k b g hg H lv B bb hB hb hk
theorem N_shr64 (e:EqT) (a:Nat) (z:BitVec 64) (hz:z.toNat < 64):binV .shr e (N a) (B64 z)=some (N (a / 2 ^ z.toNat)):=by
  show (binI .shr .i64 (a:Int) .u64 (z.toNat:Int)).map LV.v=_
  have h:¬ ((z.toNat:Int) < 0):=by omega
  simp only[binI,if_neg h,zI]
  have h2:min ((z.toNat:Int)).toNat (IntKind.bits .i64)=z.toNat:=by
    rw[Int.toNat_natCast]; exact Nat.min_eq_left (by have:IntKind.bits .i64=64:=rfl; omega)
  rw[h2]
  have h3:Int.fdiv (a:Int) (2 ^ z.toNat)=((a / 2 ^ z.toNat:Nat):Int):=by
    rw[Int.fdiv_eq_ediv_of_nonneg _ (by exact_mod_cast Nat.zero_le _)]
    push_cast
    rfl
  rw[h3]
  rfl
def rootM (n:Nat):List (BitVec 8):=[2#8,BitVec.ofNat 8 n,BitVec.ofNat 8 (n / 256),BitVec.ofNat 8 (n / 65536),BitVec.ofNat 8 (n / 16777216)]
def topL (n lv:Nat) (b:List (BitVec 8)):List (BitVec 8):=rootM n++dl (nodeB lv b)
theorem lent_full (H:Heap) (m:Nm) (c:Option Nat) (l:List (BitVec 8)) (n:Nat) (h:H m=some (bs l)) (hn:l.length=n):Lent H (.sl m 0 n c 1) l []:=by
  have h:=lent_sl H m 0 n c l [] h (by omega) rfl
  rwa [z8,List.take_of_length_le (by omega)] at h
theorem topL_length (n lv:Nat) (b:List (BitVec 8)):(topL n lv b).length=37:=by simp[topL,rootM,dl_length]
theorem appW_top (n lv:Nat) (b:List (BitVec 8)):appW 21 32 0 5 (bs (dl (nodeB lv b))) (some (bs (rootM n)))=some ⟨.sl (21,0) 0 37 none 1,[bs (topL n lv b)],[]⟩:=by
  rw[appW_bs 32 0 5 (rootM n) _ (by simp[rootM]),z8,List.take_of_length_le (by simp[rootM])]
  rfl
set_option maxRecDepth 20000 in
theorem root_F (K n lv:Nat) (b:List (BitVec 8)) (hb:b.length≤140737488351300) (hK:b.length / 64+400≤K):F C (K+1) 29 [N n,N lv,.isl (bs b) b.length] []=some (.agg (aB 32 (dig (topL n lv b))),[],[]):=by
  rw[qch f29]
  have hnc:=fun (b':Nat) (H:Heap)=>qdj K b' 15 (.inl rfl) H lv (.isl (bs b) b.length) b (lent_isl H b []) hb (by omega)
  have s8:=N_shr64 .none n 8#64 (by decide)
  have s16:=N_shr64 .none n 16#64 (by decide)
  have s24:=N_shr64 .none n 24#64 (by decide)
  simp (disch:=first|omega|decide|simp only[qai,qag,qak,qaj,qah,qae,qac,qad,qan]) only[qbb,qau,qao,qap,qam,qaf,qaq,qa7,qaz,qaI,qar,qaF,qaB,op_cvt,qa1,qaT,qaa,zK,zL,zN,zO,zG,zF,zP,zV,zR,qa5,zy,zJ,zM,BitVec.toNat_ofNat,Nat.reduceAdd,Nat.reduceSub,qab,qaX,qdl,qbR,qbt,qbf,qbW,qcx,qco,qb2,zzK,zzB,zzE,z8,zzD,zD,Nat.reduceEqDiff,Nat.reduceLeDiff,zH,zX,zC,zA,zB,zE,Nat.le_refl,Nat.reducePow,Nat.reduceMod,qbH,qbm,zZ,zE,zB,cvt_N_8,Nat.reduceLeDiff,Nat.reduceEqDiff,Nat.reduceAdd,Nat.reduceMod,qdi,qcw,op_slcAV,slcAV_ptr,qbK,qbw,qax,qaM,qay,qa0,Nat.sub_zero,zZ,qaZ,qal,L29,hnc,s8,s16,s24]
  rw[digest_call K _ _ _ _ (rootM n) (dl (nodeB lv b)) _ (lent_full _ (19,0) (some 5) (rootM n) 5 (by simp only[qab,zD,Nat.reduceEqDiff,zH,zC,zA]; rfl) rfl) (snap_one_sl _ (21,0) (6,0) (some 1) (some 32) 32 (dl (nodeB lv b)) (by simp only[qab,zD,Nat.reduceEqDiff,zH,zC,zA]) (by simp only[qab,zD,Nat.reduceEqDiff,zH,zC,zA,aB_dl]) (dl_length _) (by decide)) (by simp[rootM]) (by simp[rootM]) (by rw[dl_length]; omega) (by rw[dl_length]; omega)]
  simp (disch:=first|omega|decide|simp only[qai,qag,qak,qaj,qah,qae,qac,qad,qan]) only[qbp,qap,qam,qaf,qaq,qa7,qaz,qaa,qbg,zK,zL,zN,zO,zI,Nat.reduceAdd,qab,qaX,qaQ,qbt,qbf,zD,Nat.reduceEqDiff,zH,zC,zA,resVal_agg,aggV_some,qbP,qbm,aB_outOf,Nat.reduceEqDiff,Nat.reduceAdd,qax,qay,qa0,zI,qaZ,qal]
  rfl
set_option maxRecDepth 20000 in
theorem top_F (K n lv:Nat) (b:List (BitVec 8)) (hb:b.length≤140737488351300) (hK:b.length / 64+400≤K):F C (K+1) 30 [N n,N lv,.isl (bs b) b.length] []=some (.agg (aB 32 (dig (topL n lv b))),[],[]):=by
  rw[qch f30]
  have hnc:=fun (b':Nat) (H:Heap)=>qdj K b' 16 (.inr rfl) H lv (.isl (bs b) b.length) b (lent_isl H b []) hb (by omega)
  have s8:=N_shr64 .none n 8#64 (by decide)
  have s16:=N_shr64 .none n 16#64 (by decide)
  have s24:=N_shr64 .none n 24#64 (by decide)
  simp (disch:=first|omega|decide|simp only[qai,qag,qak,qaj,qah,qae,qac,qad,qan]) only[qbb,qau,qao,qap,qam,qaf,qaq,qa7,qaz,qaI,qar,qaF,qaB,op_cvt,qa1,qaT,qaa,zK,zL,zN,zO,zG,zF,zP,zV,zR,qa5,zy,zJ,zM,BitVec.toNat_ofNat,Nat.reduceAdd,Nat.reduceSub,qab,qaX,qdl,qbR,qbt,qbf,qbW,qcx,qco,qb2,zzK,zzB,zzE,z8,zzD,zD,Nat.reduceEqDiff,Nat.reduceLeDiff,zH,zX,zC,zA,zB,zE,Nat.le_refl,Nat.reducePow,Nat.reduceMod,qbH,qbm,zZ,zE,zB,cvt_N_8,Nat.reduceLeDiff,Nat.reduceEqDiff,Nat.reduceAdd,Nat.reduceMod,qbB,qb8,qb9,qcb,qcw,op_slcAV,slcAV_ptr,qbK,qbw,qax,qaM,qay,qa0,Nat.sub_zero,zZ,qaZ,frontK_aB,appX_cap,qcI,qal,L30,hnc,s8,s16,s24]
  rw[show appW 21 32 0 5 (bs (List.map (dig (nodeB lv b)) (List.range 32))) (some [B8 2#8,B8 (BitVec.ofNat 8 n),B8 (BitVec.ofNat 8 (n / 256)),B8 (BitVec.ofNat 8 (n / 65536)),B8 (BitVec.ofNat 8 (n / 16777216))])=some ⟨.sl (21,0) 0 37 none 1,[bs (topL n lv b)],[]⟩ from appW_top n lv b]
  simp (disch:=first|omega|decide|simp only[qai,qag,qak,qaj,qah,qae,qac,qad,qan]) only[qaf,qaq,qaz,qaI,qa1,qaT,zK,zL,zN,zO,zG,zF,Nat.reduceAdd,zB,zB,Nat.reduceAdd,qax,qaM,qay,qal,qal]
  rw[rsum_call K _ _ _ (topL n lv b) (by rw[topL_length]; omega) (lent_full _ (21,0) none (topL n lv b) 37 (by simp only[qab,zD,Nat.reduceEqDiff,zH,zC,zA]) (topL_length _ _ _)) (by rw[topL_length]; omega)]
  simp (disch:=first|omega|decide|simp only[qai,qag,qak,qaj,qah,qae,qac,qad,qan]) only[qbp,qap,qam,qaf,qaq,qa7,qaz,qaa,qbg,zK,zL,zN,zO,zI,Nat.reduceAdd,qab,qaX,qaQ,qbt,qbf,zD,Nat.reduceEqDiff,zH,zC,zA,resVal_agg,aggV_some,qbP,qbm,aB_outOf,Nat.reduceEqDiff,Nat.reduceAdd,qax,qay,qa0,zI,qaZ,qal]
end Sha
namespace Sha
open Go Go.LE
export Ab (ups)
theorem up_F (k n:Nat) (hn:n≤1000000):F C (k+1) 33 [N n] []=some (N (ups n),[],[]):=by
  rw[qch f33]
  simp (disch:=first|omega|decide|simp only[qai,qag,qak,qaj,qah,qae,qac,qad,qan]) only[qbb,qbp,qau,qao,qap,qam,qaf,qaN,qaq,qaz,qaI,qar,qaF,qaB,qaa,qbg,qbl,zK,zL,zN,zO,zP,zV,qa5,zy,zJ,zM,zI,Nat.reduceAdd,Nat.reduceSub,zB,zE,qbY,N_sub,N_quo,outOf_N,Nat.reduceAdd,zI,L33]
  rw[show n+16 - 1=n+15 by omega]
  rfl
theorem I_lssN (e:EqT) (z:Int) (m:Nat):binV .lss e (I z) (N m)=some (Bo (decide (z < (m:Int)))):=by rw[N,I_lss]
theorem I_leqN (e:EqT) (z:Int) (m:Nat):binV .leq e (I z) (N m)=some (Bo (decide (z≤(m:Int)))):=by rw[N,I_leq]
theorem I_gtrN (e:EqT) (z:Int) (m:Nat):binV .gtr e (I z) (N m)=some (Bo (decide ((m:Int) < z))):=by rw[N,I_gtr]
theorem I_geqN (e:EqT) (z:Int) (m:Nat):binV .geq e (I z) (N m)=some (Bo (decide ((m:Int)≤z))):=by rw[N,I_geq]
theorem isCount_F (k:Nat) (z:Int):F C (k+1) 27 [I z] []=some (Bo (decide (1≤z∧z≤4096)),[],[]):=by
  rw[qch f27]
  by_cases h1:1≤z
  · have e1 : decide (((1 : Nat) : Int) ≤ z) = true := by simpa using h1
    by_cases h2:z≤4096
    · have e2 : decide (z ≤ ((4096 : Nat) : Int)) = true := by simpa using h2
      rw[decide_eq_true (⟨h1,h2⟩:1≤z∧z≤4096)]
      simp (disch:=first|omega|decide|simp only[qai,qag,qak,qaj,qah,qae,qac,qad,qan]) only[qbb,qbp,qau,qao,qap,qam,qaf,qaS,qaN,qcC,qaq,qaz,qaI,qar,qb0,qaF,qbr,qaB,qaa,qbg,qbl,zK,zL,zN,zO,zP,zV,qa5,zy,zJ,zM,qct,zI,Nat.reduceAdd,Nat.reduceSub,zB,zE,Nat.reduceAdd,zI,L27,I_geqN,I_leqN,e1,e2]
    · have e2 : decide (z ≤ ((4096 : Nat) : Int)) = false := by simpa using h2
      rw[decide_eq_false (fun h:1≤z∧z≤4096=>h2 h.2)]
      simp (disch:=first|omega|decide|simp only[qai,qag,qak,qaj,qah,qae,qac,qad,qan]) only[qbb,qbp,qau,qao,qap,qam,qaf,qaS,qaN,qcC,qaq,qaz,qaI,qar,qb0,qaF,qbr,qaB,qaa,qbg,qbl,zK,zL,zN,zO,zP,zV,qa5,zy,zJ,zM,qct,zI,Nat.reduceAdd,Nat.reduceSub,zB,zE,Nat.reduceAdd,zI,L27,I_geqN,I_leqN,e1,e2]
  · have e1 : decide (((1 : Nat) : Int) ≤ z) = false := by simpa using h1
    rw[decide_eq_false (fun h:1≤z∧z≤4096=>h1 h.1)]
    simp (disch:=first|omega|decide|simp only[qai,qag,qak,qaj,qah,qae,qac,qad,qan]) only[qbb,qbp,qau,qao,qap,qam,qaf,qaS,qaN,guardK_false,qaq,qaz,qaI,qar,qbq,qaF,qbr,qaB,qaa,qbg,qbl,zK,zL,zN,zO,zP,zV,qa5,zy,zJ,zM,qct,zI,Nat.reduceAdd,Nat.reduceSub,zB,zE,Nat.reduceAdd,zI,L27,I_geqN,e1]
theorem isCount_FN (k n:Nat):F C (k+1) 27 [N n] []=some (Bo (decide (1≤n∧n≤4096)),[],[]):=by
  have:=isCount_F k n
  rw[show N n=I (n:Int) from rfl,this]
  congr 3
  rw[Bool.eq_iff_iff,decide_eq_true_iff,decide_eq_true_iff]
  omega
def su (n:Nat):Nat→Nat
  | 0=>ups n
  | i+1=>ups (su n i)
def nl (n:Nat):Nat:=if n≤16 then 0 else if n≤256 then 1 else 2
def lvs (n:Nat):List Nat:=(List.range (nl n+1)).map (su n)
def ns (L:List Nat):qaR:=L.map N
theorem ns_nms (L:List Nat):(ns L).flatMap (nms D)=[]:=by
  rw[List.flatMap_eq_nil_iff]; intro x hx; simp only[ns,List.mem_map] at hx; obtain ⟨i,_,rfl⟩:=hx; rfl
theorem ns_ren (L:List Nat) (π:Nm→Option Nm):(ns L).map (ren D π)=ns L:=by
  simp only[ns,List.map_map]; apply List.map_congr_left; intro i _; rfl
theorem su_le {n:Nat} (hn:1≤n∧n≤4096) (i:Nat):1≤su n i∧su n i≤256:=by
  induction i with
  | zero=>simp only[su,ups]; omega
  | succ i ih=>simp only[su,ups]; omega
theorem su_more {n:Nat} (hn:1≤n∧n≤4096) {i:Nat} (hi:i < nl n):1 < su n i:=by
  unfold nl at hi
  split at hi
  · omega
  · split at hi
    · obtain rfl : i = 0 := by omega
      simp only[su,ups]; omega
    · have : i = 0 ∨ i = 1 := by omega
      rcases this with rfl | rfl <;> simp only[su,ups] <;> omega
theorem su_last {n:Nat} (hn:1≤n∧n≤4096):su n (nl n)=1:=by
  unfold nl
  split
  · simp only[su,ups]; omega
  · split <;> simp only[su,ups] <;> omega
theorem nl_le (n:Nat):nl n≤2:=by unfold nl; split <;> (try split) <;> omega
theorem app_ns (b:Nat) (H:Heap) (m:Nm) (L:List Nat) (v k:Nat) (c:Option Nat) (h:H m=some (ns L)) (hk:L.length=k) (h0:0 < k) (hk2:k≤1000) (hc:c=none∨c=some k) :
    ∃ ms,appX b 1 8 1 H [] [N v] (.sl m 0 k c 1)=some ⟨.sl (b,0) 0 (k+1) none 1,[ns (L++[v])],ms⟩∧(ms=[]∨ms=[(m,none)]):=by
  have hl:(ns L).length=k:=by simp[ns,hk]
  rcases hc with rfl | rfl
  · refine ⟨[(m, none)], ?_, .inr rfl⟩
    rw[appX,if_pos ⟨rfl,by omega,rfl⟩,h]
    simp only
    rw[if_pos (by omega),z8,List.take_of_length_le (by omega)]
    simp[ns]
  · refine ⟨[], ?_, .inl rfl⟩
    rw[appX,if_pos ⟨rfl,by omega,rfl⟩,if_neg (by omega),qcI _ _ _ _ _ _ _ (Nat.le_refl _) (by omega),h]
    simp only[frontK]
    rw[if_pos (by omega),z8,List.take_of_length_le (by omega)]
    simp[ns]
def lJ (n:Nat) (i:Nat) (st:St):Prop := ∃ (H:Heap) (c:Option Nat),st=⟨[N (su n i),.undef,.undef,.sl (1,0) 0 (i+1) c 1,.undef,.undef,.undef,.undef,.undef,.undef,.undef,.undef,.undef,.undef,.undef,.undef,.undef,.undef,.undef,.undef,.undef,.undef],H,2,0⟩ ∧
  H (1,0)=some (ns ((List.range (i+1)).map (su n)))∧(c=none∨c=some (i+1))
theorem frontK_N (v:Nat):frontK 0 1 1 (some [N v])=some [N v]:=nf rfl
theorem appF_N (b:Nat) (H:Heap) (x:LV) (v:Nat):appF b 1 8 1 H x (some [N v])=appX b 1 8 1 H [] [N v] x:=qcb _ _ _ _ _ (by decide) rfl
theorem l_round (K k0 n:Nat) (hn:1≤n∧n≤4096) (i:Nat) (hi:i < nl n) (st:St) (hI:lJ n i st) :
    ∃ st1,ev (envC C (k0+1)) K L18b0 st=some (.normal,st1)∧lJ n (i+1) (qby L18k0 st1):=by
  obtain ⟨H,c,rfl,h0,hc⟩:=hI
  have hm:=su_more hn hi
  have hu:=up_F k0 (su n i) (by have:=(su_le hn i).2; omega)
  have hn2:=nl_le n
  obtain ⟨ms,hap,hms⟩:=app_ns 8 (upd H (7,0) (some [N (ups (su n i))])) (1,0) ((List.range (i+1)).map (su n)) (ups (su n i)) (i+1) c (by simp only[qab,zD,Nat.reduceEqDiff,zH,zA,h0]) (by simp) (by omega) (by omega) hc
  have hL:(List.range (i+1)).map (su n)++[ups (su n i)]=(List.range (i+1+1)).map (su n):=by
    rw[List.range_succ (n:=i+1),List.map_append]; rfl
  rw[hL] at hap
  simp (disch:=first|omega|decide|simp only[nms_B8,qcy,qcR,nms_I,qaO,nms_Bo,nms_Un,qaL,nms_Hf,qaP,qaK,qbF,qbU,qci,qck,zS,zW,zP,zR,ren_B8,qcX,qcY,ren_I,ren_N,ren_Bo,ren_Un,qa9,ren_Hf,qbM,qcd,qcj,qcl,zG,zF,ren7_I,ren7_N,qc0,qc1,qcE,qcF,nms7_I,nms7_N,qc2,qc3,qcG,qcH,qc4,qc5,implies_true,l27,l33,qai,qbh,qaW,qbd,qa8,qag,qak,qaj,qah,qae,qac,qad,qan]) only[qba,qau,qa3,qao,qap,qam,qaf,qaq,qaz,qaI,qar,qaF,qaB,qa1,qaT,qaa,qa4,qaw,qaY,zK,zL,zN,zO,zG,zF,zP,zR,zJ,zM,qcB,Nat.reduceAdd,qab,qbW,qcx,qco,qb2,zzB,zzE,zzD,zX,zC,zB,zE,Nat.le_refl,zT,zE,zB,N_gtr,cellsOf_N,calK_N,Nat.reduceAdd,zT,qbB,qb8,qb9,qbK,qbw,qax,qaM,qay,qcI,qal,L18b0,hm,hu,qal,frontK_N,appF_N,hap]
  refine ⟨_,rfl,?_⟩
  rcases hms with rfl | rfl
  all_goals
    refine qaU [(8,0)] rfl (by simp only[qaA,FUEL,qaH,qaD,qaE,qaK,qaL,zS,zW,zP,zR,zk,zF,zY,ze,Nat.reduceEqDiff,zC,zA,zm,zg,zl,ne_eq,zq,qab,qaJ,qaC,qav,qaO,L18k0,ns_nms,qaO,qaK]) rfl ⟨_,none,rfl,?_,.inl rfl⟩
    exact qas (8,0) rfl (by simp only[qab,zC]) (ns_ren _ _)
theorem levels_F (k n:Nat) (hn:1≤n∧n≤4096):∃ c,F C (k+10) 18 [N n] []=some (.sl (1,0) 0 (nl n+1) c 1,[],[ns (lvs n)])∧(c=none∨c=some (nl n+1)):=by
  rw[qch f18]
  have hu:=up_F (k+8) n (by omega)
  have hic:=isCount_FN (k+8) n
  rw[decide_eq_true hn] at hic
  have hn2:=nl_le n
  simp (disch:=first|omega|decide|simp only[nms_B8,qcy,qcR,nms_I,qaO,nms_Bo,nms_Un,qaL,nms_Hf,qaP,qaK,qbF,qbU,qci,qck,zS,zW,zP,zR,ren_B8,qcX,qcY,ren_I,ren_N,ren_Bo,ren_Un,qa9,ren_Hf,qbM,qcd,qcj,qcl,zG,zF,ren7_I,ren7_N,qc0,qc1,qcE,qcF,nms7_I,nms7_N,qc2,qc3,qcG,qcH,qc4,qc5,implies_true,l27,l33,qai,qbh,qaW,qbd,qa8,qag,qak,qaj,qah,qae,qac,qad,qan]) only[qbb,qba,qau,qa3,qao,qap,qam,qaf,qaq,qaz,qaI,qar,qaF,op_un,qa1,qaT,qaa,qaw,qat,zK,zL,zN,zO,zG,zF,zP,zV,zR,qa5,zy,zJ,zM,qcU,qcB,calK_Bo,qbZ,Nat.reduceAdd,Nat.reduceSub,qbW,qcx,qco,qb2,zzB,zzE,zzD,zX,zC,zB,zE,Nat.le_refl,zE,zB,cellsOf_N,calK_N,Nat.reduceAdd,zf,qbK,qbw,qax,qaM,qay,qal,L18,hu,hic,qal]
  generalize hL:qca L18k0 _ _ _=r
  refine qbJ hL (lJ n) (nl n) (by omega) (fun i st hi hI=>l_round _ _ n hn i hi st hI) ?_ ?_ ?_
  · refine qaU [(8, 0)] rfl (by simp only [qaA, FUEL, qaH, qaD, qaE, qaK, qaL, zS, zW, zP, zR, zk, zF, zY, ze, Nat.reduceEqDiff, zC, zA, zm, zg, zl, ne_eq, zq, qab, qaJ, qaC, qav, qaZ, qaO, L18k0, qaO, qaK]) rfl ⟨_, some 1, rfl, ?_, .inr rfl⟩
    exact qas (8,0) rfl (by simp only[qab,zC,zB]; rfl) (ns_ren _ _)
  · rintro st ⟨H, c, rfl, h0, hc⟩
    apply qbs
    have e1:¬ 1 < su n (nl n):=by rw[su_last hn]; omega
    simp (disch:=first|omega|decide|simp only[qai,qag,qak,qaj,qah,qae,qac,qad,qan]) only[qa6,qau,qao,qap,qam,qaf,qaN,qaq,qaz,qaI,qar,qaF,qaB,qaa,qaG,qaw,qat,zK,zL,zN,zO,zJ,zM,Nat.reduceAdd,zB,zE,zQ,N_gtr,Nat.reduceAdd,zQ,L18b0,e1]
    rfl
  · rintro st ⟨H, c, rfl, h0, hc⟩ rfl
    have e1:¬ 1 < su n (nl n):=by rw[su_last hn]; omega
    refine ⟨c,?_,hc⟩
    simp (disch:=first|omega|decide|simp only[qai,qag,qak,qaj,qah,qae,qac,qad,qan]) only[qbp,qa6,qau,qao,qap,qam,qaf,qaN,qaq,qaz,qaI,qar,qaF,qaB,qaa,qaG,qbc,qaw,qat,qbg,qbl,zK,zL,zN,zO,zJ,zM,zI,Nat.reduceAdd,zC,zB,zE,zQ,N_gtr,Nat.reduceAdd,zQ,zI,L18b0,e1]
    rw[qcc 0 _ _ [(1,0)] (by simp only[qaA,FUEL,qaH,qaD,qaE,qaK,zS,zW,zP,zR,zk,zF,zY,ze,zC,zA,zd,zm,zg,zl,ne_eq,zq,ns_nms,qaK,h0])]
    simp (disch:=first|omega|decide|simp only[qai,qag,qak,qaj,qah,qae,qac,qad,qan]) only[zG,zF,zI,zC,zB,idx_cons,qdo,zzC,zI,List.filterMap_cons,zk,qbk,qbX,h0,ns_ren]
    rfl
theorem levels_no (k:Nat) (z:Int) (hz:¬ (1≤z∧z≤4096)):F C (k+10) 18 [I z] []=some (Nil,[],[]):=by
  rw[qch f18]
  have hic:=isCount_F (k+8) z
  rw[decide_eq_false hz] at hic
  simp (disch:=first|omega|decide|simp only[nms_B8,qcy,qcR,nms_I,qaO,nms_Bo,nms_Un,qaL,nms_Hf,qaP,qaK,qbF,qbU,qci,qck,zS,zW,zP,zR,ren_B8,qcX,qcY,ren_I,ren_N,ren_Bo,ren_Un,qa9,ren_Hf,qbM,qcd,qcj,qcl,zG,zF,ren7_I,ren7_N,qc0,qc1,qcE,qcF,nms7_I,nms7_N,qc2,qc3,qcG,qcH,qc4,qc5,implies_true,l27,l33,qai,qbh,qaW,qbd,qa8,qag,qak,qaj,qah,qae,qac,qad,qan]) only[qbb,qbp,qau,qao,qap,qam,qaf,qaq,qaz,qaI,qar,qaF,op_un,qa1,qaT,qaa,qbQ,qaw,qaY,qbg,qbl,zK,zL,zN,zO,zG,zF,zP,zV,qa5,zy,zJ,zM,qcU,qcB,calK_Bo,zI,Nat.reduceAdd,Nat.reduceSub,zB,zE,zE,zB,Nat.reduceAdd,zu,qax,qay,zI,qal,L18,hic,qal]
  rfl
end Sha
namespace Sha
open Go Go.LE
def NRow (H:Heap) (V:LV) (L:List Nat):Prop:=(L=[]∧V=Nil)∨(L≠[]∧V = .sl (1,0) 0 L.length none 1∧H (1,0)=some (ns L))
theorem app_nr (b:Nat) (H:Heap) (L:List Nat) (v:Nat) (V:LV) (h:NRow H V L) (hk2:L.length≤1000) :
    ∃ ms,appX b 1 8 1 H [] [N v] V=some ⟨.sl (b,0) 0 (L.length+1) none 1,[ns (L++[v])],ms⟩∧(ms=[]∨ms=[((1,0),none)]):=by
  rcases h with ⟨rfl,rfl⟩ | ⟨h0,rfl,h⟩
  · refine ⟨[], ?_, .inl rfl⟩
    rw[appX_nil 1 8 1 _ (by decide) (by decide)]
    rfl
  · exact app_ns b H (1,0) L v L.length none h rfl (List.length_pos_iff.2 h0) hk2 (.inl rfl)
def rlJ (n:Nat) (i:Nat) (st:St):Prop := ∃ (H:Heap) (V:LV),st=⟨[N (su n i),.undef,.undef,V,.undef,.undef,.undef,.undef,.undef,.undef,.undef,.undef,.undef,.undef,.undef,.undef,.undef,.undef,.undef,.undef,.undef,.undef,.undef,.undef,.undef],H,2,0⟩∧NRow H V ((List.range i).map (su n))
theorem rl_round (K k0 n:Nat) (hn:1≤n∧n≤4096) (i:Nat) (hi:i < nl n) (st:St) (hI:rlJ n i st) :
    ∃ st1,ev (envC C k0) K L19b0 st=some (.normal,st1)∧rlJ n (i+1) (qby L19k0 st1):=by
  obtain ⟨H,V,rfl,hV⟩:=hI
  have hm:=su_more hn hi
  have hb:=(su_le hn i).2
  have hn2:=nl_le n
  obtain ⟨ms,hap,hms⟩:=app_nr 7 (upd H (6,0) (some [N (su n i)])) ((List.range i).map (su n)) (su n i) V (by
    rcases hV with ⟨h1,h2⟩ | ⟨h1,h2,h3⟩
    · exact .inl ⟨h1,h2⟩
    · exact .inr ⟨h1,h2,by simp only[qab,zD,Nat.reduceEqDiff,zH,zA,h3]⟩) (by simp; omega)
  have hL:(List.range i).map (su n)++[su n i]=(List.range (i+1)).map (su n):=by
    rw[List.range_succ,List.map_append]; rfl
  rw[hL] at hap
  simp only[zzM,List.length_range] at hap
  simp (disch:=first|omega|decide|simp only[qai,qag,qak,qaj,qah,qae,qac,qad,qan]) only[qba,qau,qa3,qao,qap,qam,qaf,qaq,qaz,qaI,qar,qaF,qaB,qaa,qa4,qaw,qaY,zK,zL,zN,zO,zG,zF,zP,zR,zJ,zM,Nat.reduceAdd,qab,qbW,qcx,qco,qb2,zzB,zzE,zzD,zX,zC,zB,zE,Nat.le_refl,zT,zE,zB,qbY,N_quo,N_gtr,cellsOf_N,Nat.reduceAdd,zT,qbB,qb8,qb9,qbK,qbw,qax,qaM,qay,qcI,qal,L19b0,hm,qal,frontK_N,appF_N,hap]
  refine ⟨_,rfl,?_⟩
  rcases hms with rfl | rfl
  all_goals
    refine qaU [(7,0)] rfl (by simp only[qaA,FUEL,qaH,qaD,qaE,qaK,qaL,zS,zW,zP,zR,zk,zF,zY,ze,Nat.reduceEqDiff,zC,zA,zm,zg,zl,ne_eq,zq,qab,qaJ,qaC,qav,qaO,L19k0,ns_nms,qaO,qaK]) rfl ⟨_,.sl (1,0) 0 (i+1) none 1,rfl,.inr ⟨by simp,by simp,?_⟩⟩
    exact qas (7,0) rfl (by simp only[qab,zC]) (ns_ren _ _)
theorem rlevels_F (k n:Nat) (hn:1≤n∧n≤4096):F C (k+10) 19 [N n] []=some (.sl (1,0) 0 (nl n+1) none 1,[],[ns (lvs n)]):=by
  rw[qch f19]
  have e1:¬ n < 1:=by omega
  have e2:¬ 4096 < n:=by omega
  have hn2:=nl_le n
  simp (disch:=first|omega|decide|simp only[qai,qag,qak,qaj,qah,qae,qac,qad,qan]) only[qbb,qba,qau,qa3,qao,qap,qam,qaf,qaS,qbA,qaq,qaz,qaI,qar,qbq,qaF,qbr,qaB,qaa,qaw,qat,zK,zL,zN,zO,zP,zV,qa5,zy,zJ,zM,qbZ,Nat.reduceAdd,Nat.reduceSub,zB,zE,zQ,zE,zB,qbY,N_quo,qa2,N_gtr,Nat.reduceAdd,zQ,qax,qay,qal,L19,e1,e2,qal]
  generalize hL:qca L19k0 _ _ _=r
  refine qbJ hL (rlJ n) (nl n) (by omega) (fun i st hi hI=>rl_round _ _ n hn i hi st hI) ?_ ?_ ?_
  · refine qaU [] rfl (by simp only[qaA,FUEL,qaE,qaL,zS,zW,zR,zk,zF,zg,qaJ,qaC,qav,qaO,qbu,L19k0,qaO,qbu]) rfl ⟨_,Nil,rfl,.inl ⟨rfl,rfl⟩⟩
  · rintro st ⟨H, V, rfl, hV⟩
    apply qbs
    have e1:¬ 1 < su n (nl n):=by rw[su_last hn]; omega
    simp (disch:=first|omega|decide|simp only[qai,qag,qak,qaj,qah,qae,qac,qad,qan]) only[qa6,qau,qao,qap,qam,qaf,qaN,qaq,qaz,qaI,qar,qaF,qaB,qaa,qaG,qaw,qat,zK,zL,zN,zO,zJ,zM,Nat.reduceAdd,zB,zE,zQ,N_gtr,Nat.reduceAdd,zQ,L19b0,e1]
    rfl
  · rintro st ⟨H, V, rfl, hV⟩ rfl
    have e1:¬ 1 < su n (nl n):=by rw[su_last hn]; omega
    obtain ⟨ms,hap,hms⟩:=app_nr 6 (upd H (5,0) (some [N 1])) ((List.range (nl n)).map (su n)) 1 V (by
      rcases hV with ⟨h1,h2⟩ | ⟨h1,h2,h3⟩
      · exact .inl ⟨h1,h2⟩
      · exact .inr ⟨h1,h2,by simp only[qab,zD,Nat.reduceEqDiff,zH,zA,h3]⟩) (by simp; omega)
    have hL:(List.range (nl n)).map (su n)++[1]=lvs n:=by
      rw[lvs,List.range_succ,List.map_append]
      simp[su_last hn]
    rw[hL] at hap
    simp only[zzM,List.length_range] at hap
    simp (disch:=first|omega|decide|simp only[qai,qag,qak,qaj,qah,qae,qac,qad,qan]) only[qbp,qa6,qau,qao,qap,qam,qaf,qaq,qaz,qaI,qar,qaF,qaB,qaa,qaG,qbc,qaw,qat,qbg,qbl,zK,zL,zN,zO,zG,zF,zP,zR,zJ,zM,zI,Nat.reduceAdd,qab,qbW,qcx,qco,qb2,zzB,zzE,zzD,zX,zC,zB,zE,Nat.le_refl,zQ,zE,zB,N_gtr,cellsOf_N,Nat.reduceAdd,zQ,qbB,qb8,qb9,qcb,qbK,qbw,qax,qaM,qay,zI,qcI,qal,L19b0,e1,qal,frontK_N,hap]
    rcases hms with rfl | rfl
    all_goals
      rw[qcc 0 _ _ [(6,0)] (by simp only[qaA,FUEL,qaH,qaD,qaE,qaK,zS,zW,zP,zR,zk,zF,zY,ze,Nat.reduceEqDiff,zC,zA,zm,zg,zl,ne_eq,zq,qab,ns_nms,qaK])]
      simp (disch:=first|omega|decide|simp only[qai,qag,qak,qaj,qah,qae,qac,qad,qan]) only[zG,zF,zI,qab,zD,Nat.reduceEqDiff,zH,false_and,zC,zA,zB,zi,idx_cons,qdo,qay,qa0,zzC,zI,List.filterMap_cons,zk,qbk,qbX,ns_ren]
theorem rlevels_no (k:Nat) (z:Int) (hz:¬ (1≤z∧z≤4096)):F C (k+10) 19 [I z] []=some (Nil,[],[]):=by
  rw[qch f19]
  by_cases h1:z < 1
  · have e1 : decide (z < ((1 : Nat) : Int)) = true := by simpa using h1
    simp (disch:=first|omega|decide|simp only[qai,qag,qak,qaj,qah,qae,qac,qad,qan]) only[qbb,qbp,qau,qao,qap,qam,qaf,qaS,qcO,qaq,qaz,qaI,qar,qb0,qaF,qbr,qaB,qaa,qbQ,qaw,qaY,qbg,qbl,zK,zL,zN,zO,zP,zV,qa5,zy,zJ,zM,zI,Nat.reduceAdd,Nat.reduceSub,zB,zE,zE,zB,Nat.reduceAdd,qax,qay,zI,qal,L19,I_lssN,e1,qal]
    rfl
  · have e1 : decide (z < ((1 : Nat) : Int)) = false := by simpa using h1
    have e2:decide (((4096:Nat):Int) < z)=true:=by simp; omega
    simp (disch:=first|omega|decide|simp only[qai,qag,qak,qaj,qah,qae,qac,qad,qan]) only[qbb,qbp,qau,qao,qap,qam,qaf,qaS,qbA,qaq,qaz,qaI,qar,qbq,qaF,qbr,qaB,qaa,qbQ,qaw,qaY,qbg,qbl,zK,zL,zN,zO,zP,zV,qa5,zy,zJ,zM,zI,Nat.reduceAdd,Nat.reduceSub,zB,zE,zE,zB,Nat.reduceAdd,qax,qay,zI,qal,L19,I_lssN,I_gtrN,e1,e2,qal]
    rfl
end Sha
namespace Sha
open Go Go.LE
def bad (b:List (BitVec 8)):Bool:=b.length != 512
theorem len512_F (k:Nat) (b:List (BitVec 8)):F C (k+1) 47 [.isl (bs b) b.length] []=some (Bo (bad b),[],[]):=by
  rw[qch f47]
  simp (disch:=first|omega|decide|simp only[nms_B8,qcy,qcR,nms_I,qaO,nms_Bo,nms_Un,qaL,nms_Hf,qaP,qaK,qbF,qbU,qci,qck,zS,zW,zP,zR,ren_B8,qcX,qcY,ren_I,ren_N,ren_Bo,ren_Un,qa9,ren_Hf,qbM,qcd,qcj,qcl,zG,zF,ren7_I,ren7_N,qc0,qc1,qcE,qcF,nms7_I,nms7_N,qc2,qc3,qcG,qcH,qc4,qc5,implies_true,l10,l11,l12,l18,l19,l20,l24,l25,l27,l28,l33,l35,l38,l40,l41,l43,l44,l45,l47,l48,l49,l50,l51,l52,l53,l55,l56,l57,qai,qbh,qaW,qbd,qa8,qag,qak,qaj,qah,qae,qac,qad,qan]) only[qbb,qbp,qau,qao,qap,qam,qaf,qaq,qaz,qaI,qar,qaF,qaB,qaa,qbg,qbl,zK,zL,zN,zO,zP,zV,qa5,zy,zJ,zM,qct,zI,Nat.reduceAdd,Nat.reduceSub,zB,zE,N_neq,decide_not,Nat.reduceAdd,qbi,qaV,qbD,qax,qay,zI,qal,L47]
  simp[bad,bne,Bool.beq_eq_decide_eq]
theorem fn_nms (g:FuncId):nms D (.fn (.func g) [] [])=[]:=nf rfl
theorem fn_ren (π:Nm→Option Nm) (g:FuncId):ren D π (.fn (.func g) [] []) = .fn (.func g) [] []:=nf rfl
theorem call_isl (k b g:Nat) (H:Heap) (args:List LV) (r:LV) (hs:lend H (lentF g) 0 args=some (args,[])) (hn:args.flatMap (nms D)=[]) (ha:args.map (ren D (qc7 []))=args)
    (hw:F C k g args []=some (r,[],[])) (hr:∀ π,ren D π r=r):qb1 (envC C k) H b g args=some ⟨r,[],[]⟩:=by
  rw[callOp_L,envC_borrow,C_bor,hs,callL_some,hn,show reach H FUEL [] []=[] from rfl,callN_eq _ _ _ _ _ rfl,ha,zzC,zF,envC_cal,hw,show ([]:List Nm).isEmpty=true from rfl,resK_sc,qc9,hr]
  rfl
def xJ (L:List (List (BitVec 8))) (i:Nat) (st:St):Prop := ∃ (H:Heap),st=⟨[.isl (sls L) L.length,.fn (.func 47) [] [],.undef,.undef,.undef,.undef,.undef,N L.length,N i,.undef,.undef,.undef,.undef,.undef,.undef,.undef,.undef,.undef,.undef],H,2,0⟩
theorem x_good (K k0:Nat) (L:List (List (BitVec 8))) (hk:L.length≤1000000) (i:Nat) (hi:i < L.length) (hb:bad (L.getD i [])=false) (st:St) (hI:xJ L i st) :
    ∃ st1,ev (envC C (k0+1)) K L54b0 st=some (.normal,st1)∧xJ L (i+1) (qby L54k0 st1):=by
  obtain ⟨H,rfl⟩:=hI
  have hc:=fun (H:Heap)=>sls_cell (H:=H) L i hi
  have h47:=len512_F k0 (L.getD i [])
  rw[hb] at h47
  apply Exists.intro
  apply And.intro
  · simp (disch := first | omega | decide | simp only [nms_B8, qcy, qcR, nms_I, qaO, nms_Bo, nms_Un, qaL, nms_Hf, qaP, qaK, qbF, qbU, qci, qck, zS, zW, zP, zR, ren_B8, qcX, qcY, ren_I, ren_N, ren_Bo, ren_Un, qa9, ren_Hf, qbM, qcd, qcj, qcl, zG, zF, ren7_I, ren7_N, qc0, qc1, qcE, qcF, nms7_I, nms7_N, qc2, qc3, qcG, qcH, qc4, qc5, implies_true, l10, l11, l12, l18, l19, l20, l24, l25, l27, l28, l33, l35, l38, l40, l41, l43, l44, l45, l47, l48, l49, l50, l51, l52, l53, l55, l56, l57, qai, qbh, qaW, qbd, qa8, qag, qak, qaj, qah, qae, qac, qad, qan]) only [qba, qau, qa3, qao, qap, qam, qaf, qaq, qaz, qaI, qar, qaF, qaB, qa1, qaT, qaa, qa4, qaw, qaY, qat, zK, zL, zN, zO, zG, zF, zJ, zM, qcB, calK_Bo, Nat.reduceAdd, qbe, qbx, zB, zE, zT, zZ, zE, zB, qbY, qa2, qbO, Nat.reduceAdd, zT, qb7, qbC, qax, qay, zZ, qal, L54b0, hi, qbC, zZ, hc, qal, h47]
    rfl
  · refine qaU [] rfl (by simp only [qaA, FUEL, qaE, qaL, zS, zW, zR, zk, zF, zg, qaJ, qaC, qav, qaO, L54k0, qcJ, fn_nms, qaO]) ?_ ⟨_, rfl⟩
    simp only[L54k0,zG,zF,qaC,qav,qaJ,qa9,qc6,fn_ren]
    rfl
theorem index_F (k:Nat) (L:List (List (BitVec 8))) (q:Nat) (hq:q≤L.length) (hk:L.length≤1000000) (hg:∀ i,i < q→bad (L.getD i [])=false) (hbad:q < L.length→bad (L.getD q [])=true) :
    F C (k+L.length+5) 54 [.isl (sls L) L.length,.fn (.func 47) [] []] []=some (if q < L.length then N q else I (-1),[],[]):=by
  rw[qch f54]
  simp (disch:=first|omega|decide|simp only[nms_B8,qcy,qcR,nms_I,qaO,nms_Bo,nms_Un,qaL,nms_Hf,qaP,qaK,qbF,qbU,qci,qck,zS,zW,zP,zR,ren_B8,qcX,qcY,ren_I,ren_N,ren_Bo,ren_Un,qa9,ren_Hf,qbM,qcd,qcj,qcl,zG,zF,ren7_I,ren7_N,qc0,qc1,qcE,qcF,nms7_I,nms7_N,qc2,qc3,qcG,qcH,qc4,qc5,implies_true,l10,l11,l12,l18,l19,l20,l24,l25,l27,l28,l33,l35,l38,l40,l41,l43,l44,l45,l47,l48,l49,l50,l51,l52,l53,l55,l56,l57,qai,qbh,qaW,qbd,qa8,qag,qak,qaj,qah,qae,qac,qad,qan]) only[qbb,qau,qa3,qao,qap,qam,qaf,qaq,qaz,qaI,qaF,qaa,zK,zL,zN,zO,zP,zV,qa5,zy,zJ,zM,qbZ,Nat.reduceAdd,Nat.reduceSub,zB,zE,zE,zB,Nat.reduceAdd,qbi,qaV,qbD,qax,qay,qal,L54]
  generalize hL:qca L54k0 _ _ _=r
  refine qbJ hL (xJ L) q (by omega) (fun i st hi hI=>x_good _ _ L hk i (by omega) (hg i hi) st hI) ?_ ?_ ?_
  · refine qaU [] rfl (by simp only [qaA, FUEL, qaE, qaL, zS, zW, zR, zk, zF, zg, qaJ, qaC, qav, qaO, L54k0, qcJ, fn_nms, qaO]) ?_ ⟨_, rfl⟩
    simp only[L54k0,zG,zF,qaC,qav,qaJ,qa9,qc6,fn_ren]
    rfl
  · rintro st ⟨H, rfl⟩
    by_cases hlt:q < L.length
    · have hc := fun (H : Heap) => sls_cell (H := H) L q hlt
      have h47:=len512_F (k+L.length+3) (L.getD q [])
      rw[hbad hlt] at h47
      apply stop_ret
      simp (disch:=first|omega|decide|simp only[nms_B8,qcy,qcR,nms_I,qaO,nms_Bo,nms_Un,qaL,nms_Hf,qaP,qaK,qbF,qbU,qci,qck,zS,zW,zP,zR,ren_B8,qcX,qcY,ren_I,ren_N,ren_Bo,ren_Un,qa9,ren_Hf,qbM,qcd,qcj,qcl,zG,zF,ren7_I,ren7_N,qc0,qc1,qcE,qcF,nms7_I,nms7_N,qc2,qc3,qcG,qcH,qc4,qc5,implies_true,l10,l11,l12,l18,l19,l20,l24,l25,l27,l28,l33,l35,l38,l40,l41,l43,l44,l45,l47,l48,l49,l50,l51,l52,l53,l55,l56,l57,qai,qbh,qaW,qbd,qa8,qag,qak,qaj,qah,qae,qac,qad,qan]) only[qba,qbp,qau,qa3,qao,qap,qam,qaf,qaq,qaz,qar,qaF,qaB,qa1,qaT,qaa,qbQ,qdm,qaw,qaY,zK,zL,zN,zO,zG,zF,zJ,zM,qcB,calK_Bo,Nat.reduceAdd,qbe,qbx,zB,zE,zT,zZ,zE,zB,qa2,qbO,Nat.reduceAdd,zT,qb7,qbC,qax,qay,zZ,qal,L54b0,hlt,qbC,zZ,hc,qal,h47]
      rfl
    · apply qbs
      simp (disch:=first|omega|decide|simp only[nms_B8,qcy,qcR,nms_I,qaO,nms_Bo,nms_Un,qaL,nms_Hf,qaP,qaK,qbF,qbU,qci,qck,zS,zW,zP,zR,ren_B8,qcX,qcY,ren_I,ren_N,ren_Bo,ren_Un,qa9,ren_Hf,qbM,qcd,qcj,qcl,zG,zF,ren7_I,ren7_N,qc0,qc1,qcE,qcF,nms7_I,nms7_N,qc2,qc3,qcG,qcH,qc4,qc5,implies_true,l10,l11,l12,l18,l19,l20,l24,l25,l27,l28,l33,l35,l38,l40,l41,l43,l44,l45,l47,l48,l49,l50,l51,l52,l53,l55,l56,l57,qai,qbh,qaW,qbd,qa8,qag,qak,qaj,qah,qae,qac,qad,qan]) only[qa6,qau,qao,qap,qam,qaf,qaN,qaq,qaz,qar,qaB,qaa,qaG,qaw,qat,zK,zL,zN,zO,zJ,zM,Nat.reduceAdd,zB,zE,zQ,qa2,Nat.reduceAdd,zQ,L54b0,hlt]
      rfl
  · rintro st ⟨H, rfl⟩ rfl
    by_cases hlt:q < L.length
    · have hc := fun (H : Heap) => sls_cell (H := H) L q hlt
      have h47:=len512_F (k+L.length+3) (L.getD q [])
      rw[hbad hlt] at h47
      simp (disch:=first|omega|decide|simp only[nms_B8,qcy,qcR,nms_I,qaO,nms_Bo,nms_Un,qaL,nms_Hf,qaP,qaK,qbF,qbU,qci,qck,zS,zW,zP,zR,ren_B8,qcX,qcY,ren_I,ren_N,ren_Bo,ren_Un,qa9,ren_Hf,qbM,qcd,qcj,qcl,zG,zF,ren7_I,ren7_N,qc0,qc1,qcE,qcF,nms7_I,nms7_N,qc2,qc3,qcG,qcH,qc4,qc5,implies_true,l10,l11,l12,l18,l19,l20,l24,l25,l27,l28,l33,l35,l38,l40,l41,l43,l44,l45,l47,l48,l49,l50,l51,l52,l53,l55,l56,l57,qai,qbh,qaW,qbd,qa8,qag,qak,qaj,qah,qae,qac,qad,qan]) only[qba,qbp,qau,qa3,qao,qap,qam,qaf,qaq,qaz,qar,qaF,qaB,qa1,qaT,qaa,qbQ,qdm,qaw,qaY,qbg,qbl,zK,zL,zN,zO,zG,zF,zJ,zM,qcB,calK_Bo,zI,Nat.reduceAdd,qbe,qbx,zC,zB,zE,zT,zZ,zE,zB,qa2,qbO,outOf_N,Nat.reduceAdd,zT,qb7,qbC,qax,qay,zI,zZ,qal,L54b0,hlt,qbC,zZ,hc,qal,h47]
    · simp (disch:=first|omega|decide|simp only[nms_B8,qcy,qcR,nms_I,qaO,nms_Bo,nms_Un,qaL,nms_Hf,qaP,qaK,qbF,qbU,qci,qck,zS,zW,zP,zR,ren_B8,qcX,qcY,ren_I,ren_N,ren_Bo,ren_Un,qa9,ren_Hf,qbM,qcd,qcj,qcl,zG,zF,ren7_I,ren7_N,qc0,qc1,qcE,qcF,nms7_I,nms7_N,qc2,qc3,qcG,qcH,qc4,qc5,implies_true,l10,l11,l12,l18,l19,l20,l24,l25,l27,l28,l33,l35,l38,l40,l41,l43,l44,l45,l47,l48,l49,l50,l51,l52,l53,l55,l56,l57,qai,qbh,qaW,qbd,qa8,qag,qak,qaj,qah,qae,qac,qad,qan]) only[qbp,qa6,qau,qao,qap,qam,qaf,qaN,qaq,qaz,qaI,qar,qaF,qaB,qaa,qaG,qbc,qaw,qat,qbg,qbl,zK,zL,zN,zO,zJ,zM,outOf_I,zI,Nat.reduceAdd,zC,zA,zB,zE,zQ,qa2,Nat.reduceAdd,zQ,zI,L54b0,hlt]
theorem contains_F (k:Nat) (L:List (List (BitVec 8))) (hk:L.length≤1000000):F C (k+L.length+6) 46 [.isl (sls L) L.length,.fn (.func 47) [] []] []=some (Bo (L.any bad),[],[]):=by
  obtain ⟨q,hq,hg,hb,he⟩:∃ q,q≤L.length∧(∀ i,i < q→bad (L.getD i [])=false)∧(q < L.length→bad (L.getD q [])=true)∧(L.any bad=decide (q < L.length)):=by
    induction L with
    | nil=>exact ⟨0,Nat.le_refl _,fun i h=>by omega,fun h=>absurd h (by simp),rfl⟩
    | cons b L ih =>
      cases hb:bad b with
      | true=>exact ⟨0,by simp,fun i h=>by omega,fun _=>hb,by simp[hb]⟩
      | false =>
        obtain ⟨q,h1,h2,h3,h4⟩:=ih (by simp at hk; omega)
        refine ⟨q+1,by simpa using h1,fun i hi => ?_,fun h => ?_,?_⟩
        · cases i with
          | zero=>exact hb
          | succ i=>simpa using h2 i (by omega)
        · simpa using h3 (by simpa using h)
        · rw[List.any_cons,hb,h4]; simp
  have hi:=index_F k L q hq hk hg hb
  have hcl:=fun (b:Nat) (H:Heap)=>call_isl (k+L.length+5) b 54 H _ _ rfl (by rw[zS,qcJ]; rfl) (by rw[zG,qc6]; rfl) hi (by intro π; split <;> rfl)
  rw[he]
  rw[qch f46]
  by_cases hlt:q < L.length
  · rw [decide_eq_true hlt]
    simp only[if_pos hlt] at hcl
    simp (disch:=first|omega|decide|simp only[nms_B8,qcy,qcR,nms_I,qaO,nms_Bo,nms_Un,qaL,nms_Hf,qaP,qaK,qbF,qbU,qci,qck,zS,zW,zP,zR,ren_B8,qcX,qcY,ren_I,ren_N,ren_Bo,ren_Un,qa9,ren_Hf,qbM,qcd,qcj,qcl,zG,zF,ren7_I,ren7_N,qc0,qc1,qcE,qcF,nms7_I,nms7_N,qc2,qc3,qcG,qcH,qc4,qc5,implies_true,l10,l11,l12,l18,l19,l20,l24,l25,l27,l28,l33,l35,l38,l40,l41,l43,l44,l45,l47,l48,l49,l50,l51,l52,l53,l55,l56,l57,qai,qbh,qaW,qbd,qa8,qag,qak,qaj,qah,qae,qac,qad,qan]) only[qbb,qbp,qau,qao,qap,qam,qaf,qaq,qaz,qaI,qar,qaF,qaB,qa1,qaT,qaa,qbg,qbl,zK,zL,zN,zO,zG,zF,zP,zV,qa5,zy,zJ,zM,qct,zI,Nat.reduceAdd,Nat.reduceSub,zB,zE,N_geq,Nat.reduceAdd,qax,qay,zI,qal,L46,hcl,qal]
    rw[decide_eq_true (Nat.zero_le q)]
  · rw [decide_eq_false hlt]
    simp only[if_neg hlt] at hcl
    simp (disch:=first|omega|decide|simp only[nms_B8,qcy,qcR,nms_I,qaO,nms_Bo,nms_Un,qaL,nms_Hf,qaP,qaK,qbF,qbU,qci,qck,zS,zW,zP,zR,ren_B8,qcX,qcY,ren_I,ren_N,ren_Bo,ren_Un,qa9,ren_Hf,qbM,qcd,qcj,qcl,zG,zF,ren7_I,ren7_N,qc0,qc1,qcE,qcF,nms7_I,nms7_N,qc2,qc3,qcG,qcH,qc4,qc5,implies_true,l10,l11,l12,l18,l19,l20,l24,l25,l27,l28,l33,l35,l38,l40,l41,l43,l44,l45,l47,l48,l49,l50,l51,l52,l53,l55,l56,l57,qai,qbh,qaW,qbd,qa8,qag,qak,qaj,qah,qae,qac,qad,qan]) only[qbb,qbp,qau,qao,qap,qam,qaf,qaq,qaz,qaI,qar,qaF,qaB,qa1,qaT,qaa,qbg,qbl,zK,zL,zN,zO,zG,zF,zP,zV,qa5,zy,zJ,zM,qct,zI,Nat.reduceAdd,Nat.reduceSub,zB,zE,Nat.reduceAdd,qax,qay,zI,qal,L46,hcl,qal,I_geqN]
    rfl
theorem row_new (k b g:Nat) (H:Heap) (n:Nat) (hb:lentF g=fun _=>false) (m:Nat) (c:Option Nat) (L:List Nat) (hw:F C k g [N n] []=some (.sl (1,0) 0 m c 1,[],[ns L])) :
    qb1 (envC C k) H b g [N n]=some ⟨.sl (b,0) 0 m c 1,[ns L],[]⟩:=by
  rw[qcB hb rfl rfl,hw]
  simp only[calK,qc9,zG,zF,ns_ren,List.zipWith_nil_left]
  rfl
def rightB (z:Int) (L:List (List (BitVec 8))):Bool:=decide (1≤z∧z≤4096) && (decide (L.length=nl z.toNat+1) && !(L.any bad))
theorem rgt_F (k:Nat) (z:Int) (L:List (List (BitVec 8))):F C (k+30) 34 [I z,.isl (sls L) L.length] []=some (Bo (rightB z L),[],[]):=by
  rw[qch f34]
  have hic:=isCount_F (k+28) z
  by_cases hz:1≤z∧z≤4096
  · obtain ⟨n, rfl⟩ : ∃ n : Nat, z = (n : Int) := ⟨z.toNat, by omega⟩
    have hn:1≤n∧n≤4096:=by omega
    rw[decide_eq_true hz] at hic
    obtain ⟨c,hlv,_⟩:=levels_F (k+19) n hn
    have hl:=fun (b:Nat) (H:Heap)=>row_new (k+29) b 18 H n l18 _ _ _ hlv
    have hn2:=nl_le n
    rw[rightB,decide_eq_true hz,Int.toNat_natCast]
    rw[show I (n:Int)=N n from rfl] at hic ⊢
    by_cases hlen:L.length=nl n+1
    · have hct := contains_F (k + 29 - L.length - 6) L (by omega)
      rw[show k+29 - L.length - 6+L.length+6=k+29 by omega] at hct
      have hcl:=fun (b:Nat) (H:Heap)=>call_isl (k+29) b 46 H _ _ rfl (by rw[zS,qcJ]; rfl) (by rw[zG,qc6]; rfl) hct (by intro π; rfl)
      have e1:=decide_eq_true hlen
      rw[e1]
      simp (disch:=first|omega|decide|simp only[nms_B8,qcy,qcR,nms_I,qaO,nms_Bo,nms_Un,qaL,nms_Hf,qaP,qaK,qbF,qbU,qci,qck,zS,zW,zP,zR,ren_B8,qcX,qcY,ren_I,ren_N,ren_Bo,ren_Un,qa9,ren_Hf,qbM,qcd,qcj,qcl,zG,zF,ren7_I,ren7_N,qc0,qc1,qcE,qcF,nms7_I,nms7_N,qc2,qc3,qcG,qcH,qc4,qc5,implies_true,l10,l11,l12,l18,l19,l20,l24,l25,l27,l28,l33,l35,l38,l40,l41,l43,l44,l45,l47,l48,l49,l50,l51,l52,l53,l55,l56,l57,qai,qbh,qaW,qbd,qa8,qag,qak,qaj,qah,qae,qac,qad,qan]) only[qbb,qbp,qau,qao,qap,qam,qaf,qaS,qcC,qaq,qaz,qaI,qar,qb0,qaF,qbr,qaB,op_un,qa1,qaT,qaa,qbg,qbl,zK,zL,zN,zO,zG,zF,zP,zV,qa5,zy,zJ,zM,qcU,qcB,calK_Bo,qct,zI,Nat.reduceAdd,Nat.reduceSub,Bool.true_and,zB,zE,N_eql,Nat.reduceAdd,qbi,qaV,qbL,qbD,qax,qaM,qay,zI,qal,L34,hic,hl,hcl,e1,qal]
    · have e1 := decide_eq_false hlen
      rw[e1]
      simp (disch:=first|omega|decide|simp only[nms_B8,qcy,qcR,nms_I,qaO,nms_Bo,nms_Un,qaL,nms_Hf,qaP,qaK,qbF,qbU,qci,qck,zS,zW,zP,zR,ren_B8,qcX,qcY,ren_I,ren_N,ren_Bo,ren_Un,qa9,ren_Hf,qbM,qcd,qcj,qcl,zG,zF,ren7_I,ren7_N,qc0,qc1,qcE,qcF,nms7_I,nms7_N,qc2,qc3,qcG,qcH,qc4,qc5,implies_true,l10,l11,l12,l18,l19,l20,l24,l25,l27,l28,l33,l35,l38,l40,l41,l43,l44,l45,l47,l48,l49,l50,l51,l52,l53,l55,l56,l57,qai,qbh,qaW,qbd,qa8,qag,qak,qaj,qah,qae,qac,qad,qan]) only[qbb,qbp,qau,qao,qap,qam,qaf,qaS,qcC,guardK_false,qaq,qaz,qaI,qar,qb0,qbq,qaF,qbr,qaB,qa1,qaT,qaa,qbg,qbl,zK,zL,zN,zO,zG,zF,zP,zV,qa5,zy,zJ,zM,qcB,calK_Bo,qct,zI,Nat.reduceAdd,Nat.reduceSub,Bool.true_and,zB,zE,N_eql,Nat.reduceAdd,qbi,qaV,qbL,qbD,qax,qaM,qay,zI,qal,L34,hic,hl,e1,qal]
      rfl
  · rw [decide_eq_false hz] at hic
    rw[rightB,decide_eq_false hz]
    simp (disch:=first|omega|decide|simp only[nms_B8,qcy,qcR,nms_I,qaO,nms_Bo,nms_Un,qaL,nms_Hf,qaP,qaK,qbF,qbU,qci,qck,zS,zW,zP,zR,ren_B8,qcX,qcY,ren_I,ren_N,ren_Bo,ren_Un,qa9,ren_Hf,qbM,qcd,qcj,qcl,zG,zF,ren7_I,ren7_N,qc0,qc1,qcE,qcF,nms7_I,nms7_N,qc2,qc3,qcG,qcH,qc4,qc5,implies_true,l10,l11,l12,l18,l19,l20,l24,l25,l27,l28,l33,l35,l38,l40,l41,l43,l44,l45,l47,l48,l49,l50,l51,l52,l53,l55,l56,l57,qai,qbh,qaW,qbd,qa8,qag,qak,qaj,qah,qae,qac,qad,qan]) only[qbb,qbp,qau,qao,qap,qam,qaf,qaS,guardK_false,qaq,qaz,qaI,qar,qbq,qaF,qbr,qa1,qaT,qaa,qbg,qbl,zK,zL,zN,zO,zG,zF,zP,zV,qa5,zy,zJ,zM,qcB,calK_Bo,qct,zI,Nat.reduceAdd,Nat.reduceSub,zB,zE,Nat.reduceAdd,qax,qay,zI,qal,L34,hic,qal]
    rfl
def yJ (L:List (List (BitVec 8))) (i:Nat) (st:St):Prop := ∃ (H:Heap),st=⟨[.undef,.isl (sls L) L.length,.undef,.undef,.undef,.undef,N i,.undef,.undef,.undef,.undef,.undef,.undef,.undef,.undef,.undef,.undef,.undef,.undef,.undef,.undef,.undef,.undef,.undef,.undef,.undef,.undef,.undef,.undef,.undef,.undef],H,2,0⟩
theorem y_good (K k0:Nat) (L:List (List (BitVec 8))) (hk:L.length≤1000000) (i:Nat) (hi:i < L.length) (hb:bad (L.getD i [])=false) (st:St) (hI:yJ L i st) :
    ∃ st1,ev (envC C k0) K L37b0 st=some (.normal,st1)∧yJ L (i+1) (qby L37k0 st1):=by
  obtain ⟨H,rfl⟩:=hI
  have hc:=fun (H:Heap)=>sls_cell (H:=H) L i hi
  have e2:decide ((L.getD i []).length≠512)=false:=by simpa [bad] using hb
  apply Exists.intro
  apply And.intro
  · simp (disch := first | omega | decide | simp only [nms_B8, qcy, qcR, nms_I, qaO, nms_Bo, nms_Un, qaL, nms_Hf, qaP, qaK, qbF, qbU, qci, qck, zS, zW, zP, zR, ren_B8, qcX, qcY, ren_I, ren_N, ren_Bo, ren_Un, qa9, ren_Hf, qbM, qcd, qcj, qcl, zG, zF, ren7_I, ren7_N, qc0, qc1, qcE, qcF, nms7_I, nms7_N, qc2, qc3, qcG, qcH, qc4, qc5, implies_true, l10, l11, l12, l18, l19, l20, l24, l25, l27, l28, l33, l35, l38, l40, l41, l43, l44, l45, l47, l48, l49, l50, l51, l52, l53, l55, l56, l57, qai, qbh, qaW, qbd, qa8, qag, qak, qaj, qah, qae, qac, qad, qan]) only [qba, qau, qa3, qao, qap, qam, qaf, qaq, qaz, qaI, qar, qaF, qaB, qaa, qa4, qaw, qaY, qat, zK, zL, zN, zO, zJ, zM, Nat.reduceAdd, qbe, qbx, zB, zE, zT, zZ, zE, zB, qbY, N_neq, qa2, qbO, Nat.reduceAdd, zT, qbi, qaV, qbD, qb7, qbC, qax, qay, zZ, qal, L37b0, hi, qbC, zZ, hc, qal, e2]
    rfl
  · refine qaU [] rfl (by simp only [qaA, FUEL, qaE, qaL, zS, zW, zR, zk, zF, zg, qaJ, qaC, qav, qaO, L37k0, qcJ, qaO]) ?_ ⟨_, rfl⟩
    simp only[L37k0,zG,zF,qaC,qav,qaJ,qa9,qc6]
    rfl
theorem first_bad (L:List (List (BitVec 8))):∃ q,q≤L.length∧(∀ i,i < q→bad (L.getD i [])=false)∧(q < L.length→bad (L.getD q [])=true)∧(L.any bad=decide (q < L.length)):=by
  induction L with
  | nil=>exact ⟨0,Nat.le_refl _,fun i h=>by omega,fun h=>absurd h (by simp),rfl⟩
  | cons b L ih =>
    cases hb:bad b with
    | true=>exact ⟨0,by simp,fun i h=>by omega,fun _=>hb,by simp[hb]⟩
    | false =>
      obtain ⟨q,h1,h2,h3,h4⟩:=ih
      refine ⟨q+1,by simpa using h1,fun i hi => ?_,fun h => ?_,?_⟩
      · cases i with
        | zero=>exact hb
        | succ i=>simpa using h2 i (by omega)
      · simpa using h3 (by simpa using h)
      · rw[List.any_cons,hb,h4]; simp
theorem rrgt_F (k:Nat) (z:Int) (L:List (List (BitVec 8))):F C (k+30) 37 [I z,.isl (sls L) L.length] []=some (Bo (rightB z L),[],[]):=by
  rw[qch f37]
  by_cases hz:1≤z∧z≤4096
  · obtain ⟨n, rfl⟩ : ∃ n : Nat, z = (n : Int) := ⟨z.toNat, by omega⟩
    have hn:1≤n∧n≤4096:=by omega
    have hlv:=rlevels_F (k+19) n hn
    have hl:=fun (b:Nat) (H:Heap)=>row_new (k+29) b 19 H n l19 _ _ _ hlv
    have hn2:=nl_le n
    rw[rightB,decide_eq_true hz,Int.toNat_natCast]
    rw[show I (n:Int)=N n from rfl]
    by_cases hlen:L.length=nl n+1
    · have e1 := decide_eq_true hlen
      have e3:decide (L.length≠nl n+1)=false:=decide_eq_false (fun h=>h hlen)
      rw[e1]
      simp (disch:=first|omega|decide|simp only[nms_B8,qcy,qcR,nms_I,qaO,nms_Bo,nms_Un,qaL,nms_Hf,qaP,qaK,qbF,qbU,qci,qck,zS,zW,zP,zR,ren_B8,qcX,qcY,ren_I,ren_N,ren_Bo,ren_Un,qa9,ren_Hf,qbM,qcd,qcj,qcl,zG,zF,ren7_I,ren7_N,qc0,qc1,qcE,qcF,nms7_I,nms7_N,qc2,qc3,qcG,qcH,qc4,qc5,implies_true,l10,l11,l12,l18,l19,l20,l24,l25,l27,l28,l33,l35,l38,l40,l41,l43,l44,l45,l47,l48,l49,l50,l51,l52,l53,l55,l56,l57,qai,qbh,qaW,qbd,qa8,qag,qak,qaj,qah,qae,qac,qad,qan]) only[qbb,qba,qau,qa3,qao,qap,qam,qaf,qaS,qbA,qaq,qaz,qaI,qar,qbq,qaF,qbr,qaB,qa1,qaT,qaa,qaw,qat,zK,zL,zN,zO,zG,zF,zP,zV,qa5,zy,zJ,zM,qbZ,Nat.reduceAdd,Nat.reduceSub,Bool.true_and,Nat.reduceEqDiff,zB,zE,zQ,N_eql,N_neq,Nat.reduceEqDiff,Nat.reduceAdd,zQ,qbi,qaV,qbL,qbD,qax,qaM,qay,qal,L37,hl,e3,qal]
      generalize hL:qca L37k0 _ _ _=r
      obtain ⟨q,hq,hg,hb,he⟩:=first_bad L
      refine qbJ hL (yJ L) q (by omega) (fun i st hi hI=>y_good _ _ L (by omega) i (by omega) (hg i hi) st hI) ?_ ?_ ?_
      · refine qaU [] rfl (by simp only [qaA, FUEL, qaE, qaL, zS, zW, zR, zk, zF, zg, qaJ, qaC, qav, qaO, L37k0, qcJ, qaO]) ?_ ⟨_, rfl⟩
        simp only[L37k0,zG,zF,qaC,qav,qaJ,qa9,qc6]
        rfl
      · rintro st ⟨H, rfl⟩
        by_cases hlt:q < L.length
        · have hc := fun (H : Heap) => sls_cell (H := H) L q hlt
          have e2:decide ((L.getD q []).length≠512)=true:=by simpa [bad] using hb hlt
          apply stop_ret
          simp (disch:=first|omega|decide|simp only[nms_B8,qcy,qcR,nms_I,qaO,nms_Bo,nms_Un,qaL,nms_Hf,qaP,qaK,qbF,qbU,qci,qck,zS,zW,zP,zR,ren_B8,qcX,qcY,ren_I,ren_N,ren_Bo,ren_Un,qa9,ren_Hf,qbM,qcd,qcj,qcl,zG,zF,ren7_I,ren7_N,qc0,qc1,qcE,qcF,nms7_I,nms7_N,qc2,qc3,qcG,qcH,qc4,qc5,implies_true,l10,l11,l12,l18,l19,l20,l24,l25,l27,l28,l33,l35,l38,l40,l41,l43,l44,l45,l47,l48,l49,l50,l51,l52,l53,l55,l56,l57,qai,qbh,qaW,qbd,qa8,qag,qak,qaj,qah,qae,qac,qad,qan]) only[qba,qbp,qau,qa3,qao,qap,qam,qaf,qaq,qaz,qaI,qar,qaF,qaB,qaa,qbQ,qdm,qaw,qaY,zK,zL,zN,zO,zJ,zM,Nat.reduceAdd,qbe,qbx,zB,zE,zT,zZ,zE,zB,N_neq,qa2,qbO,Nat.reduceAdd,zT,qbi,qaV,qbD,qb7,qbC,qax,qay,zZ,qal,L37b0,hlt,qbC,zZ,hc,qal,e2]
          rfl
        · apply qbs
          simp (disch:=first|omega|decide|simp only[nms_B8,qcy,qcR,nms_I,qaO,nms_Bo,nms_Un,qaL,nms_Hf,qaP,qaK,qbF,qbU,qci,qck,zS,zW,zP,zR,ren_B8,qcX,qcY,ren_I,ren_N,ren_Bo,ren_Un,qa9,ren_Hf,qbM,qcd,qcj,qcl,zG,zF,ren7_I,ren7_N,qc0,qc1,qcE,qcF,nms7_I,nms7_N,qc2,qc3,qcG,qcH,qc4,qc5,implies_true,l10,l11,l12,l18,l19,l20,l24,l25,l27,l28,l33,l35,l38,l40,l41,l43,l44,l45,l47,l48,l49,l50,l51,l52,l53,l55,l56,l57,qai,qbh,qaW,qbd,qa8,qag,qak,qaj,qah,qae,qac,qad,qan]) only[qa6,qau,qao,qap,qam,qaf,qaN,qaq,qaz,qar,qaF,qaB,qaa,qaG,qaw,qat,zK,zL,zN,zO,zJ,zM,Nat.reduceAdd,zB,zE,zQ,qa2,Nat.reduceAdd,zQ,qbi,qaV,qbD,L37b0,hlt]
          rfl
      · rintro st ⟨H, rfl⟩ rfl
        rw[he]
        by_cases hlt:q < L.length
        · have hc := fun (H : Heap) => sls_cell (H := H) L q hlt
          have e2:decide ((L.getD q []).length≠512)=true:=by simpa [bad] using hb hlt
          rw[decide_eq_true hlt]
          simp (disch:=first|omega|decide|simp only[nms_B8,qcy,qcR,nms_I,qaO,nms_Bo,nms_Un,qaL,nms_Hf,qaP,qaK,qbF,qbU,qci,qck,zS,zW,zP,zR,ren_B8,qcX,qcY,ren_I,ren_N,ren_Bo,ren_Un,qa9,ren_Hf,qbM,qcd,qcj,qcl,zG,zF,ren7_I,ren7_N,qc0,qc1,qcE,qcF,nms7_I,nms7_N,qc2,qc3,qcG,qcH,qc4,qc5,implies_true,l10,l11,l12,l18,l19,l20,l24,l25,l27,l28,l33,l35,l38,l40,l41,l43,l44,l45,l47,l48,l49,l50,l51,l52,l53,l55,l56,l57,qai,qbh,qaW,qbd,qa8,qag,qak,qaj,qah,qae,qac,qad,qan]) only[qba,qbp,qau,qa3,qao,qap,qam,qaf,qaq,qaz,qaI,qar,qaF,qaB,qaa,qbQ,qdm,qaw,qaY,qbg,qbl,zK,zL,zN,zO,zJ,zM,qct,zI,Nat.reduceAdd,qbe,qbx,zB,zE,zT,zZ,zE,zB,N_neq,qa2,qbO,Nat.reduceAdd,zT,zf,qbi,qaV,qbD,qb7,qbC,qax,qay,zI,zZ,qal,L37b0,hlt,qbC,zZ,hc,qal,e2]
        · rw [decide_eq_false hlt]
          simp (disch:=first|omega|decide|simp only[nms_B8,qcy,qcR,nms_I,qaO,nms_Bo,nms_Un,qaL,nms_Hf,qaP,qaK,qbF,qbU,qci,qck,zS,zW,zP,zR,ren_B8,qcX,qcY,ren_I,ren_N,ren_Bo,ren_Un,qa9,ren_Hf,qbM,qcd,qcj,qcl,zG,zF,ren7_I,ren7_N,qc0,qc1,qcE,qcF,nms7_I,nms7_N,qc2,qc3,qcG,qcH,qc4,qc5,implies_true,l10,l11,l12,l18,l19,l20,l24,l25,l27,l28,l33,l35,l38,l40,l41,l43,l44,l45,l47,l48,l49,l50,l51,l52,l53,l55,l56,l57,qai,qbh,qaW,qbd,qa8,qag,qak,qaj,qah,qae,qac,qad,qan]) only[qbp,qa6,qau,qao,qap,qam,qaf,qaN,qaq,qaz,qaI,qar,qaF,qaB,qaa,qaG,qbc,qaw,qat,qbg,qbl,zK,zL,zN,zO,zJ,zM,qct,zI,Nat.reduceAdd,zC,zB,zE,zQ,qa2,Nat.reduceAdd,zQ,zu,qbi,qaV,qbD,zI,L37b0,hlt]
    · have e1 := decide_eq_false hlen
      have e3:decide (L.length≠nl n+1)=true:=decide_eq_true hlen
      rw[e1]
      simp (disch:=first|omega|decide|simp only[nms_B8,qcy,qcR,nms_I,qaO,nms_Bo,nms_Un,qaL,nms_Hf,qaP,qaK,qbF,qbU,qci,qck,zS,zW,zP,zR,ren_B8,qcX,qcY,ren_I,ren_N,ren_Bo,ren_Un,qa9,ren_Hf,qbM,qcd,qcj,qcl,zG,zF,ren7_I,ren7_N,qc0,qc1,qcE,qcF,nms7_I,nms7_N,qc2,qc3,qcG,qcH,qc4,qc5,implies_true,l10,l11,l12,l18,l19,l20,l24,l25,l27,l28,l33,l35,l38,l40,l41,l43,l44,l45,l47,l48,l49,l50,l51,l52,l53,l55,l56,l57,qai,qbh,qaW,qbd,qa8,qag,qak,qaj,qah,qae,qac,qad,qan]) only[qbb,qbp,qau,qao,qap,qam,qaf,qaS,qbA,qaq,qaz,qaI,qar,qbq,qaF,qbr,qaB,qa1,qaT,qaa,qbQ,qaw,qaY,qbg,qbl,zK,zL,zN,zO,zG,zF,zP,zV,qa5,zy,zJ,zM,qct,zI,Nat.reduceAdd,Nat.reduceSub,Bool.true_and,Nat.reduceEqDiff,zB,zE,zQ,N_eql,N_neq,Nat.reduceEqDiff,Nat.reduceAdd,zQ,qbi,qaV,qbL,qbD,qax,qaM,qay,zI,qal,L37,hl,e3,qal]
      rfl
  · have hlv := rlevels_no (k + 19) z hz
    have hcl:=fun (b:Nat) (H:Heap)=>call_isl (k+29) b 19 H [I z] _ rfl rfl rfl hlv (fun _=>rfl)
    rw[rightB,decide_eq_false hz]
    simp (disch:=first|omega|decide|simp only[nms_B8,qcy,qcR,nms_I,qaO,nms_Bo,nms_Un,qaL,nms_Hf,qaP,qaK,qbF,qbU,qci,qck,zS,zW,zP,zR,ren_B8,qcX,qcY,ren_I,ren_N,ren_Bo,ren_Un,qa9,ren_Hf,qbM,qcd,qcj,qcl,zG,zF,ren7_I,ren7_N,qc0,qc1,qcE,qcF,nms7_I,nms7_N,qc2,qc3,qcG,qcH,qc4,qc5,implies_true,l10,l11,l12,l18,l19,l20,l24,l25,l27,l28,l33,l35,l38,l40,l41,l43,l44,l45,l47,l48,l49,l50,l51,l52,l53,l55,l56,l57,qai,qbh,qaW,qbd,qa8,qag,qak,qaj,qah,qae,qac,qad,qan]) only[qbb,qbp,qau,qao,qap,qam,qaf,qaS,qcO,qaq,qaz,qaI,qar,qb0,qaF,qbr,qaB,qa1,qaT,qaa,qbQ,qaw,qaY,qbg,qbl,zK,zL,zN,zO,zG,zF,zP,zV,qa5,zy,zJ,zM,qct,zI,Nat.reduceAdd,Nat.reduceSub,zB,zE,zT,N_eql,Nat.reduceAdd,zT,qbi,qaV,lenS_nil,qax,qay,zI,qal,L37,hcl,qal]
    rfl
end Sha
namespace Sha
open Go Go.LE
def zero32:Nat→BitVec 8:=fun _=>0#8
def rootF (z:Int) (L:List (List (BitVec 8))):Nat→BitVec 8:=if rightB z L then dig (topL z.toNat (L.length - 1) (L.getD (L.length - 1) [])) else zero32
def rootE (z:Int) (L:List (List (BitVec 8))):Nat:=if rightB z L then 0 else 1
theorem right_of {z:Int} {L:List (List (BitVec 8))} (h:rightB z L=true):∃ n:Nat,z=n∧1≤n∧n≤4096∧L.length=nl n+1∧∀ b ∈ L,b.length=512:=by
  simp only[rightB,Bool.and_eq_true,decide_eq_true_eq,Bool.not_eq_true',List.any_eq_false,bad,zl,Decidable.not_not] at h
  obtain ⟨h1,h2,h3⟩:=h
  exact ⟨z.toNat,by omega,by omega,by omega,h2,fun b hb=>by simpa using h3 b hb⟩
theorem getD_mem {L:List (List (BitVec 8))} {i:Nat} (h:i < L.length):L.getD i [] ∈ L:=by
  rw[List.getD_eq_getElem?_getD,List.getElem?_eq_getElem h]
  simp
def tup2K (x:LV):Option qaR→Option LV
  | some cs=>some (.tup [.agg cs,x])
  | none=>none
def tup3K (x y:LV):Option qaR→Option LV
  | some cs=>some (.tup [x,.agg cs,y])
  | none=>none
theorem tup2K_some (x:LV) (cs:qaR):tup2K x (some cs)=some (.tup [.agg cs,x]):=nf rfl
theorem tup3K_some (x y:LV) (cs:qaR):tup3K x y (some cs)=some (.tup [x,.agg cs,y]):=nf rfl
theorem resVal_2 (t n u:Nat) (tm:List LV) (H:Heap) (nx np:Nat):resVal ⟨tm,H,nx,np⟩ [.agg t n,.tmp u]=tup2K (tm.getD u .undef) (cellAt H n (tm.getD t .undef)):=by
  simp only[resVal,zG,zF,resOf]
  cases cellAt H n (tm.getD t .undef) <;> rfl
theorem resVal_3 (s t n u:Nat) (tm:List LV) (H:Heap) (nx np:Nat):resVal ⟨tm,H,nx,np⟩ [.tmp s,.agg t n,.tmp u]=tup3K (tm.getD s .undef) (tm.getD u .undef) (cellAt H n (tm.getD t .undef)):=by
  simp only[resVal,zG,zF,resOf]
  cases cellAt H n (tm.getD t .undef) <;> rfl
theorem tup_nms (n:Nat) (f:Nat→BitVec 8) (e:Nat):nms D (.tup [.agg (aB n f),N e])=[]:=by
  show (aB n f).flatMap (nms 6)++[]=[]
  rw[zR,List.flatMap_eq_nil_iff]; intro x hx; simp only[aB,arr,List.mem_map,List.mem_range] at hx; obtain ⟨i,_,rfl⟩:=hx; rfl
theorem tup_ren (π:Nm→Option Nm) (n:Nat) (f:Nat→BitVec 8) (e:Nat):ren D π (.tup [.agg (aB n f),N e]) = .tup [.agg (aB n f),N e]:=by
  show LV.tup [.agg ((aB n f).map (ren 6 π)),N e]=_
  have:(aB n f).map (ren 6 π)=aB n f:=by
    conv=>rhs; rw[←List.map_id (aB n f)]
    apply List.map_congr_left
    intro x hx; simp only[aB,arr,List.mem_map,List.mem_range] at hx; obtain ⟨i,_,rfl⟩:=hx; rfl
  rw[this]
set_option maxRecDepth 20000 in
theorem root1_F (k:Nat) (z:Int) (L:List (List (BitVec 8))):F C (k+500) 21 [I z,.isl (sls L) L.length] []=some (.tup [.agg (aB 32 (rootF z L)),N (rootE z L)],[],[]):=by
  rw[qch f21]
  have hr:=rgt_F (k+469) z L
  have hrc:=fun (b:Nat) (H:Heap)=>call_isl (k+499) b 34 H _ _ rfl (by rw[zS,zS,qcJ]; rfl) (by rw[zG,zG,qc6]; rfl) hr (by intro π; rfl)
  by_cases h:rightB z L=true
  · obtain ⟨n, rfl, h1, h2, h3, h4⟩ := right_of h
    rw[rootF,rootE,if_pos h,if_pos h]
    simp only[h] at hrc
    have hpos:L.length - 1 < L.length:=by omega
    have hlast:=h4 _ (getD_mem hpos)
    have hc:=fun (H:Heap)=>sls_cell (H:=H) L (L.length - 1) hpos
    have hrt:=root_F (k+498) n (L.length - 1) (L.getD (L.length - 1) []) (by omega) (by omega)
    have htc:=fun (b:Nat) (H:Heap)=>call_isl (k+499) b 29 H _ _ rfl (by rw[zS,zS,zS,qbd]; rfl) (by rw[zG,zG,zG,qa8]; rfl) hrt (by intro π; exact qbM _ _ _)
    rw[show I (n:Int)=N n from rfl] at hrc ⊢
    have hle:1≤L.length:=by omega
    have hn2:=nl_le n
    simp (disch:=first|omega|decide|simp only[qai,qag,qak,qaj,qah,qae,qac,qad,qan]) only[qbb,qba,qbp,qau,qao,qap,qam,qaf,qaq,qa7,qaz,qaI,qar,qaF,qaB,op_un,qa1,qaT,qaa,qaw,qat,qbg,zK,zL,zN,zO,zG,zF,zP,zV,qa5,zy,zJ,zM,qcU,zI,Nat.reduceAdd,Nat.reduceSub,qab,qaX,qaQ,qbe,qbx,qbR,qbt,qbf,zC,zB,zE,qbH,qbP,qbm,zZ,zE,zB,N_sub,qbO,Nat.reduceAdd,zf,qbi,qaV,qbD,qb7,qbC,qax,qaM,qay,qa0,zI,zZ,qaZ,qal,L21,hrc,htc,hc,qbC,zZ,qal,Int.toNat_natCast,resVal_2,tup2K_some]
    rw[qcc 0 _ _ [] (by simp only[qaA,FUEL,qaE,zS,zW,zR,zk,zF,zg,tup_nms])]
    simp (disch:=first|omega|decide|simp only[qai,qag,qak,qaj,qah,qae,qac,qad,qan]) only[zF,qab,zD,Nat.reduceEqDiff,false_and,zA,zzC,qbn,zk,tup_ren]
  · have h0 : rightB z L = false := by simpa using h
    rw[rootF,rootE,if_neg h,if_neg h]
    simp only[h0] at hrc
    simp (disch:=first|omega|decide|simp only[qai,qag,qak,qaj,qah,qae,qac,qad,qan]) only[qbb,qbp,qau,qao,qap,qam,qaf,qaq,qa7,qaz,qaI,qar,qaF,op_un,qa1,qaT,qaa,qbQ,qaw,qaY,qbg,zK,zL,zN,zO,zG,zF,zP,zV,qa5,zy,zJ,zM,qcU,zI,Nat.reduceAdd,Nat.reduceSub,qab,qaX,qaQ,qbR,qbt,qbf,qbW,aggR_some,op_build,zC,zB,zE,qbH,qbP,qbm,zE,zB,Nat.reduceAdd,zu,qax,qaM,qay,qa0,zI,qaZ,qal,L21,hrc,qal,resVal_2,tup2K_some]
    rw[qcc 0 _ _ [] (by simp only[qaA,FUEL,qaE,zS,zW,zR,zk,zF,zg,tup_nms])]
    simp (disch:=first|omega|decide|simp only[qai,qag,qak,qaj,qah,qae,qac,qad,qan]) only[zF,qab,zD,Nat.reduceEqDiff,false_and,zA,zzC,qbn,zk,tup_ren]
    rfl
set_option maxRecDepth 20000 in
theorem root2_F (k:Nat) (z:Int) (L:List (List (BitVec 8))):F C (k+500) 23 [I z,.isl (sls L) L.length] []=some (.tup [.agg (aB 32 (rootF z L)),N (rootE z L)],[],[]):=by
  rw[qch f23]
  have hr:=rrgt_F (k+469) z L
  have hrc:=fun (b:Nat) (H:Heap)=>call_isl (k+499) b 37 H _ _ rfl (by rw[zS,zS,qcJ]; rfl) (by rw[zG,zG,qc6]; rfl) hr (by intro π; rfl)
  by_cases h:rightB z L=true
  · obtain ⟨n, rfl, h1, h2, h3, h4⟩ := right_of h
    rw[rootF,rootE,if_pos h,if_pos h]
    simp only[h] at hrc
    have hpos:L.length - 1 < L.length:=by omega
    have hlast:=h4 _ (getD_mem hpos)
    have hc:=fun (H:Heap)=>sls_cell (H:=H) L (L.length - 1) hpos
    have hrt:=top_F (k+498) n (L.length - 1) (L.getD (L.length - 1) []) (by omega) (by omega)
    have htc:=fun (b:Nat) (H:Heap)=>call_isl (k+499) b 30 H _ _ rfl (by rw[zS,zS,zS,qbd]; rfl) (by rw[zG,zG,zG,qa8]; rfl) hrt (by intro π; exact qbM _ _ _)
    rw[show I (n:Int)=N n from rfl] at hrc ⊢
    have hle:1≤L.length:=by omega
    have hn2:=nl_le n
    simp (disch:=first|omega|decide|simp only[qai,qag,qak,qaj,qah,qae,qac,qad,qan]) only[qbb,qba,qbp,qau,qao,qap,qam,qaf,qaq,qa7,qaz,qaI,qar,qaF,qaB,op_un,qa1,qaT,qaa,qaw,qat,qbg,zK,zL,zN,zO,zG,zF,zP,zV,qa5,zy,zJ,zM,qcU,zI,Nat.reduceAdd,Nat.reduceSub,qab,qaX,qaQ,qbe,qbx,qbR,qbt,qbf,zC,zB,zE,qbH,qbP,qbm,zZ,zE,zB,N_sub,qbO,Nat.reduceAdd,zf,qbi,qaV,qbD,qb7,qbC,qax,qaM,qay,qa0,zI,zZ,qaZ,qal,L23,hrc,htc,hc,qbC,zZ,qal,Int.toNat_natCast,resVal_2,tup2K_some]
    rw[qcc 0 _ _ [] (by simp only[qaA,FUEL,qaE,zS,zW,zR,zk,zF,zg,tup_nms])]
    simp (disch:=first|omega|decide|simp only[qai,qag,qak,qaj,qah,qae,qac,qad,qan]) only[zF,qab,zD,Nat.reduceEqDiff,false_and,zA,zzC,qbn,zk,tup_ren]
  · have h0 : rightB z L = false := by simpa using h
    rw[rootF,rootE,if_neg h,if_neg h]
    simp only[h0] at hrc
    simp (disch:=first|omega|decide|simp only[qai,qag,qak,qaj,qah,qae,qac,qad,qan]) only[qbb,qbp,qau,qao,qap,qam,qaf,qaq,qa7,qaz,qaI,qar,qaF,op_un,qa1,qaT,qaa,qbQ,qaw,qaY,qbg,zK,zL,zN,zO,zG,zF,zP,zV,qa5,zy,zJ,zM,qcU,zI,Nat.reduceAdd,Nat.reduceSub,qab,qaX,qaQ,qbR,qbt,qbf,qbW,aggR_some,op_build,zC,zB,zE,qbH,qbP,qbm,zE,zB,Nat.reduceAdd,zu,qax,qaM,qay,qa0,zI,qaZ,qal,L23,hrc,qal,resVal_2,tup2K_some]
    rw[qcc 0 _ _ [] (by simp only[qaA,FUEL,qaE,zS,zW,zR,zk,zF,zg,tup_nms])]
    simp (disch:=first|omega|decide|simp only[qai,qag,qak,qaj,qah,qae,qac,qad,qan]) only[zF,qab,zD,Nat.reduceEqDiff,false_and,zA,zzC,qbn,zk,tup_ren]
    rfl
def ch (b:List (BitVec 8)) (j:Nat):List (BitVec 8):=(b.drop (32*(j % 16))).take 32
theorem ch_length {b:List (BitVec 8)} (h:b.length=512) (j:Nat):(ch b j).length=32:=by
  simp only[ch,zzJ,zzG,h]; omega
theorem child_F (k:Nat) (b:List (BitVec 8)) (hb:b.length=512) (j:Nat) (hj:j < 1000000):F C (k+1) 35 [.isl (bs b) 512,N j] []=some (.isl (bs (ch b j)) 32,[],[]):=by
  rw[qch f35]
  have hm:j % 16 < 16:=Nat.mod_lt _ (by omega)
  have hs:slcV 1 (some (32*(j % 16))) (some (32*(j % 16)+32)) (.isl (bs b) 512)=some (.isl (bs (ch b j)) 32):=by
    rw[slcV_isl 1 _ _ _ _ (by omega) (by omega),bs_drop,bs_take,zZ,zZ,show 32*(j % 16)+32 - 32*(j % 16)=32 by omega]
    rfl
  simp (disch:=first|omega|decide|simp only[qai,qag,qak,qaj,qah,qae,qac,qad,qan]) only[qbb,qbp,qau,qao,qap,qam,qaf,qaq,qaz,qaI,qar,qaF,qaB,qaa,qbg,qbl,zK,zL,zN,zO,zP,zV,qa5,zy,zJ,zM,zI,Nat.reduceAdd,Nat.reduceSub,zB,zE,zE,zB,qbY,N_mul,N_rem,qbO,Nat.reduceAdd,qbD,qdc,op_slcS,qdd,qax,qay,zI,qal,L35,hs,qal]
  rw[qcc 0 _ _ [] (by simp only[qaA,FUEL,qaE,zS,zW,zR,zk,zF,zg,qbd])]
  simp (disch:=first|omega|decide|simp only[qai,qag,qak,qaj,qah,qae,qac,qad,qan]) only[zF,zzC,qa8,qbn,zk,qa8]
theorem child_call (k b:Nat) (H:Heap) (c:List (BitVec 8)) (hc:c.length=512) (j:Nat) (hj:j < 1000000):qb1 (envC C (k+1)) H b 35 [.isl (bs c) 512,N j]=some ⟨.isl (bs (ch c j)) 32,[],[]⟩ :=
  call_isl (k+1) b 35 H _ _ rfl (by rw[zS,qbd]; rfl) (by rw[zG,qa8]; rfl) (child_F k c hc j hj) (fun π=>qa8 π _ _)
theorem txt_nq (e:EqT) (a b:List (BitVec 8)):binV .neq e (txt a) (txt b)=some (Bo (!decide (a=b))):=by
  have h:=txt_eql e a b
  simp only[binV,txt,strOp,zI,Bo] at h ⊢
  injection h with h
  injection h with h
  injection h with h
  rw[h]
theorem front32 (H:Heap) (c:List (BitVec 8)) (h:c.length=32):front H 1 32 (.isl (bs c) 32)=some (bs c):=qdn (H:=H) c 32 h
theorem dl_map (b:List (BitVec 8)):(List.range 32).map (dig b)=dl b:=nf rfl
def okAt (i:Nat) (L:List (List (BitVec 8))) (k:Nat):Bool:=decide (ch (L.getD (k+1) []) (i / 16 ^ (k+1))=dl (nodeB k (L.getD k [])))
def joinedB (i:Nat) (L:List (List (BitVec 8))):Bool:=(List.range (L.length - 1)).all (okAt i L)
def jJ (i:Nat) (L:List (List (BitVec 8))) (k:Nat) (st:St):Prop := ∃ (H:Heap),st=⟨[N (i / 16 ^ k),.isl (sls L) L.length,.undef,.undef,.undef,.undef,.undef,.undef,.undef,.isl (sls (L.drop 1)) (L.length - 1),N (L.length - 1),N k,.undef,.undef,.undef,.undef,.undef,.undef,.undef,.undef,.undef,.undef,.undef,.undef,.undef,.undef,.undef,.undef,.undef,.undef,.undef,.undef],H,2,0⟩
set_option maxRecDepth 20000 in
theorem j_ok (K k0:Nat) (hk0:400≤k0) (i:Nat) (hi:i < 1000000) (L:List (List (BitVec 8))) (hL:L.length≤1000) (h5:∀ b ∈ L,b.length=512) (k:Nat) (hk:k < L.length - 1) (hb:okAt i L k=true) (st:St) (hI:jJ i L k st) :
    ∃ st1,ev (envC C k0) K L36b0 st=some (.normal,st1)∧jJ i L (k+1) (qby L36k0 st1):=by
  obtain ⟨H,rfl⟩:=hI
  have hl1:=h5 _ (getD_mem (show k < L.length by omega))
  have hl2:=h5 _ (getD_mem (show k+1 < L.length by omega))
  have hc:=fun (H:Heap)=>sls_cell (H:=H) L k (by omega)
  have hc2:∀ H:Heap,cellAt H 1 (.ipt ((sls (L.drop 1)).drop k))=some [.isl (bs (L.getD (k+1) [])) 512]:=by
    intro H
    have:=sls_cell (H:=H) (L.drop 1) k (by rw[zzG]; omega)
    rw[show (L.drop 1).getD k []=L.getD (k+1) [] by simp[List.getD_eq_getElem?_getD]] at this
    rw[hl2] at this
    exact this
  have hnc:=fun (b':Nat) (H:Heap)=>qdj k0 b' 15 (.inl rfl) H k (.isl (bs (L.getD k [])) (L.getD k []).length) (L.getD k []) (lent_isl H _ []) (by omega) (by omega)
  have hdiv:i / 16 ^ k / 16=i / 16 ^ (k+1):=by rw[Nat.div_div_eq_div_mul,Nat.pow_succ]
  have hile:i / 16 ^ (k+1)≤i:=Nat.div_le_self _ _
  have hile2:i / 16 ^ k≤i:=Nat.div_le_self _ _
  obtain ⟨k1,rfl⟩:∃ k1,k0=k1+1:=⟨k0 - 1,by omega⟩
  have hcc:=fun (b':Nat) (H:Heap)=>child_call k1 b' H (L.getD (k+1) []) hl2 (i / 16 ^ (k+1)) (by omega)
  simp only[okAt] at hb
  have hf32:=fun (H:Heap)=>front32 H (ch (L.getD (k+1) []) (i / 16 ^ (k+1))) (ch_length hl2 _)
  apply Exists.intro
  apply And.intro
  · simp (disch := first | omega | decide | simp only [qai, qag, qak, qaj, qah, qae, qac, qad, qan]) only [qba, qau, qa3, qao, qap, qam, qaf, qaq, qa7, qaz, qaI, qar, qaF, qaB, qa1, qaT, qaa, qa4, qaw, qaY, qat, zK, zL, zN, zO, zG, zF, zS, zW, zR, zJ, zM, Nat.reduceAdd, Nat.reduceSub, qab, qaX, qbe, qbx, qbR, qbt, qbf, zw, zx, zh, Nat.reduceLT, zC, zB, zE, zT, qbH, qbm, zZ, zE, zB, qbY, N_quo, qa2, qbO, qaO, Nat.reduceLT, Nat.reduceAdd, zT, zu, zf, qbB, qcT, qcw, qb7, qbC, op_slcAV, slcAV_ptr, qax, qaM, qay, qa0, qbd, Nat.sub_zero, zZ, qbz, qb3, qbE, qcL, touch_b2s, reach_none, nms_fn, za, zY, zz, z6, z0, ordOk, qbv, zw, zx, Nat.testBit, Nat.reduceShiftRight, Nat.reduceAnd, Nat.reduceBEq, zf, zu, z7, zh, Nat.reduceSub, Nat.reduceLT, bne, qbN, qcp, qbI, isCall_b2s, qcv, zh, frontK_aB, qcI, qbo, qal, L36b0, hk, qbC, zZ, hc, hc2, hnc, hdiv, hcc, qal, qbo, op_b2s, b2sV_sl, b2sV_isl, b2sK_bs, hf32, dl_map, txt_nq, hb, qaK]
    rfl
  · refine qaU [] rfl (by simp only [qaA, FUEL, qaE, qaL, zS, zW, zR, zk, zF, zg, qaJ, qaC, qav, qaO, L36k0, qcJ, qaO]) ?_ ⟨_, rfl⟩
    simp only[L36k0,zG,zF,qaC,qav,qaJ,qa9,qc6]
    rfl
end Sha
namespace Sha
open Go Go.LE
theorem first_no (f:Nat→Bool) (n:Nat):∃ q,q≤n∧(∀ i,i < q→f i=true)∧(q < n→f q=false)∧((List.range n).all f=decide (¬ q < n)):=by
  induction n with
  | zero=>exact ⟨0,Nat.le_refl _,fun i h=>by omega,fun h=>absurd h (by omega),rfl⟩
  | succ n ih =>
    obtain ⟨q,h1,h2,h3,h4⟩:=ih
    rw[List.range_succ,List.all_append,h4]
    by_cases hq:q < n
    · refine ⟨q, by omega, h2, fun _ => h3 hq, ?_⟩
      rw[decide_eq_false (by omega:¬ ¬ q < n),decide_eq_false (by omega:¬ ¬ q < n+1)]; rfl
    · obtain rfl : q = n := by omega
      rw[decide_eq_true hq]
      cases hf:f q with
      | false=>exact ⟨q,by omega,h2,fun _=>hf,by simp[hf]⟩
      | true =>
        refine ⟨q+1,Nat.le_refl _,fun i hi => ?_,fun h=>absurd h (by omega),by simp[hf]⟩
        rcases Nat.lt_or_ge i q with h | h
        · exact h2 i h
        · obtain rfl : i = q := by omega
          exact hf
theorem slc_drop1 (L:List (List (BitVec 8))) (h:1≤L.length):slcV 1 (some 1) (some L.length) (.isl (sls L) L.length)=some (.isl (sls (L.drop 1)) (L.length - 1)):=by
  rw[slcV_isl 1 _ _ _ _ h (Nat.le_refl _)]
  congr 2
  simp only[sls,zZ,←List.map_drop]
  rw[List.take_of_length_le (by simp)]
set_option maxRecDepth 20000 in
theorem joined_F (k i:Nat) (hi:i < 1000000) (L:List (List (BitVec 8))) (h1:1≤L.length) (hL:L.length≤500) (h5:∀ b ∈ L,b.length=512) :
    F C (k+1000) 36 [N i,.isl (sls L) L.length] []=some (Bo (joinedB i L),[],[]):=by
  rw[qch f36]
  have hs:=slc_drop1 L h1
  simp (disch:=first|omega|decide|simp only[qai,qag,qak,qaj,qah,qae,qac,qad,qan]) only[qbb,qau,qa3,qao,qap,qam,qaf,qaq,qaz,qaI,qar,qaF,qaa,zK,zL,zN,zO,zP,zV,qa5,zy,zJ,zM,qbZ,Nat.reduceAdd,Nat.reduceSub,zB,zE,zE,zB,qbO,Nat.reduceAdd,qbi,qaV,qbD,qcw,qdc,op_slcS,qdd,qax,qay,qal,L36,hs,qal]
  generalize hLp:qca L36k0 _ _ _=r
  obtain ⟨q,hq,hg,hb,he⟩:=first_no (okAt i L) (L.length - 1)
  rw[joinedB,he]
  have hbad:∀ (K:Nat) (st:St),q < L.length - 1→jJ i L q st→∃ st1,ev (envC C (k+999)) K L36b0 st=some (.ret,st1)∧resVal st1 [.tmp 4]=some (Bo false)∧st1.np=0:=by
    rintro K st hlt ⟨H,rfl⟩
    have hl1:=h5 _ (getD_mem (show q < L.length by omega))
    have hl2:=h5 _ (getD_mem (show q+1 < L.length by omega))
    have hc:=fun (H:Heap)=>sls_cell (H:=H) L q (by omega)
    have hc2:∀ H:Heap,cellAt H 1 (.ipt ((sls (L.drop 1)).drop q))=some [.isl (bs (L.getD (q+1) [])) 512]:=by
      intro H
      have:=sls_cell (H:=H) (L.drop 1) q (by rw[zzG]; omega)
      rw[show (L.drop 1).getD q []=L.getD (q+1) [] by simp[List.getD_eq_getElem?_getD]] at this
      rw[hl2] at this
      exact this
    have hnc:=fun (b':Nat) (H:Heap)=>qdj (k+999) b' 15 (.inl rfl) H q (.isl (bs (L.getD q [])) (L.getD q []).length) (L.getD q []) (lent_isl H _ []) (by omega) (by omega)
    have hdiv:i / 16 ^ q / 16=i / 16 ^ (q+1):=by rw[Nat.div_div_eq_div_mul,Nat.pow_succ]
    have hile:i / 16 ^ (q+1)≤i:=Nat.div_le_self _ _
    have hile2:i / 16 ^ q≤i:=Nat.div_le_self _ _
    have hcc:=fun (b':Nat) (H:Heap)=>child_call (k+998) b' H (L.getD (q+1) []) hl2 (i / 16 ^ (q+1)) (by omega)
    have hb:=hb hlt
    simp only[okAt] at hb
    have hf32:=fun (H:Heap)=>front32 H (ch (L.getD (q+1) []) (i / 16 ^ (q+1))) (ch_length hl2 _)
    apply Exists.intro
    apply And.intro
    · simp (disch := first | omega | decide | simp only [qai, qag, qak, qaj, qah, qae, qac, qad, qan]) only [qba, qbp, qau, qa3, qao, qap, qam, qaf, qaq, qa7, qaz, qaI, qar, qaF, qaB, qa1, qaT, qaa, qbQ, qdm, qaw, qaY, zK, zL, zN, zO, zG, zF, zS, zW, zR, zJ, zM, Nat.reduceAdd, Nat.reduceSub, qab, qaX, qbe, qbx, qbR, qbt, qbf, zw, zx, zh, Nat.reduceLT, zC, zB, zE, zT, qbH, qbm, zZ, zE, zB, N_quo, qa2, qbO, qaO, Nat.reduceLT, Nat.reduceAdd, zT, zu, zf, qbB, qcT, qcw, qb7, qbC, op_slcAV, slcAV_ptr, qax, qaM, qay, qa0, qbd, Nat.sub_zero, zZ, qbz, qb3, qbE, qcL, touch_b2s, reach_none, nms_fn, za, zY, zz, z6, z0, ordOk, qbv, zw, zx, Nat.testBit, Nat.reduceShiftRight, Nat.reduceAnd, Nat.reduceBEq, zf, zu, z7, zh, Nat.reduceSub, Nat.reduceLT, bne, qbN, qcp, qbI, isCall_b2s, qcv, zh, frontK_aB, qcI, qbo, qal, L36b0, hlt, qbC, zZ, hc, hc2, hnc, hdiv, hcc, qal, qbo, op_b2s, b2sV_sl, b2sV_isl, b2sK_bs, hf32, dl_map, txt_nq, hb, qaK]
      rfl
    · exact ⟨rfl,rfl⟩
  refine qbJ hLp (jJ i L) q (by omega) (fun j st hj hI=>j_ok _ _ (by omega) i hi L (by omega) h5 j (by omega) (hg j hj) st hI) ?_ ?_ ?_
  · refine qaU [] rfl (by simp only [qaA, FUEL, qaE, qaL, zS, zW, zR, zk, zF, zg, qaJ, qaC, qav, qaO, L36k0, qcJ, qaO]) ?_ ⟨_, rfl⟩
    simp only[L36k0,zG,zF,qaC,qav,qaJ,qa9,qc6,Nat.pow_zero,Nat.div_one]
    rfl
  · rintro st hJ
    by_cases hlt:q < L.length - 1
    · obtain ⟨st1, h, _⟩ := hbad (k + 999) st hlt hJ
      exact stop_ret h
    · obtain ⟨H, rfl⟩ := hJ
      apply qbs
      simp (disch:=first|omega|decide|simp only[qai,qag,qak,qaj,qah,qae,qac,qad,qan]) only[qa6,qau,qao,qap,qam,qaf,qaN,qaq,qaz,qar,qaB,qaa,qaG,qaw,qat,zK,zL,zN,zO,zJ,zM,Nat.reduceAdd,zB,zE,zQ,qa2,Nat.reduceAdd,zQ,L36b0,hlt]
      rfl
  · rintro st hJ hr
    by_cases hlt:q < L.length - 1
    · obtain ⟨st1, h, hv, hnp⟩ := hbad (k + 999) st hlt hJ
      rw[hr,h,decide_eq_false (by omega)]
      obtain ⟨tm,H,nx,np⟩:=st1
      simp only[inBlock,andThen,qbg,hv,zI]
      simp only at hnp
      subst hnp
      rw[qcc 0 _ _ [] (by simp only[qaA,FUEL,qaE,nms_Bo,zS,zW,zR,zk,zF,zg])]
      rfl
    · obtain ⟨H, rfl⟩ := hJ
      subst hr
      rw[decide_eq_true hlt]
      simp (disch:=first|omega|decide|simp only[qai,qag,qak,qaj,qah,qae,qac,qad,qan]) only[qbp,qa6,qau,qao,qap,qam,qaf,qaN,qaq,qaz,qaI,qar,qaF,qaB,qaa,qaG,qbc,qaw,qat,qbg,qbl,zK,zL,zN,zO,zJ,zM,qct,zI,Nat.reduceAdd,zC,zB,zE,zQ,qa2,Nat.reduceAdd,zQ,zI,L36b0,hlt]
end Sha
namespace Sha
open Go Go.LE
def rjJ (i:Nat) (L:List (List (BitVec 8))) (k:Nat) (st:St):Prop := ∃ (H:Heap),st=⟨[N (i / 16 ^ k),.isl (sls L) L.length,.undef,.undef,.undef,N (k+1),.undef,.undef,.undef,.undef,.undef,.undef,.undef,.undef,.undef,.undef,.undef,.undef,.undef,.undef,.undef,.undef,.undef,.undef,.undef,.undef,.undef,.undef,.undef,.undef,.undef,.undef,.undef,.undef,.undef,.undef,.undef,.undef,.undef],H,2,0⟩
theorem ipts_nms (L:List (List (BitVec 8))) (j:Nat):nms D (.ipt ((sls L).drop j))=[]:=by
  show ((sls L).drop j).flatMap (nms 7)=[]
  rw[sls,←List.map_drop]
  exact sls_nms7 (L.drop j)
theorem slc_ch (b:List (BitVec 8)) (hb:b.length=512) (j:Nat):slcV 1 (some (32*(j % 16))) (some (32*(j % 16)+32)) (.isl (bs b) 512)=some (.isl (bs (ch b j)) 32):=by
  have hm:j % 16 < 16:=Nat.mod_lt _ (by omega)
  rw[slcV_isl 1 _ _ _ _ (by omega) (by omega),bs_drop,bs_take,zZ,zZ,show 32*(j % 16)+32 - 32*(j % 16)=32 by omega]
  rfl
set_option maxRecDepth 20000 in
theorem rj_both (K k0:Nat) (hk0:400≤k0) (i:Nat) (hi:i < 1000000) (L:List (List (BitVec 8))) (hL:L.length≤1000) (h5:∀ b ∈ L,b.length=512) (k:Nat) (hk:k < L.length - 1) (st:St) (hI:rjJ i L k st) :
    (okAt i L k=true→∃ st1,ev (envC C k0) K L39b0 st=some (.normal,st1)∧rjJ i L (k+1) (qby L39k0 st1)) ∧
    (okAt i L k=false→∃ st1,ev (envC C k0) K L39b0 st=some (.ret,st1)∧resVal st1 [.tmp 4]=some (Bo false)∧st1.np=0):=by
  obtain ⟨H,rfl⟩:=hI
  have hl1:=h5 _ (getD_mem (show k < L.length by omega))
  have hl2:=h5 _ (getD_mem (show k+1 < L.length by omega))
  have hlt:k+1 < L.length:=by omega
  have hlt0:k < L.length:=by omega
  have hc:=fun (H:Heap)=>sls_cell (H:=H) L k (by omega)
  have hc2:∀ H:Heap,cellAt H 1 (.ipt ((sls L).drop (k+1)))=some [.isl (bs (L.getD (k+1) [])) 512]:=by
    intro H
    have:=sls_cell (H:=H) L (k+1) (by omega)
    rw[hl2] at this
    exact this
  have hnc:=fun (b':Nat) (H:Heap)=>qdj k0 b' 16 (.inr rfl) H k (.isl (bs (L.getD k [])) (L.getD k []).length) (L.getD k []) (lent_isl H _ []) (by omega) (by omega)
  have hdiv:i / 16 ^ k / 16=i / 16 ^ (k+1):=by rw[Nat.div_div_eq_div_mul,Nat.pow_succ]
  have hile:i / 16 ^ (k+1)≤i:=Nat.div_le_self _ _
  have hile2:i / 16 ^ k≤i:=Nat.div_le_self _ _
  have hm:i / 16 ^ (k+1) % 16 < 16:=Nat.mod_lt _ (by omega)
  have hs:=slc_ch (L.getD (k+1) []) hl2 (i / 16 ^ (k+1))
  have hf32:=fun (H:Heap)=>front32 H (ch (L.getD (k+1) []) (i / 16 ^ (k+1))) (ch_length hl2 _)
  have e1:k+1 - 1=k:=by omega
  refine ⟨fun hb => ?_,fun hb => ?_⟩
  · simp only [okAt] at hb
    apply Exists.intro
    apply And.intro
    · simp (disch := first | omega | decide | simp only [qai, qag, qak, qaj, qah, qae, qac, qad, qan]) only [qba, qau, qa3, qao, qap, qam, qaf, qaq, qa7, qaz, qaI, qar, qaF, qaB, qa1, qaT, qaa, qa4, qaw, qaY, qat, zK, zL, zN, zO, zG, zF, zJ, zM, Nat.reduceAdd, Nat.reduceSub, qab, qaX, qbe, qbx, qbR, qbt, qbf, zw, zx, zh, Nat.reduceLT, zC, zB, zE, zT, qbH, qbm, zZ, zE, zB, qbY, N_sub, N_mul, N_quo, N_rem, qa2, qbO, Nat.reduceLT, Nat.reduceAdd, zT, zu, zf, qbi, qaV, qbD, qbB, qcT, qcw, qdc, op_slcS, qdd, qb7, qbC, op_slcAV, slcAV_ptr, qax, qaM, qay, qa0, qbd, Nat.sub_zero, zZ, qbz, qb3, qbE, qcr, touch_b2s, za, zY, zz, z6, z0, ordOk, qbv, zw, zx, Nat.testBit, Nat.reduceShiftRight, Nat.reduceAnd, Nat.reduceBEq, zf, zu, z7, zh, Nat.reduceSub, Nat.reduceLT, bne, qbN, qcp, qbI, qcf, isCall_b2s, zh, frontK_aB, qcI, qbo, qal, L39b0, hlt, e1, qbC, zZ, hc, hc2, hnc, hdiv, hs, qal, qbo, op_b2s, b2sV_sl, b2sV_isl, b2sK_bs, hf32, dl_map, txt_nq, hb, qaK, ipts_nms]
      rfl
    · refine qaU [] rfl (by simp only [qaA, FUEL, qaE, qaL, zS, zW, zR, zk, zF, zg, qaJ, qaC, qav, qaO, L39k0, qcJ, qaO]) ?_ ⟨_, rfl⟩
      simp only[L39k0,zG,zF,qaC,qav,qaJ,qa9,qc6]
      rfl
  · simp only [okAt] at hb
    apply Exists.intro
    apply And.intro
    · simp (disch := first | omega | decide | simp only [qai, qag, qak, qaj, qah, qae, qac, qad, qan]) only [qba, qbp, qau, qa3, qao, qap, qam, qaf, qaq, qa7, qaz, qaI, qar, qaF, qaB, qa1, qaT, qaa, qbQ, qdm, qaw, qaY, zK, zL, zN, zO, zG, zF, zJ, zM, Nat.reduceAdd, Nat.reduceSub, qab, qaX, qbe, qbx, qbR, qbt, qbf, zw, zx, zh, Nat.reduceLT, zC, zB, zE, zT, qbH, qbm, zZ, zE, zB, qbY, N_sub, N_mul, N_quo, N_rem, qa2, qbO, Nat.reduceLT, Nat.reduceAdd, zT, zu, zf, qbi, qaV, qbD, qbB, qcT, qcw, qdc, op_slcS, qdd, qb7, qbC, op_slcAV, slcAV_ptr, qax, qaM, qay, qa0, qbd, Nat.sub_zero, zZ, qbz, qb3, qbE, qcr, touch_b2s, za, zY, zz, z6, z0, ordOk, qbv, zw, zx, Nat.testBit, Nat.reduceShiftRight, Nat.reduceAnd, Nat.reduceBEq, zf, zu, z7, zh, Nat.reduceSub, Nat.reduceLT, bne, qbN, qcp, qbI, qcf, isCall_b2s, zh, frontK_aB, qcI, qbo, qal, L39b0, hlt, e1, qbC, zZ, hc, hc2, hnc, hdiv, hs, qal, qbo, op_b2s, b2sV_sl, b2sV_isl, b2sK_bs, hf32, dl_map, txt_nq, hb, qaK, ipts_nms]
      rfl
    · exact ⟨rfl,rfl⟩
theorem rjoined_F (k i:Nat) (hi:i < 1000000) (L:List (List (BitVec 8))) (h1:1≤L.length) (hL:L.length≤500) (h5:∀ b ∈ L,b.length=512) :
    F C (k+1000) 39 [N i,.isl (sls L) L.length] []=some (Bo (joinedB i L),[],[]):=by
  rw[qch f39]
  simp (disch:=first|omega|decide|simp only[qai,qag,qak,qaj,qah,qae,qac,qad,qan]) only[qbb,qau,qa3,qao,qap,qam,qaf,qaq,qaI,qaF,qaa,zK,zL,zP,zV,qa5,zy,zJ,zM,qbZ,Nat.reduceAdd,Nat.reduceSub,zB,zE,zE,zB,Nat.reduceAdd,qax,qay,qal,L39,qal]
  generalize hLp:qca L39k0 _ _ _=r
  obtain ⟨q,hq,hg,hb,he⟩:=first_no (okAt i L) (L.length - 1)
  rw[joinedB,he]
  refine qbJ hLp (rjJ i L) q (by omega) (fun j st hj hI=>(rj_both _ _ (by omega) i hi L (by omega) h5 j (by omega) st hI).1 (hg j hj)) ?_ ?_ ?_
  · refine qaU [] rfl (by simp only [qaA, FUEL, qaE, qaL, zS, zW, zR, zk, zF, zg, qaJ, qaC, qav, qaO, L39k0, qcJ, qaO]) ?_ ⟨_, rfl⟩
    simp only[L39k0,zG,zF,zB,qaC,qav,qaJ,qa9,qc6,Nat.pow_zero,Nat.div_one]
    rfl
  · rintro st hJ
    by_cases hlt:q < L.length - 1
    · obtain ⟨st1, h, _⟩ := (rj_both (k + 999) (k + 999) (by omega) i hi L (by omega) h5 q hlt st hJ).2 (hb hlt)
      exact stop_ret h
    · obtain ⟨H, rfl⟩ := hJ
      have hlt':¬ q+1 < L.length:=by omega
      apply qbs
      simp (disch:=first|omega|decide|simp only[qai,qag,qak,qaj,qah,qae,qac,qad,qan]) only[qa6,qau,qao,qap,qam,qaf,qaN,qaq,qaz,qar,qaF,qaB,qaa,qaG,qaw,qat,zK,zL,zN,zO,zJ,zM,Nat.reduceAdd,zB,zE,zQ,qa2,Nat.reduceAdd,zQ,qbi,qaV,qbD,L39b0,hlt']
      rfl
  · rintro st hJ hr
    by_cases hlt:q < L.length - 1
    · obtain ⟨st1, h, hv, hnp⟩ := (rj_both (k + 999) (k + 999) (by omega) i hi L (by omega) h5 q hlt st hJ).2 (hb hlt)
      rw[hr,h,decide_eq_false (by omega)]
      obtain ⟨tm,H,nx,np⟩:=st1
      simp only[inBlock,andThen,qbg,hv,zI]
      simp only at hnp
      subst hnp
      rw[qcc 0 _ _ [] (by simp only[qaA,FUEL,qaE,nms_Bo,zS,zW,zR,zk,zF,zg])]
      rfl
    · obtain ⟨H, rfl⟩ := hJ
      subst hr
      have hlt':¬ q+1 < L.length:=by omega
      rw[decide_eq_true hlt]
      simp (disch:=first|omega|decide|simp only[qai,qag,qak,qaj,qah,qae,qac,qad,qan]) only[qbp,qa6,qau,qao,qap,qam,qaf,qaN,qaq,qaz,qaI,qar,qaF,qaB,qaa,qaG,qbc,qaw,qat,qbg,qbl,zK,zL,zN,zO,zJ,zM,qct,zI,Nat.reduceAdd,zC,zB,zE,zQ,qa2,Nat.reduceAdd,zQ,qbi,qaV,qbD,zI,L39b0,hlt']
end Sha
namespace Sha
open Go Go.LE
def lb32 (f:Nat→BitVec 8):List (BitVec 8):=(List.range 32).map f
def checkV (z i:Int) (leaf:Nat→BitVec 8) (L:List (List (BitVec 8))) (want:Nat→BitVec 8):Nat :=
  if rightB z L && decide (0≤i∧i < z) then (if aB_same 32 (rootF z L) want && decide (ch (L.getD 0 []) i.toNat=lb32 leaf) && joinedB i.toNat L then 0 else 160) else 1
theorem rootE_pos {z:Int} {L:List (List (BitVec 8))} (h:rightB z L=true):rootE z L=0:=by rw[rootE,if_pos h]
theorem rootE_neg {z:Int} {L:List (List (BitVec 8))} (h:rightB z L=false):rootE z L=1:=by rw[rootE,h]; rfl
theorem ipts_nms0 (L:List (List (BitVec 8))):nms D (.ipt (sls L))=[]:=ipts_nms L 0
theorem lb_map (f:Nat→BitVec 8):(List.range 32).map f=lb32 f:=nf rfl
theorem frontK_lb (f:Nat→BitVec 8):frontK 0 1 32 (some (aB 32 f))=some (bs (lb32 f)):=frontK_aB 32 f
set_option maxRecDepth 20000 in
theorem check_F (k:Nat) (z i:Int) (leaf:Nat→BitVec 8) (L:List (List (BitVec 8))) (want:Nat→BitVec 8) :
    F C (k+1200) 22 [I z,I i,.agg (aB 32 leaf),.isl (sls L) L.length,.agg (aB 32 want)] []=some (N (checkV z i leaf L want),[],[]):=by
  rw[qch f22]
  have hr:=root1_F (k+699) z L
  have hrc:=fun (b:Nat) (H:Heap)=>call_isl (k+1199) b 21 H _ _ rfl (by rw[zS,zS,qcJ]; rfl) (by rw[zG,zG,qc6]; rfl) hr (by intro π; exact tup_ren _ _ _ _)
  cases h:rightB z L with
  | false =>
    rw[rootE_neg h] at hrc
    rw[checkV,h,Bool.false_and]
    simp (disch:=first|omega|decide|simp only[qai,qag,qak,qaj,qah,qae,qac,qad,qan]) only[qbb,qbp,qau,qa3,qao,qap,qam,qaf,qaS,qcO,qaq,qa7,qaz,qaI,qar,qb0,qaF,qbr,qaB,qa1,qaT,qaa,qbQ,qdm,qaw,qaY,qbg,qbl,zK,zL,zN,zO,zG,zF,zP,zV,qa5,zy,zJ,zM,zI,Nat.reduceAdd,Nat.reduceSub,qab,qaX,qbR,op_box,qcg,qbt,qbf,zD,Nat.reduceEqDiff,zH,zC,zA,zB,zE,zQ,zd,qbH,qbm,zE,zB,N_neq,outOf_N,decide_not,Nat.reduceEqDiff,Nat.reduceAdd,zQ,zu,qax,qaM,qay,qa0,zI,qaZ,List.getElem?_cons_zero,List.getElem?_cons_succ,zu,Nat.reduceSub,qal,qcZ,qcD,List.getElem?_cons_zero,List.getElem?_cons_succ,L22,hrc,qal]
    rfl
  | true =>
    rw[rootE_pos h] at hrc
    obtain ⟨n,rfl,n1,n2,n3,n4⟩:=right_of h
    rw[checkV,h,Bool.true_and]
    by_cases h0:0≤i
    · have e0 : decide (i < ((0 : Nat) : Int)) = false := by simpa using h0
      by_cases h1:i < n
      · obtain ⟨j, rfl⟩ : ∃ j : Nat, i = (j : Int) := ⟨i.toNat, by omega⟩
        have hjn:j < n:=by omega
        have hnj:¬ n≤j:=by omega
        rw[decide_eq_true (⟨h0,h1⟩:(0:Int)≤j∧(j:Int) < n),if_pos rfl,Int.toNat_natCast]
        rw[show I (n:Int)=N n from rfl] at hrc ⊢
        rw[show I (j:Int)=N j from rfl]
        have hl0:=n4 _ (getD_mem (show 0 < L.length by omega))
        have hlp:0 < L.length:=by omega
        have hc:∀ H:Heap,cellAt H 1 (.ipt ((sls L).drop 0))=some [.isl (bs (L.getD 0 [])) 512]:=by
          intro H
          have:=sls_cell (H:=H) L 0 hlp
          rwa [hl0] at this
        have hc':∀ H:Heap,cellAt H 1 (.ipt (sls L))=some [.isl (bs (L.getD 0 [])) 512]:=hc
        have hn2:=nl_le n
        have hcc:=fun (b:Nat) (H:Heap)=>child_call (k+1198) b H (L.getD 0 []) hl0 j (by omega)
        have hjj:=joined_F (k+199) j (by omega) L (by omega) (by omega) n4
        have hjc:=fun (b:Nat) (H:Heap)=>call_isl (k+1199) b 36 H _ _ rfl (by rw[zS,zS,qcJ]; rfl) (by rw[zG,zG,qc6]; rfl) hjj (by intro π; rfl)
        have hf32:=fun (H:Heap)=>front32 H (ch (L.getD 0 []) j) (ch_length hl0 _)
        cases c1:aB_same 32 (rootF n L) want with
        | false =>
          cases c2:decide (ch (L.getD 0 []) j=lb32 leaf) with
          | false =>
            simp (disch:=first|omega|decide|simp only[qai,qag,qak,qaj,qah,qae,qac,qad,qan]) only[qbb,qbp,qau,qa3,qao,qap,qam,qaf,qaS,qbA,qcO,qaq,qa7,qaz,qaI,qar,qb0,qbq,qaF,qbr,qaB,qa1,qaT,qaa,qbQ,qdm,qaw,qaY,qat,qbg,qbl,zK,zL,zN,zO,zG,zF,zP,zV,qa5,zy,zJ,zM,zI,Nat.reduceAdd,Nat.reduceSub,qab,qaX,qaQ,qb6,op_ld,qbR,op_box,qcg,qbt,qbf,zw,zx,zh,zD,Nat.reduceEqDiff,Nat.reduceLT,zH,zC,zA,zB,zE,zT,zQ,qbH,qbP,qbm,zE,zB,N_neq,qa2,N_geq,outOf_N,decide_not,Nat.reduceLT,Nat.reduceEqDiff,Nat.reduceAdd,zQ,zT,zu,zf,qax,qaM,qay,qa0,zI,qaZ,List.getElem?_cons_zero,List.getElem?_cons_succ,qbz,qc8,guardO_false',qb3,qbE,touch_ld,qaP,za,zY,zz,z6,z0,ordOk,qbv,zw,zx,Nat.testBit,Nat.reduceShiftRight,Nat.reduceAnd,zf,zu,z7,zh,Bool.false_and,Nat.reduceSub,Nat.reduceLT,bne,qbN,qcp,qbI,qdk,zh,qbo,qal,qcZ,qcD,List.getElem?_cons_zero,List.getElem?_cons_succ,L22,hrc,hnj,Nat.not_lt_zero,zQ,c1,aB_neq,qal,qbo]
            rfl
          | true =>
            cases c3:joinedB j L <;> simp only[c3] at hjc
            all_goals
              simp (disch:=first|omega|decide|simp only[qai,qag,qak,qaj,qah,qae,qac,qad,qan]) only[qbb,qbp,qau,qa3,qao,qap,qam,qaf,qaS,qbA,qcO,qaq,qa7,qaz,qaI,qar,qb0,qbq,qaF,qbr,qaB,qa1,qaT,qaa,qbQ,qdm,qaw,qaY,qat,qbg,qbl,zK,zL,zN,zO,zG,zF,zP,zV,qa5,zy,zJ,zM,zI,Nat.reduceAdd,Nat.reduceSub,qab,qaX,qaQ,qb6,op_ld,qbR,op_box,qcg,qbt,qbf,zw,zx,zh,zD,Nat.reduceEqDiff,Nat.reduceLT,zH,zC,zA,zB,zE,zT,zQ,qbH,qbP,qbm,zE,zB,N_neq,qa2,N_geq,outOf_N,decide_not,Nat.reduceLT,Nat.reduceEqDiff,Nat.reduceAdd,zQ,zT,zu,zf,qax,qaM,qay,qa0,zI,qaZ,List.getElem?_cons_zero,List.getElem?_cons_succ,qbz,qc8,guardO_false',qb3,qbE,touch_ld,qaP,za,zY,zz,z6,z0,ordOk,qbv,zw,zx,Nat.testBit,Nat.reduceShiftRight,Nat.reduceAnd,zf,zu,z7,zh,Nat.reduceSub,Nat.reduceLT,bne,qbN,qcp,qbI,qdk,zh,qbo,qal,qcZ,qcD,List.getElem?_cons_zero,List.getElem?_cons_succ,L22,hrc,hnj,Nat.not_lt_zero,zQ,c1,aB_neq,qal,qbo]
              try rfl
        | true =>
          cases c2:decide (ch (L.getD 0 []) j=lb32 leaf) with
          | false =>
            simp (disch:=first|omega|decide|simp only[qai,qag,qak,qaj,qah,qae,qac,qad,qan]) only[qbb,qbp,qau,qa3,qao,qap,qam,qaf,qaS,qbA,qcO,qaq,qa7,qaz,qaI,qar,qb0,qbq,qaF,qbr,qaB,qa1,qaT,qaa,qbQ,qdm,qaw,qaY,qat,qbg,qbl,zK,zL,zN,zO,zG,zF,zS,zW,zP,zV,zR,qa5,zy,zJ,zM,zI,Nat.reduceAdd,Nat.reduceSub,qab,qaX,qaQ,qbe,qb6,qbx,op_ld,qbR,op_box,qcg,qbt,qbf,z8,zw,zx,zh,zD,Nat.reduceEqDiff,Nat.reduceLT,zH,zC,zA,zB,zE,zT,zQ,qbH,qbP,qbm,zZ,zE,zB,N_neq,qa2,N_geq,qbO,qaO,outOf_N,decide_not,Nat.reduceLT,Nat.reduceEqDiff,Nat.reduceAdd,zQ,zT,zu,zf,qbB,qcT,qcw,qb7,qbC,op_slcAV,slcAV_ptr,qax,qaM,qay,qa0,zI,qbd,Nat.sub_zero,zZ,qaZ,List.getElem?_cons_zero,List.getElem?_cons_succ,qbz,qc8,guardO_true',guardO_false',qb3,qbE,qcr,touch_ld,qcL,touch_b2s,reach_none,nms_fn,qaP,za,zY,zz,z6,z0,ordOk,qbv,zw,zx,Nat.testBit,Nat.reduceShiftRight,Nat.reduceAnd,Nat.reduceBEq,zf,zu,z7,zh,zzH,Bool.false_and,Nat.reduceSub,Nat.reduceLT,bne,qbN,qcp,qbI,qcf,qdk,isCall_b2s,qcv,zzH,zh,frontK_aB,qcI,qbo,qal,qcZ,qcD,List.getElem?_cons_zero,List.getElem?_cons_succ,L22,hrc,hc',hnj,Nat.not_lt_zero,zQ,qbC,zZ,z8,hcc,hf32,op_b2s,b2sV_sl,b2sV_isl,b2sK_bs,lb_map,txt_nq,c1,c2,aB_neq,qaK,ipts_nms0,qbd,qal,qbo]
            rfl
          | true =>
            cases c3:joinedB j L <;> simp only[c3] at hjc
            all_goals
              simp (disch:=first|omega|decide|simp only[qai,qag,qak,qaj,qah,qae,qac,qad,qan]) only[qbb,qba,qbp,qau,qa3,qao,qap,qam,qaf,qaS,qbA,qaq,qa7,qaz,qaI,qar,qbq,qaF,qbr,qaB,op_un,qa1,qaT,qaa,qbQ,qa4,qdm,qaw,qaY,qat,qbg,qbl,zK,zL,zN,zO,zG,zF,zS,zW,zP,zV,zR,qa5,zy,zJ,zM,qcU,zI,Nat.reduceAdd,Nat.reduceSub,qab,qaX,qaQ,qbe,qb6,qbx,op_ld,qbR,op_box,qcg,qbt,qbf,z8,zw,zx,zh,zD,Nat.reduceEqDiff,Nat.reduceLT,zH,zC,zA,zB,zE,zT,zQ,qbH,qbP,qbm,zZ,zE,zB,N_neq,qa2,N_geq,qbO,qaO,outOf_N,decide_not,Nat.reduceLT,Nat.reduceEqDiff,Nat.reduceAdd,zQ,zT,zu,zf,qbB,qcT,qcw,qb7,qbC,op_slcAV,slcAV_ptr,qax,qaM,qay,qa0,zI,qbd,Nat.sub_zero,zZ,qaZ,List.getElem?_cons_zero,List.getElem?_cons_succ,qbz,qc8,guardO_true',qb3,qbE,qcr,touch_ld,qcL,touch_b2s,reach_none,nms_fn,qaP,za,zY,zz,z6,z0,ordOk,qbv,zw,zx,Nat.testBit,Nat.reduceShiftRight,Nat.reduceAnd,Nat.reduceBEq,zf,zu,z7,zh,zzH,Nat.reduceSub,Nat.reduceLT,bne,qbN,qcp,qbI,qcf,qdk,isCall_b2s,qcv,zzH,zh,frontK_aB,qcI,qbo,qal,qcZ,qcD,List.getElem?_cons_zero,List.getElem?_cons_succ,L22,hrc,hc',hnj,Nat.not_lt_zero,zQ,qbC,zZ,z8,hcc,hjc,hf32,op_b2s,b2sV_sl,b2sV_isl,b2sK_bs,lb_map,txt_nq,c1,c2,aB_neq,qaK,ipts_nms0,qcJ,qbd,qal,qbo]
              try rfl
      · have e1 : decide (((n : Nat) : Int) ≤ i) = true := by simp; omega
        rw[decide_eq_false (fun h:(0:Int)≤i∧i < (n:Int)=>h1 h.2)]
        rw[show I (n:Int)=N n from rfl] at hrc ⊢
        simp (disch:=first|omega|decide|simp only[qai,qag,qak,qaj,qah,qae,qac,qad,qan]) only[qbb,qbp,qau,qa3,qao,qap,qam,qaf,qaS,qbA,qaq,qa7,qaz,qaI,qar,qbq,qaF,qbr,qaB,qa1,qaT,qaa,qbQ,qdm,qaw,qaY,qbg,qbl,zK,zL,zN,zO,zG,zF,zP,zV,qa5,zy,zJ,zM,zI,Nat.reduceAdd,Nat.reduceSub,qab,qaX,qbR,op_box,qcg,qbt,qbf,zD,Nat.reduceEqDiff,zH,zC,zA,zB,zE,zT,qbH,qbm,zE,zB,N_neq,outOf_N,decide_not,Nat.reduceEqDiff,Nat.reduceAdd,zT,zf,qax,qaM,qay,qa0,zI,qaZ,List.getElem?_cons_zero,List.getElem?_cons_succ,zf,Nat.reduceSub,qal,qcZ,qcD,List.getElem?_cons_zero,List.getElem?_cons_succ,L22,hrc,I_lssN,I_geqN,e0,e1,qal]
        rfl
    · have e0 : decide (i < ((0 : Nat) : Int)) = true := by simp; omega
      rw[decide_eq_false (fun h:(0:Int)≤i∧i < (n:Int)=>h0 h.1)]
      rw[show I (n:Int)=N n from rfl] at hrc ⊢
      simp (disch:=first|omega|decide|simp only[qai,qag,qak,qaj,qah,qae,qac,qad,qan]) only[qbb,qbp,qau,qa3,qao,qap,qam,qaf,qaS,qbA,qcO,qaq,qa7,qaz,qaI,qar,qb0,qbq,qaF,qbr,qaB,qa1,qaT,qaa,qbQ,qdm,qaw,qaY,qbg,qbl,zK,zL,zN,zO,zG,zF,zP,zV,qa5,zy,zJ,zM,zI,Nat.reduceAdd,Nat.reduceSub,qab,qaX,qbR,op_box,qcg,qbt,qbf,zD,Nat.reduceEqDiff,zH,zC,zA,zB,zE,zT,qbH,qbm,zE,zB,N_neq,outOf_N,decide_not,Nat.reduceEqDiff,Nat.reduceAdd,zT,zf,qax,qaM,qay,qa0,zI,qaZ,List.getElem?_cons_zero,List.getElem?_cons_succ,zf,Nat.reduceSub,qal,qcZ,qcD,List.getElem?_cons_zero,List.getElem?_cons_succ,L22,hrc,I_lssN,e0,qal]
      rfl
set_option maxRecDepth 20000 in
theorem rcheck_F (k:Nat) (z i:Int) (leaf:Nat→BitVec 8) (L:List (List (BitVec 8))) (want:Nat→BitVec 8) :
    F C (k+1200) 26 [I z,I i,.agg (aB 32 leaf),.isl (sls L) L.length,.agg (aB 32 want)] []=some (N (checkV z i leaf L want),[],[]):=by
  rw[qch f26]
  have hr:=root2_F (k+699) z L
  have hrc:=fun (b:Nat) (H:Heap)=>call_isl (k+1199) b 23 H _ _ rfl (by rw[zS,zS,qcJ]; rfl) (by rw[zG,zG,qc6]; rfl) hr (by intro π; exact tup_ren _ _ _ _)
  cases h:rightB z L with
  | false =>
    rw[rootE_neg h] at hrc
    rw[checkV,h,Bool.false_and]
    simp (disch:=first|omega|decide|simp only[qai,qag,qak,qaj,qah,qae,qac,qad,qan]) only[qbb,qbp,qau,qao,qap,qam,qaf,qaS,qcO,qaq,qa7,qaz,qaI,qar,qb0,qaF,qbr,qaB,qa1,qaT,qaa,qbQ,qaw,qaY,qbg,qbl,zK,zL,zN,zO,zG,zF,zP,zV,qa5,zy,zJ,zM,zI,Nat.reduceAdd,Nat.reduceSub,qab,qaX,qbR,op_box,qcg,qbt,qbf,zD,Nat.reduceEqDiff,zH,zC,zA,zB,zE,zQ,zd,qbH,qbm,zE,zB,N_neq,outOf_N,decide_not,Nat.reduceEqDiff,Nat.reduceAdd,zQ,zu,qax,qaM,qay,qa0,zI,qaZ,List.getElem?_cons_zero,List.getElem?_cons_succ,zu,Nat.reduceSub,qal,qcZ,qcD,List.getElem?_cons_zero,List.getElem?_cons_succ,L26,hrc,qal]
    rfl
  | true =>
    rw[rootE_pos h] at hrc
    obtain ⟨n,rfl,n1,n2,n3,n4⟩:=right_of h
    rw[checkV,h,Bool.true_and]
    by_cases h0:0≤i
    · have e0 : decide (i < ((0 : Nat) : Int)) = false := by simpa using h0
      by_cases h1:i < n
      · obtain ⟨j, rfl⟩ : ∃ j : Nat, i = (j : Int) := ⟨i.toNat, by omega⟩
        have hjn:j < n:=by omega
        have hnj:¬ n≤j:=by omega
        rw[decide_eq_true (⟨h0,h1⟩:(0:Int)≤j∧(j:Int) < n),if_pos rfl,Int.toNat_natCast]
        rw[show I (n:Int)=N n from rfl] at hrc ⊢
        rw[show I (j:Int)=N j from rfl]
        have hl0:=n4 _ (getD_mem (show 0 < L.length by omega))
        have hlp:0 < L.length:=by omega
        have hc:∀ H:Heap,cellAt H 1 (.ipt ((sls L).drop 0))=some [.isl (bs (L.getD 0 [])) 512]:=by
          intro H
          have:=sls_cell (H:=H) L 0 hlp
          rwa [hl0] at this
        have hc':∀ H:Heap,cellAt H 1 (.ipt (sls L))=some [.isl (bs (L.getD 0 [])) 512]:=hc
        have hn2:=nl_le n
        have hcc:=slc_ch (L.getD 0 []) hl0 j
        have hm:j % 16 < 16:=Nat.mod_lt _ (by omega)
        have hjj:=rjoined_F (k+199) j (by omega) L (by omega) (by omega) n4
        have hjc:=fun (b:Nat) (H:Heap)=>call_isl (k+1199) b 39 H _ _ rfl (by rw[zS,zS,qcJ]; rfl) (by rw[zG,zG,qc6]; rfl) hjj (by intro π; rfl)
        have hf32:=fun (H:Heap)=>front32 H (ch (L.getD 0 []) j) (ch_length hl0 _)
        cases c1:aB_same 32 (rootF n L) want with
        | false =>
          cases c2:decide (ch (L.getD 0 []) j=lb32 leaf) with
          | false =>
            simp (disch:=first|omega|decide|simp only[qai,qag,qak,qaj,qah,qae,qac,qad,qan]) only[qbb,qba,qbp,qau,qao,qap,qam,qaf,qaS,qbA,qcO,qaq,qa7,qaz,qaI,qar,qb0,qbq,qaF,qbr,qaB,qa1,qaT,qaa,qbQ,qaw,qaY,qat,qbg,qbl,zK,zL,zN,zO,zG,zF,zP,zV,qa5,zy,zJ,zM,zI,Nat.reduceAdd,Nat.reduceSub,qab,qaX,qbe,qbx,qbR,op_box,qcg,qbt,qbf,z8,zw,zx,zh,zD,Nat.reduceEqDiff,Nat.reduceLT,zH,zC,zA,zB,zE,zT,zQ,qbH,qbm,zZ,zE,zB,qbY,N_mul,N_rem,N_neq,qa2,N_geq,qbO,outOf_N,decide_not,Nat.reduceLT,Nat.reduceEqDiff,Nat.reduceAdd,zQ,zT,zu,zf,qbD,qbB,qcT,qcw,qdc,op_slcS,qdd,qb7,qbC,op_slcAV,slcAV_ptr,qax,qaM,qay,qa0,zI,qbd,Nat.sub_zero,zZ,qaZ,List.getElem?_cons_zero,List.getElem?_cons_succ,qbz,qc8,guardO_false',qb3,qbE,qcr,touch_b2s,za,zY,zz,z6,z0,ordOk,qbv,zw,zx,Nat.testBit,Nat.reduceShiftRight,Nat.reduceAnd,Nat.reduceBEq,zf,zu,z7,zh,Bool.false_and,Nat.reduceSub,Nat.reduceLT,bne,qbN,qcp,qbI,qcf,isCall_b2s,zh,frontK_aB,qcI,qbo,qal,qcZ,qcD,List.getElem?_cons_zero,List.getElem?_cons_succ,L26,hrc,hc',hnj,Nat.not_lt_zero,zQ,qbC,zZ,z8,hcc,hf32,op_b2s,b2sV_sl,b2sV_isl,b2sK_bs,lb_map,txt_nq,c2,qaK,ipts_nms0,qbd,qal,qbo]
            rfl
          | true =>
            cases c3:joinedB j L <;> simp only[c3] at hjc
            all_goals
              simp (disch:=first|omega|decide|simp only[qai,qag,qak,qaj,qah,qae,qac,qad,qan]) only[qbb,qba,qbp,qau,qao,qap,qam,qaf,qaS,qbA,qcO,qaq,qa7,qaz,qaI,qar,qb0,qbq,qaF,qbr,qaB,op_un,qa1,qaT,qaa,qbQ,qaw,qaY,qat,qbg,qbl,zK,zL,zN,zO,zG,zF,zS,zW,zP,zV,zR,qa5,zy,zJ,zM,qcU,zI,Nat.reduceAdd,Nat.reduceSub,qab,qaX,qaQ,qbe,qb6,qbx,op_ld,qbR,op_box,qcg,qbt,qbf,z8,zw,zx,zh,zD,Nat.reduceEqDiff,Nat.reduceLT,zH,zC,zA,zB,zE,zT,zQ,qbH,qbP,qbm,zZ,zE,zB,qbY,N_mul,N_rem,N_neq,qa2,N_geq,qbO,qaO,outOf_N,decide_not,Nat.reduceLT,Nat.reduceEqDiff,Nat.reduceAdd,zQ,zT,zu,zf,qbD,qbB,qcT,qcw,qdc,op_slcS,qdd,qb7,qbC,op_slcAV,slcAV_ptr,qax,qaM,qay,qa0,zI,qbd,Nat.sub_zero,zZ,qaZ,List.getElem?_cons_zero,List.getElem?_cons_succ,qbz,qc8,guardO_true',guardO_false',qb3,qbE,qcr,touch_ld,qcL,touch_b2s,reach_none,nms_fn,qaP,za,zY,zz,z6,z0,ordOk,qbv,zw,zx,Nat.testBit,Nat.reduceShiftRight,Nat.reduceAnd,Nat.reduceBEq,zf,zu,z7,zh,Nat.reduceSub,Nat.reduceLT,bne,qbN,qcp,qbI,qcf,qdk,isCall_b2s,qcv,zh,frontK_aB,qcI,qbo,qal,qcZ,qcD,List.getElem?_cons_zero,List.getElem?_cons_succ,L26,hrc,hc',hnj,Nat.not_lt_zero,zQ,qbC,zZ,z8,hcc,hjc,hf32,op_b2s,b2sV_sl,b2sV_isl,b2sK_bs,lb_map,txt_nq,c1,c2,aB_neq,qaK,ipts_nms0,qcJ,qbd,qal,qbo]
              try rfl
        | true =>
          cases c2:decide (ch (L.getD 0 []) j=lb32 leaf) with
          | false =>
            simp (disch:=first|omega|decide|simp only[qai,qag,qak,qaj,qah,qae,qac,qad,qan]) only[qbb,qba,qbp,qau,qao,qap,qam,qaf,qaS,qbA,qcO,qaq,qa7,qaz,qaI,qar,qb0,qbq,qaF,qbr,qaB,qa1,qaT,qaa,qbQ,qaw,qaY,qat,qbg,qbl,zK,zL,zN,zO,zG,zF,zP,zV,qa5,zy,zJ,zM,zI,Nat.reduceAdd,Nat.reduceSub,qab,qaX,qbe,qbx,qbR,op_box,qcg,qbt,qbf,z8,zw,zx,zh,zD,Nat.reduceEqDiff,Nat.reduceLT,zH,zC,zA,zB,zE,zT,zQ,qbH,qbm,zZ,zE,zB,qbY,N_mul,N_rem,N_neq,qa2,N_geq,qbO,outOf_N,decide_not,Nat.reduceLT,Nat.reduceEqDiff,Nat.reduceAdd,zQ,zT,zu,zf,qbD,qbB,qcT,qcw,qdc,op_slcS,qdd,qb7,qbC,op_slcAV,slcAV_ptr,qax,qaM,qay,qa0,zI,qbd,Nat.sub_zero,zZ,qaZ,List.getElem?_cons_zero,List.getElem?_cons_succ,qbz,qc8,guardO_false',qb3,qbE,qcr,touch_b2s,za,zY,zz,z6,z0,ordOk,qbv,zw,zx,Nat.testBit,Nat.reduceShiftRight,Nat.reduceAnd,Nat.reduceBEq,zf,zu,z7,zh,zzH,Bool.false_and,Nat.reduceSub,Nat.reduceLT,bne,qbN,qcp,qbI,qcf,isCall_b2s,zzH,zh,frontK_aB,qcI,qbo,qal,qcZ,qcD,List.getElem?_cons_zero,List.getElem?_cons_succ,L26,hrc,hc',hnj,Nat.not_lt_zero,zQ,qbC,zZ,z8,hcc,hf32,op_b2s,b2sV_sl,b2sV_isl,b2sK_bs,lb_map,txt_nq,c2,qaK,ipts_nms0,qbd,qal,qbo]
            rfl
          | true =>
            cases c3:joinedB j L <;> simp only[c3] at hjc
            all_goals
              simp (disch:=first|omega|decide|simp only[qai,qag,qak,qaj,qah,qae,qac,qad,qan]) only[qbb,qba,qbp,qau,qao,qap,qam,qaf,qaS,qbA,qcO,qaq,qa7,qaz,qaI,qar,qb0,qbq,qaF,qbr,qaB,op_un,qa1,qaT,qaa,qbQ,qaw,qaY,qat,qbg,qbl,zK,zL,zN,zO,zG,zF,zS,zW,zP,zV,zR,qa5,zy,zJ,zM,qcU,zI,Nat.reduceAdd,Nat.reduceSub,qab,qaX,qaQ,qbe,qb6,qbx,op_ld,qbR,op_box,qcg,qbt,qbf,z8,zw,zx,zh,zD,Nat.reduceEqDiff,Nat.reduceLT,zH,zC,zA,zB,zE,zT,zQ,qbH,qbP,qbm,zZ,zE,zB,qbY,N_mul,N_rem,N_neq,qa2,N_geq,qbO,qaO,outOf_N,decide_not,Nat.reduceLT,Nat.reduceEqDiff,Nat.reduceAdd,zQ,zT,zu,zf,qbD,qbB,qcT,qcw,qdc,op_slcS,qdd,qb7,qbC,op_slcAV,slcAV_ptr,qax,qaM,qay,qa0,zI,qbd,Nat.sub_zero,zZ,qaZ,List.getElem?_cons_zero,List.getElem?_cons_succ,qbz,qc8,guardO_true',guardO_false',qb3,qbE,qcr,touch_ld,qcL,touch_b2s,reach_none,nms_fn,qaP,za,zY,zz,z6,z0,ordOk,qbv,zw,zx,Nat.testBit,Nat.reduceShiftRight,Nat.reduceAnd,Nat.reduceBEq,zf,zu,z7,zh,zzH,Nat.reduceSub,Nat.reduceLT,bne,qbN,qcp,qbI,qcf,qdk,isCall_b2s,qcv,zzH,zh,frontK_aB,qcI,qbo,qal,qcZ,qcD,List.getElem?_cons_zero,List.getElem?_cons_succ,L26,hrc,hc',hnj,Nat.not_lt_zero,zQ,qbC,zZ,z8,hcc,hjc,hf32,op_b2s,b2sV_sl,b2sV_isl,b2sK_bs,lb_map,txt_nq,c1,c2,aB_neq,qaK,ipts_nms0,qcJ,qbd,qal,qbo]
              try rfl
      · have e1 : decide (((n : Nat) : Int) ≤ i) = true := by simp; omega
        rw[decide_eq_false (fun h:(0:Int)≤i∧i < (n:Int)=>h1 h.2)]
        rw[show I (n:Int)=N n from rfl] at hrc ⊢
        simp (disch:=first|omega|decide|simp only[qai,qag,qak,qaj,qah,qae,qac,qad,qan]) only[qbb,qbp,qau,qao,qap,qam,qaf,qaS,qbA,qaq,qa7,qaz,qaI,qar,qbq,qaF,qbr,qaB,qa1,qaT,qaa,qbQ,qaw,qaY,qbg,qbl,zK,zL,zN,zO,zG,zF,zP,zV,qa5,zy,zJ,zM,zI,Nat.reduceAdd,Nat.reduceSub,qab,qaX,qbR,op_box,qcg,qbt,qbf,zD,Nat.reduceEqDiff,zH,zC,zA,zB,zE,zT,qbH,qbm,zE,zB,N_neq,outOf_N,decide_not,Nat.reduceEqDiff,Nat.reduceAdd,zT,zf,qax,qaM,qay,qa0,zI,qaZ,List.getElem?_cons_zero,List.getElem?_cons_succ,zf,Nat.reduceSub,qal,qcZ,qcD,List.getElem?_cons_zero,List.getElem?_cons_succ,L26,hrc,I_lssN,I_geqN,e0,e1,qal]
        rfl
    · have e0 : decide (i < ((0 : Nat) : Int)) = true := by simp; omega
      rw[decide_eq_false (fun h:(0:Int)≤i∧i < (n:Int)=>h0 h.1)]
      rw[show I (n:Int)=N n from rfl] at hrc ⊢
      simp (disch:=first|omega|decide|simp only[qai,qag,qak,qaj,qah,qae,qac,qad,qan]) only[qbb,qbp,qau,qao,qap,qam,qaf,qaS,qbA,qcO,qaq,qa7,qaz,qaI,qar,qb0,qbq,qaF,qbr,qaB,qa1,qaT,qaa,qbQ,qaw,qaY,qbg,qbl,zK,zL,zN,zO,zG,zF,zP,zV,qa5,zy,zJ,zM,zI,Nat.reduceAdd,Nat.reduceSub,qab,qaX,qbR,op_box,qcg,qbt,qbf,zD,Nat.reduceEqDiff,zH,zC,zA,zB,zE,zT,qbH,qbm,zE,zB,N_neq,outOf_N,decide_not,Nat.reduceEqDiff,Nat.reduceAdd,zT,zf,qax,qaM,qay,qa0,zI,qaZ,List.getElem?_cons_zero,List.getElem?_cons_succ,zf,Nat.reduceSub,qal,qcZ,qcD,List.getElem?_cons_zero,List.getElem?_cons_succ,L26,hrc,I_lssN,e0,qal]
      rfl
end Sha
