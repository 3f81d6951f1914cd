/- Calls on ciphers in the caller's memory. -/
import Derived.Test.YtgabgpgcplkebaaLeZ
set_option linter.unusedVariables false
set_option linter.unusedSimpArgs false
namespace Aes
open Go Go.LE
set_option maxRecDepth 20000
theorem noImm_bs (l:List (BitVec 8)):(bs l).all (noImm D)=true:=by
  rw[List.all_eq_true]; intro x hx; simp only[bs,List.mem_map] at hx; obtain ⟨y,_,rfl⟩:=hx; rfl
theorem noImm_aBs (n:Nat) (f:R):(aB n f).all (noImm D)=true:=by
  rw[List.all_eq_true]; intro x hx; simp only[aB,arr,List.mem_map] at hx; obtain ⟨y,_,rfl⟩:=hx; rfl
theorem resK_any (names:List Nm) (base:Nat) (plain:Bool) (res:CallRes) (h:plainRes res=true):resK names base plain (some res)=some (backTo names base res):=by
  simp[resK,h]
theorem c_new_of (g K b len:Nat) (hg:qcf g 0=true) (H:Heap) (B:LV) (key:List (BitVec 8)) (lent:List Nm) (hs:snap H D B=some (.isl (bs key) key.length,lent)) (O:LV→qaV)
    (hO:∀ r,(O r).all (noImm D)=noImm D r) (hOr:∀ π r,(O r).map (ren D π)=O (ren D π r)) (l:List (BitVec 8))
    (hF:F C K g [.isl (bs key) key.length] []=some (.tup [.ptr (1,0) 0,N 0],[],[O (.sl (1,1) 0 len none 16),bs l])) :
    qbD (envC C K) H b g [B]=some ⟨.tup [.ptr (b,0) 0,N 0],[O (.sl (b,1) 0 len none 16),bs l],[]⟩:=by
  have hlend:lend H ((envC C K).borrow g) 0 [B]=some ([.isl (bs key) key.length],lent):=by
    rw[qdq,lend_nil,envC_borrow,C_bor,if_pos hg,hs,qde,zQ]
  have hn:([.isl (bs key) key.length]:List LV).flatMap (nms D)=[]:=by
    simp only[zV,zX,qbw,zQ]
  have ha:([.isl (bs key) key.length]:List LV).map (ren D (qbx []))=[.isl (bs key) key.length]:=by
    simp only[zG,zC,qbO]
  have hp:plainRes (.tup [.ptr (1,0) 0,N 0],[],[O (.sl (1,1) 0 len none 16),bs l])=true:=by
    simp only[plainRes,zd,za,hO,noImm_bs]; rfl
  have hl:lent.any (fun n=>([]:List Nm).contains n)=false:=by simp
  rw[callOp_L,hlend,callL_some,hn,show qbL H FUEL [] []=[] from rfl,callN_eq _ _ _ _ _ hl,ha,zzB,zC,envC_cal,hF,resK_any _ _ _ _ hp,qdp]
  simp only[zG,zC,hOr,qaK,qbq,zK,zJ,toCaller_1,zA,Nat.reduceAdd,Nat.reduceLT,qbK,List.zipWith_nil_left]
  rfl
theorem c_bad_of (g K b:Nat) (hg:qcf g 0=true) (H:Heap) (B:LV) (key:List (BitVec 8)) (lent:List Nm) (hs:snap H D B=some (.isl (bs key) key.length,lent))
    (hF:F C K g [.isl (bs key) key.length] []=some (.tup [NilP,N 20],[],[])):qbD (envC C K) H b g [B]=some ⟨.tup [NilP,N 20],[],[]⟩:=by
  have hlend:lend H ((envC C K).borrow g) 0 [B]=some ([.isl (bs key) key.length],lent):=by
    rw[qdq,lend_nil,envC_borrow,C_bor,if_pos hg,hs,qde,zQ]
  have hn:([.isl (bs key) key.length]:List LV).flatMap (nms D)=[]:=by
    simp only[zV,zX,qbw,zQ]
  have ha:([.isl (bs key) key.length]:List LV).map (ren D (qbx []))=[.isl (bs key) key.length]:=by
    simp only[zG,zC,qbO]
  have hl:lent.any (fun n=>([]:List Nm).contains n)=false:=by simp
  rw[callOp_L,hlend,callL_some,hn,show qbL H FUEL [] []=[] from rfl,callN_eq _ _ _ _ _ hl,ha,zzB,zC,envC_cal,hF,resK_any _ _ _ _ rfl,qdp]
  rfl
theorem noImm_CF (r:LV) (f:R):(CF r f).all (noImm D)=noImm D r:=by rw[CF,za,noImm_aBs,zU]
theorem noImm_RF (r:LV) (f:R):(RF r f).all (noImm D)=noImm D r:=by rw[RF,za,noImm_aBs,zU]
theorem c_new (k n b:Nat) (hn:n=4∨n=8) (H:Heap) (B:LV) (key:List (BitVec 8)) (hk:key.length=4*n) (lent:List Nm) (hs:snap H D B=some (.isl (bs key) key.length,lent)) :
    qbD (envC C (k+400)) H b 12 [B]=some ⟨.tup [.ptr (b,0) 0,N 0],[CF (.sl (b,1) 0 (n+7) none 16) TB,bs (W n key)],[]⟩ :=
  c_new_of 12 _ b (n+7) (by decide) H B key lent hs (fun r=>CF r TB) (fun r=>noImm_CF r _) (fun π r=>qbt π r _) (W n key) (new_F k n hn key hk)
theorem c_rnew (k n b:Nat) (hn:n=4∨n=8) (H:Heap) (B:LV) (key:List (BitVec 8)) (hk:key.length=4*n) (lent:List Nm) (hs:snap H D B=some (.isl (bs key) key.length,lent)) :
    qbD (envC C (k+400)) H b 16 [B]=some ⟨.tup [.ptr (b,0) 0,N 0],[RF (.sl (b,1) 0 (n+7) none 16) TB,bs (W n key)],[]⟩ :=
  c_new_of 16 _ b (n+7) (by decide) H B key lent hs (fun r=>RF r TB) (fun r=>noImm_RF r _) (fun π r=>qcS π r _) (W n key) (rnew_F k n hn key hk)
theorem c_enc (k n b:Nat) (hn:n≤20) (H:Heap) (c m:Nm) (l:List (BitVec 8)) (h:KG H c m (n+2) none l) (hl:l.length=16*(n+2)) (s:R) :
    qbD (envC C (k+60)) H b 17 [.ptr c 0,.agg (aB 16 s)]=some ⟨.agg (aB 16 (enc (kf l) n s)),[],[(c,some (CF (.sl m 0 (n+2) none 16) TB)),(m,some (bs l))]⟩ :=
  callK _ b 17 l17 H c m (n+2) none l h _ (Pl.pa 16 s Pl.e) _ (fun π=>qbN 16 _ π) (enc_F k n hn l hl s)
theorem c_dec (k n b:Nat) (hn:n≤20) (H:Heap) (c m:Nm) (l:List (BitVec 8)) (h:KG H c m (n+2) none l) (hl:l.length=16*(n+2)) (s:R) :
    qbD (envC C (k+60)) H b 19 [.ptr c 0,.agg (aB 16 s)]=some ⟨.agg (aB 16 (dec (kf l) n s)),[],[(c,some (CF (.sl m 0 (n+2) none 16) TB)),(m,some (bs l))]⟩ :=
  callK _ b 19 l19 H c m (n+2) none l h _ (Pl.pa 16 s Pl.e) _ (fun π=>qbN 16 _ π) (dec_F k n hn l hl s)
structure RG (H:Heap) (c m:Nm) (len:Nat) (cap:Option Nat) (l:List (BitVec 8)):Prop where
  hc:H c=some (RF (.sl m 0 len cap 16) TB)
  hm:H m=some (bs l)
  ne:c≠m
theorem callRK (k b g:Nat) (hg:qcf g=fun _=>false) (H:Heap) (c m:Nm) (len:Nat) (cap:Option Nat) (l:List (BitVec 8)) (h:RG H c m len cap l) (ps:List LV) (hp:Pl ps) (r:LV) (hr:∀ π,ren D π r=r)
    (hw:F C k g (.ptr (0,0) 0::ps) [RF (.sl (0,1) 0 len cap 16) TB,bs l]=some (r,[some (RF (.sl (0,1) 0 len cap 16) TB),some (bs l)],[])) :
    qbD (envC C k) H b g (.ptr c 0::ps)=some ⟨r,[],[(c,some (RF (.sl m 0 len cap 16) TB)),(m,some (bs l))]⟩:=by
  have hc:([c]:List Nm).contains m=false:=by simp; exact fun e=>h.ne e.symm
  have hre:qbL H FUEL [] [c]=[c,m]:=by
    simp only[FUEL,qaz,zW,zf,zE,h.hc,qax,RF_nms,qaQ,zI,zR,hc,h.hm,qaP,qaB]
  rw[callOp_L,envC_borrow,C_bor,hg,lend_none,callL_some]
  have hn:(LV.ptr c 0::ps).flatMap (nms D)=[c]:=by rw[zV,qaE,hp.n]; rfl
  rw[hn,hre,callN_eq _ _ _ _ _ rfl,show ([c,m]:List Nm).filterMap H=[RF (.sl m 0 len cap 16) TB,bs l] by simp[h.hc,h.hm]]
  have ha:(LV.ptr c 0::ps).map (ren D (qbx [c,m])) = .ptr (0,0) 0::ps:=by
    simp only[zG,qb2,toCallee_eq,idx0,zH,qcE,hp.r]
  rw[ha,zG,zG,zC,qcS,qbq,toCallee_eq,idx1 _ _ _ h.ne,zH,qbK,qaK,envC_cal,hw,show ([]:List Nm).isEmpty=true from rfl,resK_sc,qdp,hr]
  simp only[List.zipWith_cons_cons,List.zipWith_nil_left,zH,qcS,qbq,toCaller_0,qaK,zC,qbK,List.getElem?_cons_zero,List.getElem?_cons_succ]
theorem c_renc (k n b:Nat) (hn:n≤20) (H:Heap) (c m:Nm) (l:List (BitVec 8)) (h:RG H c m (n+2) none l) (hl:l.length=16*(n+2)) (s:R) :
    qbD (envC C (k+60)) H b 18 [.ptr c 0,.agg (aB 16 s)]=some ⟨.agg (aB 16 (enc (kf l) n s)),[],[(c,some (RF (.sl m 0 (n+2) none 16) TB)),(m,some (bs l))]⟩ :=
  callRK _ b 18 l18 H c m (n+2) none l h _ (Pl.pa 16 s Pl.e) _ (fun π=>qbN 16 _ π) (renc_F k n hn l hl s)
theorem c_rdec (k n b:Nat) (hn:n≤20) (H:Heap) (c m:Nm) (l:List (BitVec 8)) (h:RG H c m (n+2) none l) (hl:l.length=16*(n+2)) (s:R) :
    qbD (envC C (k+60)) H b 20 [.ptr c 0,.agg (aB 16 s)]=some ⟨.agg (aB 16 (dec (kf l) n s)),[],[(c,some (RF (.sl m 0 (n+2) none 16) TB)),(m,some (bs l))]⟩ :=
  callRK _ b 20 l20 H c m (n+2) none l h _ (Pl.pa 16 s Pl.e) _ (fun π=>qbN 16 _ π) (rdec_F k n hn l hl s)
theorem same_aB (n:Nat) (f:R):sameL (aB n f) (aB n f)=true:=same_cells fun x hx=>by
  simp only[aB,arr,List.mem_map] at hx; obtain ⟨y,_,rfl⟩:=hx; exact same_B8 _
theorem same_CF (m:Nm) (len:Nat) (cap:Option Nat) (f:R):sameL (CF (.sl m 0 len cap 16) f) (CF (.sl m 0 len cap 16) f)=true:=by
  rw[CF,sameL,same_aB,zU]; simp[same1]
theorem same_RF (m:Nm) (len:Nat) (cap:Option Nat) (f:R):sameL (RF (.sl m 0 len cap 16) f) (RF (.sl m 0 len cap 16) f)=true:=by
  rw[RF,sameL,same_aB,zU]; simp[same1]
theorem tr_KG (H:Heap) (v:LV) (c m:Nm) (len:Nat) (cap:Option Nat) (l:List (BitVec 8)) (h:KG H c m len cap l):trimO true H (some ⟨v,[],[(c,some (CF (.sl m 0 len cap 16) TB)),(m,some (bs l))]⟩)=some ⟨v,[],[]⟩:=by
  refine trimO_same _ _ _ _ fun q hm => ?_
  simp only[List.mem_cons,List.not_mem_nil,zl] at hm
  rcases hm with rfl | rfl
  · simp only[h.hc,sameO,same_CF]
  · simp only[h.hm,sameO,same_bs]
theorem tr_RG (H:Heap) (v:LV) (c m:Nm) (len:Nat) (cap:Option Nat) (l:List (BitVec 8)) (h:RG H c m len cap l):trimO true H (some ⟨v,[],[(c,some (RF (.sl m 0 len cap 16) TB)),(m,some (bs l))]⟩)=some ⟨v,[],[]⟩:=by
  refine trimO_same _ _ _ _ fun q hm => ?_
  simp only[List.mem_cons,List.not_mem_nil,zl] at hm
  rcases hm with rfl | rfl
  · simp only[h.hc,sameO,same_RF]
  · simp only[h.hm,sameO,same_bs]
theorem reach_KG {H:Heap} {c m:Nm} {len:Nat} {cap:Option Nat} {l:List (BitVec 8)} (h:KG H c m len cap l):qbL H FUEL [] [c]=[c,m]:=by
  have hc:([c]:List Nm).contains m=false:=by simp; exact fun e=>h.ne e.symm
  simp only[FUEL,qaz,zW,zf,zE,h.hc,qax,qbu,qaQ,zI,zR,hc,h.hm,qaP,qaB]
theorem reach_RG {H:Heap} {c m:Nm} {len:Nat} {cap:Option Nat} {l:List (BitVec 8)} (h:RG H c m len cap l):qbL H FUEL [] [c]=[c,m]:=by
  have hc:([c]:List Nm).contains m=false:=by simp; exact fun e=>h.ne e.symm
  simp only[FUEL,qaz,zW,zf,zE,h.hc,qax,RF_nms,qaQ,zI,zR,hc,h.hm,qaP,qaB]
theorem KG.only {H:Heap} {c m:Nm} {len:Nat} {cap:Option Nat} {l:List (BitVec 8)} (h:KG H c m len cap l):KG (LE.only [c,m] H) c m len cap l :=
  ⟨by rw[LE.only,if_pos (by simp)]; exact h.hc,by rw[LE.only,if_pos (by simp)]; exact h.hm,h.ne⟩
theorem RG.only {H:Heap} {c m:Nm} {len:Nat} {cap:Option Nat} {l:List (BitVec 8)} (h:RG H c m len cap l):RG (LE.only [c,m] H) c m len cap l :=
  ⟨by rw[LE.only,if_pos (by simp)]; exact h.hc,by rw[LE.only,if_pos (by simp)]; exact h.hm,h.ne⟩
end Aes
namespace Aes
open Go Go.LE
set_option maxRecDepth 20000
end Aes
namespace Aes
open Go Go.LE
set_option maxRecDepth 20000
theorem snap_aB {H:Heap} {m:Nm} {n:Nat} {f:R} (h:H m=some (aB n f)) (len:Nat) (c:Option Nat) (h0:len≠0) (hl:len≤n) :
    snap H D (.sl m 0 len c 1)=some (.isl (bs ((List.range len).map f)) ((List.range len).map f).length,[m]):=by
  rw[aB_bs] at h
  rw[snap_bytes m 0 len c _ h h0,zw]
  have e:((List.range n).map f).take len=(List.range len).map f:=by
    rw[←List.map_take,List.take_range,Nat.min_eq_left hl]
  rw[e,zzK,List.length_range]
end Aes
namespace Aes
open Go Go.LE
set_option maxRecDepth 20000
end Aes
namespace Aes
open Go Go.LE
set_option maxRecDepth 20000
end Aes
namespace Go.LE
end Go.LE
namespace Aes
open Go Go.LE
set_option maxRecDepth 20000
theorem txt_neq (e:EqT) (a b:List (BitVec 8)):binV .neq e (txt a) (txt b)=some (Bo !(decide (a=b))):=by
  have h:=txt_eql e a b
  simp only[binV,txt,strOp,zH,Bo] at h ⊢
  revert h
  generalize decide (a=b)=x
  intro h
  simp only[Option.some.injEq,LV.v.injEq,Value.bool.injEq] at h ⊢
  rw[←h]
theorem ix_key (key:List (BitVec 8)) (o:Nat) (h:o < key.length):cellK o 1 (some (bs key))=some [B8 (key.getD o 0#8)]:=by
  rw[bs_cells _ _ 1 (by omega),List.drop_eq_getElem_cons h,List.getD_eq_getElem?_getD,List.getElem?_eq_getElem h]
  rfl
theorem b2sK_e:b2sK (some [])=some ⟨txt [],[],[]⟩:=b2sK_bs []
end Aes
