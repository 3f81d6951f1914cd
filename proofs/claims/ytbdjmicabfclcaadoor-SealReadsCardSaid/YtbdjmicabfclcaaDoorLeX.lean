/- The document's New: the object, the first loop. -/
import Derived.Test.YtbdjmicabfclcaaDoorLeW
set_option linter.unusedVariables false
set_option linter.unusedSimpArgs false
namespace Aes
open Go Go.LE Tb
set_option maxRecDepth 20000
def RF (kv:LV) (f:R):qal:=kv::aB 512 f
end Aes
namespace Aes
open Go Go.LE Tb
set_option maxRecDepth 20000
end Aes
namespace Aes
open Go Go.LE Tb
set_option maxRecDepth 20000
end Aes
namespace Aes
open Go Go.LE Tb
set_option maxRecDepth 20000
end Aes
namespace Aes
open Go Go.LE Tb
set_option maxRecDepth 20000
end Aes
namespace Aes
open Go Go.LE Tb
set_option maxRecDepth 20000
end Aes
namespace Aes
open Go Go.LE Tb
set_option maxRecDepth 20000
end Aes
namespace Aes
open Go Go.LE Tb
set_option maxRecDepth 20000
end Aes
namespace Aes
open Go Go.LE Tb
set_option maxRecDepth 20000
end Aes
namespace Aes
open Go Go.LE Tb
set_option maxRecDepth 20000
theorem qcD (l:List (BitVec 8)):(bs l).all (qbP D)=true:=by
  rw[List.all_eq_true]; intro x hx; simp only[bs,List.mem_map] at hx; obtain ⟨y,_,rfl⟩:=hx; rfl
theorem noImm_aBs (n:Nat) (f:R):(aB n f).all (qbP D)=true:=by
  rw[List.all_eq_true]; intro x hx; simp only[aB,arr,List.mem_map] at hx; obtain ⟨y,_,rfl⟩:=hx; rfl
theorem qcs (names:List Nm) (base:Nat) (plain:Bool) (res:qcg) (h:qa5 res=true):resK names base plain (some res)=some (qcG names base res):=by
  simp[resK,h]
theorem c_new_of (g K b len:Nat) (hg:qaJ g 0=true) (H:Heap) (B:LV) (key:List (BitVec 8)) (lent:List Nm) (hs:snap H D B=some (.isl (bs key) key.length,lent)) (O:LV→qal)
    (hO:∀ r,(O r).all (qbP D)=qbP D r) (hOr:∀ π r,(O r).map (ren D π)=O (ren D π r)) (l:List (BitVec 8))
    (hF:F C K g [.isl (bs key) key.length] []=some (.tup [.ptr (1,0) 0,N 0],[],[O (.sl (1,1) 0 len none 16),bs l])) :
    qar (envC C K) H b g [B]=some ⟨.tup [.ptr (b,0) 0,N 0],[O (.sl (b,1) 0 len none 16),bs l],[]⟩:=by
  have hlend:lend H ((envC C K).borrow g) 0 [B]=some ([.isl (bs key) key.length],lent):=by
    rw[qbo,qcC,qbF,qc3,if_pos hg,hs,qbc,zD]
  have hn:([.isl (bs key) key.length]:List LV).flatMap (nms D)=[]:=by
    simp only[zK,zN,qbg,zD]
  have ha:([.isl (bs key) key.length]:List LV).map (ren D (qaK []))=[.isl (bs key) key.length]:=by
    simp only[zB,zA,qbj]
  have hp:qa5 (.tup [.ptr (1,0) 0,N 0],[],[O (.sl (1,1) 0 len none 16),bs l])=true:=by
    simp only[qa5,List.all_nil,zT,hO,qcD]; rfl
  have hl:lent.any (fun n=>([]:List Nm).contains n)=false:=by simp
  rw[qbU,hlend,qbA,hn,show qa7 H FUEL [] []=[] from rfl,qbV _ _ _ _ _ hl,ha,zQ,zA,qbT,hF,qcs _ _ _ _ hp,qaT]
  simp only[zB,zA,hOr,qaq,qaZ,zE,zL,qbd,zO,Nat.reduceAdd,Nat.reduceLT,qa9,List.zipWith_nil_left]
  rfl
theorem qgE (r:LV) (f:R):(CF r f).all (qbP D)=qbP D r:=by rw[CF,zT,noImm_aBs,Bool.and_true]
theorem c_new (k n b:Nat) (hn:n=4∨n=8) (H:Heap) (B:LV) (key:List (BitVec 8)) (hk:key.length=4*n) (lent:List Nm) (hs:snap H D B=some (.isl (bs key) key.length,lent)) :
    qar (envC C (k+400)) H b 62 [B]=some ⟨.tup [.ptr (b,0) 0,N 0],[CF (.sl (b,1) 0 (n+7) none 16) TB,bs (W n key)],[]⟩ :=
  c_new_of 62 _ b (n+7) (by decide) H B key lent hs (fun r=>CF r TB) (fun r=>qgE r _) (fun π r=>qaV π r _) (W n key) (new_F k n hn key hk)
theorem c_enc (k n b:Nat) (hn:n≤20) (H:Heap) (c m:Nm) (l:List (BitVec 8)) (h:KG H c m (n+2) none l) (hl:l.length=16*(n+2)) (s:R) :
    qar (envC C (k+60)) H b 66 [.ptr c 0,.agg (aB 16 s)]=some ⟨.agg (aB 16 (enc (kf l) n s)),[],[(c,some (CF (.sl m 0 (n+2) none 16) TB)),(m,some (bs l))]⟩ :=
  callK _ b 66 l66 H c m (n+2) none l h _ (Pl.pa 16 s Pl.e) _ (fun π=>qbx 16 _ π) (enc_F k n hn l hl s)
theorem c_dec (k n b:Nat) (hn:n≤20) (H:Heap) (c m:Nm) (l:List (BitVec 8)) (h:KG H c m (n+2) none l) (hl:l.length=16*(n+2)) (s:R) :
    qar (envC C (k+60)) H b 68 [.ptr c 0,.agg (aB 16 s)]=some ⟨.agg (aB 16 (dec (kf l) n s)),[],[(c,some (CF (.sl m 0 (n+2) none 16) TB)),(m,some (bs l))]⟩ :=
  callK _ b 68 l68 H c m (n+2) none l h _ (Pl.pa 16 s Pl.e) _ (fun π=>qbx 16 _ π) (dec_F k n hn l hl s)
structure RG (H:Heap) (c m:Nm) (len:Nat) (cap:Option Nat) (l:List (BitVec 8)):Prop where
  hc:H c=some (RF (.sl m 0 len cap 16) TB)
  hm:H m=some (bs l)
  ne:c≠m
theorem same_aB (n:Nat) (f:R):qdJ (aB n f) (aB n f)=true:=qgC fun x hx=>by
  simp only[aB,arr,List.mem_map] at hx; obtain ⟨y,_,rfl⟩:=hx; exact same_B8 _
theorem same_CF (m:Nm) (len:Nat) (cap:Option Nat) (f:R):qdJ (CF (.sl m 0 len cap 16) f) (CF (.sl m 0 len cap 16) f)=true:=by
  rw[CF,qdJ,same_aB,Bool.and_true]; simp[qeu]
theorem tr_KG (H:Heap) (v:LV) (c m:Nm) (len:Nat) (cap:Option Nat) (l:List (BitVec 8)) (h:KG H c m len cap l):qdp true H (some ⟨v,[],[(c,some (CF (.sl m 0 len cap 16) TB)),(m,some (bs l))]⟩)=some ⟨v,[],[]⟩:=by
  refine qeL _ _ _ _ fun q hm => ?_
  simp only[List.mem_cons,List.not_mem_nil,or_false] at hm
  rcases hm with rfl | rfl
  · simp only[h.hc,qcY,same_CF]
  · simp only[h.hm,qcY,qgh]
theorem reach_KG {H:Heap} {c m:Nm} {len:Nat} {cap:Option Nat} {l:List (BitVec 8)} (h:KG H c m len cap l):qa7 H FUEL [] [c]=[c,m]:=by
  have hc:([c]:List Nm).contains m=false:=by simp; exact fun e=>h.ne e.symm
  simp only[FUEL,qah,ze,zP,zM,h.hc,qcc,qaW,qa3,zI,zS,hc,h.hm,qam,qba]
theorem KG.only {H:Heap} {c m:Nm} {len:Nat} {cap:Option Nat} {l:List (BitVec 8)} (h:KG H c m len cap l):KG (LE.only [c,m] H) c m len cap l :=
  ⟨by rw[LE.only,if_pos (by simp)]; exact h.hc,by rw[LE.only,if_pos (by simp)]; exact h.hm,h.ne⟩
theorem RG.only {H:Heap} {c m:Nm} {len:Nat} {cap:Option Nat} {l:List (BitVec 8)} (h:RG H c m len cap l):RG (LE.only [c,m] H) c m len cap l :=
  ⟨by rw[LE.only,if_pos (by simp)]; exact h.hc,by rw[LE.only,if_pos (by simp)]; exact h.hm,h.ne⟩
end Aes
