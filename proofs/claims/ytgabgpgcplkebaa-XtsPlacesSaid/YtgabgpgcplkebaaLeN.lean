/- xts: calls of Encrypt and Decrypt, of both sides, as the laws make them. -/
import Derived.Test.YtgabgpgcplkebaaLeW
import Derived.Test.YtgabgpgcplkebaaLeM
import Derived.Test.YtgabgpgcplkebaaLeQ
set_option linter.unusedVariables false
set_option linter.unusedSimpArgs false
namespace Aes
open Go Go.LE Xf
set_option maxRecDepth 20000
theorem c23I (k n base:Nat) (hn:n≤20) (H:Heap) (p a ka b kb:Nm) (la lb:List (BitVec 8)) (X:XG H p a ka b kb n la lb) (hla:la.length=16*(n+2)) (hlb:lb.length=16*(n+2)) (u:BitVec 64) (d:List (BitVec 8)) (h16:16≤d.length) (hd2:d.length≤65536) :
    qbD (envC C (k+5003)) H base 23 [.ptr p 0,B64 u,.isl (bs d) d.length]=some ⟨.tup [.sl (base,0) 0 d.length none 1,N 0],[bs (qb3 (En false la n) (tw0 n lb u) d false)],modX p a ka b kb n la lb⟩ :=
  c_enI _ 23 n base l23 H p a ka b kb la lb X u d _ d.length (encr23I_F k n hn la lb hla hlb u d h16 hd2)
theorem c23S (k n base:Nat) (hn:n≤20) (H:Heap) (p a ka b kb m:Nm) (la lb:List (BitVec 8)) (X:XG H p a ka b kb n la lb) (hla:la.length=16*(n+2)) (hlb:lb.length=16*(n+2)) (u:BitVec 64) (d L:List (BitVec 8)) (off:Nat) (c:Option Nat) (hm:H m=some (bs L)) (hx:m ∉ [p,a,ka,b,kb]) (hL:(L.drop off).take d.length=d) (h16:16≤d.length) (hd2:d.length≤65536) :
    qbD (envC C (k+5003)) H base 23 [.ptr p 0,B64 u,.sl m off d.length c 1]=some ⟨.tup [.sl (base,0) 0 d.length none 1,N 0],[bs (qb3 (En false la n) (tw0 n lb u) d false)],modX p a ka b kb n la lb++[(m,some (bs L))]⟩ :=
  c_enS _ 23 n base l23 H p a ka b kb m la lb X u d L _ off c hm hx d.length (encr23S_F k n hn la lb hla hlb u d L off c hL h16 hd2)
theorem b23S (k n base:Nat) (H:Heap) (p a ka b kb m:Nm) (la lb:List (BitVec 8)) (X:XG H p a ka b kb n la lb) (u:BitVec 64) (d L:List (BitVec 8)) (off:Nat) (c:Option Nat) (hm:H m=some (bs L)) (hx:m ∉ [p,a,ka,b,kb]) (hd:d.length < 16∨65536 < d.length) (hd2:d.length < 9223372036854775808) :
    qbD (envC C (k+5003)) H base 23 [.ptr p 0,B64 u,.sl m off d.length c 1]=some ⟨.tup [Nil,N 30],[],modX p a ka b kb n la lb++[(m,some (bs L))]⟩ :=
  c_badS _ 23 n base l23 H p a ka b kb m la lb X u d L off c hm hx (encrb23S_F k n la lb u d L off c hd hd2)
theorem c26S (k n base:Nat) (hn:n≤20) (H:Heap) (p a ka b kb m:Nm) (la lb:List (BitVec 8)) (X:XG H p a ka b kb n la lb) (hla:la.length=16*(n+2)) (hlb:lb.length=16*(n+2)) (u:BitVec 64) (d L:List (BitVec 8)) (off:Nat) (c:Option Nat) (hm:H m=some (bs L)) (hx:m ∉ [p,a,ka,b,kb]) (hL:(L.drop off).take d.length=d) (h16:16≤d.length) (hd2:d.length≤65536) :
    qbD (envC C (k+5003)) H base 26 [.ptr p 0,B64 u,.sl m off d.length c 1]=some ⟨.tup [.sl (base,0) 0 d.length none 1,N 0],[bs (qb3 (En true la n) (tw0 n lb u) d true)],modX p a ka b kb n la lb++[(m,some (bs L))]⟩ :=
  c_enS _ 26 n base l26 H p a ka b kb m la lb X u d L _ off c hm hx d.length (encr26S_F k n hn la lb hla hlb u d L off c hL h16 hd2)
theorem b26S (k n base:Nat) (H:Heap) (p a ka b kb m:Nm) (la lb:List (BitVec 8)) (X:XG H p a ka b kb n la lb) (u:BitVec 64) (d L:List (BitVec 8)) (off:Nat) (c:Option Nat) (hm:H m=some (bs L)) (hx:m ∉ [p,a,ka,b,kb]) (hd:d.length < 16∨65536 < d.length) (hd2:d.length < 9223372036854775808) :
    qbD (envC C (k+5003)) H base 26 [.ptr p 0,B64 u,.sl m off d.length c 1]=some ⟨.tup [Nil,N 30],[],modX p a ka b kb n la lb++[(m,some (bs L))]⟩ :=
  c_badS _ 26 n base l26 H p a ka b kb m la lb X u d L off c hm hx (encrb26S_F k n la lb u d L off c hd hd2)
theorem r25I (k n base:Nat) (hn:n≤20) (H:Heap) (p a ka b kb:Nm) (la lb:List (BitVec 8)) (X:RXG H p a ka b kb n la lb) (hla:la.length=16*(n+2)) (hlb:lb.length=16*(n+2)) (u:BitVec 64) (d:List (BitVec 8)) (h16:16≤d.length) (hd2:d.length≤65536) :
    qbD (envC C (k+7001)) H base 25 [.ptr p 0,B64 u,.isl (bs d) d.length]=some ⟨.tup [.sl (base,0) 0 d.length none 1,N 0],[bs (qb3 (En false la n) (tw0 n lb u) d false)],modRX p a ka b kb n la lb⟩ :=
  c_ren _ 25 n base lent25 H p a ka b kb la lb X u d _ d.length (renc25_F k n hn la lb hla hlb u d h16 hd2)
theorem rb25I (k n base:Nat) (H:Heap) (p a ka b kb:Nm) (la lb:List (BitVec 8)) (X:RXG H p a ka b kb n la lb) (u:BitVec 64) (d:List (BitVec 8)) (hd:d.length < 16∨65536 < d.length) (hd2:d.length < 9223372036854775808) :
    qbD (envC C (k+7001)) H base 25 [.ptr p 0,B64 u,.isl (bs d) d.length]=some ⟨.tup [Nil,N 30],[],modRX p a ka b kb n la lb⟩ :=
  c_rbad _ 25 n base lent25 H p a ka b kb la lb X u d (renc25_bad k n la lb u d hd hd2)
theorem r27I (k n base:Nat) (hn:n≤20) (H:Heap) (p a ka b kb:Nm) (la lb:List (BitVec 8)) (X:RXG H p a ka b kb n la lb) (hla:la.length=16*(n+2)) (hlb:lb.length=16*(n+2)) (u:BitVec 64) (d:List (BitVec 8)) (h16:16≤d.length) (hd2:d.length≤65536) :
    qbD (envC C (k+7001)) H base 27 [.ptr p 0,B64 u,.isl (bs d) d.length]=some ⟨.tup [.sl (base,0) 0 d.length none 1,N 0],[bs (qb3 (En true la n) (tw0 n lb u) d true)],modRX p a ka b kb n la lb⟩ :=
  c_ren _ 27 n base lent27 H p a ka b kb la lb X u d _ d.length (renc27_F k n hn la lb hla hlb u d h16 hd2)
theorem rb27I (k n base:Nat) (H:Heap) (p a ka b kb:Nm) (la lb:List (BitVec 8)) (X:RXG H p a ka b kb n la lb) (u:BitVec 64) (d:List (BitVec 8)) (hd:d.length < 16∨65536 < d.length) (hd2:d.length < 9223372036854775808) :
    qbD (envC C (k+7001)) H base 27 [.ptr p 0,B64 u,.isl (bs d) d.length]=some ⟨.tup [Nil,N 30],[],modRX p a ka b kb n la lb⟩ :=
  c_rbad _ 27 n base lent27 H p a ka b kb la lb X u d (renc27_bad k n la lb u d hd hd2)
theorem XG.same6 {H:Heap} {p a ka b kb m:Nm} {n:Nat} {la lb L:List (BitVec 8)} (h:XG H p a ka b kb n la lb) (hm:H m=some (bs L)):modN (modX p a ka b kb n la lb++[(m,some (bs L))]) H=H:=by
  simp only[modX,zR,zI,qa6,qaA,qbf hm,qbf h.hkb,qbf h.hb,qbf h.hka,qbf h.ha,qbf h.hp]
theorem XG.up {H:Heap} {p a ka b kb:Nm} {n:Nat} {la lb:List (BitVec 8)} (h:XG H p a ka b kb n la lb) (m:Nm) (x:Option qaV) (hx:m ∉ [p,a,ka,b,kb]):XG (upd H m x) p a ka b kb n la lb:=by
  obtain ⟨m1,m2,m3,m4,m5⟩:=XG.ne6 hx
  exact ⟨by rw[qap,if_neg (Ne.symm m1)]; exact h.hp,by rw[qap,if_neg (Ne.symm m2)]; exact h.ha,by rw[qap,if_neg (Ne.symm m3)]; exact h.hka,by rw[qap,if_neg (Ne.symm m4)]; exact h.hb,by rw[qap,if_neg (Ne.symm m5)]; exact h.hkb,h.nd⟩
theorem RXG.up {H:Heap} {p a ka b kb:Nm} {n:Nat} {la lb:List (BitVec 8)} (h:RXG H p a ka b kb n la lb) (m:Nm) (x:Option qaV) (hx:m ∉ [p,a,ka,b,kb]):RXG (upd H m x) p a ka b kb n la lb:=by
  obtain ⟨m1,m2,m3,m4,m5⟩:=XG.ne6 hx
  exact ⟨by rw[qap,if_neg (Ne.symm m1)]; exact h.hp,by rw[qap,if_neg (Ne.symm m2)]; exact h.ha,by rw[qap,if_neg (Ne.symm m3)]; exact h.hka,by rw[qap,if_neg (Ne.symm m4)]; exact h.hb,by rw[qap,if_neg (Ne.symm m5)]; exact h.hkb,h.nd⟩
theorem inv_En (la:List (BitVec 8)) (n:Nat):Inv (En false la n) (En true la n):=inv_aes (kf la) n
end Aes
namespace Aes
open Go Go.LE Xf
set_option maxRecDepth 20000
end Aes
namespace Aes
open Go Go.LE Xf
set_option maxRecDepth 20000
end Aes
namespace Aes
open Go Go.LE Xf
set_option maxRecDepth 20000
theorem b2sV_nil (H:Heap):b2sV H Nil (some 0)=some ⟨txt [],[],[]⟩:=by
  simp only[b2sV]; rfl
theorem front_e (H:Heap):front H 1 0 (.isl (bs []) 0)=some []:=rfl
def ids12:List Nm:=[(1,0),(1,1),(1,2),(1,3),(1,4),(1,5),(1,6),(1,7),(1,8),(1,9),(1,10),(1,11)]
def xuJ (kl m:Nat) (c:Option Nat) (u:BitVec 64) (d la lb:List (BitVec 8)) (i:Nat) (st:St):Prop := ∃ (H:Heap) (o:List (BitVec 8)),
  st=⟨[.undef,B64 u,.isl (bs d) d.length,.undef,.undef,.undef,.undef,.sl (1,0) 0 kl none 1,.sl (1,1) 0 d.length c 1,.ptr (1,2) 0,.undef,.ptr (1,7) 0,.undef,N i,.undef,.undef,.undef,.undef,.undef,.undef,.undef,.undef,.undef,.undef,.undef,.undef,.undef,.undef,.undef,.undef,.undef,.undef,.undef,.undef,.undef,.undef,.undef,.undef,.undef,.undef,.undef,.undef,.undef,.undef,.undef,.undef,.undef,.undef,.undef,.undef,.undef,.undef,.undef,.undef,.undef,.undef,.undef,.undef,.undef,.undef,.undef,.undef,.undef,.undef,.undef,.undef,.undef,.undef,.undef,.undef,.undef,.undef,.undef,.undef,.undef,.undef,.undef,.undef,.undef,.undef,.undef,.undef,.undef,.undef,.undef,.undef,.undef,.undef,.undef,.undef,.undef,.undef,.undef,.undef,.undef,.undef,.undef,.undef,.undef,.undef,.undef,.undef,.undef,.undef,.undef,Un,Un,Un,.undef,.undef,Un,Un,Un,Un,Un,.undef,.undef,Un,Un,Un,.undef,.undef,Un,Un,Un,Un,Un,.undef],H,2,0⟩ ∧
  H (1,0)=some (bs o)∧o.length=kl∧H (1,1)=some (bs d)∧XG H (1,2) (1,3) (1,4) (1,5) (1,6) m la lb∧RXG H (1,7) (1,8) (1,9) (1,10) (1,11) m la lb
theorem reach12 {H:Heap} {m:Nat} {la lb o d:List (BitVec 8)} {p0 p1 p a ka b kb q e ke f kf:Nm} (hnd:[p0,p1,p,a,ka,b,kb,q,e,ke,f,kf].Nodup) (h0:H p0=some (bs o)) (h1:H p1=some (bs d)) (X:XG H p a ka b kb m la lb) (Y:RXG H q e ke f kf m la lb) :
    qbL H 60 [] [p0,p1,p,q]=[p0,p1,p,a,ka,b,kb,q,e,ke,f,kf]:=by
  have fr:∀ (x:Nm) (l r:List Nm),(l++x::r).Nodup→l.contains x=false:=fun x l r h=>by
    rw[List.nodup_append] at h
    have:x ∉ l:=fun hx=>h.2.2 x hx x (by simp) rfl
    simpa using this
  refine (qaw (by rfl) h0 (qaP _)).trans <| (qaw (fr p1 [p0] _ hnd) h1 (qaP _)).trans <| (qaw (fr p [p0, p1] _ hnd) X.hp rfl).trans <| (qaw (fr a [p0, p1, p] _ hnd) X.ha (qbu _ _)).trans <|
    (qaw (fr ka [p0,p1,p,a] _ hnd) X.hka (qaP _)).trans <| (qaw (fr b [p0,p1,p,a,ka] _ hnd) X.hb (qbu _ _)).trans <| (qaw (fr kb [p0,p1,p,a,ka,b] _ hnd) X.hkb (qaP _)).trans <|
    (qaw (fr q [p0,p1,p,a,ka,b,kb] _ hnd) Y.hp rfl).trans <| (qaw (fr e [p0,p1,p,a,ka,b,kb,q] _ hnd) Y.ha (RF_nms _ _)).trans <| (qaw (fr ke [p0,p1,p,a,ka,b,kb,q,e] _ hnd) Y.hka (qaP _)).trans <|
    (qaw (fr f [p0,p1,p,a,ka,b,kb,q,e,ke] _ hnd) Y.hb (RF_nms _ _)).trans <| (qaw (fr kf [p0,p1,p,a,ka,b,kb,q,e,ke,f] _ hnd) Y.hkb (qaP _)).trans <| qaB _ _ _
theorem xu_round (k kl m:Nat) (hkl:kl < 1000) (c:Option Nat) (u:BitVec 64) (d la lb:List (BitVec 8)) (i:Nat) (hi:i < kl) (st:St) (hJ:xuJ kl m c u d la lb i st) :
    ∃ st1,ev (envC C k) k L9b0 st=some (.normal,st1)∧xuJ kl m c u d la lb (i+1) (qcr L9k0 st1):=by
  obtain ⟨H,o,rfl,h0,ho,h1,X,Y⟩:=hJ
  have hc:cellK i 1 (some (bs o))=some [B8 (o.getD i 0#8)]:=ix_key o i (by omega)
  have hs:=bs_st o i (o.getD i 0#8+1#8) (1,0) (by omega)
  simp (disch:=first|omega|decide|simp only[qaf,qad,qag,qae,qah,qac,qaa,qab,qai]) only[qbh,qat,qaX,qao,qan,qal,qak,qar,qbc,qay,qaJ,qaq,qaH,qaG,qaj,qaY,qaD,qa3,zM,zN,zO,zP,zK,zJ,B8_add,Nat.reduceAdd,qb5,qaR,qbn,qbV,qbF,qbl,zA,zB,zT,zk,zB,zA,qbz,qaW,qbJ,Nat.reduceAdd,zT,qcm,qbA,qb9,op_iaS,qdf,qaI,qaA,qa6,zk,qam,qam,L9b0,h0,hi,hc,hs]
  refine ⟨_,rfl,?_⟩
  generalize hQ:upd H (1,0) (some (bs (o.set i (o.getD i 0#8+1#8))))=Q
  have q0:Q (1,0)=some (bs (o.set i (o.getD i 0#8+1#8))):=by rw[←hQ]; rfl
  have q1:Q (1,1)=some (bs d):=by rw[←hQ]; exact h1
  have X2:XG Q (1,2) (1,3) (1,4) (1,5) (1,6) m la lb:=by rw[←hQ]; exact X.up _ _ (by decide)
  have Y2:RXG Q (1,7) (1,8) (1,9) (1,10) (1,11) m la lb:=by rw[←hQ]; exact Y.up _ _ (by decide)
  clear hQ
  refine qaT ids12 rfl (by simp only[qav,FUEL,qaE,qaQ,qbR,qcM,qaO,zV,zX,zI,zR,zQ,zz,zC,qaN,qaL,qaC,qbb,L9k0,qaQ,qaE,qbw]; rw[reach12 (by decide) q0 q1 X2 Y2]; rfl) (by simp only[zC,zG,qaN,qaL,qaC,L9k0,zG,zC,qbO]; rfl) ⟨_,o.set i (o.getD i 0#8+1#8),rfl,?_,by rw[List.length_set,ho],?_,?_,?_⟩
  · exact qau (1,0) rfl q0 (qaK _ _)
  · exact qau (1,1) rfl q1 (qaK _ _)
  · exact ⟨(qcW _ _ 2 (1,2) _ rfl X2.hp).trans rfl,(qcW _ _ 3 (1,3) _ rfl X2.ha).trans (by rw[qbt]; rfl),qau (1,4) rfl X2.hka (qaK _ _),(qcW _ _ 5 (1,5) _ rfl X2.hb).trans (by rw[qbt]; rfl),qau (1,6) rfl X2.hkb (qaK _ _),by decide⟩
  · exact ⟨(qcW _ _ 7 (1,7) _ rfl Y2.hp).trans rfl,(qcW _ _ 8 (1,8) _ rfl Y2.ha).trans (by rw[qcS]; rfl),qau (1,9) rfl Y2.hka (qaK _ _),(qcW _ _ 10 (1,10) _ rfl Y2.hb).trans (by rw[qcS]; rfl),qau (1,11) rfl Y2.hkb (qaK _ _),by decide⟩
theorem xunits_G (k n:Nat) (hn:n=4∨n=8) (key:List (BitVec 8)) (hk:key.length=8*n) (u:BitVec 64) (d:List (BitVec 8)) (h16:16≤d.length) (hd2:d.length≤65536):F C (k+7020) 9 [.isl (bs key) key.length,B64 u,.isl (bs d) d.length] []=some (Bo true,[],[]):=by
  rw[qbT f9]
  have hk0:key.length≠0:=by omega
  have hk1:0 < key.length:=by omega
  have hfr:∀ H,front H 1 key.length (.isl (bs key) key.length)=some (bs key):=fun H=>qdw key key.length rfl
  have hap:∀ b H m,appX b 1 1 key.length H [] (bs key) (.sl m 0 0 (some 0) 1)=some ⟨.sl (b,0) 0 key.length none 1,[bs key],[]⟩:=fun b H m=>appX_e b key.length H m (bs key) hk0 (by omega)
  have hd0':d.length≠0:=by omega
  have hd1:0 < d.length:=by omega
  have hfd:∀ H,front H 1 d.length (.isl (bs d) d.length)=some (bs d):=fun H=>qdw d d.length rfl
  have had:∀ b H m,appX b 1 1 d.length H [] (bs d) (.sl m 0 0 (some 0) 1)=some ⟨.sl (b,0) 0 d.length none 1,[bs d],[]⟩:=fun b H m=>appX_e b d.length H m (bs d) hd0' (by omega)
  simp (disch:=first|omega|decide|simp only[qaf,qad,qag,qae,qah,qac,qaa,qab,qai]) only[qbk,qat,qao,qan,qal,qak,qar,qay,qaJ,qaH,qa7,qa1,qaj,zM,zN,zO,zP,zG,zC,zI,zR,qbd,z7,zK,zJ,Nat.reduceAdd,Nat.reduceSub,qb6,zA,zB,zB,zA,Nat.reduceAdd,lenOf_isl,qcA,qcB,qcC,qdd,qcX,qaI,qaZ,qaA,Nat.reduceSub,qam,qam,L9,hfr,hap,hfd,had]
  obtain ⟨m,hm'⟩:∃ m,m=n+5:=⟨_,rfl⟩
  have hm2:n+7=m+2:=by omega
  have hm20:m≤20:=by omega
  obtain ⟨la,hla'⟩:∃ la,la=W n (key.take (4*n)):=⟨_,rfl⟩
  obtain ⟨lb,hlb'⟩:∃ lb,lb=W n (key.drop (4*n)):=⟨_,rfl⟩
  have hla:la.length=16*(m+2):=by rw[hla',←hm2]; exact W_length n _ (by rw[zzL]; omega)
  have hlb:lb.length=16*(m+2):=by rw[hlb',←hm2]; exact W_length n _ (by rw[zzH]; omega)
  rw[c_xnew (k+6618) n _ hn _ _ key hk [(5,0)] (by rw[snap_bytes (5,0) 0 key.length _ key rfl hk0,zw,List.take_of_length_le (Nat.le_refl _)]),hm2,←hla',←hlb']
  simp (disch:=first|omega|decide|simp only[qaf,qad,qag,qae,qah,qac,qaa,qab,qai]) only[qat,qao,qan,qal,qak,qar,qay,qaJ,qaq,qaH,qa7,qa1,qaj,zM,zN,zO,zP,zG,zC,zK,zJ,Nat.reduceAdd,zA,zB,zB,zA,Nat.reduceAdd,qaI,qaZ,qaA,List.getElem?_cons_zero,List.getElem?_cons_succ,qcJ,qcp,List.getElem?_cons_zero,List.getElem?_cons_succ,qam,qam]
  rw[c_xrnew (k+6618) n _ hn _ _ key hk [] (snap_isl _ _),hm2,←hla',←hlb']
  simp (disch:=first|omega|decide|simp only[qaf,qad,qag,qae,qah,qac,qaa,qab,qai]) only[qbh,qat,qaX,qao,qan,qal,qak,qbm,qcv,qar,qay,qaJ,qaq,qcd,qaH,qcx,qaG,op_un,qa7,qa1,qaj,qaD,qas,zM,zN,zO,zP,zC,zK,zJ,Bo_neq,Bo_not,qbH,Nat.reduceAdd,qap,zF,Nat.reduceEqDiff,zS,zu,zD,zE,zA,zB,zT,zh,zB,zA,N_neq,decide_not,Nat.reduceEqDiff,Nat.reduceAdd,zT,ze,eqp_ptr,qch,lenOf_isl,qaI,qaZ,qaA,qa2,List.getElem?_cons_zero,List.getElem?_cons_succ,qcJ,qcp,List.getElem?_cons_zero,List.getElem?_cons_succ,zx,ze,frontK_bs_all,qcL,qam,qam,c_xlives (k+2009),op_b2s,b2sV_sl,b2sV_isl,b2sK_bs,hfr,txt_neq,eqp_ptr]
  generalize hG:upd _ (19,4) _=G
  have X:XG G (12,0) (12,1) (12,2) (12,3) (12,4) m la lb:=by rw[←hG]; exact ⟨rfl,rfl,rfl,rfl,rfl,by decide⟩
  have Y:RXG G (19,0) (19,1) (19,2) (19,3) (19,4) m la lb:=by rw[←hG]; exact ⟨rfl,rfl,rfl,rfl,rfl,by decide⟩
  have go:G (5,0)=some (bs key):=by rw[←hG]; rfl
  have gd:G (8,0)=some (bs d):=by rw[←hG]; rfl
  clear hG hla' hlb'
  generalize hL:qbW L9k0 _ _ _=r
  refine qby hL (xuJ key.length m none u d la lb) key.length (by omega) (fun i st hi hJ=>xu_round _ key.length m (by omega) none u d la lb i hi st hJ) ?_ ?_ ?_
  · refine qaT [(5, 0), (8, 0), (12, 0), (12, 1), (12, 2), (12, 3), (12, 4), (19, 0), (19, 1), (19, 2), (19, 3), (19, 4)] rfl (by simp only [qav, FUEL, qaE, qaQ, qbR, qcM, qaO, zV, zX, zI, zR, zQ, zz, zC, qaN, qaL, qaC, qbb, L9k0, qaQ, qaE, qbw]; rw [reach12 (by decide) go gd X Y]; rfl) (by simp only [zC, zG, qaN, qaL, qaC, L9k0, zG, zC, qbO]; rfl) ⟨_, key, rfl, ?_, rfl, ?_, ?_, ?_⟩
    · exact qau (5,0) rfl go (qaK _ _)
    · exact qau (8,0) rfl gd (qaK _ _)
    · exact ⟨(qcW _ _ 2 (12,0) _ rfl X.hp).trans rfl,(qcW _ _ 3 (12,1) _ rfl X.ha).trans (by rw[qbt]; rfl),qau (12,2) rfl X.hka (qaK _ _),(qcW _ _ 5 (12,3) _ rfl X.hb).trans (by rw[qbt]; rfl),qau (12,4) rfl X.hkb (qaK _ _),by decide⟩
    · exact ⟨(qcW _ _ 7 (19,0) _ rfl Y.hp).trans rfl,(qcW _ _ 8 (19,1) _ rfl Y.ha).trans (by rw[qcS]; rfl),qau (19,2) rfl Y.hka (qaK _ _),(qcW _ _ 10 (19,3) _ rfl Y.hb).trans (by rw[qcS]; rfl),qau (19,4) rfl Y.hkb (qaK _ _),by decide⟩
  · rintro st ⟨H, o, rfl, h0, ho, h1, X, Y⟩
    apply qbs
    simp (disch:=first|omega|decide|simp only[qaf,qad,qag,qae,qah,qac,qaa,qab,qai]) only[qa0,qat,qao,qan,qal,qak,qaM,qar,qay,qaq,qaH,qaG,qaj,qaF,qaD,qas,zM,zN,zO,zP,zK,zJ,Nat.reduceAdd,zA,zB,zL,zB,zA,qaW,Nat.reduceAdd,zi,zL,qcm,qbA,qb9,L9b0,zi]
    rfl
  · rintro st ⟨H, o, rfl, h0, ho, h1, X, Y⟩ rfl
    clear hL go gd
    obtain ⟨t0,ht0⟩:∃ t0,t0=tw0 m lb u:=⟨_,rfl⟩
    have hfd2:∀ H,front H 1 d.length (.isl (bs d) d.length)=some (bs d):=fun H=>qdw d d.length rfl
    have hfk:∀ l:List (BitVec 8),l.length=d.length→qcG 0 1 d.length (some (bs l))=some (bs l):=fun l hl=>by
      rw[qcG,if_pos (by rw[qad]; omega),zw,qcF,zk,List.take_of_length_le (by omega)]
    have hfkd:=hfk d rfl
    obtain ⟨U,hU⟩:∃ U,U=qb3 (En false la m) t0 d false:=⟨_,rfl⟩
    have hUl:U.length=d.length:=by rw[hU,unitP_length _ _ _ _ h16]
    obtain ⟨V,hV⟩:∃ V,V=qb3 (En true la m) t0 d true:=⟨_,rfl⟩
    have hVl:V.length=d.length:=by rw[hV,unitP_length _ _ _ _ h16]
    have hfkU:=hfk U hUl
    have hfkV:=hfk V hVl
    have hc:=fun b=>c23S (k+2016) m b hm20 H _ _ _ _ _ (1,1) la lb X hla hlb u d d 0 none h1 (by decide) (by rw[zw,List.take_of_length_le (Nat.le_refl _)]) h16 hd2
    have hm1:=X.same6 h1
    rw[←ht0,←hU] at hc
    simp (disch:=first|omega|decide|simp only[qaf,qad,qag,qae,qah,qac,qaa,qab,qai]) only[qa0,qat,qao,qan,qal,qak,qar,qay,qaJ,qaq,qaH,qaG,qa7,qa1,qaj,qaF,qa8,qaD,qas,zM,zN,zO,zP,zG,zC,zK,zJ,Nat.reduceAdd,zD,zA,zB,zL,zB,zA,qaW,Nat.reduceAdd,zi,zL,qcm,qbA,qb9,qaI,qaZ,qaA,List.getElem?_cons_zero,List.getElem?_cons_succ,qcJ,qcp,List.getElem?_cons_zero,List.getElem?_cons_succ,qam,qam,L9b0,zi,hc,hm1]
    generalize hG2:upd H (9,0) _=G2
    have XG2:XG G2 (1,2) (1,3) (1,4) (1,5) (1,6) m la lb:=by rw[←hG2]; exact X.up _ _ (by decide)
    have YG2:RXG G2 (1,7) (1,8) (1,9) (1,10) (1,11) m la lb:=by rw[←hG2]; exact Y.up _ _ (by decide)
    have bG2:G2 (1,1)=some (bs d):=by rw[←hG2]; exact h1
    have a2:G2 (9,0)=some (bs U):=by rw[←hG2]; rfl
    clear hG2
    clear hc hm1
    have hc:=fun b=>r25I (k+18) m b hm20 G2 _ _ _ _ _ la lb YG2 hla hlb u d h16 hd2
    have hm1:=YG2.same
    rw[←ht0,←hU] at hc
    simp (disch:=first|omega|decide|simp only[qaf,qad,qag,qae,qah,qac,qaa,qab,qai]) only[qat,qao,qan,qal,qak,qar,qay,qaJ,qaq,qaH,qa7,qa1,qaj,zM,zN,zO,zP,zG,zC,zK,zJ,Nat.reduceAdd,zA,zB,zB,zA,Nat.reduceAdd,qaI,qaZ,qaA,List.getElem?_cons_zero,List.getElem?_cons_succ,qcJ,qcp,List.getElem?_cons_zero,List.getElem?_cons_succ,qam,qam,hc,hm1]
    generalize hG3:upd G2 (18,0) _=G3
    have XG3:XG G3 (1,2) (1,3) (1,4) (1,5) (1,6) m la lb:=by rw[←hG3]; exact XG2.up _ _ (by decide)
    have YG3:RXG G3 (1,7) (1,8) (1,9) (1,10) (1,11) m la lb:=by rw[←hG3]; exact YG2.up _ _ (by decide)
    have bG3:G3 (1,1)=some (bs d):=by rw[←hG3]; exact bG2
    have a3:G3 (9,0)=some (bs U):=by rw[←hG3]; exact a2
    have c3:G3 (18,0)=some (bs U):=by rw[←hG3]; rfl
    clear hG3
    clear hc hm1
    have hc:=fun b=>c26S (k+2016) m b hm20 G3 _ _ _ _ _ (1,1) la lb XG3 hla hlb u d d 0 none bG3 (by decide) (by rw[zw,List.take_of_length_le (Nat.le_refl _)]) h16 hd2
    have hm1:=XG3.same6 bG3
    rw[←ht0,←hV] at hc
    simp (disch:=first|omega|decide|simp only[qaf,qad,qag,qae,qah,qac,qaa,qab,qai]) only[qat,qao,qan,qal,qak,qar,qay,qaJ,qaq,qaH,qa7,qa1,qaj,zM,zN,zO,zP,zG,zC,zK,zJ,Nat.reduceAdd,zA,zB,zB,zA,Nat.reduceAdd,qaI,qaZ,qaA,List.getElem?_cons_zero,List.getElem?_cons_succ,qcJ,qcp,List.getElem?_cons_zero,List.getElem?_cons_succ,qam,qam,hc,hm1]
    generalize hG4:upd G3 (27,0) _=G4
    have XG4:XG G4 (1,2) (1,3) (1,4) (1,5) (1,6) m la lb:=by rw[←hG4]; exact XG3.up _ _ (by decide)
    have YG4:RXG G4 (1,7) (1,8) (1,9) (1,10) (1,11) m la lb:=by rw[←hG4]; exact YG3.up _ _ (by decide)
    have bG4:G4 (1,1)=some (bs d):=by rw[←hG4]; exact bG3
    have a4:G4 (9,0)=some (bs U):=by rw[←hG4]; exact a3
    have c4:G4 (18,0)=some (bs U):=by rw[←hG4]; exact c3
    have e4:G4 (27,0)=some (bs V):=by rw[←hG4]; rfl
    clear hG4
    clear hc hm1
    have hc:=fun b=>r27I (k+18) m b hm20 G4 _ _ _ _ _ la lb YG4 hla hlb u d h16 hd2
    have hm1:=YG4.same
    rw[←ht0,←hV] at hc
    simp (disch:=first|omega|decide|simp only[qaf,qad,qag,qae,qah,qac,qaa,qab,qai]) only[qbI,qat,qao,qan,qal,qak,qbm,guardK_true,qar,qay,qaJ,qaq,qdv,qaH,qcx,qaG,qaj,qbr,qcI,zM,zN,zO,zP,zK,zJ,outOf_Bo,zH,Nat.reduceAdd,qap,zF,Nat.reduceEqDiff,zS,zu,zD,zE,zA,zB,zT,zb,zB,zA,N_eql,Nat.reduceEqDiff,Nat.reduceAdd,zT,qch,lenOf_isl,qaI,qaZ,qaA,zH,List.getElem?_cons_zero,List.getElem?_cons_succ,qcJ,qcp,List.getElem?_cons_zero,List.getElem?_cons_succ,qcL,qam,qam,hc,hm1,a4,c4,e4,bG4,hfkU,hfkV,op_b2s,b2sV_sl,b2sV_isl,b2sK_bs,hfd2,hfkd,txt_eql]
end Aes
namespace Aes
open Go Go.LE Xf
set_option maxRecDepth 20000
theorem xunits_B (k n:Nat) (hn:n=4∨n=8) (key:List (BitVec 8)) (hk:key.length=8*n) (u:BitVec 64) (d:List (BitVec 8)) (hd0:d.length≠0) (hd:d.length < 16∨65536 < d.length) (hd2:d.length≤140737488351232):F C (k+7020) 9 [.isl (bs key) key.length,B64 u,.isl (bs d) d.length] []=some (Bo true,[],[]):=by
  rw[qbT f9]
  have hk0:key.length≠0:=by omega
  have hk1:0 < key.length:=by omega
  have hfr:∀ H,front H 1 key.length (.isl (bs key) key.length)=some (bs key):=fun H=>qdw key key.length rfl
  have hap:∀ b H m,appX b 1 1 key.length H [] (bs key) (.sl m 0 0 (some 0) 1)=some ⟨.sl (b,0) 0 key.length none 1,[bs key],[]⟩:=fun b H m=>appX_e b key.length H m (bs key) hk0 (by omega)
  have hd0':d.length≠0:=by omega
  have hd1:0 < d.length:=by omega
  have hfd:∀ H,front H 1 d.length (.isl (bs d) d.length)=some (bs d):=fun H=>qdw d d.length rfl
  have had:∀ b H m,appX b 1 1 d.length H [] (bs d) (.sl m 0 0 (some 0) 1)=some ⟨.sl (b,0) 0 d.length none 1,[bs d],[]⟩:=fun b H m=>appX_e b d.length H m (bs d) hd0' (by omega)
  simp (disch:=first|omega|decide|simp only[qaf,qad,qag,qae,qah,qac,qaa,qab,qai]) only[qbk,qat,qao,qan,qal,qak,qar,qay,qaJ,qaH,qa7,qa1,qaj,zM,zN,zO,zP,zG,zC,zI,zR,qbd,z7,zK,zJ,Nat.reduceAdd,Nat.reduceSub,qb6,zA,zB,zB,zA,Nat.reduceAdd,lenOf_isl,qcA,qcB,qcC,qdd,qcX,qaI,qaZ,qaA,Nat.reduceSub,qam,qam,L9,hfr,hap,hfd,had]
  obtain ⟨m,hm'⟩:∃ m,m=n+5:=⟨_,rfl⟩
  have hm2:n+7=m+2:=by omega
  have hm20:m≤20:=by omega
  obtain ⟨la,hla'⟩:∃ la,la=W n (key.take (4*n)):=⟨_,rfl⟩
  obtain ⟨lb,hlb'⟩:∃ lb,lb=W n (key.drop (4*n)):=⟨_,rfl⟩
  have hla:la.length=16*(m+2):=by rw[hla',←hm2]; exact W_length n _ (by rw[zzL]; omega)
  have hlb:lb.length=16*(m+2):=by rw[hlb',←hm2]; exact W_length n _ (by rw[zzH]; omega)
  rw[c_xnew (k+6618) n _ hn _ _ key hk [(5,0)] (by rw[snap_bytes (5,0) 0 key.length _ key rfl hk0,zw,List.take_of_length_le (Nat.le_refl _)]),hm2,←hla',←hlb']
  simp (disch:=first|omega|decide|simp only[qaf,qad,qag,qae,qah,qac,qaa,qab,qai]) only[qat,qao,qan,qal,qak,qar,qay,qaJ,qaq,qaH,qa7,qa1,qaj,zM,zN,zO,zP,zG,zC,zK,zJ,Nat.reduceAdd,zA,zB,zB,zA,Nat.reduceAdd,qaI,qaZ,qaA,List.getElem?_cons_zero,List.getElem?_cons_succ,qcJ,qcp,List.getElem?_cons_zero,List.getElem?_cons_succ,qam,qam]
  rw[c_xrnew (k+6618) n _ hn _ _ key hk [] (snap_isl _ _),hm2,←hla',←hlb']
  simp (disch:=first|omega|decide|simp only[qaf,qad,qag,qae,qah,qac,qaa,qab,qai]) only[qbh,qat,qaX,qao,qan,qal,qak,qbm,qcv,qar,qay,qaJ,qaq,qcd,qaH,qcx,qaG,op_un,qa7,qa1,qaj,qaD,qas,zM,zN,zO,zP,zC,zK,zJ,Bo_neq,Bo_not,qbH,Nat.reduceAdd,qap,zF,Nat.reduceEqDiff,zS,zu,zD,zE,zA,zB,zT,zh,zB,zA,N_neq,decide_not,Nat.reduceEqDiff,Nat.reduceAdd,zT,ze,eqp_ptr,qch,lenOf_isl,qaI,qaZ,qaA,qa2,List.getElem?_cons_zero,List.getElem?_cons_succ,qcJ,qcp,List.getElem?_cons_zero,List.getElem?_cons_succ,zx,ze,frontK_bs_all,qcL,qam,qam,c_xlives (k+2009),op_b2s,b2sV_sl,b2sV_isl,b2sK_bs,hfr,txt_neq,eqp_ptr]
  generalize hG:upd _ (19,4) _=G
  have X:XG G (12,0) (12,1) (12,2) (12,3) (12,4) m la lb:=by rw[←hG]; exact ⟨rfl,rfl,rfl,rfl,rfl,by decide⟩
  have Y:RXG G (19,0) (19,1) (19,2) (19,3) (19,4) m la lb:=by rw[←hG]; exact ⟨rfl,rfl,rfl,rfl,rfl,by decide⟩
  have go:G (5,0)=some (bs key):=by rw[←hG]; rfl
  have gd:G (8,0)=some (bs d):=by rw[←hG]; rfl
  clear hG hla' hlb'
  generalize hL:qbW L9k0 _ _ _=r
  refine qby hL (xuJ key.length m none u d la lb) key.length (by omega) (fun i st hi hJ=>xu_round _ key.length m (by omega) none u d la lb i hi st hJ) ?_ ?_ ?_
  · refine qaT [(5, 0), (8, 0), (12, 0), (12, 1), (12, 2), (12, 3), (12, 4), (19, 0), (19, 1), (19, 2), (19, 3), (19, 4)] rfl (by simp only [qav, FUEL, qaE, qaQ, qbR, qcM, qaO, zV, zX, zI, zR, zQ, zz, zC, qaN, qaL, qaC, qbb, L9k0, qaQ, qaE, qbw]; rw [reach12 (by decide) go gd X Y]; rfl) (by simp only [zC, zG, qaN, qaL, qaC, L9k0, zG, zC, qbO]; rfl) ⟨_, key, rfl, ?_, rfl, ?_, ?_, ?_⟩
    · exact qau (5,0) rfl go (qaK _ _)
    · exact qau (8,0) rfl gd (qaK _ _)
    · exact ⟨(qcW _ _ 2 (12,0) _ rfl X.hp).trans rfl,(qcW _ _ 3 (12,1) _ rfl X.ha).trans (by rw[qbt]; rfl),qau (12,2) rfl X.hka (qaK _ _),(qcW _ _ 5 (12,3) _ rfl X.hb).trans (by rw[qbt]; rfl),qau (12,4) rfl X.hkb (qaK _ _),by decide⟩
    · exact ⟨(qcW _ _ 7 (19,0) _ rfl Y.hp).trans rfl,(qcW _ _ 8 (19,1) _ rfl Y.ha).trans (by rw[qcS]; rfl),qau (19,2) rfl Y.hka (qaK _ _),(qcW _ _ 10 (19,3) _ rfl Y.hb).trans (by rw[qcS]; rfl),qau (19,4) rfl Y.hkb (qaK _ _),by decide⟩
  · rintro st ⟨H, o, rfl, h0, ho, h1, X, Y⟩
    apply qbs
    simp (disch:=first|omega|decide|simp only[qaf,qad,qag,qae,qah,qac,qaa,qab,qai]) only[qa0,qat,qao,qan,qal,qak,qaM,qar,qay,qaq,qaH,qaG,qaj,qaF,qaD,qas,zM,zN,zO,zP,zK,zJ,Nat.reduceAdd,zA,zB,zL,zB,zA,qaW,Nat.reduceAdd,zi,zL,qcm,qbA,qb9,L9b0,zi]
    rfl
  · rintro st ⟨H, o, rfl, h0, ho, h1, X, Y⟩ rfl
    clear hL go gd
    obtain ⟨t0,ht0⟩:∃ t0,t0=tw0 m lb u:=⟨_,rfl⟩
    have hfd2:∀ H,front H 1 d.length (.isl (bs d) d.length)=some (bs d):=fun H=>qdw d d.length rfl
    have hfk:∀ l:List (BitVec 8),l.length=d.length→qcG 0 1 d.length (some (bs l))=some (bs l):=fun l hl=>by
      rw[qcG,if_pos (by rw[qad]; omega),zw,qcF,zk,List.take_of_length_le (by omega)]
    have hfkd:=hfk d rfl
    have hc:=fun b=>b23S (k+2016) m b H _ _ _ _ _ (1,1) la lb X u d d 0 none h1 (by decide) hd (by omega)
    have hm1:=X.same6 h1
    simp (disch:=first|omega|decide|simp only[qaf,qad,qag,qae,qah,qac,qaa,qab,qai]) only[qa0,qat,qao,qan,qal,qak,qar,qay,qaJ,qaq,qaH,qaG,qa7,qa1,qaj,qaF,qa8,qaD,qas,zM,zN,zO,zP,zG,zC,zK,zJ,Nat.reduceAdd,zD,zA,zB,zL,zB,zA,qaW,Nat.reduceAdd,zi,zL,qcm,qbA,qb9,qaI,qaA,List.getElem?_cons_zero,List.getElem?_cons_succ,qcJ,qcp,List.getElem?_cons_zero,List.getElem?_cons_succ,qam,qam,L9b0,zi,hc,hm1]
    clear hc hm1
    have hc:=fun b=>rb25I (k+18) m b H _ _ _ _ _ la lb Y u d hd (by omega)
    have hm1:=Y.same
    simp (disch:=first|omega|decide|simp only[qaf,qad,qag,qae,qah,qac,qaa,qab,qai]) only[qat,qao,qan,qal,qak,qar,qay,qaJ,qaq,qaH,qa7,qa1,qaj,zM,zN,zO,zP,zG,zC,zK,zJ,Nat.reduceAdd,zA,zB,zB,zA,Nat.reduceAdd,qaI,qaA,List.getElem?_cons_zero,List.getElem?_cons_succ,qcJ,qcp,List.getElem?_cons_zero,List.getElem?_cons_succ,qam,qam,hc,hm1]
    clear hc hm1
    have hc:=fun b=>b26S (k+2016) m b H _ _ _ _ _ (1,1) la lb X u d d 0 none h1 (by decide) hd (by omega)
    have hm1:=X.same6 h1
    simp (disch:=first|omega|decide|simp only[qaf,qad,qag,qae,qah,qac,qaa,qab,qai]) only[qat,qao,qan,qal,qak,qar,qay,qaJ,qaq,qaH,qa7,qa1,qaj,zM,zN,zO,zP,zG,zC,zK,zJ,Nat.reduceAdd,zA,zB,zB,zA,Nat.reduceAdd,qaI,qaA,List.getElem?_cons_zero,List.getElem?_cons_succ,qcJ,qcp,List.getElem?_cons_zero,List.getElem?_cons_succ,qam,qam,hc,hm1]
    clear hc hm1
    have hc:=fun b=>rb27I (k+18) m b H _ _ _ _ _ la lb Y u d hd (by omega)
    have hm1:=Y.same
    simp (disch:=first|omega|decide|simp only[qaf,qad,qag,qae,qah,qac,qaa,qab,qai]) only[qbI,qat,qao,qan,qal,qak,qbm,guardK_true,qar,qay,qaJ,qaq,qdv,qaH,qcx,qaG,qaj,qbr,qcI,zM,zN,zO,zP,zK,zJ,outOf_Bo,zH,Nat.reduceAdd,zA,zB,zT,zB,zA,N_eql,Nat.reduceAdd,zT,qch,lenOf_isl,lenOf_nil,qaI,qaA,zH,List.getElem?_cons_zero,List.getElem?_cons_succ,qcJ,qcp,List.getElem?_cons_zero,List.getElem?_cons_succ,qcL,qam,qam,hc,hm1,h1,b2sV_nil,zJ,op_b2s,b2sV_sl,b2sV_isl,b2sK_bs,hfd2,hfkd,txt_eql]
theorem xunits_E (k n:Nat) (hn:n=4∨n=8) (key:List (BitVec 8)) (hk:key.length=8*n) (u:BitVec 64):F C (k+7020) 9 [.isl (bs key) key.length,B64 u,.isl (bs []) ([]:List (BitVec 8)).length] []=some (Bo true,[],[]):=by
  rw[qbT f9]
  have hk0:key.length≠0:=by omega
  have hk1:0 < key.length:=by omega
  have hfr:∀ H,front H 1 key.length (.isl (bs key) key.length)=some (bs key):=fun H=>qdw key key.length rfl
  have hap:∀ b H m,appX b 1 1 key.length H [] (bs key) (.sl m 0 0 (some 0) 1)=some ⟨.sl (b,0) 0 key.length none 1,[bs key],[]⟩:=fun b H m=>appX_e b key.length H m (bs key) hk0 (by omega)
  simp (disch:=first|omega|decide|simp only[qaf,qad,qag,qae,qah,qac,qaa,qab,qai]) only[qbk,qat,qao,qan,qal,qak,qar,qay,qaJ,qaH,qa7,qa1,qaj,zM,zN,zO,zP,zG,zC,zI,zR,qbd,z7,zK,zJ,Nat.reduceAdd,Nat.reduceSub,qap,qb6,zF,Nat.reduceEqDiff,zS,zD,zE,zA,zB,zB,zA,Nat.reduceEqDiff,Nat.reduceAdd,lenOf_isl,qcA,qcB,qcC,qdd,qcX,qaI,qaZ,qaA,qa6,qa2,Nat.reduceSub,qam,appX_e0,appE0_some,qam,L9,hfr,hap,zJ,front_e]
  obtain ⟨m,hm'⟩:∃ m,m=n+5:=⟨_,rfl⟩
  have hm2:n+7=m+2:=by omega
  have hm20:m≤20:=by omega
  obtain ⟨la,hla'⟩:∃ la,la=W n (key.take (4*n)):=⟨_,rfl⟩
  obtain ⟨lb,hlb'⟩:∃ lb,lb=W n (key.drop (4*n)):=⟨_,rfl⟩
  have hla:la.length=16*(m+2):=by rw[hla',←hm2]; exact W_length n _ (by rw[zzL]; omega)
  have hlb:lb.length=16*(m+2):=by rw[hlb',←hm2]; exact W_length n _ (by rw[zzH]; omega)
  rw[c_xnew (k+6618) n _ hn _ _ key hk [(5,0)] (by rw[snap_bytes (5,0) 0 key.length _ key rfl hk0,zw,List.take_of_length_le (Nat.le_refl _)]),hm2,←hla',←hlb']
  simp (disch:=first|omega|decide|simp only[qaf,qad,qag,qae,qah,qac,qaa,qab,qai]) only[qat,qao,qan,qal,qak,qar,qay,qaJ,qaq,qaH,qa7,qa1,qaj,zM,zN,zO,zP,zG,zC,zK,zJ,Nat.reduceAdd,zA,zB,zB,zA,Nat.reduceAdd,qaI,qaZ,qaA,List.getElem?_cons_zero,List.getElem?_cons_succ,qcJ,qcp,List.getElem?_cons_zero,List.getElem?_cons_succ,qam,qam]
  rw[c_xrnew (k+6618) n _ hn _ _ key hk [] (snap_isl _ _),hm2,←hla',←hlb']
  simp (disch:=first|omega|decide|simp only[qaf,qad,qag,qae,qah,qac,qaa,qab,qai]) only[qbh,qat,qaX,qao,qan,qal,qak,qbm,qcv,qar,qay,qaJ,qaq,qcd,qaH,qcx,qaG,op_un,qa7,qa1,qaj,qaD,qas,zM,zN,zO,zP,zC,zK,zJ,Bo_neq,Bo_not,qbH,Nat.reduceAdd,qap,zF,Nat.reduceEqDiff,zS,zu,zD,zE,zA,zB,zT,zh,zB,zA,N_neq,decide_not,Nat.reduceEqDiff,Nat.reduceAdd,zT,ze,eqp_ptr,qch,lenOf_isl,qaI,qaZ,qaA,qa2,List.getElem?_cons_zero,List.getElem?_cons_succ,qcJ,qcp,List.getElem?_cons_zero,List.getElem?_cons_succ,zx,ze,frontK_bs_all,qcL,qam,qam,c_xlives (k+2009),op_b2s,b2sV_sl,b2sV_isl,b2sK_bs,hfr,txt_neq,eqp_ptr]
  generalize hG:upd _ (19,4) _=G
  have X:XG G (12,0) (12,1) (12,2) (12,3) (12,4) m la lb:=by rw[←hG]; exact ⟨rfl,rfl,rfl,rfl,rfl,by decide⟩
  have Y:RXG G (19,0) (19,1) (19,2) (19,3) (19,4) m la lb:=by rw[←hG]; exact ⟨rfl,rfl,rfl,rfl,rfl,by decide⟩
  have go:G (5,0)=some (bs key):=by rw[←hG]; rfl
  have gd:G (6,0)=some (bs []):=by rw[←hG]; rfl
  clear hG hla' hlb'
  generalize hL:qbW L9k0 _ _ _=r
  refine qby hL (xuJ key.length m (some 0) u [] la lb) key.length (by omega) (fun i st hi hJ=>xu_round _ key.length m (by omega) (some 0) u [] la lb i hi st hJ) ?_ ?_ ?_
  · refine qaT [(5, 0), (6, 0), (12, 0), (12, 1), (12, 2), (12, 3), (12, 4), (19, 0), (19, 1), (19, 2), (19, 3), (19, 4)] rfl (by simp only [qav, FUEL, qaE, qaQ, qbR, qcM, qaO, zV, zX, zI, zR, zQ, zz, zC, qaN, qaL, qaC, qbb, L9k0, qaQ, qaE, qbw]; rw [reach12 (by decide) go gd X Y]; rfl) (by simp only [zC, zG, qaN, qaL, qaC, L9k0, zG, zC, qbO]; rfl) ⟨_, key, rfl, ?_, rfl, ?_, ?_, ?_⟩
    · exact qau (5,0) rfl go (qaK _ _)
    · exact qau (6,0) rfl gd (qaK _ _)
    · exact ⟨(qcW _ _ 2 (12,0) _ rfl X.hp).trans rfl,(qcW _ _ 3 (12,1) _ rfl X.ha).trans (by rw[qbt]; rfl),qau (12,2) rfl X.hka (qaK _ _),(qcW _ _ 5 (12,3) _ rfl X.hb).trans (by rw[qbt]; rfl),qau (12,4) rfl X.hkb (qaK _ _),by decide⟩
    · exact ⟨(qcW _ _ 7 (19,0) _ rfl Y.hp).trans rfl,(qcW _ _ 8 (19,1) _ rfl Y.ha).trans (by rw[qcS]; rfl),qau (19,2) rfl Y.hka (qaK _ _),(qcW _ _ 10 (19,3) _ rfl Y.hb).trans (by rw[qcS]; rfl),qau (19,4) rfl Y.hkb (qaK _ _),by decide⟩
  · rintro st ⟨H, o, rfl, h0, ho, h1, X, Y⟩
    apply qbs
    simp (disch:=first|omega|decide|simp only[qaf,qad,qag,qae,qah,qac,qaa,qab,qai]) only[qa0,qat,qao,qan,qal,qak,qaM,qar,qay,qaq,qaH,qaG,qaj,qaF,qaD,qas,zM,zN,zO,zP,zK,zJ,Nat.reduceAdd,zA,zB,zL,zB,zA,qaW,Nat.reduceAdd,zi,zL,qcm,qbA,qb9,L9b0,zi]
    rfl
  · rintro st ⟨H, o, rfl, h0, ho, h1, X, Y⟩ rfl
    clear hL go gd
    obtain ⟨t0,ht0⟩:∃ t0,t0=tw0 m lb u:=⟨_,rfl⟩
    have hfd2:∀ H,front H 1 ([]:List (BitVec 8)).length (.isl (bs []) ([]:List (BitVec 8)).length)=some (bs []):=fun H=>qdw [] ([]:List (BitVec 8)).length rfl
    have hfk:∀ l:List (BitVec 8),l.length=([]:List (BitVec 8)).length→qcG 0 1 ([]:List (BitVec 8)).length (some (bs l))=some (bs l):=fun l hl=>by
      rw[qcG,if_pos (by rw[qad]; omega),zw,qcF,zk,List.take_of_length_le (by omega)]
    have hfkd:=hfk [] rfl
    have hc:=fun b=>b23S (k+2016) m b H _ _ _ _ _ (1,1) la lb X u [] [] 0 (some 0) h1 (by decide) (.inl (by decide)) (by decide)
    simp only[zJ] at hc
    have hm1:=X.same6 h1
    simp (disch:=first|omega|decide|simp only[qaf,qad,qag,qae,qah,qac,qaa,qab,qai]) only[qa0,qat,qao,qan,qal,qak,qar,qay,qaJ,qaq,qaH,qaG,qa7,qa1,qaj,qaF,qa8,qaD,qas,zM,zN,zO,zP,zG,zC,zK,zJ,Nat.reduceAdd,zD,zA,zB,zL,zB,zA,qaW,Nat.reduceAdd,zi,zL,qcm,qbA,qb9,qaI,qaA,List.getElem?_cons_zero,List.getElem?_cons_succ,qcJ,qcp,List.getElem?_cons_zero,List.getElem?_cons_succ,qam,qam,L9b0,zi,hc,hm1,zJ]
    clear hc hm1
    have hc:=fun b=>rb25I (k+18) m b H _ _ _ _ _ la lb Y u [] (.inl (by decide)) (by decide)
    simp only[zJ] at hc
    have hm1:=Y.same
    simp (disch:=first|omega|decide|simp only[qaf,qad,qag,qae,qah,qac,qaa,qab,qai]) only[qat,qao,qan,qal,qak,qar,qay,qaJ,qaq,qaH,qa7,qa1,qaj,zM,zN,zO,zP,zG,zC,zK,zJ,Nat.reduceAdd,zA,zB,zB,zA,Nat.reduceAdd,qaI,qaA,List.getElem?_cons_zero,List.getElem?_cons_succ,qcJ,qcp,List.getElem?_cons_zero,List.getElem?_cons_succ,qam,qam,hc,hm1,zJ]
    clear hc hm1
    have hc:=fun b=>b26S (k+2016) m b H _ _ _ _ _ (1,1) la lb X u [] [] 0 (some 0) h1 (by decide) (.inl (by decide)) (by decide)
    simp only[zJ] at hc
    have hm1:=X.same6 h1
    simp (disch:=first|omega|decide|simp only[qaf,qad,qag,qae,qah,qac,qaa,qab,qai]) only[qat,qao,qan,qal,qak,qar,qay,qaJ,qaq,qaH,qa7,qa1,qaj,zM,zN,zO,zP,zG,zC,zK,zJ,Nat.reduceAdd,zA,zB,zB,zA,Nat.reduceAdd,qaI,qaA,List.getElem?_cons_zero,List.getElem?_cons_succ,qcJ,qcp,List.getElem?_cons_zero,List.getElem?_cons_succ,qam,qam,hc,hm1,zJ]
    clear hc hm1
    have hc:=fun b=>rb27I (k+18) m b H _ _ _ _ _ la lb Y u [] (.inl (by decide)) (by decide)
    simp only[zJ] at hc
    have hm1:=Y.same
    simp (disch:=first|omega|decide|simp only[qaf,qad,qag,qae,qah,qac,qaa,qab,qai]) only[qbI,qat,qao,qan,qal,qak,qbm,guardK_true,qar,qay,qaJ,qaq,qdv,qaH,qcx,qaG,qaj,qbr,qcI,zM,zN,zO,zP,zK,zJ,outOf_Bo,zH,Nat.reduceAdd,zA,zB,zT,zB,zA,N_eql,Nat.reduceAdd,zT,qch,lenOf_isl,lenOf_nil,front_sl0,qaI,qaA,zH,List.getElem?_cons_zero,List.getElem?_cons_succ,qcJ,qcp,List.getElem?_cons_zero,List.getElem?_cons_succ,qam,qam,hc,hm1,zJ,b2sV_nil,front_e,b2sK_e,zJ,op_b2s,b2sV_sl,b2sV_isl,txt_eql]
end Aes
namespace Aes
open Go Go.LE Xf
set_option maxRecDepth 20000
theorem xunits_k00 (k:Nat) (u:BitVec 64):F C (k+7020) 9 [.isl [] 0,B64 u,.isl [] 0] []=some (Bo true,[],[]):=by
  rw[qbT f9]
  have hf0:∀ H,front H 1 0 (.isl [] 0)=some []:=fun H=>rfl
  simp (disch:=first|omega|decide|simp only[qaf,qad,qag,qae,qah,qac,qaa,qab,qai]) only[qbk,qat,qao,qan,qal,qak,qar,qay,qaJ,qaH,qa7,qa1,qaj,zM,zN,zO,zP,zG,zC,zI,zR,qbd,z7,zK,zJ,Nat.reduceAdd,Nat.reduceSub,qap,qb6,zF,Nat.reduceEqDiff,zS,zD,zE,zA,zB,zB,zA,Nat.reduceEqDiff,Nat.reduceAdd,lenOf_isl,qcA,qcB,qcC,qdd,qcX,qaI,qaZ,qaA,qa6,qa2,Nat.reduceSub,qam,appX_e0,appE0_some,qam,L9,hf0]
  rw[c_xbad 21 (k+7018) _ (.inl rfl) _ _ [] (by decide) (by decide) (by decide) [] (by exact snap_zero _ _ _ _)]
  simp (disch:=first|omega|decide|simp only[qaf,qad,qag,qae,qah,qac,qaa,qab,qai]) only[qat,qao,qan,qal,qak,qar,qay,qaJ,qaq,qaH,qa7,qa1,qaj,zM,zN,zO,zP,zG,zC,zK,zJ,Nat.reduceAdd,zA,zB,zB,zA,Nat.reduceAdd,qaI,qaA,List.getElem?_cons_zero,List.getElem?_cons_succ,qcJ,qcp,List.getElem?_cons_zero,List.getElem?_cons_succ,qam,qam]
  rw[c_xbad 24 (k+7018) _ (.inr rfl) _ _ [] (by decide) (by decide) (by decide) [] (by rfl)]
  simp (disch:=first|omega|decide|simp only[qaf,qad,qag,qae,qah,qac,qaa,qab,qai]) only[qbh,qbI,qat,qao,qan,qal,qak,qbm,qcv,qar,qay,qaJ,qaq,qcd,qaH,qcx,qaG,op_un,qa7,qa1,qaj,qdx,qaD,qa3,qas,qbr,qcI,zM,zN,zO,zP,zC,zK,zJ,Bo_neq,Bo_not,outOf_Bo,zH,Nat.reduceAdd,zA,zB,zT,zB,zA,N_neq,decide_not,Nat.reduceAdd,zT,ze,eqp_nil,qch,lenOf_isl,front_sl0,qaI,qaA,zH,List.getElem?_cons_zero,List.getElem?_cons_succ,qcJ,qcp,List.getElem?_cons_zero,List.getElem?_cons_succ,zx,ze,qam,qam,c_xlives (k+2009),op_b2s,b2sV_sl,b2sV_isl,b2sK_e,hf0,txt_neq,eqp_nil]
theorem xunits_k01 (k:Nat) (u:BitVec 64) (d:List (BitVec 8)) (hd0':d.length≠0) (hd2:d.length≤140737488351232):F C (k+7020) 9 [.isl [] 0,B64 u,.isl (bs d) d.length] []=some (Bo true,[],[]):=by
  rw[qbT f9]
  have hd1:0 < d.length:=by omega
  have hfd:∀ H,front H 1 d.length (.isl (bs d) d.length)=some (bs d):=fun H=>qdw d d.length rfl
  have had:∀ b H m,appX b 1 1 d.length H [] (bs d) (.sl m 0 0 (some 0) 1)=some ⟨.sl (b,0) 0 d.length none 1,[bs d],[]⟩:=fun b H m=>appX_e b d.length H m (bs d) hd0' (by omega)
  have hf0:∀ H,front H 1 0 (.isl [] 0)=some []:=fun H=>rfl
  simp (disch:=first|omega|decide|simp only[qaf,qad,qag,qae,qah,qac,qaa,qab,qai]) only[qbk,qat,qao,qan,qal,qak,qar,qay,qaJ,qaH,qa7,qa1,qaj,zM,zN,zO,zP,zG,zC,zI,zR,qbd,z7,zK,zJ,Nat.reduceAdd,Nat.reduceSub,qap,qb6,zD,zA,zB,zB,zA,Nat.reduceAdd,lenOf_isl,qcA,qcB,qcC,qdd,qcX,qaI,qaZ,qaA,qa6,qa2,Nat.reduceSub,qam,appX_e0,appE0_some,qam,L9,hfd,had,hf0]
  rw[c_xbad 21 (k+7018) _ (.inl rfl) _ _ [] (by decide) (by decide) (by decide) [] (by exact snap_zero _ _ _ _)]
  simp (disch:=first|omega|decide|simp only[qaf,qad,qag,qae,qah,qac,qaa,qab,qai]) only[qat,qao,qan,qal,qak,qar,qay,qaJ,qaq,qaH,qa7,qa1,qaj,zM,zN,zO,zP,zG,zC,zK,zJ,Nat.reduceAdd,zA,zB,zB,zA,Nat.reduceAdd,qaI,qaA,List.getElem?_cons_zero,List.getElem?_cons_succ,qcJ,qcp,List.getElem?_cons_zero,List.getElem?_cons_succ,qam,qam]
  rw[c_xbad 24 (k+7018) _ (.inr rfl) _ _ [] (by decide) (by decide) (by decide) [] (by rfl)]
  simp (disch:=first|omega|decide|simp only[qaf,qad,qag,qae,qah,qac,qaa,qab,qai]) only[qbh,qbI,qat,qao,qan,qal,qak,qbm,qcv,qar,qay,qaJ,qaq,qcd,qaH,qcx,qaG,op_un,qa7,qa1,qaj,qdx,qaD,qa3,qas,qbr,qcI,zM,zN,zO,zP,zC,zK,zJ,Bo_neq,Bo_not,outOf_Bo,zH,Nat.reduceAdd,zA,zB,zT,zB,zA,N_neq,decide_not,Nat.reduceAdd,zT,ze,eqp_nil,qch,lenOf_isl,front_sl0,qaI,qaA,zH,List.getElem?_cons_zero,List.getElem?_cons_succ,qcJ,qcp,List.getElem?_cons_zero,List.getElem?_cons_succ,zx,ze,qam,qam,c_xlives (k+2009),op_b2s,b2sV_sl,b2sV_isl,b2sK_e,hf0,txt_neq,eqp_nil]
theorem xunits_k10 (k:Nat) (key:List (BitVec 8)) (hk0:key.length≠0) (h32:key.length≠32) (h64:key.length≠64) (hkb:key.length≤140737488351232) (u:BitVec 64):F C (k+7020) 9 [.isl (bs key) key.length,B64 u,.isl [] 0] []=some (Bo true,[],[]):=by
  rw[qbT f9]
  have hk1:0 < key.length:=by omega
  have hfr:∀ H,front H 1 key.length (.isl (bs key) key.length)=some (bs key):=fun H=>qdw key key.length rfl
  have hap:∀ b H m,appX b 1 1 key.length H [] (bs key) (.sl m 0 0 (some 0) 1)=some ⟨.sl (b,0) 0 key.length none 1,[bs key],[]⟩:=fun b H m=>appX_e b key.length H m (bs key) hk0 (by omega)
  have hf0:∀ H,front H 1 0 (.isl [] 0)=some []:=fun H=>rfl
  simp (disch:=first|omega|decide|simp only[qaf,qad,qag,qae,qah,qac,qaa,qab,qai]) only[qbk,qat,qao,qan,qal,qak,qar,qay,qaJ,qaH,qa7,qa1,qaj,zM,zN,zO,zP,zG,zC,zI,zR,qbd,z7,zK,zJ,Nat.reduceAdd,Nat.reduceSub,qap,qb6,zF,Nat.reduceEqDiff,zS,zD,zE,zA,zB,zB,zA,Nat.reduceEqDiff,Nat.reduceAdd,lenOf_isl,qcA,qcB,qcC,qdd,qcX,qaI,qaZ,qaA,qa6,qa2,Nat.reduceSub,qam,appX_e0,appE0_some,qam,L9,hfr,hap,hf0]
  rw[c_xbad 21 (k+7018) _ (.inl rfl) _ _ key (by omega) h32 h64 [(5,0)] (by rw[snap_bytes (5,0) 0 key.length _ key rfl hk0,zw,List.take_of_length_le (Nat.le_refl _)])]
  simp (disch:=first|omega|decide|simp only[qaf,qad,qag,qae,qah,qac,qaa,qab,qai]) only[qat,qao,qan,qal,qak,qar,qay,qaJ,qaq,qaH,qa7,qa1,qaj,zM,zN,zO,zP,zG,zC,zK,zJ,Nat.reduceAdd,zA,zB,zB,zA,Nat.reduceAdd,qaI,qaA,List.getElem?_cons_zero,List.getElem?_cons_succ,qcJ,qcp,List.getElem?_cons_zero,List.getElem?_cons_succ,qam,qam]
  rw[c_xbad 24 (k+7018) _ (.inr rfl) _ _ key (by omega) h32 h64 [] (snap_isl _ _)]
  simp (disch:=first|omega|decide|simp only[qaf,qad,qag,qae,qah,qac,qaa,qab,qai]) only[qbh,qbI,qat,qao,qan,qal,qak,qbm,qcv,qar,qay,qaJ,qaq,qcd,qaH,qcx,qaG,op_un,qa7,qa1,qaj,qdx,qaD,qa3,qas,qbr,qcI,zM,zN,zO,zP,zC,zK,zJ,Bo_neq,Bo_not,outOf_Bo,zH,Nat.reduceAdd,qap,zF,Nat.reduceEqDiff,zS,zD,zE,zA,zB,zT,zB,zA,N_neq,decide_not,Nat.reduceEqDiff,Nat.reduceAdd,zT,ze,eqp_nil,qch,lenOf_isl,qaI,qaA,zH,qa2,List.getElem?_cons_zero,List.getElem?_cons_succ,qcJ,qcp,List.getElem?_cons_zero,List.getElem?_cons_succ,zx,ze,frontK_bs_all,qcL,qam,qam,c_xlives (k+2009),op_b2s,b2sV_sl,b2sV_isl,b2sK_bs,hfr,txt_neq,eqp_nil]
theorem xunits_k11 (k:Nat) (key:List (BitVec 8)) (hk0:key.length≠0) (h32:key.length≠32) (h64:key.length≠64) (hkb:key.length≤140737488351232) (u:BitVec 64) (d:List (BitVec 8)) (hd0':d.length≠0) (hd2:d.length≤140737488351232):F C (k+7020) 9 [.isl (bs key) key.length,B64 u,.isl (bs d) d.length] []=some (Bo true,[],[]):=by
  rw[qbT f9]
  have hk1:0 < key.length:=by omega
  have hfr:∀ H,front H 1 key.length (.isl (bs key) key.length)=some (bs key):=fun H=>qdw key key.length rfl
  have hap:∀ b H m,appX b 1 1 key.length H [] (bs key) (.sl m 0 0 (some 0) 1)=some ⟨.sl (b,0) 0 key.length none 1,[bs key],[]⟩:=fun b H m=>appX_e b key.length H m (bs key) hk0 (by omega)
  have hd1:0 < d.length:=by omega
  have hfd:∀ H,front H 1 d.length (.isl (bs d) d.length)=some (bs d):=fun H=>qdw d d.length rfl
  have had:∀ b H m,appX b 1 1 d.length H [] (bs d) (.sl m 0 0 (some 0) 1)=some ⟨.sl (b,0) 0 d.length none 1,[bs d],[]⟩:=fun b H m=>appX_e b d.length H m (bs d) hd0' (by omega)
  simp (disch:=first|omega|decide|simp only[qaf,qad,qag,qae,qah,qac,qaa,qab,qai]) only[qbk,qat,qao,qan,qal,qak,qar,qay,qaJ,qaH,qa7,qa1,qaj,zM,zN,zO,zP,zG,zC,zI,zR,qbd,z7,zK,zJ,Nat.reduceAdd,Nat.reduceSub,qb6,zA,zB,zB,zA,Nat.reduceAdd,lenOf_isl,qcA,qcB,qcC,qdd,qcX,qaI,qaZ,qaA,Nat.reduceSub,qam,qam,L9,hfr,hap,hfd,had]
  rw[c_xbad 21 (k+7018) _ (.inl rfl) _ _ key (by omega) h32 h64 [(5,0)] (by rw[snap_bytes (5,0) 0 key.length _ key rfl hk0,zw,List.take_of_length_le (Nat.le_refl _)])]
  simp (disch:=first|omega|decide|simp only[qaf,qad,qag,qae,qah,qac,qaa,qab,qai]) only[qat,qao,qan,qal,qak,qar,qay,qaJ,qaq,qaH,qa7,qa1,qaj,zM,zN,zO,zP,zG,zC,zK,zJ,Nat.reduceAdd,zA,zB,zB,zA,Nat.reduceAdd,qaI,qaA,List.getElem?_cons_zero,List.getElem?_cons_succ,qcJ,qcp,List.getElem?_cons_zero,List.getElem?_cons_succ,qam,qam]
  rw[c_xbad 24 (k+7018) _ (.inr rfl) _ _ key (by omega) h32 h64 [] (snap_isl _ _)]
  simp (disch:=first|omega|decide|simp only[qaf,qad,qag,qae,qah,qac,qaa,qab,qai]) only[qbh,qbI,qat,qao,qan,qal,qak,qbm,qcv,qar,qay,qaJ,qaq,qcd,qaH,qcx,qaG,op_un,qa7,qa1,qaj,qdx,qaD,qa3,qas,qbr,qcI,zM,zN,zO,zP,zC,zK,zJ,Bo_neq,Bo_not,outOf_Bo,zH,Nat.reduceAdd,qap,zF,Nat.reduceEqDiff,zS,zD,zE,zA,zB,zT,zB,zA,N_neq,decide_not,Nat.reduceEqDiff,Nat.reduceAdd,zT,ze,eqp_nil,qch,lenOf_isl,qaI,qaA,zH,qa2,List.getElem?_cons_zero,List.getElem?_cons_succ,qcJ,qcp,List.getElem?_cons_zero,List.getElem?_cons_succ,zx,ze,frontK_bs_all,qcL,qam,qam,c_xlives (k+2009),op_b2s,b2sV_sl,b2sV_isl,b2sK_bs,hfr,txt_neq,eqp_nil]
theorem xunits_key (k:Nat) (key:List (BitVec 8)) (h32:key.length≠32) (h64:key.length≠64) (hkb:key.length≤140737488351232) (u:BitVec 64) (d:List (BitVec 8)) (hd2:d.length≤140737488351232):F C (k+7020) 9 [.isl (bs key) key.length,B64 u,.isl (bs d) d.length] []=some (Bo true,[],[]):=by
  by_cases hk:key.length=0
  · obtain rfl : key = [] := List.length_eq_zero_iff.1 hk
    by_cases hd:d.length=0
    · obtain rfl : d = [] := List.length_eq_zero_iff.1 hd
      exact xunits_k00 k u
    · exact xunits_k01 k u d hd hd2
  · by_cases hd : d.length = 0
    · obtain rfl : d = [] := List.length_eq_zero_iff.1 hd
      exact xunits_k10 k key hk h32 h64 hkb u
    · exact xunits_k11 k key hk h32 h64 hkb u d hd hd2
theorem xunits_made (k n:Nat) (hn:n=4∨n=8) (key:List (BitVec 8)) (hk:key.length=8*n) (u:BitVec 64) (d:List (BitVec 8)) (hd2:d.length≤140737488351232):F C (k+7020) 9 [.isl (bs key) key.length,B64 u,.isl (bs d) d.length] []=some (Bo true,[],[]):=by
  by_cases hd0:d.length=0
  · obtain rfl : d = [] := List.length_eq_zero_iff.1 hd0
    exact xunits_E k n hn key hk u
  · by_cases hd : d.length < 16 ∨ 65536 < d.length
    · exact xunits_B k n hn key hk u d hd0 hd hd2
    · exact xunits_G k n hn key hk u d (by omega) (by omega)
theorem xunits_F (k:Nat) (key:List (BitVec 8)) (hkb:key.length≤140737488351232) (u:BitVec 64) (d:List (BitVec 8)) (hd2:d.length≤140737488351232):F C (k+7020) 9 [.isl (bs key) key.length,B64 u,.isl (bs d) d.length] []=some (Bo true,[],[]):=by
  by_cases h32:key.length=32
  · exact xunits_made k 4 (.inl rfl) key h32 u d hd2
  · by_cases h64 : key.length = 64
    · exact xunits_made k 8 (.inr rfl) key h64 u d hd2
    · exact xunits_key k key h32 h64 hkb u d hd2
end Aes
namespace Aes
open Go Go.LE Xf
set_option maxRecDepth 20000
def chg (d:List (BitVec 8)) (kk:Nat) (x:BitVec 8) (i:Nat):List (BitVec 8):=(List.range d.length).map fun j=>if j < i∧j / 16≠kk then d.getD j 0#8 ^^^ x else d.getD j 0#8
theorem chg_length (d:List (BitVec 8)) (kk:Nat) (x:BitVec 8) (i:Nat):(chg d kk x i).length=d.length:=by rw[chg,zzK,List.length_range]
theorem chg_getD (d:List (BitVec 8)) (kk:Nat) (x:BitVec 8) (i j:Nat) (hj:j < d.length):(chg d kk x i).getD j 0#8=if j < i∧j / 16≠kk then d.getD j 0#8 ^^^ x else d.getD j 0#8:=by
  rw[chg,List.getD_eq_getElem?_getD,List.getElem?_map,List.getElem?_range hj]; rfl
theorem eq_of_getD {a b:List (BitVec 8)} (hl:a.length=b.length) (h:∀ j,j < a.length→a.getD j 0#8=b.getD j 0#8):a=b:=by
  apply List.ext_getElem hl
  intro j h1 h2
  have:=h j h1
  rwa [List.getD_eq_getElem?_getD,List.getD_eq_getElem?_getD,List.getElem?_eq_getElem h1,List.getElem?_eq_getElem h2,Option.getD_some,Option.getD_some] at this
theorem chg_0 (d:List (BitVec 8)) (kk:Nat) (x:BitVec 8):chg d kk x 0=d:=by
  apply eq_of_getD (chg_length _ _ _ _)
  intro j hj
  rw[chg_length] at hj
  rw[chg_getD _ _ _ _ _ hj,if_neg (fun h=>Nat.not_lt_zero _ h.1)]
theorem chg_skip (d:List (BitVec 8)) (kk:Nat) (x:BitVec 8) (i:Nat) (h:i / 16=kk):chg d kk x (i+1)=chg d kk x i:=by
  apply eq_of_getD (by rw[chg_length,chg_length])
  intro j hj
  rw[chg_length] at hj
  rw[chg_getD _ _ _ _ _ hj,chg_getD _ _ _ _ _ hj]
  have:(j < i+1∧j / 16≠kk)↔(j < i∧j / 16≠kk):=by
    constructor
    · rintro ⟨h1, h2⟩
      refine ⟨?_,h2⟩
      by_cases e:j=i
      · subst e; exact absurd h h2
      · omega
    · rintro ⟨h1,h2⟩; exact ⟨by omega,h2⟩
  simp only[this]
theorem chg_set (d:List (BitVec 8)) (kk:Nat) (x:BitVec 8) (i:Nat) (hi:i < d.length) (h:i / 16≠kk):(chg d kk x i).set i (d.getD i 0#8 ^^^ x)=chg d kk x (i+1):=by
  apply eq_of_getD (by rw[List.length_set,chg_length,chg_length])
  intro j hj
  rw[List.length_set,chg_length] at hj
  rw[chg_getD _ _ _ _ _ hj]
  by_cases e:j=i
  · subst e
    rw[if_pos ⟨Nat.lt_succ_self _,h⟩,List.getD_eq_getElem?_getD,List.getElem?_set_self (by rw[chg_length]; exact hj),Option.getD_some]
  · rw [List.getD_eq_getElem?_getD, List.getElem?_set_ne (fun h => e h.symm), ← List.getD_eq_getElem?_getD, chg_getD _ _ _ _ _ hj]
    have:(j < i+1∧j / 16≠kk)↔(j < i∧j / 16≠kk):=by
      constructor
      · rintro ⟨h1,h2⟩; exact ⟨by omega,h2⟩
      · rintro ⟨h1,h2⟩; exact ⟨by omega,h2⟩
    simp only[this]
theorem chg_at (d:List (BitVec 8)) (kk:Nat) (x:BitVec 8) (i:Nat) (hi:i < d.length):(chg d kk x i).getD i 0#8=d.getD i 0#8:=by
  rw[chg_getD _ _ _ _ _ hi,if_neg (fun h=>zi _ h.1)]
theorem blk_getD (d:List (BitVec 8)) (i j:Nat) (hj:j < 16):(blk d i).getD j 0#8=d.getD (16*i+j) 0#8:=by
  rw[blk,List.getD_eq_getElem?_getD,List.getElem?_take,if_pos hj,List.getElem?_drop,←List.getD_eq_getElem?_getD]
theorem chg_blk (d:List (BitVec 8)) (kk:Nat) (x:BitVec 8) (i:Nat) (hi:16*(i+1)≤d.length):blk (chg d kk x d.length) i=blk d i↔i=kk∨x=0#8:=by
  have hl:(blk d i).length=16:=blk_length d i hi
  have hl2:(blk (chg d kk x d.length) i).length=16:=blk_length _ i (by rw[chg_length]; exact hi)
  have hg:∀ j,j < 16→(blk (chg d kk x d.length) i).getD j 0#8=if i=kk then d.getD (16*i+j) 0#8 else d.getD (16*i+j) 0#8 ^^^ x:=by
    intro j hj
    rw[blk_getD _ _ _ hj,chg_getD _ _ _ _ _ (by omega)]
    have e:(16*i+j) / 16=i:=by omega
    by_cases h:i=kk
    · rw[if_neg (fun hh=>hh.2 (by rw[e,h])),if_pos h]
    · rw[if_pos ⟨by omega,by rw[e]; exact h⟩,if_neg h]
  constructor
  · intro h
    by_cases hk:i=kk
    · exact .inl hk
    · right
      have:=hg 0 (by decide)
      rw[h,blk_getD _ _ _ (by decide),if_neg hk] at this
      have h2:=congrArg (fun y=>d.getD (16*i+0) 0#8 ^^^ y) this
      simp only[BitVec.xor_self,←BitVec.xor_assoc,BitVec.zero_xor] at h2
      exact h2.symm
  · intro h
    apply eq_of_getD (by rw[hl,hl2])
    intro j hj
    rw[hl2] at hj
    rw[hg j hj,blk_getD _ _ _ hj]
    rcases h with h | h
    · rw[if_pos h]
    · subst h; by_cases hk : i = kk
      · rw[if_pos hk]
      · rw[if_neg hk,BitVec.xor_zero]
def p1J (la lb:List (BitVec 8)) (u:BitVec 64) (d:List (BitVec 8)) (x:BitVec 8) (w kk i:Nat) (st:St):Prop := ∃ (H:Heap),
  st=⟨[.undef,B64 u,.isl (bs d) d.length,.undef,B8 x,.undef,.undef,.undef,.undef,.undef,.undef,.ptr (1,0) 0,.undef,N w,N kk,.sl (1,5) 0 d.length none 1,N i,.undef,.undef,.undef,.undef,.undef,.undef,.undef,.undef,.undef,.undef,.undef,.undef,.undef,.undef,.undef,.undef,.undef,.undef,.undef,.undef,.undef,.undef,.undef,.undef,.undef,.undef,.undef,.undef,.undef,.undef,.undef,.undef,.undef,.undef,.undef,.undef,.undef,.undef,.undef,.undef,.undef,.undef,.undef,.undef,.undef,.undef,.undef,.undef,.undef,.undef,.undef,.undef,.undef,.undef,.undef,.undef,.undef,.undef,.undef,.undef,.undef,.undef,.undef,.undef,.undef,.undef,.undef,.undef,.undef,.undef,.undef,.undef,.undef,.undef,.undef,.undef,.undef,.undef,.undef,.undef,.undef,.undef,.undef,.undef,.undef,.undef,.undef,Un,Un,Un,Un,Un,.undef,.undef,Un,Un,Un,Un,Un,Un,Un,Un,Un,Un,Un,Un,Un,Un,Un,Un,Un,.undef,.undef,.undef,.undef,.undef,.undef,.undef,.undef,.undef,.undef,Un,Un,Un,Un,Un,Un,Un,Un,Un,Un,Un,Un,Un,Un,Un,Un,Un,Un,Un,Un,.undef],H,2,0⟩ ∧
  XG H (1,0) (1,1) (1,2) (1,3) (1,4) 9 la lb∧H (1,5)=some (bs (chg d kk x i))
theorem cn_XG {H:Heap} {n:Nat} {la lb:List (BitVec 8)} (X:XG H (1,0) (1,1) (1,2) (1,3) (1,4) n la lb):XG (cN [(1,0),(1,1),(1,2),(1,3),(1,4),(1,5)] H) (1,0) (1,1) (1,2) (1,3) (1,4) n la lb :=
  ⟨(qcW _ _ 0 (1,0) _ rfl X.hp).trans rfl,(qcW _ _ 1 (1,1) _ rfl X.ha).trans (by rw[qbt]; rfl),qau (1,2) rfl X.hka (qaK _ _),(qcW _ _ 3 (1,3) _ rfl X.hb).trans (by rw[qbt]; rfl),qau (1,4) rfl X.hkb (qaK _ _),by decide⟩
theorem p1_round (k:Nat) (la lb:List (BitVec 8)) (u:BitVec 64) (d:List (BitVec 8)) (hd2:d.length≤65536) (x:BitVec 8) (w kk i:Nat) (hkk:kk < 65536) (hi:i < d.length) (st:St) (hJ:p1J la lb u d x w kk i st) :
    ∃ st1,ev (envC C k) k L8b1 st=some (.normal,st1)∧p1J la lb u d x w kk (i+1) (qcr L8k1 st1):=by
  obtain ⟨H,rfl,X,h1⟩:=hJ
  have hcl:=chg_length d kk x i
  have hc:cellK i 1 (some (bs (chg d kk x i)))=some [B8 (d.getD i 0#8)]:=by rw[ix_key _ i (by omega),chg_at d kk x i hi]
  by_cases h:i / 16=kk
  · simp (disch := first | omega | decide | simp only [qaf, qad, qag, qae, qah, qac, qaa, qab, qai]) only [qbh, qat, qaX, qao, qan, qal, qak, qar, qay, qaJ, qaq, qaH, qaG, qaj, qaY, qaD, qa3, qas, zM, zN, zO, zP, zK, zJ, Nat.reduceAdd, zA, zB, zT, zB, zA, qbz, N_quo, N_neq, qaW, decide_not, Nat.reduceAdd, zT, ze, qcm, qbA, qb9, qaI, qaA, ze, qam, qam, L8b1, hi, h]
    refine ⟨_,rfl,?_⟩
    refine qaT [(1,0),(1,1),(1,2),(1,3),(1,4),(1,5)] rfl (by simp only[qav,FUEL,qaE,qaQ,qbU,qbR,qcM,qaO,zV,zX,zI,zR,zQ,zz,zC,qaN,qaL,qaC,qbb,L8k1,qaQ,qaE,qbw,qbR,qbU]; rw[X.reach6 (by decide) h1]; rfl) (by simp only[zC,zG,qaN,qaL,qaC,L8k1,zG,zC,qbO]; rfl) ⟨_,rfl,cn_XG X,?_⟩
    rw[chg_skip d kk x i h]
    exact qau (1,5) rfl h1 (qaK _ _)
  · have hs := bs_st (chg d kk x i) i (d.getD i 0#8 ^^^ x) (1, 5) (by omega)
    rw[chg_set d kk x i hi h] at hs
    simp (disch:=first|omega|decide|simp only[qaf,qad,qag,qae,qah,qac,qaa,qab,qai]) only[qbh,qat,qaX,qao,qan,qal,qak,qar,qbc,qay,qaJ,qaq,qaH,qaG,qaj,qaY,qaD,qa3,zM,zN,zO,zP,zK,zJ,B8_xor,Nat.reduceAdd,qb5,qaR,qbn,qbV,qbF,qbl,zA,zB,zT,zL,zk,zB,zA,qbz,N_quo,N_neq,qaW,qbJ,decide_not,Nat.reduceAdd,zL,zT,zg,qcm,qbA,qb9,op_iaS,qdf,qaI,qaA,qa6,zk,zg,qam,qam,L8b1,h1,hi,h,hc,hs]
    refine ⟨_,rfl,?_⟩
    generalize hQ:upd H (1,5) (some (bs (chg d kk x (i+1))))=Q
    have X2:XG Q (1,0) (1,1) (1,2) (1,3) (1,4) 9 la lb:=by rw[←hQ]; exact X.up _ _ (by decide)
    have q1:Q (1,5)=some (bs (chg d kk x (i+1))):=by rw[←hQ]; rfl
    clear hQ
    refine qaT [(1,0),(1,1),(1,2),(1,3),(1,4),(1,5)] rfl (by simp only[qav,FUEL,qaE,qaQ,qbU,qbR,qcM,qaO,zV,zX,zI,zR,zQ,zz,zC,qaN,qaL,qaC,qbb,L8k1,qaQ,qaE,qbw,qbR,qbU]; rw[X2.reach6 (by decide) q1]; rfl) (by simp only[zC,zG,qaN,qaL,qaC,L8k1,zG,zC,qbO]; rfl) ⟨_,rfl,cn_XG X2,?_⟩
    exact qau (1,5) rfl q1 (qaK _ _)
def p0J (len:Nat) (x:BitVec 8) (w kk:Nat) (Ua Ub:List (BitVec 8)) (i:Nat) (st:St):Prop := ∃ (H:Heap) (g0 g1 g2 g3 g4 g5 g6 g7 g8 g9 g10 g11 g12 g13 g14 g15 g16 g17 g18 g19:LV),
  st=⟨[.undef,.undef,.undef,.undef,B8 x,.undef,.undef,.undef,.undef,.undef,.undef,.undef,.undef,N w,N kk,.undef,.undef,.sl (1,0) 0 len none 1,.undef,.sl (1,1) 0 len none 1,.undef,N i,.undef,.undef,.undef,.undef,.undef,.undef,.undef,.undef,.undef,.undef,.undef,.undef,.undef,.undef,.undef,.undef,.undef,.undef,.undef,.undef,.undef,.undef,.undef,.undef,.undef,.undef,.undef,.undef,.undef,.undef,.undef,.undef,.undef,.undef,.undef,.undef,.undef,.undef,.undef,.undef,.undef,.undef,.undef,.undef,.undef,.undef,.undef,.undef,.undef,.undef,.undef,.undef,.undef,.undef,.undef,.undef,.undef,.undef,.undef,.undef,.undef,.undef,.undef,.undef,.undef,.undef,.undef,.undef,.undef,.undef,.undef,.undef,.undef,.undef,.undef,.undef,.undef,.undef,.undef,.undef,.undef,.undef,.undef,.undef,.undef,.undef,.undef,.undef,.undef,.undef,.undef,.undef,.undef,.undef,.undef,.undef,.undef,.undef,.undef,.undef,.undef,.undef,.undef,.undef,.undef,.undef,.undef,.undef,.undef,.undef,.undef,.undef,.undef,.undef,.undef,.undef,g0,g1,g2,g3,g4,g5,g6,g7,g8,g9,g10,g11,g12,g13,g14,g15,g16,g17,g18,g19,.undef],H,2,0⟩∧H (1,0)=some (bs Ua)∧H (1,1)=some (bs Ub)
theorem p0_round (k len:Nat) (hlen:len≤65536) (x:BitVec 8) (w kk:Nat) (hw:16*w=len) (hkk:kk < w) (Ua Ub:List (BitVec 8)) (ha:Ua.length=len) (hb:Ub.length=len) (hne:∀ i,i < w→i≠kk→(decide (blk Ua i=blk Ub i)=(x == 0#8))) (i:Nat) (hi:i < w) (st:St) (hJ:p0J len x w kk Ua Ub i st) :
    ∃ st1,ev (envC C k) k L8b0 st=some (.normal,st1)∧p0J len x w kk Ua Ub (i+1) (qcr L8k0 st1):=by
  obtain ⟨H,g0,g1,g2,g3,g4,g5,g6,g7,g8,g9,g10,g11,g12,g13,g14,g15,g16,g17,g18,g19,rfl,h0,h1⟩:=hJ
  have i1:16*i≤16*i+16:=by omega
  have i2:16*i+16≤len:=by omega
  have i3:16*i+16 - 16*i=16:=by omega
  have fa:qcG (16*i) 1 16 (some (bs Ua))=some (bs (blk Ua i)):=by rw[qcG,if_pos (by rw[qad]; omega),bs_drop,qcF]; rfl
  have fb:qcG (16*i) 1 16 (some (bs Ub))=some (bs (blk Ub i)):=by rw[qcG,if_pos (by rw[qad]; omega),bs_drop,qcF]; rfl
  by_cases h:i=kk
  · simp (disch := first | omega | decide | simp only [qaf, qad, qag, qae, qah, qac, qaa, qab, qai]) only [qbh, qat, qaX, qao, qan, qal, qak, qbm, guardK_false, qar, qay, qaJ, qaq, qcd, qaH, qcx, qaG, qaj, qaY, qaD, qa3, qas, zM, zN, zO, zP, zK, zJ, Nat.reduceAdd, zA, zB, zT, zB, zA, qbz, N_neq, qaW, decide_not, Nat.reduceAdd, zT, ze, qaI, qaA, evOpers_ord_g, guardO_false, ze, qam, qam, L8b0, h, hkk]
    refine ⟨_,rfl,?_⟩
    refine qaT [(1,0),(1,1)] rfl (by simp only[qav,FUEL,qaz,qax,qaB,qaQ,qbU,qcM,qaO,zV,zX,zI,zR,zQ,zz,zC,zW,zY,zF,zm,zn,zf,zZ,zl,zD,zE,zb,zq,zp,zo,ne_eq,zt,qaN,qaL,qaC,qbb,L8k0,qaQ,qbU,h0,h1,qaP] <;> rfl) (by simp only[zC,zG,qaN,qaL,qaC,L8k0,zG,zC] <;> rfl) ⟨_,_,_,_,_,_,_,_,_,_,_,_,_,_,_,_,_,_,_,_,_,rfl,qau (1,0) rfl h0 (qaK _ _),qau (1,1) rfl h1 (qaK _ _)⟩
  · have hq := hne i hi h
    simp (disch:=first|omega|decide|simp only[qaf,qad,qag,qae,qah,qac,qaa,qab,qai]) only[qbh,qat,qaX,qao,qan,qal,qak,qbm,guardK_true,qar,qay,qaJ,qaq,qdv,qaH,qcx,qaG,qaj,qaY,qaD,qa3,qas,zM,zN,zO,zP,zC,zK,zJ,B8_eql,Bo_neq,Nat.reduceAdd,Nat.reduceSub,za,zd,zU,Nat.reduceLT,zD,zA,zB,zT,zL,zk,zB,zA,qbz,N_mul,N_neq,qaW,qbJ,decide_not,Nat.reduceLT,Nat.reduceAdd,zL,zT,zg,ze,qb9,qch,qcg,op_slcS,slcV_none,qcn,qaI,qaA,zk,evOpers_ord_g,guardO_true,qbo,qbE,touch_b2s,zY,zW,zx,z6,z0,qbQ,qba,za,zd,Nat.testBit,Nat.reduceShiftRight,Nat.reduceAnd,Nat.reduceBEq,ze,zg,zy,zU,zj,Nat.reduceSub,Nat.reduceLT,bne,qbg,qbG,qbp,isCall_b2s,zj,zU,qcL,qaU,qam,qam,qaU,L8b0,h0,h1,hi,h,i3,fa,fb,op_b2s,b2sV_sl,b2sK_bs,txt_eql,hq,qaQ]
    refine ⟨_,rfl,?_⟩
    refine qaT [(1,0),(1,1)] rfl (by simp only[qav,FUEL,qaz,qax,qaQ,qbU,qci,qaO,zV,zX,zI,zR,zQ,zz,zC,zW,zY,zF,zm,zn,zf,zZ,zl,zzC,zD,zE,zb,zh,qaN,qaL,qaC,qbb,L8k0,qaQ,qbU,h0,h1,qaP] <;> rfl) (by simp only[zC,zG,qaN,qaL,qaC,L8k0,zG,zC] <;> rfl) ⟨_,_,_,_,_,_,_,_,_,_,_,_,_,_,_,_,_,_,_,_,_,rfl,qau (1,0) rfl h0 (qaK _ _),qau (1,1) rfl h1 (qaK _ _)⟩
end Aes
namespace Aes
open Go Go.LE Xf
set_option maxRecDepth 20000
theorem xplaces_G (k:Nat) (key:R) (u:BitVec 64) (d:List (BitVec 8)) (a:Int) (x:BitVec 8) (w kk:Nat) (hw:16*w=d.length) (h16:16≤d.length) (hd2:d.length≤65536) (hkk:kk < w)
    (hk:(a.tmod w < 0∧a.tmod w+w=kk)∨(a.tmod w=kk)):F C (k+70020) 8 [.agg (aB 32 key),B64 u,.isl (bs d) d.length,I a,B8 x] []=some (Bo true,[],[]):=by
  rw[qbT f8]
  simp (disch:=first|omega|decide|simp only[qaf,qad,qag,qae,qah,qac,qaa,qab,qai]) only[qbk,qat,qao,qan,qal,qak,qar,qay,qaJ,qaq,qaH,qa7,qa1,qaj,zM,zN,zO,zP,zG,zC,zI,zR,qbd,z7,zK,zJ,Nat.reduceAdd,Nat.reduceSub,qa5,op_box,qcH,zA,zB,zk,zB,zA,Nat.reduceAdd,qdi,op_slcAV,slcAV_ptr,qaI,qaZ,qaA,Nat.sub_zero,zk,Nat.reduceSub,qam,qam,L8]
  rw[c_xnew (k+69618) 4 _ (.inl rfl) _ _ ((List.range 32).map key) (by rw[zzK,List.length_range]) [(2,0)] (snap_aB rfl 32 _ (by decide) (by decide))]
  obtain ⟨la,hla'⟩:∃ la,la=W 4 (((List.range 32).map key).take (4*4)):=⟨_,rfl⟩
  obtain ⟨lb,hlb'⟩:∃ lb,lb=W 4 (((List.range 32).map key).drop (4*4)):=⟨_,rfl⟩
  have hla:la.length=16*(9+2):=by rw[hla']; exact W_length 4 _ (by rw[zzL,zzK,List.length_range]; rfl)
  have hlb:lb.length=16*(9+2):=by rw[hlb']; exact W_length 4 _ (by rw[zzH,zzK,List.length_range])
  have hle:¬ d.length < 16:=by omega
  have hle2:¬ 65536 < d.length:=by omega
  have hle3:d.length % 16=0:=by omega
  have hle4:d.length / 16=w:=by omega
  have hd0':d.length≠0:=by omega
  have hd1:0 < d.length:=by omega
  have hfd:∀ H,front H 1 d.length (.isl (bs d) d.length)=some (bs d):=fun H=>qdw d d.length rfl
  have had:∀ b H m,appX b 1 1 d.length H [] (bs d) (.sl m 0 0 (some 0) 1)=some ⟨.sl (b,0) 0 d.length none 1,[bs d],[]⟩:=fun b H m=>appX_e b d.length H m (bs d) hd0' (by omega)
  have hr:∀ e,binV .rem e (I a) (N w)=some (I (a.tmod w)):=fun e=>I_rem e a w (by omega)
  rcases hk with ⟨hn,hk⟩ | hk
  · have hr2 : ∀ e, binV .lss e (I (a.tmod w)) (N 0) = some (Bo true) := fun e => by rw [N, I_lss, decide_eq_true (by exact hn)]
    have hr3:∀ e,binV .add e (I (a.tmod w)) (N w)=some (N kk):=fun e=>by rw[N,I_add _ _ _ (by omega),hk]; rfl
    simp (disch:=first|omega|decide|simp only[qaf,qad,qag,qae,qah,qac,qaa,qab,qai]) only[qbh,qat,qaX,qao,qan,qal,qak,qbm,qcv,qar,qay,qaJ,qaq,qcd,qaH,qcx,qaG,op_un,qa7,qa1,qaj,qaD,qa3,qas,zM,zN,zO,zP,zC,zK,zJ,Bo_not,qbH,Nat.reduceAdd,qb6,zA,zB,zT,zL,zB,zA,N_quo,N_rem,N_neq,qaW,N_gtr,decide_not,Nat.reduceMul,Nat.reduceAdd,zL,zT,ze,eqp_ptr,qcm,qbA,qcT,lenOf_isl,qcA,qcB,qcC,qdd,qcX,qaI,qaZ,qaA,List.getElem?_cons_zero,List.getElem?_cons_succ,qcJ,qcp,List.getElem?_cons_zero,List.getElem?_cons_succ,ze,qam,qam,c_xlives (k+65009),eqp_ptr,hle,hle2,hle3,hle4,hr,hr2,hr3,hfd,had]
    generalize hG:upd _ (51,0) _=G
    have X:XG G (5,0) (5,1) (5,2) (5,3) (5,4) 9 la lb:=by rw[←hG,hla',hlb']; exact ⟨rfl,rfl,rfl,rfl,rfl,by decide⟩
    have gd:G (51,0)=some (bs d):=by rw[←hG]; rfl
    clear hG hla' hlb'
    generalize hL:qbW L8k1 _ _ _=r
    refine qby hL (p1J la lb u d x w kk) d.length (by omega) (fun i st hi hJ=>p1_round _ la lb u d hd2 x w kk i (by omega) hi st hJ) ?_ ?_ ?_
    · refine qaT [(5, 0), (5, 1), (5, 2), (5, 3), (5, 4), (51, 0)] rfl (by simp only [qav, FUEL, qaE, qaQ, qbU, qbR, qcM, qaO, zV, zX, zI, zR, zQ, zz, zC, qaN, qaL, qaC, qbb, L8k1, qaQ, qaE, qbw, qbR, qbU]; rw [X.reach6 (by decide) gd]; rfl) (by simp only [zC, zG, qaN, qaL, qaC, L8k1, zG, zC, qbO]; rfl) ⟨_, rfl, ⟨(qcW _ _ 0 (5, 0) _ rfl X.hp).trans rfl, (qcW _ _ 1 (5, 1) _ rfl X.ha).trans (by rw [qbt]; rfl), qau (5, 2) rfl X.hka (qaK _ _), (qcW _ _ 3 (5, 3) _ rfl X.hb).trans (by rw [qbt]; rfl), qau (5, 4) rfl X.hkb (qaK _ _), by decide⟩, ?_⟩
      rw[chg_0]
      exact qau (51,0) rfl gd (qaK _ _)
    · rintro st ⟨H, rfl, X, h1⟩
      apply qbs
      simp (disch:=first|omega|decide|simp only[qaf,qad,qag,qae,qah,qac,qaa,qab,qai]) only[qa0,qat,qao,qan,qal,qak,qaM,qar,qay,qaq,qaH,qaG,qaj,qaF,qaD,qas,zM,zN,zO,zP,zK,zJ,Nat.reduceAdd,zA,zB,zL,zB,zA,qaW,Nat.reduceAdd,zi,zL,qcm,qbA,qb9,L8b1,zi]
      rfl
    · rintro st ⟨H, rfl, X, h1⟩ rfl
      clear hL gd
      obtain ⟨t0,ht0⟩:∃ t0,t0=tw0 9 lb u:=⟨_,rfl⟩
      obtain ⟨e,he⟩:∃ e,e=chg d kk x d.length:=⟨_,rfl⟩
      have hel:e.length=d.length:=by rw[he,chg_length]
      rw[←he] at h1
      obtain ⟨U,hU⟩:∃ U,U=qb3 (En false la 9) t0 d false:=⟨_,rfl⟩
      have hUl:U.length=d.length:=by rw[hU,unitP_length _ _ _ _ h16]
      obtain ⟨V,hV⟩:∃ V,V=qb3 (En false la 9) t0 e false:=⟨_,rfl⟩
      have hVl:V.length=d.length:=by rw[hV,unitP_length _ _ _ _ (by omega),hel]
      have hblk:∀ i,i < w→(blk U i=blk V i↔(i=kk∨x=0#8)):=by
        intro i hi
        have:=wtl_eq (inv_En la 9) (tws t0 i) (blk d i) (blk e i) (blk_length d i (by omega)) (blk_length e i (by omega))
        rw[hU,hV,unit_blk _ _ _ _ (by omega) i (by omega),unit_blk _ _ _ _ (by omega) i (by omega),this,eq_comm,he]
        exact chg_blk d kk x i (by omega)
      have hc:=fun b=>c23I (k+65016) 9 b (by decide) H _ _ _ _ _ la lb X hla hlb u d h16 hd2
      have hm:=X.same
      rw[←ht0,←hU] at hc
      simp (disch:=first|omega|decide|simp only[qaf,qad,qag,qae,qah,qac,qaa,qab,qai]) only[qa0,qat,qao,qan,qal,qak,qar,qay,qaJ,qaq,qaH,qaG,qa7,qa1,qaj,qaF,qa8,qaD,qas,zM,zN,zO,zP,zG,zC,zK,zJ,Nat.reduceAdd,zD,zA,zB,zL,zB,zA,qaW,Nat.reduceAdd,zi,zL,qcm,qbA,qb9,qaI,qaZ,qaA,List.getElem?_cons_zero,List.getElem?_cons_succ,qcJ,qcp,List.getElem?_cons_zero,List.getElem?_cons_succ,qam,qam,L8b1,zi,hc,hm]
      generalize hG2:upd H (9,0) _=G2
      have X2:XG G2 (1,0) (1,1) (1,2) (1,3) (1,4) 9 la lb:=by rw[←hG2]; exact X.up _ _ (by decide)
      have a2:G2 (9,0)=some (bs U):=by rw[←hG2]; rfl
      have e2:G2 (1,5)=some (bs e):=by rw[←hG2]; exact h1
      clear hG2 hc hm X h1
      have hc:=fun b=>c23S (k+65016) 9 b (by decide) G2 _ _ _ _ _ (1,5) la lb X2 hla hlb u e e 0 none e2 (by decide) (by rw[zw,List.take_of_length_le (Nat.le_refl _)]) (by omega) (by omega)
      rw[hel,←ht0,←hV] at hc
      have hm:=X2.same6 e2
      simp (disch:=first|omega|decide|simp only[qaf,qad,qag,qae,qah,qac,qaa,qab,qai]) only[qat,qao,qan,qal,qak,qbm,qcv,qar,qay,qaJ,qaq,qcd,qaH,qcx,qaG,qaj,zM,zN,zO,zP,zK,zJ,Nat.reduceAdd,zA,zB,zT,zk,zB,zA,qbz,N_mul,N_neq,qbJ,decide_not,Nat.reduceAdd,zT,ze,qcm,qbA,qb9,qcT,qcg,op_slcS,slcV_none,qcn,qaI,qaZ,qaA,zk,List.getElem?_cons_zero,List.getElem?_cons_succ,qcJ,qcp,List.getElem?_cons_zero,List.getElem?_cons_succ,evOpers_ord_g,guardO_true',qbo,touch_b2s,ze,zj,qbg,qbG,qbS,isCall_b2s,zj,qam,qam,hc,hm]
      generalize hG3:upd G2 (18,0) _=G3
      have a3:G3 (9,0)=some (bs U):=by rw[←hG3]; exact a2
      have b3:G3 (18,0)=some (bs V):=by rw[←hG3]; rfl
      clear hG3 hc hm X2 e2 a2
      have i1:16*kk≤16*kk+16:=by omega
      have i2:16*kk+16≤d.length:=by omega
      have i3:16*kk+16 - 16*kk=16:=by omega
      have fa:qcG (16*kk) 1 16 (some (bs U))=some (bs (blk U kk)):=by rw[qcG,if_pos (by rw[qad]; omega),bs_drop,qcF]; rfl
      have fb:qcG (16*kk) 1 16 (some (bs V))=some (bs (blk V kk)):=by rw[qcG,if_pos (by rw[qad]; omega),bs_drop,qcF]; rfl
      have hq:(decide (blk U kk=blk V kk))=true:=decide_eq_true ((hblk kk hkk).2 (.inl rfl))
      simp (disch:=first|omega|decide|simp only[qaf,qad,qag,qae,qah,qac,qaa,qab,qai]) only[qbh,qat,qaX,qao,qan,qal,qak,qbm,qcv,qar,qay,qaJ,qaq,qcd,qaH,qcx,qaG,qaj,qaD,qas,zM,zN,zO,zP,zC,zK,zJ,qbH,Nat.reduceAdd,Nat.reduceSub,za,zd,zU,Nat.reduceLT,zD,zA,zB,zT,zk,zB,zA,qbz,N_mul,qbJ,Nat.reduceLT,Nat.reduceAdd,zT,zg,ze,qb9,qch,qcg,op_slcS,slcV_none,qcn,qaI,qaA,zk,evOpers_ord_g,guardO_true',qbo,qbE,touch_b2s,zY,zW,zx,z6,z0,qbQ,qba,za,zd,Nat.testBit,Nat.reduceShiftRight,Nat.reduceAnd,Nat.reduceBEq,ze,zg,zy,zU,zj,Nat.reduceSub,Nat.reduceLT,bne,qbg,qbG,qbp,isCall_b2s,zj,zU,qcL,qaU,qam,qam,qaU,a3,b3,i3,fa,fb,op_b2s,b2sV_sl,b2sK_bs,txt_neq,hq,qaQ]
      generalize hL:qbW L8k0 _ _ _=r
      refine qby hL (p0J d.length x w kk U V) w (by omega) (fun i st hi hJ=>p0_round _ d.length hd2 x w kk hw hkk U V hUl hVl ?_ i hi st hJ) ?_ ?_ ?_
      · intro i hi hne
        rw[Bool.eq_iff_iff,decide_eq_true_iff,hblk i hi,zm]
        exact ⟨fun h=>h.resolve_left hne,.inr⟩
      · exact qaT [(9,0),(18,0)] rfl (by simp only[qav,FUEL,qaz,qax,qaB,qaQ,qbU,qcM,qaO,zV,zX,zI,zR,zQ,zz,zC,zW,zY,zF,zm,zn,zf,Nat.reduceEqDiff,zS,zl,zD,zE,zq,zp,zo,ne_eq,zt,qaN,qaL,qaC,qbb,L8k0,qaQ,qbU,a3,b3,qaP] <;> rfl) (by simp only[zC,zG,qaN,qaL,qaC,L8k0,zG,zC] <;> rfl) ⟨_,_,_,_,_,_,_,_,_,_,_,_,_,_,_,_,_,_,_,_,_,rfl,qau (9,0) rfl a3 (qaK _ _),qau (18,0) rfl b3 (qaK _ _)⟩
      · rintro st ⟨H, g0, g1, g2, g3, g4, g5, g6, g7, g8, g9, g10, g11, g12, g13, g14, g15, g16, g17, g18, g19, rfl, h0, h1⟩
        apply qbs
        simp (disch:=first|omega|decide|simp only[qaf,qad,qag,qae,qah,qac,qaa,qab,qai]) only[qa0,qat,qao,qan,qal,qak,qaM,qar,qay,qaq,qaH,qaG,qaj,qaF,qaD,qas,zM,zN,zO,zP,zK,zJ,Nat.reduceAdd,zA,zB,zL,zB,zA,qaW,Nat.reduceAdd,zi,zL,L8b0,zi]
        rfl
      · rintro st ⟨H, g0, g1, g2, g3, g4, g5, g6, g7, g8, g9, g10, g11, g12, g13, g14, g15, g16, g17, g18, g19, rfl, h0, h1⟩ rfl
        simp (disch:=first|omega|decide|simp only[qaf,qad,qag,qae,qah,qac,qaa,qab,qai]) only[qbI,qa0,qat,qao,qan,qal,qak,qaM,qar,qay,qaJ,qaq,qaH,qaG,qaj,qaF,qa8,qaD,qas,qbr,qcI,zM,zN,zO,zP,zK,zJ,outOf_Bo,zH,Nat.reduceAdd,zD,zA,zB,zL,zB,zA,qaW,Nat.reduceAdd,zi,zL,zH,L8b0,zi]
  · have hr' : ∀ e, binV .rem e (I a) (N w) = some (N kk) := fun e => by rw [hr, hk]; rfl
    simp (disch:=first|omega|decide|simp only[qaf,qad,qag,qae,qah,qac,qaa,qab,qai]) only[qbh,qat,qaX,qao,qan,qal,qak,qbm,qcv,qar,qay,qaJ,qaq,qcd,qaH,qcx,qaG,op_un,qa7,qa1,qaj,qaD,qas,zM,zN,zO,zP,zC,zK,zJ,Bo_not,qbH,Nat.reduceAdd,qb6,zA,zB,zT,zL,zB,zA,N_quo,N_rem,N_neq,qaW,N_gtr,decide_not,Nat.reduceMul,Nat.reduceAdd,zL,zT,ze,eqp_ptr,qcm,qbA,qcT,lenOf_isl,qcA,qcB,qcC,qdd,qcX,qaI,qaZ,qaA,List.getElem?_cons_zero,List.getElem?_cons_succ,qcJ,qcp,List.getElem?_cons_zero,List.getElem?_cons_succ,ze,qam,qam,c_xlives (k+65009),eqp_ptr,hle,hle2,hle3,hle4,hr',hfd,had,Nat.not_lt_zero]
    generalize hG:upd _ (47,0) _=G
    have X:XG G (5,0) (5,1) (5,2) (5,3) (5,4) 9 la lb:=by rw[←hG,hla',hlb']; exact ⟨rfl,rfl,rfl,rfl,rfl,by decide⟩
    have gd:G (47,0)=some (bs d):=by rw[←hG]; rfl
    clear hG hla' hlb'
    generalize hL:qbW L8k1 _ _ _=r
    refine qby hL (p1J la lb u d x w kk) d.length (by omega) (fun i st hi hJ=>p1_round _ la lb u d hd2 x w kk i (by omega) hi st hJ) ?_ ?_ ?_
    · refine qaT [(5, 0), (5, 1), (5, 2), (5, 3), (5, 4), (47, 0)] rfl (by simp only [qav, FUEL, qaE, qaQ, qbU, qbR, qcM, qaO, zV, zX, zI, zR, zQ, zz, zC, qaN, qaL, qaC, qbb, L8k1, qaQ, qaE, qbw, qbR, qbU]; rw [X.reach6 (by decide) gd]; rfl) (by simp only [zC, zG, qaN, qaL, qaC, L8k1, zG, zC, qbO]; rfl) ⟨_, rfl, ⟨(qcW _ _ 0 (5, 0) _ rfl X.hp).trans rfl, (qcW _ _ 1 (5, 1) _ rfl X.ha).trans (by rw [qbt]; rfl), qau (5, 2) rfl X.hka (qaK _ _), (qcW _ _ 3 (5, 3) _ rfl X.hb).trans (by rw [qbt]; rfl), qau (5, 4) rfl X.hkb (qaK _ _), by decide⟩, ?_⟩
      rw[chg_0]
      exact qau (47,0) rfl gd (qaK _ _)
    · rintro st ⟨H, rfl, X, h1⟩
      apply qbs
      simp (disch:=first|omega|decide|simp only[qaf,qad,qag,qae,qah,qac,qaa,qab,qai]) only[qa0,qat,qao,qan,qal,qak,qaM,qar,qay,qaq,qaH,qaG,qaj,qaF,qaD,qas,zM,zN,zO,zP,zK,zJ,Nat.reduceAdd,zA,zB,zL,zB,zA,qaW,Nat.reduceAdd,zi,zL,qcm,qbA,qb9,L8b1,zi]
      rfl
    · rintro st ⟨H, rfl, X, h1⟩ rfl
      clear hL gd
      obtain ⟨t0,ht0⟩:∃ t0,t0=tw0 9 lb u:=⟨_,rfl⟩
      obtain ⟨e,he⟩:∃ e,e=chg d kk x d.length:=⟨_,rfl⟩
      have hel:e.length=d.length:=by rw[he,chg_length]
      rw[←he] at h1
      obtain ⟨U,hU⟩:∃ U,U=qb3 (En false la 9) t0 d false:=⟨_,rfl⟩
      have hUl:U.length=d.length:=by rw[hU,unitP_length _ _ _ _ h16]
      obtain ⟨V,hV⟩:∃ V,V=qb3 (En false la 9) t0 e false:=⟨_,rfl⟩
      have hVl:V.length=d.length:=by rw[hV,unitP_length _ _ _ _ (by omega),hel]
      have hblk:∀ i,i < w→(blk U i=blk V i↔(i=kk∨x=0#8)):=by
        intro i hi
        have:=wtl_eq (inv_En la 9) (tws t0 i) (blk d i) (blk e i) (blk_length d i (by omega)) (blk_length e i (by omega))
        rw[hU,hV,unit_blk _ _ _ _ (by omega) i (by omega),unit_blk _ _ _ _ (by omega) i (by omega),this,eq_comm,he]
        exact chg_blk d kk x i (by omega)
      have hc:=fun b=>c23I (k+65016) 9 b (by decide) H _ _ _ _ _ la lb X hla hlb u d h16 hd2
      have hm:=X.same
      rw[←ht0,←hU] at hc
      simp (disch:=first|omega|decide|simp only[qaf,qad,qag,qae,qah,qac,qaa,qab,qai]) only[qa0,qat,qao,qan,qal,qak,qar,qay,qaJ,qaq,qaH,qaG,qa7,qa1,qaj,qaF,qa8,qaD,qas,zM,zN,zO,zP,zG,zC,zK,zJ,Nat.reduceAdd,zD,zA,zB,zL,zB,zA,qaW,Nat.reduceAdd,zi,zL,qcm,qbA,qb9,qaI,qaZ,qaA,List.getElem?_cons_zero,List.getElem?_cons_succ,qcJ,qcp,List.getElem?_cons_zero,List.getElem?_cons_succ,qam,qam,L8b1,zi,hc,hm]
      generalize hG2:upd H (9,0) _=G2
      have X2:XG G2 (1,0) (1,1) (1,2) (1,3) (1,4) 9 la lb:=by rw[←hG2]; exact X.up _ _ (by decide)
      have a2:G2 (9,0)=some (bs U):=by rw[←hG2]; rfl
      have e2:G2 (1,5)=some (bs e):=by rw[←hG2]; exact h1
      clear hG2 hc hm X h1
      have hc:=fun b=>c23S (k+65016) 9 b (by decide) G2 _ _ _ _ _ (1,5) la lb X2 hla hlb u e e 0 none e2 (by decide) (by rw[zw,List.take_of_length_le (Nat.le_refl _)]) (by omega) (by omega)
      rw[hel,←ht0,←hV] at hc
      have hm:=X2.same6 e2
      simp (disch:=first|omega|decide|simp only[qaf,qad,qag,qae,qah,qac,qaa,qab,qai]) only[qat,qao,qan,qal,qak,qbm,qcv,qar,qay,qaJ,qaq,qcd,qaH,qcx,qaG,qaj,zM,zN,zO,zP,zK,zJ,Nat.reduceAdd,zA,zB,zT,zk,zB,zA,qbz,N_mul,N_neq,qbJ,decide_not,Nat.reduceAdd,zT,ze,qcm,qbA,qb9,qcT,qcg,op_slcS,slcV_none,qcn,qaI,qaZ,qaA,zk,List.getElem?_cons_zero,List.getElem?_cons_succ,qcJ,qcp,List.getElem?_cons_zero,List.getElem?_cons_succ,evOpers_ord_g,guardO_true',qbo,touch_b2s,ze,zj,qbg,qbG,qbS,isCall_b2s,zj,qam,qam,hc,hm]
      generalize hG3:upd G2 (18,0) _=G3
      have a3:G3 (9,0)=some (bs U):=by rw[←hG3]; exact a2
      have b3:G3 (18,0)=some (bs V):=by rw[←hG3]; rfl
      clear hG3 hc hm X2 e2 a2
      have i1:16*kk≤16*kk+16:=by omega
      have i2:16*kk+16≤d.length:=by omega
      have i3:16*kk+16 - 16*kk=16:=by omega
      have fa:qcG (16*kk) 1 16 (some (bs U))=some (bs (blk U kk)):=by rw[qcG,if_pos (by rw[qad]; omega),bs_drop,qcF]; rfl
      have fb:qcG (16*kk) 1 16 (some (bs V))=some (bs (blk V kk)):=by rw[qcG,if_pos (by rw[qad]; omega),bs_drop,qcF]; rfl
      have hq:(decide (blk U kk=blk V kk))=true:=decide_eq_true ((hblk kk hkk).2 (.inl rfl))
      simp (disch:=first|omega|decide|simp only[qaf,qad,qag,qae,qah,qac,qaa,qab,qai]) only[qbh,qat,qaX,qao,qan,qal,qak,qbm,qcv,qar,qay,qaJ,qaq,qcd,qaH,qcx,qaG,qaj,qaD,qas,zM,zN,zO,zP,zC,zK,zJ,qbH,Nat.reduceAdd,Nat.reduceSub,za,zd,zU,Nat.reduceLT,zD,zA,zB,zT,zk,zB,zA,qbz,N_mul,qbJ,Nat.reduceLT,Nat.reduceAdd,zT,zg,ze,qb9,qch,qcg,op_slcS,slcV_none,qcn,qaI,qaA,zk,evOpers_ord_g,guardO_true',qbo,qbE,touch_b2s,zY,zW,zx,z6,z0,qbQ,qba,za,zd,Nat.testBit,Nat.reduceShiftRight,Nat.reduceAnd,Nat.reduceBEq,ze,zg,zy,zU,zj,Nat.reduceSub,Nat.reduceLT,bne,qbg,qbG,qbp,isCall_b2s,zj,zU,qcL,qaU,qam,qam,qaU,a3,b3,i3,fa,fb,op_b2s,b2sV_sl,b2sK_bs,txt_neq,hq,qaQ]
      generalize hL:qbW L8k0 _ _ _=r
      refine qby hL (p0J d.length x w kk U V) w (by omega) (fun i st hi hJ=>p0_round _ d.length hd2 x w kk hw hkk U V hUl hVl ?_ i hi st hJ) ?_ ?_ ?_
      · intro i hi hne
        rw[Bool.eq_iff_iff,decide_eq_true_iff,hblk i hi,zm]
        exact ⟨fun h=>h.resolve_left hne,.inr⟩
      · exact qaT [(9,0),(18,0)] rfl (by simp only[qav,FUEL,qaz,qax,qaB,qaQ,qbU,qcM,qaO,zV,zX,zI,zR,zQ,zz,zC,zW,zY,zF,zm,zn,zf,Nat.reduceEqDiff,zS,zl,zD,zE,zq,zp,zo,ne_eq,zt,qaN,qaL,qaC,qbb,L8k0,qaQ,qbU,a3,b3,qaP] <;> rfl) (by simp only[zC,zG,qaN,qaL,qaC,L8k0,zG,zC] <;> rfl) ⟨_,_,_,_,_,_,_,_,_,_,_,_,_,_,_,_,_,_,_,_,_,rfl,qau (9,0) rfl a3 (qaK _ _),qau (18,0) rfl b3 (qaK _ _)⟩
      · rintro st ⟨H, g0, g1, g2, g3, g4, g5, g6, g7, g8, g9, g10, g11, g12, g13, g14, g15, g16, g17, g18, g19, rfl, h0, h1⟩
        apply qbs
        simp (disch:=first|omega|decide|simp only[qaf,qad,qag,qae,qah,qac,qaa,qab,qai]) only[qa0,qat,qao,qan,qal,qak,qaM,qar,qay,qaq,qaH,qaG,qaj,qaF,qaD,qas,zM,zN,zO,zP,zK,zJ,Nat.reduceAdd,zA,zB,zL,zB,zA,qaW,Nat.reduceAdd,zi,zL,L8b0,zi]
        rfl
      · rintro st ⟨H, g0, g1, g2, g3, g4, g5, g6, g7, g8, g9, g10, g11, g12, g13, g14, g15, g16, g17, g18, g19, rfl, h0, h1⟩ rfl
        simp (disch:=first|omega|decide|simp only[qaf,qad,qag,qae,qah,qac,qaa,qab,qai]) only[qbI,qa0,qat,qao,qan,qal,qak,qaM,qar,qay,qaJ,qaq,qaH,qaG,qaj,qaF,qa8,qaD,qas,qbr,qcI,zM,zN,zO,zP,zK,zJ,outOf_Bo,zH,Nat.reduceAdd,zD,zA,zB,zL,zB,zA,qaW,Nat.reduceAdd,zi,zL,zH,L8b0,zi]
theorem xplaces_B (k:Nat) (key:R) (u:BitVec 64) (d:List (BitVec 8)) (a:Int) (x:BitVec 8) (h:d.length < 16∨65536 < d.length∨d.length % 16≠0) (hd2:d.length < 9223372036854775808):F C (k+70020) 8 [.agg (aB 32 key),B64 u,.isl (bs d) d.length,I a,B8 x] []=some (Bo true,[],[]):=by
  rw[qbT f8]
  simp (disch:=first|omega|decide|simp only[qaf,qad,qag,qae,qah,qac,qaa,qab,qai]) only[qbk,qat,qao,qan,qal,qak,qar,qay,qaJ,qaq,qaH,qa7,qa1,qaj,zM,zN,zO,zP,zG,zC,zI,zR,qbd,z7,zK,zJ,Nat.reduceAdd,Nat.reduceSub,qa5,op_box,qcH,zA,zB,zk,zB,zA,Nat.reduceAdd,qdi,op_slcAV,slcAV_ptr,qaI,qaZ,qaA,Nat.sub_zero,zk,Nat.reduceSub,qam,qam,L8]
  rw[c_xnew (k+69618) 4 _ (.inl rfl) _ _ ((List.range 32).map key) (by rw[zzK,List.length_range]) [(2,0)] (snap_aB rfl 32 _ (by decide) (by decide))]
  by_cases h1:d.length < 16
  · simp (disch:=first|omega|decide|simp only[qaf,qad,qag,qae,qah,qac,qaa,qab,qai]) only[qbh,qbI,qat,qao,qan,qal,qak,qbm,qcv,guardK_false',qar,qay,qaJ,qaq,qdv,qcd,qaH,qcx,qaG,op_un,qa7,qa1,qaj,qdx,qaD,qa3,qas,qbr,qcI,zM,zN,zO,zP,zC,zK,zJ,Bo_not,outOf_Bo,zH,Nat.reduceAdd,zA,zB,zT,zB,zA,N_neq,qaW,decide_not,Nat.reduceMul,Nat.reduceAdd,zT,ze,eqp_ptr,qcm,qbA,qcT,qaI,qaZ,qaA,zH,List.getElem?_cons_zero,List.getElem?_cons_succ,qcJ,qcp,List.getElem?_cons_zero,List.getElem?_cons_succ,ze,qam,qam,c_xlives (k+65009),eqp_ptr,h1]
  by_cases h2:65536 < d.length
  · simp (disch:=first|omega|decide|simp only[qaf,qad,qag,qae,qah,qac,qaa,qab,qai]) only[qbh,qbI,qat,qao,qan,qal,qak,qbm,qcv,guardK_false',qar,qay,qaJ,qaq,qdv,qcd,qaH,qcx,qaG,op_un,qa7,qa1,qaj,qdx,qaD,qa3,qas,qbr,qcI,zM,zN,zO,zP,zC,zK,zJ,Bo_not,outOf_Bo,zH,Nat.reduceAdd,zA,zB,zT,zL,zB,zA,N_neq,qaW,N_gtr,decide_not,Nat.reduceMul,Nat.reduceAdd,zL,zT,ze,eqp_ptr,qcm,qbA,qcT,qaI,qaZ,qaA,zH,List.getElem?_cons_zero,List.getElem?_cons_succ,qcJ,qcp,List.getElem?_cons_zero,List.getElem?_cons_succ,ze,qam,qam,c_xlives (k+65009),eqp_ptr,h1,h2]
  have h3:d.length % 16≠0:=by omega
  simp (disch:=first|omega|decide|simp only[qaf,qad,qag,qae,qah,qac,qaa,qab,qai]) only[qbh,qbI,qat,qao,qan,qal,qak,qbm,qcv,qar,qay,qaJ,qaq,qcd,qaH,qcx,qaG,op_un,qa7,qa1,qaj,qdx,qaD,qa3,qas,qbr,qcI,zM,zN,zO,zP,zC,zK,zJ,Bo_not,outOf_Bo,zH,Nat.reduceAdd,zA,zB,zT,zL,zB,zA,N_rem,N_neq,qaW,N_gtr,decide_not,Nat.reduceMul,Nat.reduceAdd,zL,zT,zg,ze,eqp_ptr,qcm,qbA,qcT,qaI,qaZ,qaA,zH,List.getElem?_cons_zero,List.getElem?_cons_succ,qcJ,qcp,List.getElem?_cons_zero,List.getElem?_cons_succ,ze,zg,qam,qam,c_xlives (k+65009),eqp_ptr,h1,h2,h3]
theorem xplaces_F (k:Nat) (key:R) (u:BitVec 64) (d:List (BitVec 8)) (a:Int) (x:BitVec 8) (hd2:d.length < 9223372036854775808):F C (k+70020) 8 [.agg (aB 32 key),B64 u,.isl (bs d) d.length,I a,B8 x] []=some (Bo true,[],[]):=by
  by_cases h:d.length < 16∨65536 < d.length∨d.length % 16≠0
  · exact xplaces_B k key u d a x h hd2
  · obtain ⟨w, hw⟩ : ∃ w, w = d.length / 16 := ⟨_, rfl⟩
    have hw0:0 < w:=by omega
    have b1:=Int.tmod_lt_of_pos a (show (0:Int) < w by omega)
    have b2 : -(w:Int) < a.tmod w:=by have:=Int.tmod_lt_of_pos (-a) (show (0:Int) < w by omega); rw[Int.neg_tmod] at this; omega
    by_cases hn:a.tmod w < 0
    · exact xplaces_G k key u d a x w (a.tmod w+w).toNat (by omega) (by omega) (by omega) (by omega) (.inl ⟨hn,by omega⟩)
    · exact xplaces_G k key u d a x w (a.tmod w).toNat (by omega) (by omega) (by omega) (by omega) (.inr (by omega))
end Aes
