/- xts: unit, evaluated. -/
import Derived.Test.YtgabgpgcplkebaaLeS
import Derived.Test.YtgabgpgcplkebaaLeR
set_option linter.unusedVariables false
set_option linter.unusedSimpArgs false
namespace Aes
open Go Go.LE Xf
set_option maxRecDepth 20000
theorem unit43I_F (k n:Nat) (hn:n≤20) (la lb:List (BitVec 8)) (hla:la.length=16*(n+2)) (hlb:lb.length=16*(n+2)) (u:BitVec 64) (d:List (BitVec 8)) (h16:16≤d.length) (hd2:d.length≤65536) :
    F C (k+5002) 42 [.ptr (0,0) 0,.isl (bs d) d.length,.fn (.func 43) [] [.ptr (0,5) 0,.ptr (0,6) 0,.ptr (0,7) 0]] [[.ptr (0,1) 0,.ptr (0,3) 0],CF (.sl (0,2) 0 (n+2) none 16) TB,bs la,CF (.sl (0,4) 0 (n+2) none 16) TB,bs lb,[.ptr (0,0) 0],[B64 u],[.isl (bs d) d.length]]=some (.tup [.sl (1,0) 0 d.length none 1,N 0],[some ([.ptr (0,1) 0,.ptr (0,3) 0]),some (CF (.sl (0,2) 0 (n+2) none 16) TB),some (bs la),some (CF (.sl (0,4) 0 (n+2) none 16) TB),some (bs lb),some ([.ptr (0,0) 0]),some ([B64 u]),some ([.isl (bs d) d.length])],[bs (qb3 (enc (kf la) n) (tw0 n lb u) d false)]):=by
  rw[qbT f42]
  generalize hG:qb4 [[.ptr (0,1) 0,.ptr (0,3) 0],CF (.sl (0,2) 0 (n+2) none 16) TB,bs la,CF (.sl (0,4) 0 (n+2) none 16) TB,bs lb,[.ptr (0,0) 0],[B64 u],[.isl (bs d) d.length]]=G
  have x00:G (0,0)=some ([.ptr (0,1) 0,.ptr (0,3) 0]):=by rw[←hG]; rfl
  have x01:G (0,1)=some (CF (.sl (0,2) 0 (n+2) none 16) TB):=by rw[←hG]; rfl
  have x02:G (0,2)=some (bs la):=by rw[←hG]; rfl
  have x03:G (0,3)=some (CF (.sl (0,4) 0 (n+2) none 16) TB):=by rw[←hG]; rfl
  have x04:G (0,4)=some (bs lb):=by rw[←hG]; rfl
  have x05:G (0,5)=some ([.ptr (0,0) 0]):=by rw[←hG]; rfl
  have x06:G (0,6)=some ([B64 u]):=by rw[←hG]; rfl
  have x07:G (0,7)=some ([.isl (bs d) d.length]):=by rw[←hG]; rfl
  have hr:qbL G FUEL [] [(0,5),(0,6),(0,7)]=[(0,5),(0,0),(0,1),(0,2),(0,3),(0,4),(0,6),(0,7)]:=(qaw rfl x05 rfl).trans ((qaw rfl x00 rfl).trans ((qaw rfl x01 (qbu _ _)).trans ((qaw rfl x02 (qaP _)).trans ((qaw rfl x03 (qbu _ _)).trans ((qaw rfl x04 (qaP _)).trans ((qaw rfl x06 rfl).trans ((qaw rfl x07 (dn _)).trans (qaB _ _ _))))))))
  have ho:(([(0,5),(0,0),(0,1),(0,2),(0,3),(0,4),(0,6),(0,7)]:List Nm).filterMap G).map (fun cs=>cs.map (ren D (qbx [(0,5),(0,0),(0,1),(0,2),(0,3),(0,4),(0,6),(0,7)])))=[[.ptr (0,1) 0],[.ptr (0,2) 0,.ptr (0,4) 0],CF (.sl (0,3) 0 (n+2) none 16) TB,bs la,CF (.sl (0,5) 0 (n+2) none 16) TB,bs lb,[B64 u],[.isl (bs d) d.length]]:=by
    rw[show ([(0,5),(0,0),(0,1),(0,2),(0,3),(0,4),(0,6),(0,7)]:List Nm).filterMap G=[[.ptr (0,0) 0],[.ptr (0,1) 0,.ptr (0,3) 0],CF (.sl (0,2) 0 (n+2) none 16) TB,bs la,CF (.sl (0,4) 0 (n+2) none 16) TB,bs lb,[B64 u],[.isl (bs d) d.length]] by simp only[List.filterMap_cons,zzB,x00,x01,x02,x03,x04,x05,x06,x07]]
    simp only[zG,zC,qbt,qaK,qbO]
    rfl
  have hc:∀ b,qbD (envC C (k+5001)) G b 43 [.ptr (0,5) 0,.ptr (0,6) 0,.ptr (0,7) 0]=some ⟨.sl (b,0) 0 d.length none 1,[bs (qb3 (enc (kf la) n) (tw0 n lb u) d false)],[((0,5),some ([.ptr (0,0) 0])),((0,0),some ([.ptr (0,1) 0,.ptr (0,3) 0])),((0,1),some (CF (.sl (0,2) 0 (n+2) none 16) TB)),((0,2),some (bs la)),((0,3),some (CF (.sl (0,4) 0 (n+2) none 16) TB)),((0,4),some (bs lb)),((0,6),some ([B64 u])),((0,7),some ([.isl (bs d) d.length]))]⟩:=by
    intro b
    rw[call_gen0 (k+5001) b 43 l43 G _ [.ptr (0,0) 0,.ptr (0,6) 0,.ptr (0,7) 0] [(0,5),(0,6),(0,7)] _ _ _ (by simp only[zV,zX,qaE,zI,zR,zQ]) hr (by simp only[zG,zC]; rfl) ho (clo43I_F k n hn la lb hla hlb u d h16 hd2),qdp]
    simp only[zG,zC,List.zipWith_cons_cons,List.zipWith_nil_left,zH,qbt,qaK,qbO]
    rfl
  have hm:modN [((0,5),some ([.ptr (0,0) 0])),((0,0),some ([.ptr (0,1) 0,.ptr (0,3) 0])),((0,1),some (CF (.sl (0,2) 0 (n+2) none 16) TB)),((0,2),some (bs la)),((0,3),some (CF (.sl (0,4) 0 (n+2) none 16) TB)),((0,4),some (bs lb)),((0,6),some ([B64 u])),((0,7),some ([.isl (bs d) d.length]))] G=G:=by
    simp only[qa6,qaA,qbf x07,qbf x06,qbf x04,qbf x03,qbf x02,qbf x01,qbf x00,qbf x05]
  have hle:¬ d.length < 16:=by omega
  have hle2:¬ 65536 < d.length:=by omega
  have hpo:cellK 0 1 (some [.ptr (0,1) 0,.ptr (0,3) 0])=some [.ptr (0,1) 0]:=rfl
  simp (disch:=first|omega|decide|simp only[qaf,qad,qag,qae,qah,qac,qaa,qab,qai]) only[qbk,qbh,qbI,qat,qaX,qao,qan,qal,qak,qbm,qcv,qar,qay,qaJ,qaq,qcd,qaH,qcx,qaG,qa7,qaj,qaY,qaD,qas,qbr,zM,zN,zO,zP,zC,zI,zR,qbd,z7,zK,zJ,zH,Nat.reduceAdd,Nat.reduceSub,qaR,qct,qbn,qbV,op_fa,qcy,zzE,zzA,zw,Nat.reduceLeDiff,zD,zA,zB,zL,qc4,zB,zA,qaW,N_gtr,Nat.reduceLeDiff,Nat.reduceAdd,zL,op_chk,qcq,eqp_ptr,qcm,qbA,qcT,qaI,qaZ,qaA,zH,Nat.reduceSub,qam,qam,L42,hG,x00,hle,hle2,eqp_ptr,callV_fn3,hc,hm]
  generalize hQ:upd G (24,0) (some (bs (qb3 (enc (kf la) n) (tw0 n lb u) d false)))=Q
  have y00:Q (0,0)=some ([.ptr (0,1) 0,.ptr (0,3) 0]):=by rw[←hQ]; exact x00
  have y01:Q (0,1)=some (CF (.sl (0,2) 0 (n+2) none 16) TB):=by rw[←hQ]; exact x01
  have y02:Q (0,2)=some (bs la):=by rw[←hQ]; exact x02
  have y03:Q (0,3)=some (CF (.sl (0,4) 0 (n+2) none 16) TB):=by rw[←hQ]; exact x03
  have y04:Q (0,4)=some (bs lb):=by rw[←hQ]; exact x04
  have y05:Q (0,5)=some ([.ptr (0,0) 0]):=by rw[←hQ]; exact x05
  have y06:Q (0,6)=some ([B64 u]):=by rw[←hQ]; exact x06
  have y07:Q (0,7)=some ([.isl (bs d) d.length]):=by rw[←hQ]; exact x07
  have yn:Q (24,0)=some (bs (qb3 (enc (kf la) n) (tw0 n lb u) d false)):=by rw[←hQ]; rfl
  have hch:qbL Q FUEL [] [(0,0),(0,1),(0,2),(0,3),(0,4),(0,5),(0,6),(0,7),(24,0)]=[(0,0),(0,1),(0,2),(0,3),(0,4),(0,5),(0,6),(0,7),(24,0)]:=(qaw rfl y00 rfl).trans ((qaw rfl y01 (qbu _ _)).trans ((qaw rfl y02 (qaP _)).trans ((qaw rfl y03 (qbu _ _)).trans ((qaw rfl y04 (qaP _)).trans ((qbi rfl).trans ((qbi rfl).trans ((qbi rfl).trans ((qbi rfl).trans ((qaw rfl y05 rfl).trans ((qbi rfl).trans ((qaw rfl y06 rfl).trans ((qaw rfl y07 (dn _)).trans ((qaw rfl yn (qaP _)).trans (qaB _ _ _))))))))))))))
  have hcn:qav Q 8 [.tup [.sl (24,0) 0 d.length none 1,N 0]]=[(24,0)]:=canon_of rfl hch rfl
  refine out_fin hcn ?_
  simp (disch:=first|omega|decide|simp only[qaf,qad,qag,qae,qah,qac,qaa,qab,qai]) only[qcu,zG,zC,zH,zF,zS,qcK,zzB,zH,qaK,qbO,List.filterMap_cons,qb2,qbq,qcE,qbK,range_8,qbt,qaK,qbO,qbq,qb2,qcu,qb8,y00,y01,y02,y03,y04,y05,y06,y07,yn]
  rfl
theorem unit43S_F (k n:Nat) (hn:n≤20) (la lb:List (BitVec 8)) (hla:la.length=16*(n+2)) (hlb:lb.length=16*(n+2)) (u:BitVec 64) (d:List (BitVec 8)) (L:List (BitVec 8)) (off:Nat) (c:Option Nat) (hL:(L.drop off).take d.length=d) (h16:16≤d.length) (hd2:d.length≤65536) :
    F C (k+5002) 42 [.ptr (0,0) 0,.sl (0,5) off d.length c 1,.fn (.func 43) [] [.ptr (0,6) 0,.ptr (0,7) 0,.ptr (0,8) 0]] [[.ptr (0,1) 0,.ptr (0,3) 0],CF (.sl (0,2) 0 (n+2) none 16) TB,bs la,CF (.sl (0,4) 0 (n+2) none 16) TB,bs lb,bs L,[.ptr (0,0) 0],[B64 u],[.sl (0,5) off d.length c 1]]=some (.tup [.sl (1,0) 0 d.length none 1,N 0],[some ([.ptr (0,1) 0,.ptr (0,3) 0]),some (CF (.sl (0,2) 0 (n+2) none 16) TB),some (bs la),some (CF (.sl (0,4) 0 (n+2) none 16) TB),some (bs lb),some (bs L),some ([.ptr (0,0) 0]),some ([B64 u]),some ([.sl (0,5) off d.length c 1])],[bs (qb3 (enc (kf la) n) (tw0 n lb u) d false)]):=by
  rw[qbT f42]
  generalize hG:qb4 [[.ptr (0,1) 0,.ptr (0,3) 0],CF (.sl (0,2) 0 (n+2) none 16) TB,bs la,CF (.sl (0,4) 0 (n+2) none 16) TB,bs lb,bs L,[.ptr (0,0) 0],[B64 u],[.sl (0,5) off d.length c 1]]=G
  have x00:G (0,0)=some ([.ptr (0,1) 0,.ptr (0,3) 0]):=by rw[←hG]; rfl
  have x01:G (0,1)=some (CF (.sl (0,2) 0 (n+2) none 16) TB):=by rw[←hG]; rfl
  have x02:G (0,2)=some (bs la):=by rw[←hG]; rfl
  have x03:G (0,3)=some (CF (.sl (0,4) 0 (n+2) none 16) TB):=by rw[←hG]; rfl
  have x04:G (0,4)=some (bs lb):=by rw[←hG]; rfl
  have x05:G (0,5)=some (bs L):=by rw[←hG]; rfl
  have x06:G (0,6)=some ([.ptr (0,0) 0]):=by rw[←hG]; rfl
  have x07:G (0,7)=some ([B64 u]):=by rw[←hG]; rfl
  have x08:G (0,8)=some ([.sl (0,5) off d.length c 1]):=by rw[←hG]; rfl
  have hr:qbL G FUEL [] [(0,6),(0,7),(0,8)]=[(0,6),(0,0),(0,1),(0,2),(0,3),(0,4),(0,7),(0,8),(0,5)]:=(qaw rfl x06 rfl).trans ((qaw rfl x00 rfl).trans ((qaw rfl x01 (qbu _ _)).trans ((qaw rfl x02 (qaP _)).trans ((qaw rfl x03 (qbu _ _)).trans ((qaw rfl x04 (qaP _)).trans ((qaw rfl x07 rfl).trans ((qaw rfl x08 rfl).trans ((qaw rfl x05 (qaP _)).trans (qaB _ _ _)))))))))
  have ho:(([(0,6),(0,0),(0,1),(0,2),(0,3),(0,4),(0,7),(0,8),(0,5)]:List Nm).filterMap G).map (fun cs=>cs.map (ren D (qbx [(0,6),(0,0),(0,1),(0,2),(0,3),(0,4),(0,7),(0,8),(0,5)])))=[[.ptr (0,1) 0],[.ptr (0,2) 0,.ptr (0,4) 0],CF (.sl (0,3) 0 (n+2) none 16) TB,bs la,CF (.sl (0,5) 0 (n+2) none 16) TB,bs lb,[B64 u],[.sl (0,8) off d.length c 1],bs L]:=by
    rw[show ([(0,6),(0,0),(0,1),(0,2),(0,3),(0,4),(0,7),(0,8),(0,5)]:List Nm).filterMap G=[[.ptr (0,0) 0],[.ptr (0,1) 0,.ptr (0,3) 0],CF (.sl (0,2) 0 (n+2) none 16) TB,bs la,CF (.sl (0,4) 0 (n+2) none 16) TB,bs lb,[B64 u],[.sl (0,5) off d.length c 1],bs L] by simp only[List.filterMap_cons,zzB,x00,x01,x02,x03,x04,x05,x06,x07,x08]]
    simp only[zG,zC,qbt,qaK]
    rfl
  have hc:∀ b,qbD (envC C (k+5001)) G b 43 [.ptr (0,6) 0,.ptr (0,7) 0,.ptr (0,8) 0]=some ⟨.sl (b,0) 0 d.length none 1,[bs (qb3 (enc (kf la) n) (tw0 n lb u) d false)],[((0,6),some ([.ptr (0,0) 0])),((0,0),some ([.ptr (0,1) 0,.ptr (0,3) 0])),((0,1),some (CF (.sl (0,2) 0 (n+2) none 16) TB)),((0,2),some (bs la)),((0,3),some (CF (.sl (0,4) 0 (n+2) none 16) TB)),((0,4),some (bs lb)),((0,7),some ([B64 u])),((0,8),some ([.sl (0,5) off d.length c 1])),((0,5),some (bs L))]⟩:=by
    intro b
    rw[call_gen0 (k+5001) b 43 l43 G _ [.ptr (0,0) 0,.ptr (0,6) 0,.ptr (0,7) 0] [(0,6),(0,7),(0,8)] _ _ _ (by simp only[zV,zX,qaE,zI,zR,zQ]) hr (by simp only[zG,zC]; rfl) ho (clo43S_F k n hn la lb hla hlb u d L off c hL h16 hd2),qdp]
    simp only[zG,zC,List.zipWith_cons_cons,List.zipWith_nil_left,zH,qbt,qaK]
    rfl
  have hm:modN [((0,6),some ([.ptr (0,0) 0])),((0,0),some ([.ptr (0,1) 0,.ptr (0,3) 0])),((0,1),some (CF (.sl (0,2) 0 (n+2) none 16) TB)),((0,2),some (bs la)),((0,3),some (CF (.sl (0,4) 0 (n+2) none 16) TB)),((0,4),some (bs lb)),((0,7),some ([B64 u])),((0,8),some ([.sl (0,5) off d.length c 1])),((0,5),some (bs L))] G=G:=by
    simp only[qa6,qaA,qbf x05,qbf x08,qbf x07,qbf x04,qbf x03,qbf x02,qbf x01,qbf x00,qbf x06]
  have hle:¬ d.length < 16:=by omega
  have hle2:¬ 65536 < d.length:=by omega
  have hpo:cellK 0 1 (some [.ptr (0,1) 0,.ptr (0,3) 0])=some [.ptr (0,1) 0]:=rfl
  simp (disch:=first|omega|decide|simp only[qaf,qad,qag,qae,qah,qac,qaa,qab,qai]) only[qbk,qbh,qbI,qat,qaX,qao,qan,qal,qak,qbm,qcv,qar,qay,qaJ,qaq,qcd,qaH,qcx,qaG,qa7,qaj,qaY,qaD,qas,qbr,zM,zN,zO,zP,zC,zI,zR,qbd,z7,zK,zJ,zH,Nat.reduceAdd,Nat.reduceSub,qaR,qct,qbn,qbV,op_fa,qcy,zzE,zzA,zw,Nat.reduceLeDiff,zD,zA,zB,zL,qc4,zB,zA,qaW,N_gtr,Nat.reduceLeDiff,Nat.reduceAdd,zL,op_chk,qcq,eqp_ptr,qcm,qbA,qb9,qaI,qaZ,qaA,zH,Nat.reduceSub,qam,qam,L42,hG,x00,hle,hle2,eqp_ptr,callV_fn3,hc,hm]
  generalize hQ:upd G (24,0) (some (bs (qb3 (enc (kf la) n) (tw0 n lb u) d false)))=Q
  have y00:Q (0,0)=some ([.ptr (0,1) 0,.ptr (0,3) 0]):=by rw[←hQ]; exact x00
  have y01:Q (0,1)=some (CF (.sl (0,2) 0 (n+2) none 16) TB):=by rw[←hQ]; exact x01
  have y02:Q (0,2)=some (bs la):=by rw[←hQ]; exact x02
  have y03:Q (0,3)=some (CF (.sl (0,4) 0 (n+2) none 16) TB):=by rw[←hQ]; exact x03
  have y04:Q (0,4)=some (bs lb):=by rw[←hQ]; exact x04
  have y05:Q (0,5)=some (bs L):=by rw[←hQ]; exact x05
  have y06:Q (0,6)=some ([.ptr (0,0) 0]):=by rw[←hQ]; exact x06
  have y07:Q (0,7)=some ([B64 u]):=by rw[←hQ]; exact x07
  have y08:Q (0,8)=some ([.sl (0,5) off d.length c 1]):=by rw[←hQ]; exact x08
  have yn:Q (24,0)=some (bs (qb3 (enc (kf la) n) (tw0 n lb u) d false)):=by rw[←hQ]; rfl
  have hch:qbL Q FUEL [] [(0,0),(0,1),(0,2),(0,3),(0,4),(0,5),(0,6),(0,7),(0,8),(24,0)]=[(0,0),(0,1),(0,2),(0,3),(0,4),(0,5),(0,6),(0,7),(0,8),(24,0)]:=(qaw rfl y00 rfl).trans ((qaw rfl y01 (qbu _ _)).trans ((qaw rfl y02 (qaP _)).trans ((qaw rfl y03 (qbu _ _)).trans ((qaw rfl y04 (qaP _)).trans ((qbi rfl).trans ((qbi rfl).trans ((qbi rfl).trans ((qbi rfl).trans ((qaw rfl y05 (qaP _)).trans ((qaw rfl y06 rfl).trans ((qbi rfl).trans ((qaw rfl y07 rfl).trans ((qaw rfl y08 rfl).trans ((qbi rfl).trans ((qaw rfl yn (qaP _)).trans (qaB _ _ _))))))))))))))))
  have hcn:qav Q 9 [.tup [.sl (24,0) 0 d.length none 1,N 0]]=[(24,0)]:=canon_of rfl hch rfl
  refine out_fin hcn ?_
  simp (disch:=first|omega|decide|simp only[qaf,qad,qag,qae,qah,qac,qaa,qab,qai]) only[qcu,zG,zC,zH,zF,zS,qcK,zzB,zH,qaK,List.filterMap_cons,qb2,qbq,qcE,qbK,range_9,qbt,qaK,qbq,qb2,qcu,qb8,y00,y01,y02,y03,y04,y05,y06,y07,y08,yn]
  rfl
theorem unit46S_F (k n:Nat) (hn:n≤20) (la lb:List (BitVec 8)) (hla:la.length=16*(n+2)) (hlb:lb.length=16*(n+2)) (u:BitVec 64) (d:List (BitVec 8)) (L:List (BitVec 8)) (off:Nat) (c:Option Nat) (hL:(L.drop off).take d.length=d) (h16:16≤d.length) (hd2:d.length≤65536) :
    F C (k+5002) 42 [.ptr (0,0) 0,.sl (0,5) off d.length c 1,.fn (.func 46) [] [.ptr (0,6) 0,.ptr (0,7) 0,.ptr (0,8) 0]] [[.ptr (0,1) 0,.ptr (0,3) 0],CF (.sl (0,2) 0 (n+2) none 16) TB,bs la,CF (.sl (0,4) 0 (n+2) none 16) TB,bs lb,bs L,[.ptr (0,0) 0],[B64 u],[.sl (0,5) off d.length c 1]]=some (.tup [.sl (1,0) 0 d.length none 1,N 0],[some ([.ptr (0,1) 0,.ptr (0,3) 0]),some (CF (.sl (0,2) 0 (n+2) none 16) TB),some (bs la),some (CF (.sl (0,4) 0 (n+2) none 16) TB),some (bs lb),some (bs L),some ([.ptr (0,0) 0]),some ([B64 u]),some ([.sl (0,5) off d.length c 1])],[bs (qb3 (dec (kf la) n) (tw0 n lb u) d true)]):=by
  rw[qbT f42]
  generalize hG:qb4 [[.ptr (0,1) 0,.ptr (0,3) 0],CF (.sl (0,2) 0 (n+2) none 16) TB,bs la,CF (.sl (0,4) 0 (n+2) none 16) TB,bs lb,bs L,[.ptr (0,0) 0],[B64 u],[.sl (0,5) off d.length c 1]]=G
  have x00:G (0,0)=some ([.ptr (0,1) 0,.ptr (0,3) 0]):=by rw[←hG]; rfl
  have x01:G (0,1)=some (CF (.sl (0,2) 0 (n+2) none 16) TB):=by rw[←hG]; rfl
  have x02:G (0,2)=some (bs la):=by rw[←hG]; rfl
  have x03:G (0,3)=some (CF (.sl (0,4) 0 (n+2) none 16) TB):=by rw[←hG]; rfl
  have x04:G (0,4)=some (bs lb):=by rw[←hG]; rfl
  have x05:G (0,5)=some (bs L):=by rw[←hG]; rfl
  have x06:G (0,6)=some ([.ptr (0,0) 0]):=by rw[←hG]; rfl
  have x07:G (0,7)=some ([B64 u]):=by rw[←hG]; rfl
  have x08:G (0,8)=some ([.sl (0,5) off d.length c 1]):=by rw[←hG]; rfl
  have hr:qbL G FUEL [] [(0,6),(0,7),(0,8)]=[(0,6),(0,0),(0,1),(0,2),(0,3),(0,4),(0,7),(0,8),(0,5)]:=(qaw rfl x06 rfl).trans ((qaw rfl x00 rfl).trans ((qaw rfl x01 (qbu _ _)).trans ((qaw rfl x02 (qaP _)).trans ((qaw rfl x03 (qbu _ _)).trans ((qaw rfl x04 (qaP _)).trans ((qaw rfl x07 rfl).trans ((qaw rfl x08 rfl).trans ((qaw rfl x05 (qaP _)).trans (qaB _ _ _)))))))))
  have ho:(([(0,6),(0,0),(0,1),(0,2),(0,3),(0,4),(0,7),(0,8),(0,5)]:List Nm).filterMap G).map (fun cs=>cs.map (ren D (qbx [(0,6),(0,0),(0,1),(0,2),(0,3),(0,4),(0,7),(0,8),(0,5)])))=[[.ptr (0,1) 0],[.ptr (0,2) 0,.ptr (0,4) 0],CF (.sl (0,3) 0 (n+2) none 16) TB,bs la,CF (.sl (0,5) 0 (n+2) none 16) TB,bs lb,[B64 u],[.sl (0,8) off d.length c 1],bs L]:=by
    rw[show ([(0,6),(0,0),(0,1),(0,2),(0,3),(0,4),(0,7),(0,8),(0,5)]:List Nm).filterMap G=[[.ptr (0,0) 0],[.ptr (0,1) 0,.ptr (0,3) 0],CF (.sl (0,2) 0 (n+2) none 16) TB,bs la,CF (.sl (0,4) 0 (n+2) none 16) TB,bs lb,[B64 u],[.sl (0,5) off d.length c 1],bs L] by simp only[List.filterMap_cons,zzB,x00,x01,x02,x03,x04,x05,x06,x07,x08]]
    simp only[zG,zC,qbt,qaK]
    rfl
  have hc:∀ b,qbD (envC C (k+5001)) G b 46 [.ptr (0,6) 0,.ptr (0,7) 0,.ptr (0,8) 0]=some ⟨.sl (b,0) 0 d.length none 1,[bs (qb3 (dec (kf la) n) (tw0 n lb u) d true)],[((0,6),some ([.ptr (0,0) 0])),((0,0),some ([.ptr (0,1) 0,.ptr (0,3) 0])),((0,1),some (CF (.sl (0,2) 0 (n+2) none 16) TB)),((0,2),some (bs la)),((0,3),some (CF (.sl (0,4) 0 (n+2) none 16) TB)),((0,4),some (bs lb)),((0,7),some ([B64 u])),((0,8),some ([.sl (0,5) off d.length c 1])),((0,5),some (bs L))]⟩:=by
    intro b
    rw[call_gen0 (k+5001) b 46 l46 G _ [.ptr (0,0) 0,.ptr (0,6) 0,.ptr (0,7) 0] [(0,6),(0,7),(0,8)] _ _ _ (by simp only[zV,zX,qaE,zI,zR,zQ]) hr (by simp only[zG,zC]; rfl) ho (clo46S_F k n hn la lb hla hlb u d L off c hL h16 hd2),qdp]
    simp only[zG,zC,List.zipWith_cons_cons,List.zipWith_nil_left,zH,qbt,qaK]
    rfl
  have hm:modN [((0,6),some ([.ptr (0,0) 0])),((0,0),some ([.ptr (0,1) 0,.ptr (0,3) 0])),((0,1),some (CF (.sl (0,2) 0 (n+2) none 16) TB)),((0,2),some (bs la)),((0,3),some (CF (.sl (0,4) 0 (n+2) none 16) TB)),((0,4),some (bs lb)),((0,7),some ([B64 u])),((0,8),some ([.sl (0,5) off d.length c 1])),((0,5),some (bs L))] G=G:=by
    simp only[qa6,qaA,qbf x05,qbf x08,qbf x07,qbf x04,qbf x03,qbf x02,qbf x01,qbf x00,qbf x06]
  have hle:¬ d.length < 16:=by omega
  have hle2:¬ 65536 < d.length:=by omega
  have hpo:cellK 0 1 (some [.ptr (0,1) 0,.ptr (0,3) 0])=some [.ptr (0,1) 0]:=rfl
  simp (disch:=first|omega|decide|simp only[qaf,qad,qag,qae,qah,qac,qaa,qab,qai]) only[qbk,qbh,qbI,qat,qaX,qao,qan,qal,qak,qbm,qcv,qar,qay,qaJ,qaq,qcd,qaH,qcx,qaG,qa7,qaj,qaY,qaD,qas,qbr,zM,zN,zO,zP,zC,zI,zR,qbd,z7,zK,zJ,zH,Nat.reduceAdd,Nat.reduceSub,qaR,qct,qbn,qbV,op_fa,qcy,zzE,zzA,zw,Nat.reduceLeDiff,zD,zA,zB,zL,qc4,zB,zA,qaW,N_gtr,Nat.reduceLeDiff,Nat.reduceAdd,zL,op_chk,qcq,eqp_ptr,qcm,qbA,qb9,qaI,qaZ,qaA,zH,Nat.reduceSub,qam,qam,L42,hG,x00,hle,hle2,eqp_ptr,callV_fn3,hc,hm]
  generalize hQ:upd G (24,0) (some (bs (qb3 (dec (kf la) n) (tw0 n lb u) d true)))=Q
  have y00:Q (0,0)=some ([.ptr (0,1) 0,.ptr (0,3) 0]):=by rw[←hQ]; exact x00
  have y01:Q (0,1)=some (CF (.sl (0,2) 0 (n+2) none 16) TB):=by rw[←hQ]; exact x01
  have y02:Q (0,2)=some (bs la):=by rw[←hQ]; exact x02
  have y03:Q (0,3)=some (CF (.sl (0,4) 0 (n+2) none 16) TB):=by rw[←hQ]; exact x03
  have y04:Q (0,4)=some (bs lb):=by rw[←hQ]; exact x04
  have y05:Q (0,5)=some (bs L):=by rw[←hQ]; exact x05
  have y06:Q (0,6)=some ([.ptr (0,0) 0]):=by rw[←hQ]; exact x06
  have y07:Q (0,7)=some ([B64 u]):=by rw[←hQ]; exact x07
  have y08:Q (0,8)=some ([.sl (0,5) off d.length c 1]):=by rw[←hQ]; exact x08
  have yn:Q (24,0)=some (bs (qb3 (dec (kf la) n) (tw0 n lb u) d true)):=by rw[←hQ]; rfl
  have hch:qbL Q FUEL [] [(0,0),(0,1),(0,2),(0,3),(0,4),(0,5),(0,6),(0,7),(0,8),(24,0)]=[(0,0),(0,1),(0,2),(0,3),(0,4),(0,5),(0,6),(0,7),(0,8),(24,0)]:=(qaw rfl y00 rfl).trans ((qaw rfl y01 (qbu _ _)).trans ((qaw rfl y02 (qaP _)).trans ((qaw rfl y03 (qbu _ _)).trans ((qaw rfl y04 (qaP _)).trans ((qbi rfl).trans ((qbi rfl).trans ((qbi rfl).trans ((qbi rfl).trans ((qaw rfl y05 (qaP _)).trans ((qaw rfl y06 rfl).trans ((qbi rfl).trans ((qaw rfl y07 rfl).trans ((qaw rfl y08 rfl).trans ((qbi rfl).trans ((qaw rfl yn (qaP _)).trans (qaB _ _ _))))))))))))))))
  have hcn:qav Q 9 [.tup [.sl (24,0) 0 d.length none 1,N 0]]=[(24,0)]:=canon_of rfl hch rfl
  refine out_fin hcn ?_
  simp (disch:=first|omega|decide|simp only[qaf,qad,qag,qae,qah,qac,qaa,qab,qai]) only[qcu,zG,zC,zH,zF,zS,qcK,zzB,zH,qaK,List.filterMap_cons,qb2,qbq,qcE,qbK,range_9,qbt,qaK,qbq,qb2,qcu,qb8,y00,y01,y02,y03,y04,y05,y06,y07,y08,yn]
  rfl
end Aes
namespace Aes
open Go Go.LE Xf
set_option maxRecDepth 20000
theorem encr23I_F (k n:Nat) (hn:n≤20) (la lb:List (BitVec 8)) (hla:la.length=16*(n+2)) (hlb:lb.length=16*(n+2)) (u:BitVec 64) (d:List (BitVec 8)) (h16:16≤d.length) (hd2:d.length≤65536) :
    F C (k+5003) 23 [.ptr (0,0) 0,B64 u,.isl (bs d) d.length] [[.ptr (0,1) 0,.ptr (0,3) 0],CF (.sl (0,2) 0 (n+2) none 16) TB,bs la,CF (.sl (0,4) 0 (n+2) none 16) TB,bs lb]=some (.tup [.sl (1,0) 0 d.length none 1,N 0],[some ([.ptr (0,1) 0,.ptr (0,3) 0]),some (CF (.sl (0,2) 0 (n+2) none 16) TB),some (bs la),some (CF (.sl (0,4) 0 (n+2) none 16) TB),some (bs lb)],[bs (qb3 (enc (kf la) n) (tw0 n lb u) d false)]):=by
  rw[qbT f23]
  generalize hG:upd (upd (upd (qb4 [[.ptr (0,1) 0,.ptr (0,3) 0],CF (.sl (0,2) 0 (n+2) none 16) TB,bs la,CF (.sl (0,4) 0 (n+2) none 16) TB,bs lb]) (2,0) (some [.ptr (0,0) 0])) (3,0) (some [B64 u])) (4,0) (some [.isl (bs d) d.length])=G
  have x00:G (0,0)=some ([.ptr (0,1) 0,.ptr (0,3) 0]):=by rw[←hG]; rfl
  have x01:G (0,1)=some (CF (.sl (0,2) 0 (n+2) none 16) TB):=by rw[←hG]; rfl
  have x02:G (0,2)=some (bs la):=by rw[←hG]; rfl
  have x03:G (0,3)=some (CF (.sl (0,4) 0 (n+2) none 16) TB):=by rw[←hG]; rfl
  have x04:G (0,4)=some (bs lb):=by rw[←hG]; rfl
  have x20:G (2,0)=some ([.ptr (0,0) 0]):=by rw[←hG]; rfl
  have x30:G (3,0)=some ([B64 u]):=by rw[←hG]; rfl
  have x40:G (4,0)=some ([.isl (bs d) d.length]):=by rw[←hG]; rfl
  have hr:qbL G FUEL [] [(0,0),(2,0),(3,0),(4,0)]=[(0,0),(0,1),(0,2),(0,3),(0,4),(2,0),(3,0),(4,0)]:=(qaw rfl x00 rfl).trans ((qaw rfl x01 (qbu _ _)).trans ((qaw rfl x02 (qaP _)).trans ((qaw rfl x03 (qbu _ _)).trans ((qaw rfl x04 (qaP _)).trans ((qaw rfl x20 rfl).trans ((qbi rfl).trans ((qaw rfl x30 rfl).trans ((qaw rfl x40 (dn _)).trans (qaB _ _ _)))))))))
  have ho:(([(0,0),(0,1),(0,2),(0,3),(0,4),(2,0),(3,0),(4,0)]:List Nm).filterMap G).map (fun cs=>cs.map (ren D (qbx [(0,0),(0,1),(0,2),(0,3),(0,4),(2,0),(3,0),(4,0)])))=[[.ptr (0,1) 0,.ptr (0,3) 0],CF (.sl (0,2) 0 (n+2) none 16) TB,bs la,CF (.sl (0,4) 0 (n+2) none 16) TB,bs lb,[.ptr (0,0) 0],[B64 u],[.isl (bs d) d.length]]:=by
    rw[show ([(0,0),(0,1),(0,2),(0,3),(0,4),(2,0),(3,0),(4,0)]:List Nm).filterMap G=[[.ptr (0,1) 0,.ptr (0,3) 0],CF (.sl (0,2) 0 (n+2) none 16) TB,bs la,CF (.sl (0,4) 0 (n+2) none 16) TB,bs lb,[.ptr (0,0) 0],[B64 u],[.isl (bs d) d.length]] by simp only[List.filterMap_cons,zzB,x00,x01,x02,x03,x04,x20,x30,x40]]
    simp only[zG,zC,qbt,qaK,qbO]
    rfl
  have hc:∀ b,qbD (envC C (k+5002)) G b 42 [.ptr (0,0) 0,.isl (bs d) d.length,.fn (.func 43) [] [.ptr (2,0) 0,.ptr (3,0) 0,.ptr (4,0) 0]]=some ⟨.tup [.sl (b,0) 0 d.length none 1,N 0],[bs (qb3 (enc (kf la) n) (tw0 n lb u) d false)],[((0,0),some ([.ptr (0,1) 0,.ptr (0,3) 0])),((0,1),some (CF (.sl (0,2) 0 (n+2) none 16) TB)),((0,2),some (bs la)),((0,3),some (CF (.sl (0,4) 0 (n+2) none 16) TB)),((0,4),some (bs lb)),((2,0),some ([.ptr (0,0) 0])),((3,0),some ([B64 u])),((4,0),some ([.isl (bs d) d.length]))]⟩:=by
    intro b
    rw[call_gen0 (k+5002) b 42 l42 G _ [.ptr (0,0) 0,.isl (bs d) d.length,.fn (.func 43) [] [.ptr (0,5) 0,.ptr (0,6) 0,.ptr (0,7) 0]] [(0,0),(2,0),(3,0),(4,0)] _ _ _ (by simp only[zV,zX,qaE,qbw,fn3_nms,zI,zR,zQ]) hr (by simp only[zG,zC,qbO]; rfl) ho (unit43I_F k n hn la lb hla hlb u d h16 hd2),qdp]
    simp only[zG,zC,List.zipWith_cons_cons,List.zipWith_nil_left,zH,qbt,qaK,qbO]
    rfl
  have hm:modN [((0,0),some ([.ptr (0,1) 0,.ptr (0,3) 0])),((0,1),some (CF (.sl (0,2) 0 (n+2) none 16) TB)),((0,2),some (bs la)),((0,3),some (CF (.sl (0,4) 0 (n+2) none 16) TB)),((0,4),some (bs lb)),((2,0),some ([.ptr (0,0) 0])),((3,0),some ([B64 u])),((4,0),some ([.isl (bs d) d.length]))] G=G:=by
    simp only[qa6,qaA,qbf x40,qbf x30,qbf x20,qbf x04,qbf x03,qbf x02,qbf x01,qbf x00]
  simp (disch:=first|omega|decide|simp only[qaf,qad,qag,qae,qah,qac,qaa,qab,qai]) only[qbk,qbI,qat,qao,qan,qal,qak,qar,qay,qaJ,qaq,qaH,qa7,qa1,qaj,qbr,zM,zN,zO,zP,zG,zC,zI,zR,qbd,z7,zK,zJ,zH,Nat.reduceAdd,Nat.reduceSub,cellsOf_B64,qaR,qct,qbn,qbV,op_box,qcH,zzE,zw,zzJ,zD,zA,zB,Nat.le_refl,qc4,zB,zA,Nat.reduceAdd,cellsOf_ptr,qaI,qaZ,qaA,zH,List.getElem?_cons_zero,List.getElem?_cons_succ,qcJ,qcp,List.getElem?_cons_zero,List.getElem?_cons_succ,Nat.reduceSub,qam,cellsOf_isl,qam,L23,hG,op_fn,x20,x40,hc,hm,cellsOf_isl]
  generalize hQ:upd G (10,0) (some (bs (qb3 (enc (kf la) n) (tw0 n lb u) d false)))=Q
  have y00:Q (0,0)=some ([.ptr (0,1) 0,.ptr (0,3) 0]):=by rw[←hQ]; exact x00
  have y01:Q (0,1)=some (CF (.sl (0,2) 0 (n+2) none 16) TB):=by rw[←hQ]; exact x01
  have y02:Q (0,2)=some (bs la):=by rw[←hQ]; exact x02
  have y03:Q (0,3)=some (CF (.sl (0,4) 0 (n+2) none 16) TB):=by rw[←hQ]; exact x03
  have y04:Q (0,4)=some (bs lb):=by rw[←hQ]; exact x04
  have y20:Q (2,0)=some ([.ptr (0,0) 0]):=by rw[←hQ]; exact x20
  have y30:Q (3,0)=some ([B64 u]):=by rw[←hQ]; exact x30
  have y40:Q (4,0)=some ([.isl (bs d) d.length]):=by rw[←hQ]; exact x40
  have yn:Q (10,0)=some (bs (qb3 (enc (kf la) n) (tw0 n lb u) d false)):=by rw[←hQ]; rfl
  have hch:qbL Q FUEL [] [(0,0),(0,1),(0,2),(0,3),(0,4),(10,0)]=[(0,0),(0,1),(0,2),(0,3),(0,4),(10,0)]:=(qaw rfl y00 rfl).trans ((qaw rfl y01 (qbu _ _)).trans ((qaw rfl y02 (qaP _)).trans ((qaw rfl y03 (qbu _ _)).trans ((qaw rfl y04 (qaP _)).trans ((qbi rfl).trans ((qbi rfl).trans ((qbi rfl).trans ((qbi rfl).trans ((qaw rfl yn (qaP _)).trans (qaB _ _ _))))))))))
  have hcn:qav Q 5 [.tup [.sl (10,0) 0 d.length none 1,N 0]]=[(10,0)]:=canon_of rfl hch rfl
  refine out_fin hcn ?_
  simp (disch:=first|omega|decide|simp only[qaf,qad,qag,qae,qah,qac,qaa,qab,qai]) only[zG,zC,zH,zF,zS,qcK,zzB,zH,qaK,List.filterMap_cons,qb2,qbq,qcE,qbK,qbB,qbt,qaK,qbq,qb2,qb8,y00,y01,y02,y03,y04,yn]
  rfl
theorem encr23S_F (k n:Nat) (hn:n≤20) (la lb:List (BitVec 8)) (hla:la.length=16*(n+2)) (hlb:lb.length=16*(n+2)) (u:BitVec 64) (d:List (BitVec 8)) (L:List (BitVec 8)) (off:Nat) (c:Option Nat) (hL:(L.drop off).take d.length=d) (h16:16≤d.length) (hd2:d.length≤65536) :
    F C (k+5003) 23 [.ptr (0,0) 0,B64 u,.sl (0,5) off d.length c 1] [[.ptr (0,1) 0,.ptr (0,3) 0],CF (.sl (0,2) 0 (n+2) none 16) TB,bs la,CF (.sl (0,4) 0 (n+2) none 16) TB,bs lb,bs L]=some (.tup [.sl (1,0) 0 d.length none 1,N 0],[some ([.ptr (0,1) 0,.ptr (0,3) 0]),some (CF (.sl (0,2) 0 (n+2) none 16) TB),some (bs la),some (CF (.sl (0,4) 0 (n+2) none 16) TB),some (bs lb),some (bs L)],[bs (qb3 (enc (kf la) n) (tw0 n lb u) d false)]):=by
  rw[qbT f23]
  generalize hG:upd (upd (upd (qb4 [[.ptr (0,1) 0,.ptr (0,3) 0],CF (.sl (0,2) 0 (n+2) none 16) TB,bs la,CF (.sl (0,4) 0 (n+2) none 16) TB,bs lb,bs L]) (2,0) (some [.ptr (0,0) 0])) (3,0) (some [B64 u])) (4,0) (some [.sl (0,5) off d.length c 1])=G
  have x00:G (0,0)=some ([.ptr (0,1) 0,.ptr (0,3) 0]):=by rw[←hG]; rfl
  have x01:G (0,1)=some (CF (.sl (0,2) 0 (n+2) none 16) TB):=by rw[←hG]; rfl
  have x02:G (0,2)=some (bs la):=by rw[←hG]; rfl
  have x03:G (0,3)=some (CF (.sl (0,4) 0 (n+2) none 16) TB):=by rw[←hG]; rfl
  have x04:G (0,4)=some (bs lb):=by rw[←hG]; rfl
  have x05:G (0,5)=some (bs L):=by rw[←hG]; rfl
  have x20:G (2,0)=some ([.ptr (0,0) 0]):=by rw[←hG]; rfl
  have x30:G (3,0)=some ([B64 u]):=by rw[←hG]; rfl
  have x40:G (4,0)=some ([.sl (0,5) off d.length c 1]):=by rw[←hG]; rfl
  have hr:qbL G FUEL [] [(0,0),(0,5),(2,0),(3,0),(4,0)]=[(0,0),(0,1),(0,2),(0,3),(0,4),(0,5),(2,0),(3,0),(4,0)]:=(qaw rfl x00 rfl).trans ((qaw rfl x01 (qbu _ _)).trans ((qaw rfl x02 (qaP _)).trans ((qaw rfl x03 (qbu _ _)).trans ((qaw rfl x04 (qaP _)).trans ((qaw rfl x05 (qaP _)).trans ((qaw rfl x20 rfl).trans ((qbi rfl).trans ((qaw rfl x30 rfl).trans ((qaw rfl x40 rfl).trans ((qbi rfl).trans (qaB _ _ _)))))))))))
  have ho:(([(0,0),(0,1),(0,2),(0,3),(0,4),(0,5),(2,0),(3,0),(4,0)]:List Nm).filterMap G).map (fun cs=>cs.map (ren D (qbx [(0,0),(0,1),(0,2),(0,3),(0,4),(0,5),(2,0),(3,0),(4,0)])))=[[.ptr (0,1) 0,.ptr (0,3) 0],CF (.sl (0,2) 0 (n+2) none 16) TB,bs la,CF (.sl (0,4) 0 (n+2) none 16) TB,bs lb,bs L,[.ptr (0,0) 0],[B64 u],[.sl (0,5) off d.length c 1]]:=by
    rw[show ([(0,0),(0,1),(0,2),(0,3),(0,4),(0,5),(2,0),(3,0),(4,0)]:List Nm).filterMap G=[[.ptr (0,1) 0,.ptr (0,3) 0],CF (.sl (0,2) 0 (n+2) none 16) TB,bs la,CF (.sl (0,4) 0 (n+2) none 16) TB,bs lb,bs L,[.ptr (0,0) 0],[B64 u],[.sl (0,5) off d.length c 1]] by simp only[List.filterMap_cons,zzB,x00,x01,x02,x03,x04,x05,x20,x30,x40]]
    simp only[zG,zC,qbt,qaK]
    rfl
  have hc:∀ b,qbD (envC C (k+5002)) G b 42 [.ptr (0,0) 0,.sl (0,5) off d.length c 1,.fn (.func 43) [] [.ptr (2,0) 0,.ptr (3,0) 0,.ptr (4,0) 0]]=some ⟨.tup [.sl (b,0) 0 d.length none 1,N 0],[bs (qb3 (enc (kf la) n) (tw0 n lb u) d false)],[((0,0),some ([.ptr (0,1) 0,.ptr (0,3) 0])),((0,1),some (CF (.sl (0,2) 0 (n+2) none 16) TB)),((0,2),some (bs la)),((0,3),some (CF (.sl (0,4) 0 (n+2) none 16) TB)),((0,4),some (bs lb)),((0,5),some (bs L)),((2,0),some ([.ptr (0,0) 0])),((3,0),some ([B64 u])),((4,0),some ([.sl (0,5) off d.length c 1]))]⟩:=by
    intro b
    rw[call_gen0 (k+5002) b 42 l42 G _ [.ptr (0,0) 0,.sl (0,5) off d.length c 1,.fn (.func 43) [] [.ptr (0,6) 0,.ptr (0,7) 0,.ptr (0,8) 0]] [(0,0),(0,5),(2,0),(3,0),(4,0)] _ _ _ (by simp only[zV,zX,qaE,qaQ,fn3_nms,zI,zR,zQ]) hr (by simp only[zG,zC]; rfl) ho (unit43S_F k n hn la lb hla hlb u d L off c hL h16 hd2),qdp]
    simp only[zG,zC,List.zipWith_cons_cons,List.zipWith_nil_left,zH,qbt,qaK]
    rfl
  have hm:modN [((0,0),some ([.ptr (0,1) 0,.ptr (0,3) 0])),((0,1),some (CF (.sl (0,2) 0 (n+2) none 16) TB)),((0,2),some (bs la)),((0,3),some (CF (.sl (0,4) 0 (n+2) none 16) TB)),((0,4),some (bs lb)),((0,5),some (bs L)),((2,0),some ([.ptr (0,0) 0])),((3,0),some ([B64 u])),((4,0),some ([.sl (0,5) off d.length c 1]))] G=G:=by
    simp only[qa6,qaA,qbf x40,qbf x30,qbf x20,qbf x05,qbf x04,qbf x03,qbf x02,qbf x01,qbf x00]
  simp (disch:=first|omega|decide|simp only[qaf,qad,qag,qae,qah,qac,qaa,qab,qai]) only[qbk,qbI,qat,qao,qan,qal,qak,qar,qay,qaJ,qaq,qaH,qa7,qa1,qaj,qbr,zM,zN,zO,zP,zG,zC,zI,zR,qbd,z7,zK,zJ,zH,Nat.reduceAdd,Nat.reduceSub,cellsOf_B64,qaR,qct,qbn,qbV,op_box,qcH,zzE,zw,zzJ,zD,zA,zB,Nat.le_refl,qc4,zB,zA,Nat.reduceAdd,cellsOf_sl,cellsOf_ptr,qaI,qaZ,qaA,zH,List.getElem?_cons_zero,List.getElem?_cons_succ,qcJ,qcp,List.getElem?_cons_zero,List.getElem?_cons_succ,Nat.reduceSub,qam,qam,L23,hG,op_fn,x20,x40,hc,hm]
  generalize hQ:upd G (10,0) (some (bs (qb3 (enc (kf la) n) (tw0 n lb u) d false)))=Q
  have y00:Q (0,0)=some ([.ptr (0,1) 0,.ptr (0,3) 0]):=by rw[←hQ]; exact x00
  have y01:Q (0,1)=some (CF (.sl (0,2) 0 (n+2) none 16) TB):=by rw[←hQ]; exact x01
  have y02:Q (0,2)=some (bs la):=by rw[←hQ]; exact x02
  have y03:Q (0,3)=some (CF (.sl (0,4) 0 (n+2) none 16) TB):=by rw[←hQ]; exact x03
  have y04:Q (0,4)=some (bs lb):=by rw[←hQ]; exact x04
  have y05:Q (0,5)=some (bs L):=by rw[←hQ]; exact x05
  have y20:Q (2,0)=some ([.ptr (0,0) 0]):=by rw[←hQ]; exact x20
  have y30:Q (3,0)=some ([B64 u]):=by rw[←hQ]; exact x30
  have y40:Q (4,0)=some ([.sl (0,5) off d.length c 1]):=by rw[←hQ]; exact x40
  have yn:Q (10,0)=some (bs (qb3 (enc (kf la) n) (tw0 n lb u) d false)):=by rw[←hQ]; rfl
  have hch:qbL Q FUEL [] [(0,0),(0,1),(0,2),(0,3),(0,4),(0,5),(10,0)]=[(0,0),(0,1),(0,2),(0,3),(0,4),(0,5),(10,0)]:=(qaw rfl y00 rfl).trans ((qaw rfl y01 (qbu _ _)).trans ((qaw rfl y02 (qaP _)).trans ((qaw rfl y03 (qbu _ _)).trans ((qaw rfl y04 (qaP _)).trans ((qbi rfl).trans ((qbi rfl).trans ((qbi rfl).trans ((qbi rfl).trans ((qaw rfl y05 (qaP _)).trans ((qaw rfl yn (qaP _)).trans (qaB _ _ _)))))))))))
  have hcn:qav Q 6 [.tup [.sl (10,0) 0 d.length none 1,N 0]]=[(10,0)]:=canon_of rfl hch rfl
  refine out_fin hcn ?_
  simp (disch:=first|omega|decide|simp only[qaf,qad,qag,qae,qah,qac,qaa,qab,qai]) only[zG,zC,zH,zF,zS,qcK,zzB,zH,qaK,List.filterMap_cons,qb2,qbq,qcE,qbK,range_6,qbt,qaK,qbq,qb2,qb8,y00,y01,y02,y03,y04,y05,yn]
  rfl
theorem encr26S_F (k n:Nat) (hn:n≤20) (la lb:List (BitVec 8)) (hla:la.length=16*(n+2)) (hlb:lb.length=16*(n+2)) (u:BitVec 64) (d:List (BitVec 8)) (L:List (BitVec 8)) (off:Nat) (c:Option Nat) (hL:(L.drop off).take d.length=d) (h16:16≤d.length) (hd2:d.length≤65536) :
    F C (k+5003) 26 [.ptr (0,0) 0,B64 u,.sl (0,5) off d.length c 1] [[.ptr (0,1) 0,.ptr (0,3) 0],CF (.sl (0,2) 0 (n+2) none 16) TB,bs la,CF (.sl (0,4) 0 (n+2) none 16) TB,bs lb,bs L]=some (.tup [.sl (1,0) 0 d.length none 1,N 0],[some ([.ptr (0,1) 0,.ptr (0,3) 0]),some (CF (.sl (0,2) 0 (n+2) none 16) TB),some (bs la),some (CF (.sl (0,4) 0 (n+2) none 16) TB),some (bs lb),some (bs L)],[bs (qb3 (dec (kf la) n) (tw0 n lb u) d true)]):=by
  rw[qbT f26]
  generalize hG:upd (upd (upd (qb4 [[.ptr (0,1) 0,.ptr (0,3) 0],CF (.sl (0,2) 0 (n+2) none 16) TB,bs la,CF (.sl (0,4) 0 (n+2) none 16) TB,bs lb,bs L]) (2,0) (some [.ptr (0,0) 0])) (3,0) (some [B64 u])) (4,0) (some [.sl (0,5) off d.length c 1])=G
  have x00:G (0,0)=some ([.ptr (0,1) 0,.ptr (0,3) 0]):=by rw[←hG]; rfl
  have x01:G (0,1)=some (CF (.sl (0,2) 0 (n+2) none 16) TB):=by rw[←hG]; rfl
  have x02:G (0,2)=some (bs la):=by rw[←hG]; rfl
  have x03:G (0,3)=some (CF (.sl (0,4) 0 (n+2) none 16) TB):=by rw[←hG]; rfl
  have x04:G (0,4)=some (bs lb):=by rw[←hG]; rfl
  have x05:G (0,5)=some (bs L):=by rw[←hG]; rfl
  have x20:G (2,0)=some ([.ptr (0,0) 0]):=by rw[←hG]; rfl
  have x30:G (3,0)=some ([B64 u]):=by rw[←hG]; rfl
  have x40:G (4,0)=some ([.sl (0,5) off d.length c 1]):=by rw[←hG]; rfl
  have hr:qbL G FUEL [] [(0,0),(0,5),(2,0),(3,0),(4,0)]=[(0,0),(0,1),(0,2),(0,3),(0,4),(0,5),(2,0),(3,0),(4,0)]:=(qaw rfl x00 rfl).trans ((qaw rfl x01 (qbu _ _)).trans ((qaw rfl x02 (qaP _)).trans ((qaw rfl x03 (qbu _ _)).trans ((qaw rfl x04 (qaP _)).trans ((qaw rfl x05 (qaP _)).trans ((qaw rfl x20 rfl).trans ((qbi rfl).trans ((qaw rfl x30 rfl).trans ((qaw rfl x40 rfl).trans ((qbi rfl).trans (qaB _ _ _)))))))))))
  have ho:(([(0,0),(0,1),(0,2),(0,3),(0,4),(0,5),(2,0),(3,0),(4,0)]:List Nm).filterMap G).map (fun cs=>cs.map (ren D (qbx [(0,0),(0,1),(0,2),(0,3),(0,4),(0,5),(2,0),(3,0),(4,0)])))=[[.ptr (0,1) 0,.ptr (0,3) 0],CF (.sl (0,2) 0 (n+2) none 16) TB,bs la,CF (.sl (0,4) 0 (n+2) none 16) TB,bs lb,bs L,[.ptr (0,0) 0],[B64 u],[.sl (0,5) off d.length c 1]]:=by
    rw[show ([(0,0),(0,1),(0,2),(0,3),(0,4),(0,5),(2,0),(3,0),(4,0)]:List Nm).filterMap G=[[.ptr (0,1) 0,.ptr (0,3) 0],CF (.sl (0,2) 0 (n+2) none 16) TB,bs la,CF (.sl (0,4) 0 (n+2) none 16) TB,bs lb,bs L,[.ptr (0,0) 0],[B64 u],[.sl (0,5) off d.length c 1]] by simp only[List.filterMap_cons,zzB,x00,x01,x02,x03,x04,x05,x20,x30,x40]]
    simp only[zG,zC,qbt,qaK]
    rfl
  have hc:∀ b,qbD (envC C (k+5002)) G b 42 [.ptr (0,0) 0,.sl (0,5) off d.length c 1,.fn (.func 46) [] [.ptr (2,0) 0,.ptr (3,0) 0,.ptr (4,0) 0]]=some ⟨.tup [.sl (b,0) 0 d.length none 1,N 0],[bs (qb3 (dec (kf la) n) (tw0 n lb u) d true)],[((0,0),some ([.ptr (0,1) 0,.ptr (0,3) 0])),((0,1),some (CF (.sl (0,2) 0 (n+2) none 16) TB)),((0,2),some (bs la)),((0,3),some (CF (.sl (0,4) 0 (n+2) none 16) TB)),((0,4),some (bs lb)),((0,5),some (bs L)),((2,0),some ([.ptr (0,0) 0])),((3,0),some ([B64 u])),((4,0),some ([.sl (0,5) off d.length c 1]))]⟩:=by
    intro b
    rw[call_gen0 (k+5002) b 42 l42 G _ [.ptr (0,0) 0,.sl (0,5) off d.length c 1,.fn (.func 46) [] [.ptr (0,6) 0,.ptr (0,7) 0,.ptr (0,8) 0]] [(0,0),(0,5),(2,0),(3,0),(4,0)] _ _ _ (by simp only[zV,zX,qaE,qaQ,fn3_nms,zI,zR,zQ]) hr (by simp only[zG,zC]; rfl) ho (unit46S_F k n hn la lb hla hlb u d L off c hL h16 hd2),qdp]
    simp only[zG,zC,List.zipWith_cons_cons,List.zipWith_nil_left,zH,qbt,qaK]
    rfl
  have hm:modN [((0,0),some ([.ptr (0,1) 0,.ptr (0,3) 0])),((0,1),some (CF (.sl (0,2) 0 (n+2) none 16) TB)),((0,2),some (bs la)),((0,3),some (CF (.sl (0,4) 0 (n+2) none 16) TB)),((0,4),some (bs lb)),((0,5),some (bs L)),((2,0),some ([.ptr (0,0) 0])),((3,0),some ([B64 u])),((4,0),some ([.sl (0,5) off d.length c 1]))] G=G:=by
    simp only[qa6,qaA,qbf x40,qbf x30,qbf x20,qbf x05,qbf x04,qbf x03,qbf x02,qbf x01,qbf x00]
  simp (disch:=first|omega|decide|simp only[qaf,qad,qag,qae,qah,qac,qaa,qab,qai]) only[qbk,qbI,qat,qao,qan,qal,qak,qar,qay,qaJ,qaq,qaH,qa7,qa1,qaj,qbr,zM,zN,zO,zP,zG,zC,zI,zR,qbd,z7,zK,zJ,zH,Nat.reduceAdd,Nat.reduceSub,cellsOf_B64,qaR,qct,qbn,qbV,op_box,qcH,zzE,zw,zzJ,zD,zA,zB,Nat.le_refl,qc4,zB,zA,Nat.reduceAdd,cellsOf_sl,cellsOf_ptr,qaI,qaZ,qaA,zH,List.getElem?_cons_zero,List.getElem?_cons_succ,qcJ,qcp,List.getElem?_cons_zero,List.getElem?_cons_succ,Nat.reduceSub,qam,qam,L26,hG,op_fn,x20,x40,hc,hm]
  generalize hQ:upd G (10,0) (some (bs (qb3 (dec (kf la) n) (tw0 n lb u) d true)))=Q
  have y00:Q (0,0)=some ([.ptr (0,1) 0,.ptr (0,3) 0]):=by rw[←hQ]; exact x00
  have y01:Q (0,1)=some (CF (.sl (0,2) 0 (n+2) none 16) TB):=by rw[←hQ]; exact x01
  have y02:Q (0,2)=some (bs la):=by rw[←hQ]; exact x02
  have y03:Q (0,3)=some (CF (.sl (0,4) 0 (n+2) none 16) TB):=by rw[←hQ]; exact x03
  have y04:Q (0,4)=some (bs lb):=by rw[←hQ]; exact x04
  have y05:Q (0,5)=some (bs L):=by rw[←hQ]; exact x05
  have y20:Q (2,0)=some ([.ptr (0,0) 0]):=by rw[←hQ]; exact x20
  have y30:Q (3,0)=some ([B64 u]):=by rw[←hQ]; exact x30
  have y40:Q (4,0)=some ([.sl (0,5) off d.length c 1]):=by rw[←hQ]; exact x40
  have yn:Q (10,0)=some (bs (qb3 (dec (kf la) n) (tw0 n lb u) d true)):=by rw[←hQ]; rfl
  have hch:qbL Q FUEL [] [(0,0),(0,1),(0,2),(0,3),(0,4),(0,5),(10,0)]=[(0,0),(0,1),(0,2),(0,3),(0,4),(0,5),(10,0)]:=(qaw rfl y00 rfl).trans ((qaw rfl y01 (qbu _ _)).trans ((qaw rfl y02 (qaP _)).trans ((qaw rfl y03 (qbu _ _)).trans ((qaw rfl y04 (qaP _)).trans ((qbi rfl).trans ((qbi rfl).trans ((qbi rfl).trans ((qbi rfl).trans ((qaw rfl y05 (qaP _)).trans ((qaw rfl yn (qaP _)).trans (qaB _ _ _)))))))))))
  have hcn:qav Q 6 [.tup [.sl (10,0) 0 d.length none 1,N 0]]=[(10,0)]:=canon_of rfl hch rfl
  refine out_fin hcn ?_
  simp (disch:=first|omega|decide|simp only[qaf,qad,qag,qae,qah,qac,qaa,qab,qai]) only[zG,zC,zH,zF,zS,qcK,zzB,zH,qaK,List.filterMap_cons,qb2,qbq,qcE,qbK,range_6,qbt,qaK,qbq,qb2,qb8,y00,y01,y02,y03,y04,y05,yn]
  rfl
end Aes
namespace Aes
open Go Go.LE Xf
set_option maxRecDepth 20000
theorem unitb43S_F (k n:Nat) (la lb:List (BitVec 8)) (u:BitVec 64) (d:List (BitVec 8)) (L:List (BitVec 8)) (off:Nat) (c:Option Nat) (hd:d.length < 16∨65536 < d.length) (hd2:d.length < 9223372036854775808) :
    F C (k+5002) 42 [.ptr (0,0) 0,.sl (0,5) off d.length c 1,.fn (.func 43) [] [.ptr (0,6) 0,.ptr (0,7) 0,.ptr (0,8) 0]] [[.ptr (0,1) 0,.ptr (0,3) 0],CF (.sl (0,2) 0 (n+2) none 16) TB,bs la,CF (.sl (0,4) 0 (n+2) none 16) TB,bs lb,bs L,[.ptr (0,0) 0],[B64 u],[.sl (0,5) off d.length c 1]]=some (.tup [Nil,N 30],[some ([.ptr (0,1) 0,.ptr (0,3) 0]),some (CF (.sl (0,2) 0 (n+2) none 16) TB),some (bs la),some (CF (.sl (0,4) 0 (n+2) none 16) TB),some (bs lb),some (bs L),some ([.ptr (0,0) 0]),some ([B64 u]),some ([.sl (0,5) off d.length c 1])],[]):=by
  rw[qbT f42]
  generalize hG:qb4 [[.ptr (0,1) 0,.ptr (0,3) 0],CF (.sl (0,2) 0 (n+2) none 16) TB,bs la,CF (.sl (0,4) 0 (n+2) none 16) TB,bs lb,bs L,[.ptr (0,0) 0],[B64 u],[.sl (0,5) off d.length c 1]]=G
  have x00:G (0,0)=some ([.ptr (0,1) 0,.ptr (0,3) 0]):=by rw[←hG]; rfl
  have x01:G (0,1)=some (CF (.sl (0,2) 0 (n+2) none 16) TB):=by rw[←hG]; rfl
  have x02:G (0,2)=some (bs la):=by rw[←hG]; rfl
  have x03:G (0,3)=some (CF (.sl (0,4) 0 (n+2) none 16) TB):=by rw[←hG]; rfl
  have x04:G (0,4)=some (bs lb):=by rw[←hG]; rfl
  have x05:G (0,5)=some (bs L):=by rw[←hG]; rfl
  have x06:G (0,6)=some ([.ptr (0,0) 0]):=by rw[←hG]; rfl
  have x07:G (0,7)=some ([B64 u]):=by rw[←hG]; rfl
  have x08:G (0,8)=some ([.sl (0,5) off d.length c 1]):=by rw[←hG]; rfl
  by_cases h:d.length < 16
  · skip
    simp (disch:=first|omega|decide|simp only[qaf,qad,qag,qae,qah,qac,qaa,qab,qai]) only[qbk,qbI,qat,qaX,qao,qan,qal,qak,qbm,qcv,guardK_false',qar,qay,qaJ,qaq,qdv,qcd,qaH,qcx,qaG,qaj,qdx,inBlock_ret,qaD,qa3,qas,qbr,zM,zN,zO,zP,zI,zR,qbd,z7,zK,zJ,zH,Nat.reduceAdd,Nat.reduceSub,qaR,qct,qbn,qbV,op_fa,qcy,zzE,zzA,zw,Nat.reduceLeDiff,zD,zA,zB,zT,qc4,zB,zA,qaW,Nat.reduceLeDiff,Nat.reduceAdd,zT,op_chk,qcq,eqp_ptr,qcm,qbA,qb9,qaI,qaA,zH,Nat.reduceSub,qam,qam,L42,hG,x00,h,eqp_ptr]
    have hch:qbL G FUEL [] [(0,0),(0,1),(0,2),(0,3),(0,4),(0,5),(0,6),(0,7),(0,8)]=[(0,0),(0,1),(0,2),(0,3),(0,4),(0,5),(0,6),(0,7),(0,8)]:=(qaw rfl x00 rfl).trans ((qaw rfl x01 (qbu _ _)).trans ((qaw rfl x02 (qaP _)).trans ((qaw rfl x03 (qbu _ _)).trans ((qaw rfl x04 (qaP _)).trans ((qbi rfl).trans ((qbi rfl).trans ((qbi rfl).trans ((qbi rfl).trans ((qaw rfl x05 (qaP _)).trans ((qaw rfl x06 rfl).trans ((qbi rfl).trans ((qaw rfl x07 rfl).trans ((qaw rfl x08 rfl).trans ((qbi rfl).trans (qaB _ _ _)))))))))))))))
    have hcn:qav G 9 [.tup [Nil,N 30]]=[]:=canon_of rfl hch rfl
    refine out_fin hcn ?_
    simp (disch:=first|omega|decide|simp only[qaf,qad,qag,qae,qah,qac,qaa,qab,qai]) only[qcu,zG,zC,zH,zF,zS,qcK,zzB,zH,qaK,qb2,qbq,qcE,qbK,range_9,qbt,qaK,qbq,qb2,qcu,qb8,x00,x01,x02,x03,x04,x05,x06,x07,x08]
    rfl
  · have h2 : 65536 < d.length := by omega
    simp (disch:=first|omega|decide|simp only[qaf,qad,qag,qae,qah,qac,qaa,qab,qai]) only[qbk,qbI,qat,qaX,qao,qan,qal,qak,qbm,qcv,qar,qay,qaJ,qaq,qcd,qaH,qcx,qaG,qaj,qdx,inBlock_ret,qaD,qa3,qas,qbr,zM,zN,zO,zP,zI,zR,qbd,z7,zK,zJ,zH,Nat.reduceAdd,Nat.reduceSub,qaR,qct,qbn,qbV,op_fa,qcy,zzE,zzA,zw,Nat.reduceLeDiff,zD,zA,zB,zT,zL,qc4,zB,zA,qaW,N_gtr,Nat.reduceLeDiff,Nat.reduceAdd,zL,zT,op_chk,qcq,eqp_ptr,qcm,qbA,qb9,qaI,qaA,zH,Nat.reduceSub,qam,qam,L42,hG,x00,h,h2,eqp_ptr]
    have hch:qbL G FUEL [] [(0,0),(0,1),(0,2),(0,3),(0,4),(0,5),(0,6),(0,7),(0,8)]=[(0,0),(0,1),(0,2),(0,3),(0,4),(0,5),(0,6),(0,7),(0,8)]:=(qaw rfl x00 rfl).trans ((qaw rfl x01 (qbu _ _)).trans ((qaw rfl x02 (qaP _)).trans ((qaw rfl x03 (qbu _ _)).trans ((qaw rfl x04 (qaP _)).trans ((qbi rfl).trans ((qbi rfl).trans ((qbi rfl).trans ((qbi rfl).trans ((qaw rfl x05 (qaP _)).trans ((qaw rfl x06 rfl).trans ((qbi rfl).trans ((qaw rfl x07 rfl).trans ((qaw rfl x08 rfl).trans ((qbi rfl).trans (qaB _ _ _)))))))))))))))
    have hcn:qav G 9 [.tup [Nil,N 30]]=[]:=canon_of rfl hch rfl
    refine out_fin hcn ?_
    simp (disch:=first|omega|decide|simp only[qaf,qad,qag,qae,qah,qac,qaa,qab,qai]) only[qcu,zG,zC,zH,zF,zS,qcK,zzB,zH,qaK,qb2,qbq,qcE,qbK,range_9,qbt,qaK,qbq,qb2,qcu,qb8,x00,x01,x02,x03,x04,x05,x06,x07,x08]
    rfl
theorem unitb46S_F (k n:Nat) (la lb:List (BitVec 8)) (u:BitVec 64) (d:List (BitVec 8)) (L:List (BitVec 8)) (off:Nat) (c:Option Nat) (hd:d.length < 16∨65536 < d.length) (hd2:d.length < 9223372036854775808) :
    F C (k+5002) 42 [.ptr (0,0) 0,.sl (0,5) off d.length c 1,.fn (.func 46) [] [.ptr (0,6) 0,.ptr (0,7) 0,.ptr (0,8) 0]] [[.ptr (0,1) 0,.ptr (0,3) 0],CF (.sl (0,2) 0 (n+2) none 16) TB,bs la,CF (.sl (0,4) 0 (n+2) none 16) TB,bs lb,bs L,[.ptr (0,0) 0],[B64 u],[.sl (0,5) off d.length c 1]]=some (.tup [Nil,N 30],[some ([.ptr (0,1) 0,.ptr (0,3) 0]),some (CF (.sl (0,2) 0 (n+2) none 16) TB),some (bs la),some (CF (.sl (0,4) 0 (n+2) none 16) TB),some (bs lb),some (bs L),some ([.ptr (0,0) 0]),some ([B64 u]),some ([.sl (0,5) off d.length c 1])],[]):=by
  rw[qbT f42]
  generalize hG:qb4 [[.ptr (0,1) 0,.ptr (0,3) 0],CF (.sl (0,2) 0 (n+2) none 16) TB,bs la,CF (.sl (0,4) 0 (n+2) none 16) TB,bs lb,bs L,[.ptr (0,0) 0],[B64 u],[.sl (0,5) off d.length c 1]]=G
  have x00:G (0,0)=some ([.ptr (0,1) 0,.ptr (0,3) 0]):=by rw[←hG]; rfl
  have x01:G (0,1)=some (CF (.sl (0,2) 0 (n+2) none 16) TB):=by rw[←hG]; rfl
  have x02:G (0,2)=some (bs la):=by rw[←hG]; rfl
  have x03:G (0,3)=some (CF (.sl (0,4) 0 (n+2) none 16) TB):=by rw[←hG]; rfl
  have x04:G (0,4)=some (bs lb):=by rw[←hG]; rfl
  have x05:G (0,5)=some (bs L):=by rw[←hG]; rfl
  have x06:G (0,6)=some ([.ptr (0,0) 0]):=by rw[←hG]; rfl
  have x07:G (0,7)=some ([B64 u]):=by rw[←hG]; rfl
  have x08:G (0,8)=some ([.sl (0,5) off d.length c 1]):=by rw[←hG]; rfl
  by_cases h:d.length < 16
  · skip
    simp (disch:=first|omega|decide|simp only[qaf,qad,qag,qae,qah,qac,qaa,qab,qai]) only[qbk,qbI,qat,qaX,qao,qan,qal,qak,qbm,qcv,guardK_false',qar,qay,qaJ,qaq,qdv,qcd,qaH,qcx,qaG,qaj,qdx,inBlock_ret,qaD,qa3,qas,qbr,zM,zN,zO,zP,zI,zR,qbd,z7,zK,zJ,zH,Nat.reduceAdd,Nat.reduceSub,qaR,qct,qbn,qbV,op_fa,qcy,zzE,zzA,zw,Nat.reduceLeDiff,zD,zA,zB,zT,qc4,zB,zA,qaW,Nat.reduceLeDiff,Nat.reduceAdd,zT,op_chk,qcq,eqp_ptr,qcm,qbA,qb9,qaI,qaA,zH,Nat.reduceSub,qam,qam,L42,hG,x00,h,eqp_ptr]
    have hch:qbL G FUEL [] [(0,0),(0,1),(0,2),(0,3),(0,4),(0,5),(0,6),(0,7),(0,8)]=[(0,0),(0,1),(0,2),(0,3),(0,4),(0,5),(0,6),(0,7),(0,8)]:=(qaw rfl x00 rfl).trans ((qaw rfl x01 (qbu _ _)).trans ((qaw rfl x02 (qaP _)).trans ((qaw rfl x03 (qbu _ _)).trans ((qaw rfl x04 (qaP _)).trans ((qbi rfl).trans ((qbi rfl).trans ((qbi rfl).trans ((qbi rfl).trans ((qaw rfl x05 (qaP _)).trans ((qaw rfl x06 rfl).trans ((qbi rfl).trans ((qaw rfl x07 rfl).trans ((qaw rfl x08 rfl).trans ((qbi rfl).trans (qaB _ _ _)))))))))))))))
    have hcn:qav G 9 [.tup [Nil,N 30]]=[]:=canon_of rfl hch rfl
    refine out_fin hcn ?_
    simp (disch:=first|omega|decide|simp only[qaf,qad,qag,qae,qah,qac,qaa,qab,qai]) only[qcu,zG,zC,zH,zF,zS,qcK,zzB,zH,qaK,qb2,qbq,qcE,qbK,range_9,qbt,qaK,qbq,qb2,qcu,qb8,x00,x01,x02,x03,x04,x05,x06,x07,x08]
    rfl
  · have h2 : 65536 < d.length := by omega
    simp (disch:=first|omega|decide|simp only[qaf,qad,qag,qae,qah,qac,qaa,qab,qai]) only[qbk,qbI,qat,qaX,qao,qan,qal,qak,qbm,qcv,qar,qay,qaJ,qaq,qcd,qaH,qcx,qaG,qaj,qdx,inBlock_ret,qaD,qa3,qas,qbr,zM,zN,zO,zP,zI,zR,qbd,z7,zK,zJ,zH,Nat.reduceAdd,Nat.reduceSub,qaR,qct,qbn,qbV,op_fa,qcy,zzE,zzA,zw,Nat.reduceLeDiff,zD,zA,zB,zT,zL,qc4,zB,zA,qaW,N_gtr,Nat.reduceLeDiff,Nat.reduceAdd,zL,zT,op_chk,qcq,eqp_ptr,qcm,qbA,qb9,qaI,qaA,zH,Nat.reduceSub,qam,qam,L42,hG,x00,h,h2,eqp_ptr]
    have hch:qbL G FUEL [] [(0,0),(0,1),(0,2),(0,3),(0,4),(0,5),(0,6),(0,7),(0,8)]=[(0,0),(0,1),(0,2),(0,3),(0,4),(0,5),(0,6),(0,7),(0,8)]:=(qaw rfl x00 rfl).trans ((qaw rfl x01 (qbu _ _)).trans ((qaw rfl x02 (qaP _)).trans ((qaw rfl x03 (qbu _ _)).trans ((qaw rfl x04 (qaP _)).trans ((qbi rfl).trans ((qbi rfl).trans ((qbi rfl).trans ((qbi rfl).trans ((qaw rfl x05 (qaP _)).trans ((qaw rfl x06 rfl).trans ((qbi rfl).trans ((qaw rfl x07 rfl).trans ((qaw rfl x08 rfl).trans ((qbi rfl).trans (qaB _ _ _)))))))))))))))
    have hcn:qav G 9 [.tup [Nil,N 30]]=[]:=canon_of rfl hch rfl
    refine out_fin hcn ?_
    simp (disch:=first|omega|decide|simp only[qaf,qad,qag,qae,qah,qac,qaa,qab,qai]) only[qcu,zG,zC,zH,zF,zS,qcK,zzB,zH,qaK,qb2,qbq,qcE,qbK,range_9,qbt,qaK,qbq,qb2,qcu,qb8,x00,x01,x02,x03,x04,x05,x06,x07,x08]
    rfl
theorem encrb23S_F (k n:Nat) (la lb:List (BitVec 8)) (u:BitVec 64) (d:List (BitVec 8)) (L:List (BitVec 8)) (off:Nat) (c:Option Nat) (hd:d.length < 16∨65536 < d.length) (hd2:d.length < 9223372036854775808) :
    F C (k+5003) 23 [.ptr (0,0) 0,B64 u,.sl (0,5) off d.length c 1] [[.ptr (0,1) 0,.ptr (0,3) 0],CF (.sl (0,2) 0 (n+2) none 16) TB,bs la,CF (.sl (0,4) 0 (n+2) none 16) TB,bs lb,bs L]=some (.tup [Nil,N 30],[some ([.ptr (0,1) 0,.ptr (0,3) 0]),some (CF (.sl (0,2) 0 (n+2) none 16) TB),some (bs la),some (CF (.sl (0,4) 0 (n+2) none 16) TB),some (bs lb),some (bs L)],[]):=by
  rw[qbT f23]
  generalize hG:upd (upd (upd (qb4 [[.ptr (0,1) 0,.ptr (0,3) 0],CF (.sl (0,2) 0 (n+2) none 16) TB,bs la,CF (.sl (0,4) 0 (n+2) none 16) TB,bs lb,bs L]) (2,0) (some [.ptr (0,0) 0])) (3,0) (some [B64 u])) (4,0) (some [.sl (0,5) off d.length c 1])=G
  have x00:G (0,0)=some ([.ptr (0,1) 0,.ptr (0,3) 0]):=by rw[←hG]; rfl
  have x01:G (0,1)=some (CF (.sl (0,2) 0 (n+2) none 16) TB):=by rw[←hG]; rfl
  have x02:G (0,2)=some (bs la):=by rw[←hG]; rfl
  have x03:G (0,3)=some (CF (.sl (0,4) 0 (n+2) none 16) TB):=by rw[←hG]; rfl
  have x04:G (0,4)=some (bs lb):=by rw[←hG]; rfl
  have x05:G (0,5)=some (bs L):=by rw[←hG]; rfl
  have x20:G (2,0)=some ([.ptr (0,0) 0]):=by rw[←hG]; rfl
  have x30:G (3,0)=some ([B64 u]):=by rw[←hG]; rfl
  have x40:G (4,0)=some ([.sl (0,5) off d.length c 1]):=by rw[←hG]; rfl
  have hr:qbL G FUEL [] [(0,0),(0,5),(2,0),(3,0),(4,0)]=[(0,0),(0,1),(0,2),(0,3),(0,4),(0,5),(2,0),(3,0),(4,0)]:=(qaw rfl x00 rfl).trans ((qaw rfl x01 (qbu _ _)).trans ((qaw rfl x02 (qaP _)).trans ((qaw rfl x03 (qbu _ _)).trans ((qaw rfl x04 (qaP _)).trans ((qaw rfl x05 (qaP _)).trans ((qaw rfl x20 rfl).trans ((qbi rfl).trans ((qaw rfl x30 rfl).trans ((qaw rfl x40 rfl).trans ((qbi rfl).trans (qaB _ _ _)))))))))))
  have ho:(([(0,0),(0,1),(0,2),(0,3),(0,4),(0,5),(2,0),(3,0),(4,0)]:List Nm).filterMap G).map (fun cs=>cs.map (ren D (qbx [(0,0),(0,1),(0,2),(0,3),(0,4),(0,5),(2,0),(3,0),(4,0)])))=[[.ptr (0,1) 0,.ptr (0,3) 0],CF (.sl (0,2) 0 (n+2) none 16) TB,bs la,CF (.sl (0,4) 0 (n+2) none 16) TB,bs lb,bs L,[.ptr (0,0) 0],[B64 u],[.sl (0,5) off d.length c 1]]:=by
    rw[show ([(0,0),(0,1),(0,2),(0,3),(0,4),(0,5),(2,0),(3,0),(4,0)]:List Nm).filterMap G=[[.ptr (0,1) 0,.ptr (0,3) 0],CF (.sl (0,2) 0 (n+2) none 16) TB,bs la,CF (.sl (0,4) 0 (n+2) none 16) TB,bs lb,bs L,[.ptr (0,0) 0],[B64 u],[.sl (0,5) off d.length c 1]] by simp only[List.filterMap_cons,zzB,x00,x01,x02,x03,x04,x05,x20,x30,x40]]
    simp only[zG,zC,qbt,qaK]
    rfl
  have hc:∀ b,qbD (envC C (k+5002)) G b 42 [.ptr (0,0) 0,.sl (0,5) off d.length c 1,.fn (.func 43) [] [.ptr (2,0) 0,.ptr (3,0) 0,.ptr (4,0) 0]]=some ⟨.tup [Nil,N 30],[],[((0,0),some ([.ptr (0,1) 0,.ptr (0,3) 0])),((0,1),some (CF (.sl (0,2) 0 (n+2) none 16) TB)),((0,2),some (bs la)),((0,3),some (CF (.sl (0,4) 0 (n+2) none 16) TB)),((0,4),some (bs lb)),((0,5),some (bs L)),((2,0),some ([.ptr (0,0) 0])),((3,0),some ([B64 u])),((4,0),some ([.sl (0,5) off d.length c 1]))]⟩:=by
    intro b
    rw[call_gen0 (k+5002) b 42 l42 G _ [.ptr (0,0) 0,.sl (0,5) off d.length c 1,.fn (.func 43) [] [.ptr (0,6) 0,.ptr (0,7) 0,.ptr (0,8) 0]] [(0,0),(0,5),(2,0),(3,0),(4,0)] _ _ _ (by simp only[zV,zX,qaE,qaQ,fn3_nms,zI,zR,zQ]) hr (by simp only[zG,zC]; rfl) ho (unitb43S_F k n la lb u d L off c hd hd2),qdp]
    simp only[zG,zC,List.zipWith_cons_cons,List.zipWith_nil_left,zH,qbt,qaK]
    rfl
  have hm:modN [((0,0),some ([.ptr (0,1) 0,.ptr (0,3) 0])),((0,1),some (CF (.sl (0,2) 0 (n+2) none 16) TB)),((0,2),some (bs la)),((0,3),some (CF (.sl (0,4) 0 (n+2) none 16) TB)),((0,4),some (bs lb)),((0,5),some (bs L)),((2,0),some ([.ptr (0,0) 0])),((3,0),some ([B64 u])),((4,0),some ([.sl (0,5) off d.length c 1]))] G=G:=by
    simp only[qa6,qaA,qbf x40,qbf x30,qbf x20,qbf x05,qbf x04,qbf x03,qbf x02,qbf x01,qbf x00]
  simp (disch:=first|omega|decide|simp only[qaf,qad,qag,qae,qah,qac,qaa,qab,qai]) only[qbk,qbI,qat,qao,qan,qal,qak,qar,qay,qaJ,qaq,qaH,qa7,qa1,qaj,qbr,zM,zN,zO,zP,zG,zC,zI,zR,qbd,z7,zK,zJ,zH,Nat.reduceAdd,Nat.reduceSub,cellsOf_B64,qaR,qct,qbn,qbV,op_box,qcH,zzE,zw,zzJ,zD,zA,zB,Nat.le_refl,qc4,zB,zA,Nat.reduceAdd,cellsOf_sl,cellsOf_ptr,qaI,qaZ,qaA,zH,List.getElem?_cons_zero,List.getElem?_cons_succ,qcJ,qcp,List.getElem?_cons_zero,List.getElem?_cons_succ,Nat.reduceSub,qam,qam,L23,hG,op_fn,x20,x40,hc,hm]
  have hch:qbL G FUEL [] [(0,0),(0,1),(0,2),(0,3),(0,4),(0,5)]=[(0,0),(0,1),(0,2),(0,3),(0,4),(0,5)]:=(qaw rfl x00 rfl).trans ((qaw rfl x01 (qbu _ _)).trans ((qaw rfl x02 (qaP _)).trans ((qaw rfl x03 (qbu _ _)).trans ((qaw rfl x04 (qaP _)).trans ((qbi rfl).trans ((qbi rfl).trans ((qbi rfl).trans ((qbi rfl).trans ((qaw rfl x05 (qaP _)).trans (qaB _ _ _))))))))))
  have hcn:qav G 6 [.tup [Nil,N 30]]=[]:=canon_of rfl hch rfl
  refine out_fin hcn ?_
  simp (disch:=first|omega|decide|simp only[qaf,qad,qag,qae,qah,qac,qaa,qab,qai]) only[zG,zC,zH,zF,zS,qcK,zzB,zH,qaK,qb2,qbq,qcE,qbK,range_6,qbt,qaK,qbq,qb2,qb8,x00,x01,x02,x03,x04,x05]
  rfl
theorem encrb26S_F (k n:Nat) (la lb:List (BitVec 8)) (u:BitVec 64) (d:List (BitVec 8)) (L:List (BitVec 8)) (off:Nat) (c:Option Nat) (hd:d.length < 16∨65536 < d.length) (hd2:d.length < 9223372036854775808) :
    F C (k+5003) 26 [.ptr (0,0) 0,B64 u,.sl (0,5) off d.length c 1] [[.ptr (0,1) 0,.ptr (0,3) 0],CF (.sl (0,2) 0 (n+2) none 16) TB,bs la,CF (.sl (0,4) 0 (n+2) none 16) TB,bs lb,bs L]=some (.tup [Nil,N 30],[some ([.ptr (0,1) 0,.ptr (0,3) 0]),some (CF (.sl (0,2) 0 (n+2) none 16) TB),some (bs la),some (CF (.sl (0,4) 0 (n+2) none 16) TB),some (bs lb),some (bs L)],[]):=by
  rw[qbT f26]
  generalize hG:upd (upd (upd (qb4 [[.ptr (0,1) 0,.ptr (0,3) 0],CF (.sl (0,2) 0 (n+2) none 16) TB,bs la,CF (.sl (0,4) 0 (n+2) none 16) TB,bs lb,bs L]) (2,0) (some [.ptr (0,0) 0])) (3,0) (some [B64 u])) (4,0) (some [.sl (0,5) off d.length c 1])=G
  have x00:G (0,0)=some ([.ptr (0,1) 0,.ptr (0,3) 0]):=by rw[←hG]; rfl
  have x01:G (0,1)=some (CF (.sl (0,2) 0 (n+2) none 16) TB):=by rw[←hG]; rfl
  have x02:G (0,2)=some (bs la):=by rw[←hG]; rfl
  have x03:G (0,3)=some (CF (.sl (0,4) 0 (n+2) none 16) TB):=by rw[←hG]; rfl
  have x04:G (0,4)=some (bs lb):=by rw[←hG]; rfl
  have x05:G (0,5)=some (bs L):=by rw[←hG]; rfl
  have x20:G (2,0)=some ([.ptr (0,0) 0]):=by rw[←hG]; rfl
  have x30:G (3,0)=some ([B64 u]):=by rw[←hG]; rfl
  have x40:G (4,0)=some ([.sl (0,5) off d.length c 1]):=by rw[←hG]; rfl
  have hr:qbL G FUEL [] [(0,0),(0,5),(2,0),(3,0),(4,0)]=[(0,0),(0,1),(0,2),(0,3),(0,4),(0,5),(2,0),(3,0),(4,0)]:=(qaw rfl x00 rfl).trans ((qaw rfl x01 (qbu _ _)).trans ((qaw rfl x02 (qaP _)).trans ((qaw rfl x03 (qbu _ _)).trans ((qaw rfl x04 (qaP _)).trans ((qaw rfl x05 (qaP _)).trans ((qaw rfl x20 rfl).trans ((qbi rfl).trans ((qaw rfl x30 rfl).trans ((qaw rfl x40 rfl).trans ((qbi rfl).trans (qaB _ _ _)))))))))))
  have ho:(([(0,0),(0,1),(0,2),(0,3),(0,4),(0,5),(2,0),(3,0),(4,0)]:List Nm).filterMap G).map (fun cs=>cs.map (ren D (qbx [(0,0),(0,1),(0,2),(0,3),(0,4),(0,5),(2,0),(3,0),(4,0)])))=[[.ptr (0,1) 0,.ptr (0,3) 0],CF (.sl (0,2) 0 (n+2) none 16) TB,bs la,CF (.sl (0,4) 0 (n+2) none 16) TB,bs lb,bs L,[.ptr (0,0) 0],[B64 u],[.sl (0,5) off d.length c 1]]:=by
    rw[show ([(0,0),(0,1),(0,2),(0,3),(0,4),(0,5),(2,0),(3,0),(4,0)]:List Nm).filterMap G=[[.ptr (0,1) 0,.ptr (0,3) 0],CF (.sl (0,2) 0 (n+2) none 16) TB,bs la,CF (.sl (0,4) 0 (n+2) none 16) TB,bs lb,bs L,[.ptr (0,0) 0],[B64 u],[.sl (0,5) off d.length c 1]] by simp only[List.filterMap_cons,zzB,x00,x01,x02,x03,x04,x05,x20,x30,x40]]
    simp only[zG,zC,qbt,qaK]
    rfl
  have hc:∀ b,qbD (envC C (k+5002)) G b 42 [.ptr (0,0) 0,.sl (0,5) off d.length c 1,.fn (.func 46) [] [.ptr (2,0) 0,.ptr (3,0) 0,.ptr (4,0) 0]]=some ⟨.tup [Nil,N 30],[],[((0,0),some ([.ptr (0,1) 0,.ptr (0,3) 0])),((0,1),some (CF (.sl (0,2) 0 (n+2) none 16) TB)),((0,2),some (bs la)),((0,3),some (CF (.sl (0,4) 0 (n+2) none 16) TB)),((0,4),some (bs lb)),((0,5),some (bs L)),((2,0),some ([.ptr (0,0) 0])),((3,0),some ([B64 u])),((4,0),some ([.sl (0,5) off d.length c 1]))]⟩:=by
    intro b
    rw[call_gen0 (k+5002) b 42 l42 G _ [.ptr (0,0) 0,.sl (0,5) off d.length c 1,.fn (.func 46) [] [.ptr (0,6) 0,.ptr (0,7) 0,.ptr (0,8) 0]] [(0,0),(0,5),(2,0),(3,0),(4,0)] _ _ _ (by simp only[zV,zX,qaE,qaQ,fn3_nms,zI,zR,zQ]) hr (by simp only[zG,zC]; rfl) ho (unitb46S_F k n la lb u d L off c hd hd2),qdp]
    simp only[zG,zC,List.zipWith_cons_cons,List.zipWith_nil_left,zH,qbt,qaK]
    rfl
  have hm:modN [((0,0),some ([.ptr (0,1) 0,.ptr (0,3) 0])),((0,1),some (CF (.sl (0,2) 0 (n+2) none 16) TB)),((0,2),some (bs la)),((0,3),some (CF (.sl (0,4) 0 (n+2) none 16) TB)),((0,4),some (bs lb)),((0,5),some (bs L)),((2,0),some ([.ptr (0,0) 0])),((3,0),some ([B64 u])),((4,0),some ([.sl (0,5) off d.length c 1]))] G=G:=by
    simp only[qa6,qaA,qbf x40,qbf x30,qbf x20,qbf x05,qbf x04,qbf x03,qbf x02,qbf x01,qbf x00]
  simp (disch:=first|omega|decide|simp only[qaf,qad,qag,qae,qah,qac,qaa,qab,qai]) only[qbk,qbI,qat,qao,qan,qal,qak,qar,qay,qaJ,qaq,qaH,qa7,qa1,qaj,qbr,zM,zN,zO,zP,zG,zC,zI,zR,qbd,z7,zK,zJ,zH,Nat.reduceAdd,Nat.reduceSub,cellsOf_B64,qaR,qct,qbn,qbV,op_box,qcH,zzE,zw,zzJ,zD,zA,zB,Nat.le_refl,qc4,zB,zA,Nat.reduceAdd,cellsOf_sl,cellsOf_ptr,qaI,qaZ,qaA,zH,List.getElem?_cons_zero,List.getElem?_cons_succ,qcJ,qcp,List.getElem?_cons_zero,List.getElem?_cons_succ,Nat.reduceSub,qam,qam,L26,hG,op_fn,x20,x40,hc,hm]
  have hch:qbL G FUEL [] [(0,0),(0,1),(0,2),(0,3),(0,4),(0,5)]=[(0,0),(0,1),(0,2),(0,3),(0,4),(0,5)]:=(qaw rfl x00 rfl).trans ((qaw rfl x01 (qbu _ _)).trans ((qaw rfl x02 (qaP _)).trans ((qaw rfl x03 (qbu _ _)).trans ((qaw rfl x04 (qaP _)).trans ((qbi rfl).trans ((qbi rfl).trans ((qbi rfl).trans ((qbi rfl).trans ((qaw rfl x05 (qaP _)).trans (qaB _ _ _))))))))))
  have hcn:qav G 6 [.tup [Nil,N 30]]=[]:=canon_of rfl hch rfl
  refine out_fin hcn ?_
  simp (disch:=first|omega|decide|simp only[qaf,qad,qag,qae,qah,qac,qaa,qab,qai]) only[zG,zC,zH,zF,zS,qcK,zzB,zH,qaK,qb2,qbq,qcE,qbK,range_6,qbt,qaK,qbq,qb2,qb8,x00,x01,x02,x03,x04,x05]
  rfl
end Aes
namespace Aes
open Go Go.LE Xf
set_option maxRecDepth 20000
theorem XG.ne6 {p a ka b kb m:Nm} (hx:m ∉ [p,a,ka,b,kb]):m≠p∧m≠a∧m≠ka∧m≠b∧m≠kb:=by
  simp only[List.mem_cons,List.not_mem_nil,zl,not_or] at hx
  exact hx
theorem XG.cee6 {H:Heap} {p a ka b kb m:Nm} {n:Nat} {la lb:List (BitVec 8)} (h:XG H p a ka b kb n la lb) (hx:m ∉ [p,a,ka,b,kb]):qbx [p,a,ka,b,kb,m] p=some (0,0)∧qbx [p,a,ka,b,kb,m] a=some (0,1)∧qbx [p,a,ka,b,kb,m] ka=some (0,2)∧qbx [p,a,ka,b,kb,m] b=some (0,3)∧qbx [p,a,ka,b,kb,m] kb=some (0,4)∧qbx [p,a,ka,b,kb,m] m=some (0,5):=by
  obtain ⟨⟨h1,h2,h3,h4⟩,⟨h5,h6,h7⟩,⟨h8,h9⟩,h10⟩:=h.ne
  obtain ⟨m1,m2,m3,m4,m5⟩:=XG.ne6 hx
  refine ⟨?_,?_,?_,?_,?_,?_⟩ <;> simp[qbx,idx,Ne.symm h1,Ne.symm h2,Ne.symm h3,Ne.symm h4,Ne.symm h5,Ne.symm h6,Ne.symm h7,Ne.symm h8,Ne.symm h9,Ne.symm h10,Ne.symm m1,Ne.symm m2,Ne.symm m3,Ne.symm m4,Ne.symm m5]
theorem XG.reach6 {H:Heap} {p a ka b kb m:Nm} {n:Nat} {la lb L:List (BitVec 8)} (h:XG H p a ka b kb n la lb) (hx:m ∉ [p,a,ka,b,kb]) (hm:H m=some (bs L)):Go.LE.qbL H FUEL [] [p,m]=[p,a,ka,b,kb,m]:=by
  obtain ⟨⟨h1,h2,h3,h4⟩,⟨h5,h6,h7⟩,⟨h8,h9⟩,h10⟩:=h.ne
  obtain ⟨m1,m2,m3,m4,m5⟩:=XG.ne6 hx
  have f:∀ (x:Nm) (l:List Nm),x ∉ l→l.contains x=false:=fun x l hl=>by simpa using hl
  exact ((qaw (by rfl) h.hp rfl).trans <| (qaw (f _ _ (by simp [h1])) h.ha (qbu _ _)).trans <| (qaw (f _ _ (by simp [h2, h5])) h.hka (qaP _)).trans <|
    (qaw (f _ _ (by simp[h3,h6,h8])) h.hb (qbu _ _)).trans <| (qaw (f _ _ (by simp[h4,h7,h9,h10])) h.hkb (qaP _)).trans <| (qaw (f _ _ (by simp[m1,m2,m3,m4,m5])) hm (qaP _)).trans <| qaB _ _ _)
theorem c_enI (K g n base:Nat) (hg:qcf g=fun _=>false) (H:Heap) (p a ka b kb:Nm) (la lb:List (BitVec 8)) (X:XG H p a ka b kb n la lb) (u:BitVec 64) (d R0:List (BitVec 8)) (len:Nat)
    (hF:F C K g [.ptr (0,0) 0,B64 u,.isl (bs d) d.length] [PO,KA 2 n,bs la,KA 4 n,bs lb]=some (.tup [.sl (1,0) 0 len none 1,N 0],[some PO,some (KA 2 n),some (bs la),some (KA 4 n),some (bs lb)],[bs R0])) :
    qbD (envC C K) H base g [.ptr p 0,B64 u,.isl (bs d) d.length]=some ⟨.tup [.sl (base,0) 0 len none 1,N 0],[bs R0],modX p a ka b kb n la lb⟩:=by
  obtain ⟨c0,c1,c2,c3,c4⟩:=X.cee
  have hr:Go.LE.qbL H FUEL [] [p]=[p,a,ka,b,kb]:=X.reach
  have ho:([p,a,ka,b,kb].filterMap H).map (fun cs=>cs.map (ren D (qbx [p,a,ka,b,kb])))=[PO,KA 2 n,bs la,KA 4 n,bs lb]:=by
    simp only[List.filterMap_cons,zzB,X.hp,X.ha,X.hka,X.hb,X.hkb,zG,zC,qb2,c1,c3,qcE,qbt,qbq,c2,c4,qbK,qaK,PO,KA]
  rw[call_gen0 K base g hg H _ [.ptr (0,0) 0,B64 u,.isl (bs d) d.length] [p] _ _ _ (by simp only[zV,zX,qaE,qbR,qbw,zQ]) hr (by simp only[zG,zC,qb2,c0,qcE,qcu,qbO]) ho hF,qdp]
  simp only[PO,KA,modX,List.zipWith_cons_cons,List.zipWith_nil_left,zH,zG,zC,qb2,qbq,qbt,qaK,toCaller_0,List.getElem?_cons_zero,List.getElem?_cons_succ,qcE,qbK,zK,zJ,zA,qb8]
  rfl
theorem c_enS (K g n base:Nat) (hg:qcf g=fun _=>false) (H:Heap) (p a ka b kb m:Nm) (la lb:List (BitVec 8)) (X:XG H p a ka b kb n la lb) (u:BitVec 64) (d L R0:List (BitVec 8)) (off:Nat) (c:Option Nat) (hm:H m=some (bs L)) (hx:m ∉ [p,a,ka,b,kb]) (len:Nat)
    (hF:F C K g [.ptr (0,0) 0,B64 u,.sl (0,5) off d.length c 1] [PO,KA 2 n,bs la,KA 4 n,bs lb,bs L]=some (.tup [.sl (1,0) 0 len none 1,N 0],[some PO,some (KA 2 n),some (bs la),some (KA 4 n),some (bs lb),some (bs L)],[bs R0])) :
    qbD (envC C K) H base g [.ptr p 0,B64 u,.sl m off d.length c 1]=some ⟨.tup [.sl (base,0) 0 len none 1,N 0],[bs R0],modX p a ka b kb n la lb++[(m,some (bs L))]⟩:=by
  obtain ⟨c0,c1,c2,c3,c4,c5⟩:=X.cee6 hx
  have hr:Go.LE.qbL H FUEL [] [p,m]=[p,a,ka,b,kb,m]:=X.reach6 hx hm
  have ho:([p,a,ka,b,kb,m].filterMap H).map (fun cs=>cs.map (ren D (qbx [p,a,ka,b,kb,m])))=[PO,KA 2 n,bs la,KA 4 n,bs lb,bs L]:=by
    simp only[List.filterMap_cons,zzB,X.hp,X.ha,X.hka,X.hb,X.hkb,hm,zG,zC,qb2,c1,c3,qcE,qbt,qbq,c2,c4,qbK,qaK,PO,KA]
  rw[call_gen0 K base g hg H _ [.ptr (0,0) 0,B64 u,.sl (0,5) off d.length c 1] [p,m] _ _ _ (by simp only[zV,zX,qaE,qbR,qaQ,zI,zR,zQ]) hr (by simp only[zG,zC,qb2,qbq,c0,c5,qcE,qbK,qcu]) ho hF,qdp]
  simp only[PO,KA,modX,List.zipWith_cons_cons,List.zipWith_nil_left,zH,zG,zC,qb2,qbq,qbt,qaK,toCaller_0,List.getElem?_cons_zero,List.getElem?_cons_succ,qcE,qbK,zK,zJ,zA,qb8,zR,zI]
  rfl
theorem c_badS (K g n base:Nat) (hg:qcf g=fun _=>false) (H:Heap) (p a ka b kb m:Nm) (la lb:List (BitVec 8)) (X:XG H p a ka b kb n la lb) (u:BitVec 64) (d L:List (BitVec 8)) (off:Nat) (c:Option Nat) (hm:H m=some (bs L)) (hx:m ∉ [p,a,ka,b,kb])
    (hF:F C K g [.ptr (0,0) 0,B64 u,.sl (0,5) off d.length c 1] [PO,KA 2 n,bs la,KA 4 n,bs lb,bs L]=some (.tup [Nil,N 30],[some PO,some (KA 2 n),some (bs la),some (KA 4 n),some (bs lb),some (bs L)],[])) :
    qbD (envC C K) H base g [.ptr p 0,B64 u,.sl m off d.length c 1]=some ⟨.tup [Nil,N 30],[],modX p a ka b kb n la lb++[(m,some (bs L))]⟩:=by
  obtain ⟨c0,c1,c2,c3,c4,c5⟩:=X.cee6 hx
  have hr:Go.LE.qbL H FUEL [] [p,m]=[p,a,ka,b,kb,m]:=X.reach6 hx hm
  have ho:([p,a,ka,b,kb,m].filterMap H).map (fun cs=>cs.map (ren D (qbx [p,a,ka,b,kb,m])))=[PO,KA 2 n,bs la,KA 4 n,bs lb,bs L]:=by
    simp only[List.filterMap_cons,zzB,X.hp,X.ha,X.hka,X.hb,X.hkb,hm,zG,zC,qb2,c1,c3,qcE,qbt,qbq,c2,c4,qbK,qaK,PO,KA]
  rw[call_gen0 K base g hg H _ [.ptr (0,0) 0,B64 u,.sl (0,5) off d.length c 1] [p,m] _ _ _ (by simp only[zV,zX,qaE,qbR,qaQ,zI,zR,zQ]) hr (by simp only[zG,zC,qb2,qbq,c0,c5,qcE,qbK,qcu]) ho hF,qdp]
  simp only[PO,KA,modX,List.zipWith_cons_cons,List.zipWith_nil_left,zH,zG,zC,qb2,qbq,qbt,qaK,toCaller_0,List.getElem?_cons_zero,List.getElem?_cons_succ,qcE,qbK,zJ,qb8,zR,zI]
  rfl
end Aes
namespace Aes
open Go Go.LE Xf
def kz:List (BitVec 8):=[0#8,0#8,0#8,0#8,0#8,0#8,0#8,0#8,0#8,0#8,0#8,0#8,0#8,0#8,0#8,0#8]
def Wz:List (BitVec 8):=[0#8,0#8,0#8,0#8,0#8,0#8,0#8,0#8,0#8,0#8,0#8,0#8,0#8,0#8,0#8,0#8,98#8,99#8,99#8,99#8,98#8,99#8,99#8,99#8,98#8,99#8,99#8,99#8,98#8,99#8,99#8,99#8,155#8,152#8,152#8,201#8,249#8,251#8,251#8,170#8,155#8,152#8,152#8,201#8,249#8,251#8,251#8,170#8,144#8,151#8,52#8,80#8,105#8,108#8,207#8,250#8,242#8,244#8,87#8,51#8,11#8,15#8,172#8,153#8,238#8,6#8,218#8,123#8,135#8,106#8,21#8,129#8,117#8,158#8,66#8,178#8,126#8,145#8,238#8,43#8,127#8,46#8,43#8,136#8,248#8,68#8,62#8,9#8,141#8,218#8,124#8,187#8,243#8,75#8,146#8,144#8,236#8,97#8,75#8,133#8,20#8,37#8,117#8,140#8,153#8,255#8,9#8,55#8,106#8,180#8,155#8,167#8,33#8,117#8,23#8,135#8,53#8,80#8,98#8,11#8,172#8,175#8,107#8,60#8,198#8,27#8,240#8,155#8,14#8,249#8,3#8,51#8,59#8,169#8,97#8,56#8,151#8,6#8,10#8,4#8,81#8,29#8,250#8,159#8,177#8,212#8,216#8,226#8,138#8,125#8,185#8,218#8,29#8,123#8,179#8,222#8,76#8,102#8,73#8,65#8,180#8,239#8,91#8,203#8,62#8,146#8,226#8,17#8,35#8,233#8,81#8,207#8,111#8,143#8,24#8,142#8]
def csz:List (BitVec 8):=[1#8,2#8,4#8,8#8,16#8,32#8,64#8,128#8,27#8,54#8,108#8]
theorem ksz_step:∀ m:Fin 40,kstep 4 (4+m.val) (Wz.take (16+4*m.val),csz.getD ((m.val+3) / 4) 0#8)=(Wz.take (16+4*(m.val+1)),csz.getD ((m.val+4) / 4) 0#8):=by decide +kernel
theorem ksz:∀ m,m≤40→KS 4 kz m=(Wz.take (16+4*m),csz.getD ((m+3) / 4) 0#8):=by
  intro m
  induction m with
  | zero=>intro _; rfl
  | succ m ih=>intro h; rw[KS,ih (by omega)]; exact ksz_step ⟨m,by omega⟩
theorem W_kz:W 4 kz=Wz:=by
  rw[W,ksz 40 (Nat.le_refl _)]; rfl
theorem enc_by (p ct:List (BitVec 8)) (S:List (List (BitVec 8))) (h0:∀ i:Fin 16,add (fl p) (kf Wz 0) i.val=fl (S.getD 0 []) i.val)
    (hs:∀ r:Fin 9,∀ i:Fin 16,add (mix (rnd (fl (S.getD r.val [])))) (kf Wz (r.val+1)) i.val=fl (S.getD (r.val+1) []) i.val)
    (hl:∀ i:Fin 16,add (rnd (fl (S.getD 9 []))) (kf Wz 10) i.val=fl ct i.val):E16 (enc (kf (W 4 kz)) 9 (fl p)) (fl ct):=by
  rw[W_kz]
  have he:∀ r,r≤9→E16 (encl (kf Wz) (fl p) r) (fl (S.getD r [])):=by
    intro r
    induction r with
    | zero=>intro _ i hi; exact h0 ⟨i,hi⟩
    | succ r ih =>
      intro h
      exact (add_c (mix_c (rnd_c (ih (by omega)))) _).trans fun i hi=>hs ⟨r,by omega⟩ ⟨i,hi⟩
  exact (add_c (rnd_c (he 9 (Nat.le_refl _))) _).trans fun i hi=>hl ⟨i,hi⟩
def Sz0:List (List (BitVec 8)):=[[0#8,0#8,0#8,0#8,0#8,0#8,0#8,0#8,0#8,0#8,0#8,0#8,0#8,0#8,0#8,0#8],
  [1#8,0#8,0#8,0#8,1#8,0#8,0#8,0#8,1#8,0#8,0#8,0#8,1#8,0#8,0#8,0#8],
  [198#8,228#8,228#8,139#8,164#8,135#8,135#8,232#8,198#8,228#8,228#8,139#8,164#8,135#8,135#8,232#8],
  [40#8,45#8,243#8,196#8,106#8,243#8,134#8,37#8,74#8,78#8,144#8,167#8,8#8,144#8,229#8,70#8],
  [171#8,210#8,205#8,254#8,55#8,90#8,181#8,73#8,80#8,160#8,175#8,192#8,117#8,154#8,106#8,95#8],
  [212#8,111#8,79#8,108#8,85#8,184#8,150#8,51#8,126#8,5#8,187#8,61#8,121#8,121#8,222#8,35#8],
  [4#8,242#8,202#8,151#8,7#8,120#8,40#8,69#8,226#8,47#8,1#8,150#8,73#8,197#8,215#8,16#8],
  [183#8,170#8,228#8,197#8,29#8,37#8,45#8,79#8,108#8,146#8,15#8,129#8,148#8,229#8,129#8,80#8],
  [35#8,231#8,140#8,60#8,19#8,33#8,99#8,219#8,170#8,192#8,198#8,87#8,46#8,3#8,203#8,149#8],
  [127#8,254#8,14#8,149#8,81#8,165#8,102#8,53#8,14#8,52#8,124#8,71#8,41#8,41#8,236#8,203#8]]
def pz0:List (BitVec 8):=[0#8,0#8,0#8,0#8,0#8,0#8,0#8,0#8,0#8,0#8,0#8,0#8,0#8,0#8,0#8,0#8]
def cz0:List (BitVec 8):=[102#8,233#8,75#8,212#8,239#8,138#8,44#8,59#8,136#8,76#8,250#8,89#8,202#8,52#8,43#8,46#8]
theorem ez0:E16 (enc (kf (W 4 kz)) 9 (fl pz0)) (fl cz0):=enc_by pz0 cz0 Sz0 (by decide +kernel) (by decide +kernel) (by decide +kernel)
def Sz1:List (List (BitVec 8)):=[[102#8,233#8,75#8,212#8,239#8,138#8,44#8,59#8,136#8,76#8,250#8,89#8,202#8,52#8,43#8,46#8],
  [154#8,234#8,39#8,7#8,5#8,174#8,180#8,81#8,136#8,187#8,255#8,64#8,18#8,115#8,173#8,29#8],
  [117#8,109#8,31#8,187#8,90#8,62#8,31#8,249#8,159#8,199#8,56#8,100#8,102#8,162#8,175#8,242#8],
  [242#8,245#8,149#8,80#8,204#8,36#8,96#8,83#8,72#8,153#8,157#8,150#8,170#8,92#8,253#8,182#8],
  [173#8,79#8,11#8,15#8,63#8,73#8,237#8,64#8,200#8,203#8,34#8,229#8,76#8,17#8,180#8,201#8],
  [77#8,190#8,196#8,37#8,200#8,245#8,207#8,232#8,249#8,89#8,91#8,35#8,186#8,87#8,229#8,147#8],
  [229#8,194#8,67#8,199#8,127#8,15#8,190#8,195#8,218#8,111#8,69#8,237#8,220#8,164#8,164#8,200#8],
  [148#8,26#8,71#8,36#8,230#8,212#8,219#8,16#8,237#8,106#8,51#8,202#8,69#8,107#8,235#8,43#8],
  [160#8,228#8,252#8,39#8,229#8,53#8,126#8,54#8,214#8,156#8,62#8,171#8,189#8,136#8,195#8,222#8],
  [100#8,211#8,246#8,199#8,184#8,189#8,173#8,217#8,8#8,208#8,245#8,161#8,146#8,162#8,1#8,145#8]]
def pz1:List (BitVec 8):=[102#8,233#8,75#8,212#8,239#8,138#8,44#8,59#8,136#8,76#8,250#8,89#8,202#8,52#8,43#8,46#8]
def cz1:List (BitVec 8):=[247#8,149#8,189#8,74#8,82#8,226#8,158#8,215#8,19#8,211#8,19#8,250#8,32#8,233#8,141#8,188#8]
theorem ez1:E16 (enc (kf (W 4 kz)) 9 (fl pz1)) (fl cz1):=enc_by pz1 cz1 Sz1 (by decide +kernel) (by decide +kernel) (by decide +kernel)
def Sz2:List (List (BitVec 8)):=[[204#8,210#8,151#8,168#8,223#8,21#8,89#8,118#8,16#8,153#8,244#8,179#8,148#8,105#8,86#8,92#8],
  [234#8,10#8,202#8,204#8,31#8,48#8,55#8,26#8,77#8,251#8,19#8,39#8,68#8,27#8,206#8,161#8],
  [205#8,162#8,183#8,70#8,179#8,232#8,228#8,227#8,122#8,0#8,193#8,115#8,48#8,87#8,231#8,249#8],
  [166#8,22#8,82#8,70#8,216#8,58#8,28#8,14#8,8#8,105#8,172#8,150#8,171#8,75#8,202#8,195#8],
  [130#8,191#8,53#8,90#8,123#8,36#8,139#8,27#8,112#8,120#8,39#8,28#8,127#8,82#8,67#8,109#8],
  [243#8,34#8,201#8,63#8,193#8,150#8,78#8,171#8,22#8,133#8,240#8,155#8,245#8,82#8,141#8,235#8],
  [56#8,49#8,245#8,71#8,110#8,250#8,191#8,36#8,168#8,166#8,73#8,231#8,40#8,10#8,140#8,2#8],
  [20#8,18#8,210#8,118#8,184#8,139#8,234#8,170#8,74#8,164#8,67#8,140#8,96#8,54#8,180#8,59#8],
  [94#8,181#8,205#8,222#8,141#8,227#8,13#8,56#8,54#8,178#8,71#8,150#8,73#8,178#8,90#8,114#8],
  [210#8,21#8,10#8,59#8,202#8,138#8,147#8,142#8,244#8,203#8,233#8,85#8,25#8,30#8,185#8,53#8]]
def pz2:List (BitVec 8):=[204#8,210#8,151#8,168#8,223#8,21#8,89#8,118#8,16#8,153#8,244#8,179#8,148#8,105#8,86#8,92#8]
def cz2:List (BitVec 8):=[1#8,145#8,69#8,93#8,74#8,141#8,180#8,243#8,156#8,155#8,54#8,214#8,187#8,214#8,196#8,114#8]
theorem ez2:E16 (enc (kf (W 4 kz)) 9 (fl pz2)) (fl cz2):=enc_by pz2 cz2 Sz2 (by decide +kernel) (by decide +kernel) (by decide +kernel)
theorem ofBits_c {c c':R} (h:E16 c c'):ofBits (byteBit c)=ofBits (byteBit c'):=by
  apply BitVec.eq_of_getLsbD_eq
  intro j hj
  rw[ofBits_bit,ofBits_bit]
  simp only[byteBit]
  rw[h (j / 8) (by omega)]
def T0z:BitVec 128:=61368827288258104251737371505591052646#128
def T1z:BitVec 128:=122737654576516208503474743011182105292#128
theorem tz:tw0 9 (W 4 kz) 0#64=T0z:=by
  have h0:E16 (qb1 (U128 0#64)) (fl pz0):=fun i hi=>by
    have:∀ i:Fin 16,qb1 (U128 0#64) i.val=fl pz0 i.val:=by decide +kernel
    exact this ⟨i,hi⟩
  rw[tw0,ofBits_c ((enc_c _ 9 h0).trans ez0)]
  apply BitVec.eq_of_getLsbD_eq
  intro j hj
  rw[ofBits_bit]
  have:∀ j:Fin 128,(decide (j.val < 128) && byteBit (fl cz0) j.val)=T0z.getLsbD j.val:=by decide +kernel
  exact this ⟨j,hj⟩
theorem t1z:GF.dbl 135#128 T0z=T1z:=by decide +kernel
theorem b0z:∀ i:Fin 16,qb1 T0z i.val=fl pz1 i.val:=by decide +kernel
theorem b1z:∀ i:Fin 16,qb1 T1z i.val=fl pz2 i.val:=by decide +kernel
def outz:List (BitVec 8):=[145#8,124#8,246#8,158#8,189#8,104#8,178#8,236#8,155#8,159#8,233#8,163#8,234#8,221#8,166#8,146#8,205#8,67#8,210#8,245#8,149#8,152#8,237#8,133#8,140#8,2#8,194#8,101#8,47#8,191#8,146#8,46#8]
theorem wz (t:BitVec 128) (p c o:List (BitVec 8)) (hb:∀ i:Fin 16,qb1 t i.val=fl p i.val) (he:E16 (enc (kf (W 4 kz)) 9 (fl p)) (fl c)) (hx:∀ i:Fin 16,fl c i.val ^^^ fl p i.val=fl o i.val) (ho:o.length=16) :
    wtl (enc (kf (W 4 kz)) 9) t (List.replicate 16 0#8)=o:=by
  apply list16 (qdm _ _ _) ho
  refine (fl_map _).trans fun j hj => ?_
  have e:E16 (fun i=>fl (List.replicate 16 0#8) i ^^^ qb1 t i) (fl p):=fun i hi=>by
    have:∀ i:Fin 16,fl (List.replicate 16 0#8) i.val=0#8:=by decide
    show fl (List.replicate 16 0#8) i ^^^ qb1 t i=fl p i
    rw[this ⟨i,hi⟩,hb ⟨i,hi⟩,BitVec.zero_xor]
  show enc _ 9 (fun i=>fl (List.replicate 16 0#8) i ^^^ qb1 t i) j ^^^ qb1 t j=fl o j
  rw [((enc_c _ 9 e).trans he) j hj,hb ⟨j,hj⟩]
  exact hx ⟨j,hj⟩
theorem unit_z:qb3 (enc (kf (W 4 kz)) 9) (tw0 9 (W 4 kz) 0#64) (List.replicate 32 0#8) false=outz:=by
  rw [tz, qb3, if_pos (by decide), show (List.replicate 32 (0#8 : BitVec 8)).length / 16 = 2 by decide, done, done, done, show tws T0z 1 = T1z from t1z, show tws T0z 0 = T0z from rfl,
    show blk (List.replicate 32 0#8) 0=List.replicate 16 0#8 by decide,show blk (List.replicate 32 0#8) 1=List.replicate 16 0#8 by decide,
    wz T0z pz1 cz1 [145#8,124#8,246#8,158#8,189#8,104#8,178#8,236#8,155#8,159#8,233#8,163#8,234#8,221#8,166#8,146#8] b0z ez1 (by decide +kernel) rfl,wz T1z pz2 cz2 [205#8,67#8,210#8,245#8,149#8,152#8,237#8,133#8,140#8,2#8,194#8,101#8,47#8,191#8,146#8,46#8] b1z ez2 (by decide +kernel) rfl]
  rfl
end Aes
namespace Aes
open Go Go.LE Xf
set_option maxRecDepth 20000
theorem c_xnew_of (g K b len:Nat) (hg:qcf g 0=true) (H:Heap) (B:LV) (key:List (BitVec 8)) (lent:List Nm) (hs:snap H D B=some (.isl (bs key) key.length,lent)) (O:LV→qaV)
    (hO:∀ r,(O r).all (noImm D)=noImm D r) (hOr:∀ π r,(O r).map (ren D π)=O (ren D π r)) (l1 l2:List (BitVec 8))
    (hF:F C K g [.isl (bs key) key.length] []=some (.tup [.ptr (1,0) 0,N 0],[],[[.ptr (1,1) 0,.ptr (1,3) 0],O (.sl (1,2) 0 len none 16),bs l1,O (.sl (1,4) 0 len none 16),bs l2])) :
    qbD (envC C K) H b g [B]=some ⟨.tup [.ptr (b,0) 0,N 0],[[.ptr (b,1) 0,.ptr (b,3) 0],O (.sl (b,2) 0 len none 16),bs l1,O (.sl (b,4) 0 len none 16),bs l2],[]⟩:=by
  have hlend:lend H ((envC C K).borrow g) 0 [B]=some ([.isl (bs key) key.length],lent):=by
    rw[qdq,lend_nil,envC_borrow,C_bor,if_pos hg,hs,qde,zQ]
  have hn:([.isl (bs key) key.length]:List LV).flatMap (nms D)=[]:=by
    simp only[zV,zX,qbw,zQ]
  have ha:([.isl (bs key) key.length]:List LV).map (ren D (qbx []))=[.isl (bs key) key.length]:=by
    simp only[zG,zC,qbO]
  have hp:plainRes (.tup [.ptr (1,0) 0,N 0],[],[[.ptr (1,1) 0,.ptr (1,3) 0],O (.sl (1,2) 0 len none 16),bs l1,O (.sl (1,4) 0 len none 16),bs l2])=true:=by
    simp only[plainRes,zd,za,hO,noImm_bs]; rfl
  have hl:lent.any (fun n=>([]:List Nm).contains n)=false:=by simp
  rw[callOp_L,hlend,callL_some,hn,show qbL H FUEL [] []=[] from rfl,callN_eq _ _ _ _ _ hl,ha,zzB,zC,envC_cal,hF,resK_any _ _ _ _ hp,qdp]
  simp only[zG,zC,hOr,qaK,qbq,qb2,zK,zJ,toCaller_1,zA,Nat.reduceAdd,Nat.reduceLT,qbK,qcE,List.zipWith_nil_left]
  rfl
theorem c_xnew (k n b:Nat) (hn:n=4∨n=8) (H:Heap) (B:LV) (key:List (BitVec 8)) (hk:key.length=8*n) (lent:List Nm) (hs:snap H D B=some (.isl (bs key) key.length,lent)) :
    qbD (envC C (k+401)) H b 21 [B]=some ⟨.tup [.ptr (b,0) 0,N 0],[[.ptr (b,1) 0,.ptr (b,3) 0],CF (.sl (b,2) 0 (n+7) none 16) TB,bs (W n (key.take (4*n))),CF (.sl (b,4) 0 (n+7) none 16) TB,bs (W n (key.drop (4*n)))],[]⟩ :=
  c_xnew_of 21 _ b (n+7) (by decide) H B key lent hs (fun r=>CF r TB) (fun r=>noImm_CF r _) (fun π r=>qbt π r _) _ _ (xnew_F k n hn key hk)
theorem c_xrnew (k n b:Nat) (hn:n=4∨n=8) (H:Heap) (B:LV) (key:List (BitVec 8)) (hk:key.length=8*n) (lent:List Nm) (hs:snap H D B=some (.isl (bs key) key.length,lent)) :
    qbD (envC C (k+401)) H b 24 [B]=some ⟨.tup [.ptr (b,0) 0,N 0],[[.ptr (b,1) 0,.ptr (b,3) 0],RF (.sl (b,2) 0 (n+7) none 16) TB,bs (W n (key.take (4*n))),RF (.sl (b,4) 0 (n+7) none 16) TB,bs (W n (key.drop (4*n)))],[]⟩ :=
  c_xnew_of 24 _ b (n+7) (by decide) H B key lent hs (fun r=>RF r TB) (fun r=>noImm_RF r _) (fun π r=>qcS π r _) _ _ (xrnew_F k n hn key hk)
theorem c_xbad (g k b:Nat) (hg:g=21∨g=24) (H:Heap) (B:LV) (key:List (BitVec 8)) (hk:key.length < 9223372036854775808) (h:key.length≠32) (h2:key.length≠64) (lent:List Nm) (hs:snap H D B=some (.isl (bs key) key.length,lent)) :
    qbD (envC C (k+1)) H b g [B]=some ⟨.tup [NilP,N 20],[],[]⟩:=by
  rcases hg with rfl | rfl
  · exact c_bad_of 21 _ b (by decide) H B key lent hs (xnew_bad k key hk h h2)
  · exact c_bad_of 24 _ b (by decide) H B key lent hs (xrnew_bad k key hk h h2)
theorem mk_z (b l:Nat) (h:l < 1048576):mkK b 1 1 [B8 0#8] (some l) (some l)=some ⟨.sl (b,0) 0 l (some l) 1,[bs (List.replicate l 0#8)],[]⟩:=by
  rw[mkK,if_pos ⟨Nat.le_refl l,by omega,by omega,rfl⟩]
  congr 3
  rw[←bs_rep]
  clear h
  induction l with
  | zero=>rfl
  | succ l ih=>rw[List.replicate_succ,List.flatten_cons,ih,List.replicate_succ]; rfl
theorem xlives_F (k:Nat):F C (k+5010) 22 [] []=some (Bo true,[],[]):=by
  rw[qbT f22]
  simp (disch:=first|omega|decide|simp only[qaf,qad,qag,qae,qah,qac,qaa,qab,qai]) only[qbk,qat,qao,qan,qal,qak,qar,qay,qaJ,qaH,qa7,qa1,qaj,zM,zN,zO,zP,zG,zC,zI,qbd,z7,zK,zJ,Nat.reduceAdd,zA,zB,zB,zA,qbJ,Nat.reduceAdd,op_mkslice,qaI,qaZ,qaA,Nat.sub_zero,qam,qam,L22,mk_z]
  rw [c_xnew (k + 4608) 4 _ (.inl rfl) _ _ (List.replicate 32 0#8) (by decide) [(3, 0)] (by rw [snap_bytes (3, 0) 0 32 _ (List.replicate 32 0#8) rfl (by decide)]; rfl),
    show (List.replicate 32 (0#8:BitVec 8)).take (4*4)=kz by decide,show (List.replicate 32 (0#8:BitVec 8)).drop (4*4)=kz by decide]
  simp (disch:=first|omega|decide|simp only[qaf,qad,qag,qae,qah,qac,qaa,qab,qai]) only[qbh,qat,qao,qan,qal,qak,qbm,qcv,qar,qay,qaJ,qaq,qcd,qaH,qcx,qaG,qa7,qa1,qaj,qaD,qas,zM,zN,zO,zP,zG,zC,zK,zJ,Nat.reduceAdd,zA,zB,zT,zB,zA,N_neq,qbJ,decide_not,Nat.reduceAdd,zT,ze,eqp_ptr,op_mkslice,qaI,qaZ,qaA,List.getElem?_cons_zero,List.getElem?_cons_succ,qcJ,qcp,List.getElem?_cons_zero,List.getElem?_cons_succ,ze,qam,qam,mk_z,eqp_ptr]
  generalize hG:upd _ (17,0) (some (bs (List.replicate 32 0#8)))=G
  have X:XG G (4,0) (4,1) (4,2) (4,3) (4,4) 9 (W 4 kz) (W 4 kz):=by rw[←hG]; exact ⟨rfl,rfl,rfl,rfl,rfl,by decide⟩
  have hz:G (17,0)=some (bs (List.replicate 32 0#8)):=by rw[←hG]; rfl
  clear hG
  have hwl:(W 4 kz).length=16*(9+2):=W_length 4 kz rfl
  have hc:∀ b,qbD (envC C (k+5009)) G b 23 [.ptr (4,0) 0,B64 0#64,.sl (17,0) 0 32 (some 32) 1]=some ⟨.tup [.sl (b,0) 0 32 none 1,N 0],[bs outz],modX (4,0) (4,1) (4,2) (4,3) (4,4) 9 (W 4 kz) (W 4 kz)++[((17,0),some (bs (List.replicate 32 0#8)))]⟩:=by
    intro b
    have hF:=encr23S_F (k+6) 9 (by decide) (W 4 kz) (W 4 kz) hwl hwl 0#64 (List.replicate 32 0#8) (List.replicate 32 0#8) 0 (some 32) (by decide) (by decide) (by decide)
    rw[unit_z] at hF
    exact c_enS (k+5009) 23 9 b l23 G (4,0) (4,1) (4,2) (4,3) (4,4) (17,0) (W 4 kz) (W 4 kz) X 0#64 (List.replicate 32 0#8) (List.replicate 32 0#8) outz 0 (some 32) hz (by decide) 32 hF
  have hm:modN (modX (4,0) (4,1) (4,2) (4,3) (4,4) 9 (W 4 kz) (W 4 kz)++[((17,0),some (bs (List.replicate 32 0#8)))]) G=G:=by
    simp only[modX,zR,zI,qa6,qaA,qbf hz,qbf X.hkb,qbf X.hb,qbf X.hka,qbf X.ha,qbf X.hp]
  simp (disch:=first|omega|decide|simp only[qaf,qad,qag,qae,qah,qac,qaa,qab,qai]) only[qat,qao,qan,qal,qak,qar,qay,qaJ,qaq,qaH,qa7,qa1,qaj,zM,zN,zO,zP,zG,zC,zK,zJ,Nat.reduceAdd,zA,zB,zB,zA,qbJ,Nat.reduceAdd,op_mkslice,qaI,qaZ,qaA,List.getElem?_cons_zero,List.getElem?_cons_succ,qcJ,qcp,List.getElem?_cons_zero,List.getElem?_cons_succ,qam,qam,mk_z,hc,hm]
  generalize hG2:upd (upd G (18,0) _) (25,0) _=G2
  have X2:XG G2 (4,0) (4,1) (4,2) (4,3) (4,4) 9 (W 4 kz) (W 4 kz):=by rw[←hG2]; exact ⟨X.hp,X.ha,X.hka,X.hb,X.hkb,by decide⟩
  have hz2:G2 (25,0)=some (bs (List.replicate 15 0#8)):=by rw[←hG2]; rfl
  have ho:G2 (18,0)=some (bs outz):=by rw[←hG2]; rfl
  clear hG2 hc hm hz X
  have hc:∀ b,qbD (envC C (k+5009)) G2 b 23 [.ptr (4,0) 0,B64 0#64,.sl (25,0) 0 15 (some 15) 1]=some ⟨.tup [Nil,N 30],[],modX (4,0) (4,1) (4,2) (4,3) (4,4) 9 (W 4 kz) (W 4 kz)++[((25,0),some (bs (List.replicate 15 0#8)))]⟩:=by
    intro b
    have hF:=encrb23S_F (k+6) 9 (W 4 kz) (W 4 kz) 0#64 (List.replicate 15 0#8) (List.replicate 15 0#8) 0 (some 15) (.inl (by decide)) (by decide)
    exact c_badS (k+5009) 23 9 b l23 G2 (4,0) (4,1) (4,2) (4,3) (4,4) (25,0) (W 4 kz) (W 4 kz) X2 0#64 (List.replicate 15 0#8) (List.replicate 15 0#8) 0 (some 15) hz2 (by decide) hF
  have hm:modN (modX (4,0) (4,1) (4,2) (4,3) (4,4) 9 (W 4 kz) (W 4 kz)++[((25,0),some (bs (List.replicate 15 0#8)))]) G2=G2:=by
    simp only[modX,zR,zI,qa6,qaA,qbf hz2,qbf X2.hkb,qbf X2.hb,qbf X2.hka,qbf X2.ha,qbf X2.hp]
  have o0:cellK 0 1 (some (bs outz))=some [B8 145#8]:=rfl
  have o15:cellK 15 1 (some (bs outz))=some [B8 146#8]:=rfl
  have o16:cellK 16 1 (some (bs outz))=some [B8 205#8]:=rfl
  have o31:cellK 31 1 (some (bs outz))=some [B8 46#8]:=rfl
  simp (disch:=first|omega|decide|simp only[qaf,qad,qag,qae,qah,qac,qaa,qab,qai]) only[qbI,qat,qao,qan,qal,qak,qbm,guardK_true,qar,qay,qaJ,qaq,qdv,qaH,qcx,qaG,qaj,qbr,qcI,zM,zN,zO,zP,zK,zJ,B8_eql,outOf_Bo,zH,Nat.reduceAdd,qaR,qbn,qbV,zA,zB,zT,zk,zB,zA,N_eql,qbJ,Nat.reduceAdd,zT,qcm,qbA,qb9,op_iaS,qdf,qaI,qaA,zH,zk,List.getElem?_cons_zero,List.getElem?_cons_succ,qcJ,qcp,List.getElem?_cons_zero,List.getElem?_cons_succ,zx,qam,qam,hc,hm,ho,o0,o15,o16,o31]
theorem c_xlives (k b:Nat) (H:Heap):qbD (envC C (k+5010)) H b 22 []=some ⟨Bo true,[],[]⟩:=by
  rw[qda l22 rfl rfl,xlives_F]
  exact calK_plain b fun _=>rfl
end Aes
