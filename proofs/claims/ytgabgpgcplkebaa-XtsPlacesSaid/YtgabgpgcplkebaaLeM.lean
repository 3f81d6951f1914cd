/- xts, the document's: tweaks, evaluated. -/
import Derived.Test.YtgabgpgcplkebaaLeR
import Derived.Test.YtgabgpgcplkebaaLeS
set_option linter.unusedVariables false
set_option linter.unusedSimpArgs false
namespace Aes
open Go Go.LE Xf
set_option maxRecDepth 20000
def RA (i n:Nat):qaV:=RF (.sl (0,i) 0 (n+2) none 16) TB
theorem RA_nms (i n:Nat):(RA i n).flatMap (nms D)=[(0,i)]:=by rw[RA,RF_nms]; rfl
theorem RA_ren (i n:Nat) (names:List Nm):(RA i n).map (ren D (qdg names))=RA i n:=by rw[RA,qcS,qbq,qcK]; rfl
structure PR (H:Heap) (n:Nat) (la lb:List (BitVec 8)):Prop where
  g0:H (0,0)=some PO
  g1:H (0,1)=some (RA 2 n)
  g2:H (0,2)=some (bs la)
  g3:H (0,3)=some (RA 4 n)
  g4:H (0,4)=some (bs lb)
theorem PR.cn {H:Heap} {n:Nat} {la lb:List (BitVec 8)} (h:PR H n la lb) (names:List Nm):PR (cN names H) n la lb :=
  ⟨by rw[qbX,h.g0,zH,PO_ren],by rw[qbX,h.g1,zH,RA_ren],by rw[qbX,h.g2,zH,qaK],by rw[qbX,h.g3,zH,RA_ren],by rw[qbX,h.g4,zH,qaK]⟩
theorem PR.up {H:Heap} {n:Nat} {la lb:List (BitVec 8)} (h:PR H n la lb) (m:Nm) (x:Option qaV) (hm:m.1≠0):PR (upd H m x) n la lb:=by
  have e:∀ j,upd H m x (0,j)=H (0,j):=fun j=>by
    rw[qap,if_neg (fun h=>hm (by rw[←h]))]
  exact ⟨by rw[e]; exact h.g0,by rw[e]; exact h.g1,by rw[e]; exact h.g2,by rw[e]; exact h.g3,by rw[e]; exact h.g4⟩
def fst8 (u:BitVec 64) (i:Nat):R:=fun j=>if j < i then qb1 (U128 u) j else 0#8
theorem byte_U (u:BitVec 64) (i:Nat) (h:i < 8):(u >>> (8*i)).setWidth 8=qb1 (U128 u) i:=by
  apply BitVec.eq_of_getLsbD_eq
  intro n hn
  rw[byteOf_bit,BitVec.getLsbD_setWidth,BitVec.getLsbD_ushiftRight,U128,BitVec.getLsbD_setWidth]
  have:8*i+n < 128:=by omega
  simp[this]
theorem byte_U0 (u:BitVec 64) (i:Nat) (h:8≤i):qb1 (U128 u) i=0#8:=by
  apply BitVec.eq_of_getLsbD_eq
  intro n hn
  rw[byteOf_bit,U128,BitVec.getLsbD_setWidth,BitVec.getLsbD_of_ge u _ (by omega)]
  simp
theorem fst8_succ (u:BitVec 64) (i:Nat):set1 (fst8 u i) i (qb1 (U128 u) i)=fst8 u (i+1):=by
  funext j
  simp only[set1,fst8]
  by_cases h:j=i
  · subst h; rw[if_pos rfl,if_pos (Nat.lt_succ_self _)]
  · rw [if_neg h]
    by_cases h':j < i
    · rw[if_pos h',if_pos (by omega)]
    · rw[if_neg h',if_neg (by omega)]
theorem fst8_all (u:BitVec 64):aB 16 (fst8 u 8)=aB 16 (qb1 (U128 u)):=aB_ext _ fun j hj=>by
  rw[fst8]
  by_cases h:j < 8
  · rw[if_pos h]
  · rw[if_neg h,byte_U0 u j (by omega)]
def tJ1 (n:Nat) (la lb:List (BitVec 8)) (u:BitVec 64) (w i:Nat) (st:St):Prop := ∃ (H:Heap),
  st=⟨[.ptr (0,0) 0,B64 u,N w,.undef,.undef,.undef,.undef,.ptr (1,0) 0,N i,.undef,.undef,.undef,.undef,.undef,.undef,.undef,.undef,.undef,.undef,.undef,.undef,.undef,.undef,.undef,.undef,.undef,.undef,.undef,.undef,.undef,.undef,.undef,.undef,.undef,.undef,.undef,.undef,.undef,.undef,.undef,.undef,.undef,.undef],H,2,5⟩∧PR H n la lb∧H (1,0)=some (aB 16 (fst8 u i))
theorem t1_round (k n:Nat) (la lb:List (BitVec 8)) (u:BitVec 64) (w i:Nat) (hi:i < 8) (st:St) (hJ:tJ1 n la lb u w i st) :
    ∃ st1,ev (envC C k) k L54b1 st=some (.normal,st1)∧tJ1 n la lb u w (i+1) (qcr L54k1 st1):=by
  obtain ⟨H,rfl,P,h1⟩:=hJ
  have i16:i < 16:=by omega
  simp (disch:=first|omega|decide|simp only[qaf,qad,qag,qae,qah,qac,qaa,qab,qai]) only[qbh,qat,qaX,qao,qan,qal,qak,qar,qbc,qay,qaJ,qaq,qaH,qaG,op_cvt,qaj,qaY,qaD,qa3,zM,zN,zO,zP,zK,zJ,cvt_64_8,Nat.reduceAdd,qb5,qbF,qbl,op_iaA,iaV_lt,zA,zB,zT,aB_st,zk,zB,zA,qbz,N_mul,qaW,qbJ,B64_shrN,Nat.reduceAdd,zT,qaI,qaA,qa6,zk,qam,qam,L54b1,h1,hi,byte_U u i hi,fst8_succ]
  refine ⟨_,rfl,?_⟩
  refine qaT [(1,0)] rfl (by simp only[qav,FUEL,qaz,qax,qaB,qaE,qbR,qaO,zV,zX,zI,zR,zQ,zC,zG,zW,zY,zF,zm,zn,zf,Nat.reduceEqDiff,zS,zZ,zl,zzC,zD,zE,zb,zh,zq,zp,zo,ne_eq,zt,z9,qap,qaN,qaL,qaC,qbb,L54k1,qbB,PO_nms,RA_nms,qbP,qaP,P.g0,P.g1,P.g2,P.g3,P.g4,h1]) rfl ⟨_,rfl,?_,?_⟩
  · exact (P.up _ _ (by decide)).cn _
  · exact qau (1,0) rfl (by simp (disch:=first|omega|decide|simp only[qaf,qad,qag,qae,qah,qac,qaa,qab,qai]) only[qap,zD]) (qa4 _ _ _)
def twl (t0:BitVec 128):Nat→List (BitVec 8)
  | 0=>[]
  | i+1=>twl t0 i++(List.range 16).map (qb1 (tws t0 i))
theorem twl_length (t0:BitVec 128):∀ i,(twl t0 i).length=16*i:=by
  intro i
  induction i with
  | zero=>rfl
  | succ i ih=>rw[twl,zzI,ih,zzK,List.length_range]; omega
def tJ0 (n:Nat) (la lb:List (BitVec 8)) (t0:BitVec 128) (w i:Nat) (st:St):Prop := ∃ (H:Heap),
  (i=0∧st=⟨[.undef,.undef,N w,.undef,.undef,.undef,.undef,.undef,.undef,.ptr (1,0) 0,Nil,N 0,.undef,.undef,.undef,.undef,.undef,.undef,.undef,.undef,.undef,.undef,.undef,.undef,.undef,.undef,.undef,.undef,.undef,.undef,.undef,.undef,.undef,.undef,.undef,.undef,.undef,.undef,.undef,.undef,.undef,.undef,.undef],H,2,5⟩∧PR H n la lb∧H (1,0)=some [B64 (lo (tws t0 0)),B64 (Xf.hi (tws t0 0))]) ∨
  (0 < i∧st=⟨[.undef,.undef,N w,.undef,.undef,.undef,.undef,.undef,.undef,.ptr (1,0) 0,.sl (1,1) 0 i none 16,N i,.undef,.undef,.undef,.undef,.undef,.undef,.undef,.undef,.undef,.undef,.undef,.undef,.undef,.undef,.undef,.undef,.undef,.undef,.undef,.undef,.undef,.undef,.undef,.undef,.undef,.undef,.undef,.undef,.undef,.undef,.undef],H,2,5⟩∧PR H n la lb∧H (1,0)=some [B64 (lo (tws t0 i)),B64 (Xf.hi (tws t0 i))]∧H (1,1)=some (bs (twl t0 i)))
theorem tJ0.of_z {n:Nat} {la lb:List (BitVec 8)} {t0:BitVec 128} {w:Nat} {st:St} (h:tJ0 n la lb t0 w 0 st):∃ (H:Heap),st=⟨[.undef,.undef,N w,.undef,.undef,.undef,.undef,.undef,.undef,.ptr (1,0) 0,Nil,N 0,.undef,.undef,.undef,.undef,.undef,.undef,.undef,.undef,.undef,.undef,.undef,.undef,.undef,.undef,.undef,.undef,.undef,.undef,.undef,.undef,.undef,.undef,.undef,.undef,.undef,.undef,.undef,.undef,.undef,.undef,.undef],H,2,5⟩∧PR H n la lb∧H (1,0)=some [B64 (lo (tws t0 0)),B64 (Xf.hi (tws t0 0))]:=by
  obtain ⟨H,⟨_,h⟩ | ⟨h,_⟩⟩:=h
  · exact ⟨H,h⟩
  · exact absurd h (by omega)
theorem tJ0.of_s {n:Nat} {la lb:List (BitVec 8)} {t0:BitVec 128} {w i:Nat} {st:St} (h:tJ0 n la lb t0 w i st) (hi:0 < i):∃ (H:Heap),st=⟨[.undef,.undef,N w,.undef,.undef,.undef,.undef,.undef,.undef,.ptr (1,0) 0,.sl (1,1) 0 i none 16,N i,.undef,.undef,.undef,.undef,.undef,.undef,.undef,.undef,.undef,.undef,.undef,.undef,.undef,.undef,.undef,.undef,.undef,.undef,.undef,.undef,.undef,.undef,.undef,.undef,.undef,.undef,.undef,.undef,.undef,.undef,.undef],H,2,5⟩∧PR H n la lb∧H (1,0)=some [B64 (lo (tws t0 i)),B64 (Xf.hi (tws t0 i))]∧H (1,1)=some (bs (twl t0 i)):=by
  obtain ⟨H,⟨h,_⟩ | ⟨_,h⟩⟩:=h
  · exact absurd h (by omega)
  · exact ⟨H,h⟩
theorem t0_roundZ (k n:Nat) (la lb:List (BitVec 8)) (t0:BitVec 128) (w:Nat) (hw:w≤5000) (hi:0 < w) (st:St) (hJ:tJ0 n la lb t0 w 0 st) :
    ∃ st1,ev (envC C (k+140)) (k+140) L54b0 st=some (.normal,st1)∧tJ0 n la lb t0 w (0+1) (qcr L54k0 st1):=by
  obtain ⟨H,rfl,P,h1⟩:=hJ.of_z
  have hb:F C (k+140) 62 [Hf (lo (tws t0 0)) (Xf.hi (tws t0 0))] []=some (.agg (aB 16 (qb1 (tws t0 0))),[],[]):=Xf.rbytes_F (k+10) _
  have hd:F C (k+140) 63 [Hf (lo (tws t0 0)) (Xf.hi (tws t0 0))] []=some (Hf (lo (tws t0 (0+1))) (Xf.hi (tws t0 (0+1))),[],[]):=Xf.rdbl_F k _
  simp (disch:=first|omega|decide|simp only[qbU,nms_B32,qbR,nms_I,qbb,qci,qcM,qaO,nms_Hf,qaE,qaQ,qbe,qc6,qc8,qc3,zV,zX,zI,zQ,ren_B8,ren_B32,qcu,ren_I,ren_N,ren_Bo,ren_Un,qdj,ren_Hf,qbN,qc7,qc9,qcY,zG,zC,ren7_I,ren7_N,ren7_Bo,ren7_B8,ren7_B32,ren7_B64,nms7_I,nms7_N,nms7_Bo,nms7_B8,nms7_B32,nms7_B64,qcV,qb8,implies_true,l18,l61,l62,l63,qaf,qaP,qaK,qbw,qbO,qad,qag,qae,qah,qac,qaa,qab,qai]) only[qbh,qat,qaX,qao,qan,qal,qak,qar,qbc,qay,qaJ,qaq,qaH,qaG,qa7,qa1,qaj,qaY,qaD,qa3,zM,zN,zO,zP,zG,zC,zI,zQ,zK,zJ,qda,Nat.reduceAdd,qap,qa5,isCell_B64,qaR,qct,qbv,qco,qbF,qbl,qdh,qb6,qcZ,qcR,agg_Hf,qdr,calK_Hf,qbC,zzE,zzA,zzD,zw,zzG,zzJ,za,zd,zF,Nat.reduceEqDiff,zS,zu,zD,zE,zA,zB,Nat.le_refl,zT,qcU,qcj,aB_calK,zB,zA,qbz,qaW,Nat.reduceEqDiff,Nat.reduceAdd,zT,qch,qcA,qcB,qcC,appX_nil,qdd,qcX,qaI,qaZ,qaA,qa6,za,zd,zy,qcL,qam,qam,L54b0,h1,hi,hb,hd,agg_Hf,fill16,frontK_16]
  refine ⟨_,rfl,?_⟩
  refine qaT [(1,0),(9,0)] rfl (by simp only[qav,FUEL,qaz,qax,qaB,qaE,qaQ,qbR,qaO,zV,zX,zI,zR,zQ,zC,zG,zW,zY,zF,zm,zn,zf,Nat.reduceEqDiff,zS,zZ,zl,zzC,zD,zE,zb,zh,zq,zp,zo,ne_eq,zt,z9,qap,qaN,qaL,qaC,qbb,L54k0,qbB,PO_nms,RA_nms,qbP,qaP,qaQ,P.g0,P.g1,P.g2,P.g3,P.g4,h1]) rfl ⟨_,.inr ⟨by omega,rfl,?_,?_,?_⟩⟩
  · exact PR.cn (((P.up _ _ (by decide)).up _ _ (by decide)).up _ _ (by decide)) _
  · exact qau (1,0) rfl (by simp (disch:=first|omega|decide|simp only[qaf,qad,qag,qae,qah,qac,qaa,qab,qai]) only[qap,zF,Nat.reduceEqDiff,zS,zD,zE]) rfl
  · refine (qcW _ _ 1 (9, 0) _ rfl (by simp (disch := first | omega | decide | simp only [qaf, qad, qag, qae, qah, qac, qaa, qab, qai]) only [qap, zF, Nat.reduceEqDiff, zS, zD, zE]; rfl)).trans ?_
    rw[qa4,aB_bs,twl,twl,zI]
theorem t0_roundS (k n:Nat) (la lb:List (BitVec 8)) (t0:BitVec 128) (w:Nat) (hw:w≤5000) (i:Nat) (h0i:0 < i) (hi:i < w) (st:St) (hJ:tJ0 n la lb t0 w i st) :
    ∃ st1,ev (envC C (k+140)) (k+140) L54b0 st=some (.normal,st1)∧tJ0 n la lb t0 w (i+1) (qcr L54k0 st1):=by
  obtain ⟨H,rfl,P,h1,h2⟩:=hJ.of_s h0i
  have hb:F C (k+140) 62 [Hf (lo (tws t0 i)) (Xf.hi (tws t0 i))] []=some (.agg (aB 16 (qb1 (tws t0 i))),[],[]):=Xf.rbytes_F (k+10) _
  have hd:F C (k+140) 63 [Hf (lo (tws t0 i)) (Xf.hi (tws t0 i))] []=some (Hf (lo (tws t0 (i+1))) (Xf.hi (tws t0 (i+1))),[],[]):=Xf.rdbl_F k _
  have hl:=twl_length t0 i
  have hap:∀ (b:Nat),appN b 16 1 0 i (1,1) (aB 16 (qb1 (tws t0 i))) (some (bs (twl t0 i)))=some ⟨.sl (b,0) 0 (i+1) none 16,[bs (twl t0 (i+1))],[((1,1),none)]⟩:=by
    intro b
    rw[appN,qad,if_pos (by omega),zw,aB_bs,qcF,bs_append,List.take_of_length_le (by omega),twl]
  simp (disch:=first|omega|decide|simp only[qbU,nms_B32,qbR,nms_I,qbb,qci,qcM,qaO,nms_Hf,qaE,qaQ,qbe,qc6,qc8,qc3,zV,zX,zI,zQ,ren_B8,ren_B32,qcu,ren_I,ren_N,ren_Bo,ren_Un,qdj,ren_Hf,qbN,qc7,qc9,qcY,zG,zC,ren7_I,ren7_N,ren7_Bo,ren7_B8,ren7_B32,ren7_B64,nms7_I,nms7_N,nms7_Bo,nms7_B8,nms7_B32,nms7_B64,qcV,qb8,implies_true,l18,l61,l62,l63,qaf,qaP,qaK,qbw,qbO,qad,qag,qae,qah,qac,qaa,qab,qai]) only[qbh,qat,qaX,qao,qan,qal,qak,qar,qbc,qay,qaJ,qaq,qaH,qaG,qa7,qa1,qaj,qaY,qaD,qa3,zM,zN,zO,zP,zG,zC,zI,zQ,zK,zJ,qda,Nat.reduceAdd,qap,qa5,isCell_B64,qaR,qct,qbv,qco,qbF,qbl,qdh,qb6,qcZ,qcR,agg_Hf,qdr,calK_Hf,qbC,zzE,zzA,zzD,zw,zzG,zzJ,za,zd,zF,Nat.reduceEqDiff,zS,zZ,zu,zD,zE,zA,zB,Nat.le_refl,zT,zb,zh,qcU,qcj,aB_calK,zB,zA,qbz,qaW,Nat.reduceEqDiff,Nat.reduceAdd,zT,qch,qcA,qcB,qcC,appX_none,qdd,qcX,qaI,qaZ,qaA,qa6,za,zd,zy,qcL,qam,qam,L54b0,h1,h2,hi,hb,hd,agg_Hf,fill16,frontK_16,hap]
  refine ⟨_,rfl,?_⟩
  refine qaT [(1,0),(9,0)] rfl (by simp only[qav,FUEL,qaz,qax,qaB,qaE,qaQ,qbR,qaO,zV,zX,zI,zR,zQ,zC,zG,zW,zY,zF,zm,zn,zf,Nat.reduceEqDiff,zS,zZ,zl,zzC,zD,zE,zb,zh,zq,zp,zo,ne_eq,zt,z9,qap,qaN,qaL,qaC,qbb,L54k0,qbB,PO_nms,RA_nms,qaP,qaQ,P.g0,P.g1,P.g2,P.g3,P.g4,h1]) rfl ⟨_,.inr ⟨by omega,rfl,?_,?_,?_⟩⟩
  · exact PR.cn ((((P.up _ _ (by decide)).up _ _ (by decide)).up _ _ (by decide)).up _ _ (by decide)) _
  · exact qau (1,0) rfl (by simp (disch:=first|omega|decide|simp only[qaf,qad,qag,qae,qah,qac,qaa,qab,qai]) only[qap,zF,Nat.reduceEqDiff,zS,zZ,zD,zE,zh]) rfl
  · refine (qcW _ _ 1 (9, 0) _ rfl (by simp (disch := first | omega | decide | simp only [qaf, qad, qag, qae, qah, qac, qaa, qab, qai]) only [qap, zF, Nat.reduceEqDiff, zS, zu, zD, zE, zh]; rfl)).trans ?_
    rw[qaK]
theorem t0_round (k n:Nat) (la lb:List (BitVec 8)) (t0:BitVec 128) (w i:Nat) (hw:w≤5000) (hi:i < w) (st:St) (hJ:tJ0 n la lb t0 w i st) :
    ∃ st1,ev (envC C (k+140)) (k+140) L54b0 st=some (.normal,st1)∧tJ0 n la lb t0 w (i+1) (qcr L54k0 st1):=by
  by_cases h0:0 < i
  · exact t0_roundS k n la lb t0 w hw i h0 hi st hJ
  · obtain rfl : i = 0 := by omega
    exact t0_roundZ k n la lb t0 w hw hi st hJ
theorem tweaks_F (k n:Nat) (hn:n≤20) (la lb:List (BitVec 8)) (hlb:lb.length=16*(n+2)) (u:BitVec 64) (w:Nat) (hw0:0 < w) (hw:w≤5000) :
    F C (k+6000) 54 [.ptr (0,0) 0,B64 u,N w] [PO,RA 2 n,bs la,RA 4 n,bs lb]=some (.sl (1,0) 0 w none 16,[some PO,some (RA 2 n),some (bs la),some (RA 4 n),some (bs lb)],[bs (twl (tw0 n lb u) w)]):=by
  rw[qbT f54]
  have P0:PR (qb4 [PO,RA 2 n,bs la,RA 4 n,bs lb]) n la lb:=⟨rfl,rfl,rfl,rfl,rfl⟩
  generalize hI:qb4 [PO,RA 2 n,bs la,RA 4 n,bs lb]=H0 at P0
  simp (disch:=first|omega|decide|simp only[qaf,qad,qag,qae,qah,qac,qaa,qab,qai]) only[qbk,qat,qaX,qao,qan,qal,qak,qar,qaJ,qaH,qaj,zM,zN,zI,zR,qbd,z7,zK,zJ,qbH,Nat.reduceAdd,Nat.reduceSub,qcO,zA,zB,qcU,zB,zA,Nat.reduceAdd,qaI,qaZ,qaA,Nat.reduceSub,qam,qam,L54,hI]
  generalize hL:qbW L54k1 _ _ _=r
  refine qby hL (tJ1 n la lb u w) 8 (by omega) (fun i st hi hJ=>t1_round _ n la lb u w i hi st hJ) ?_ ?_ ?_
  · refine qaT [(3, 0)] rfl (by simp only [qav, FUEL, qaz, qax, qaB, qaE, qbR, qaO, zV, zX, zI, zR, zQ, zC, zG, zW, zY, zF, zm, zn, zf, Nat.reduceEqDiff, zS, zZ, zl, zzC, zD, zE, zb, zh, zq, zp, zo, ne_eq, zt, z9, qap, qaN, qaL, qaC, qbb, L54k1, qbB, PO_nms, RA_nms, qbP, qaP, P0.g0, P0.g1, P0.g2, P0.g3, P0.g4]) rfl ⟨_, rfl, ?_, ?_⟩
    · exact (P0.up _ _ (by decide)).cn _
    · exact qau (3,0) rfl (by simp (disch:=first|omega|decide|simp only[qaf,qad,qag,qae,qah,qac,qaa,qab,qai]) only[qap,zD]; rfl) (qa4 _ _ _)
  · rintro st ⟨H, rfl, P, h1⟩
    apply qbs
    simp (disch:=first|omega|decide|simp only[qaf,qad,qag,qae,qah,qac,qaa,qab,qai]) only[qa0,qat,qao,qan,qal,qak,qaM,qar,qay,qaJ,qaq,qaH,qaG,qaj,qaF,qaD,qas,zM,zN,zO,zP,zK,zJ,Nat.reduceAdd,zA,zB,zL,zB,zA,qaW,Nat.reduceAdd,zi,zL,L54b1]
    rfl
  · rintro st ⟨H, rfl, P, h1⟩ rfl
    rw[fst8_all] at h1
    have Q:RG H (0,3) (0,4) (n+2) none lb:=⟨P.g3,P.g4,by decide⟩
    have hr:=reach_RG Q
    have he:∀ b s,_:=fun b s=>c_renc (k+5939) n b hn _ (0,3) (0,4) lb Q.only hlb s
    have ht:∀ v,_:=fun v=>tr_RG _ v (0,3) (0,4) (n+2) none lb Q.only
    have hof:F C (k+5999) 61 [.agg (aB 16 (enc (kf lb) n (qb1 (U128 u))))] []=some (Hf (lo (tw0 n lb u)) (Xf.hi (tw0 n lb u)),[],[]):=Xf.rof_F (k+5869) _
    have g0:=P.g0
    simp (disch:=first|omega|decide|simp only[qbU,nms_B32,qbR,nms_I,qbb,qci,qcM,qaO,nms_Hf,qaE,qaQ,qbe,qc6,qc8,qc3,zV,zX,zI,zQ,ren_B8,ren_B32,qcu,ren_I,ren_N,ren_Bo,ren_Un,qdj,ren_Hf,qbN,qc7,qc9,qcY,zG,zC,ren7_I,ren7_N,ren7_Bo,ren7_B8,ren7_B32,ren7_B64,nms7_I,nms7_N,nms7_Bo,nms7_B8,nms7_B32,nms7_B64,qcV,qb8,implies_true,l18,l61,l62,l63,qaf,qaP,qaK,qbw,qbO,qad,qag,qae,qah,qac,qaa,qab,qai]) only[qa0,qat,qaX,qao,qan,qal,qak,qar,qbc,qay,qaJ,qaq,qaH,qaG,qa7,qa1,qaj,qaF,qa8,qaD,qas,zM,zN,zO,zP,zG,zC,zV,zX,zI,zQ,zK,zJ,qda,qbH,Nat.reduceAdd,Nat.reduceSub,qap,isCell_B64,qaR,qbn,qbv,qbV,qco,qcO,qbF,qbl,qdh,op_fa,qcy,qdr,nms_Hf,calK_Hf,qbC,zzA,zzD,zzG,za,zd,zU,Nat.reduceLT,zu,zD,zA,zB,Nat.le_refl,zT,zL,qcb,qbe,zB,zA,qaW,Nat.reduceLT,Nat.reduceAdd,zi,zL,zT,qce,zg,ze,op_chk,qcq,qaI,qaZ,qaA,qa6,qa9,qbo,qbE,qca,qc1,qcl,qb7,qds,nms_fn,qaE,zY,zW,zx,z6,z0,qbQ,qba,za,zd,Nat.testBit,Nat.reduceShiftRight,Nat.reduceAnd,Nat.reduceBEq,ze,zg,zy,zU,zj,Nat.reduceSub,Nat.reduceLT,bne,qbg,qbG,qbS,qbp,qbZ,qcP,qb0,qbY,zj,zU,qaU,qam,qam,qaU,L54b1,zi,PO_k1,g0,h1,hr,he,ht,hof]
    clear hL
    generalize hL:qbW L54k0 _ _ _=r
    refine qby hL (tJ0 n la lb (tw0 n lb u) w) w (by omega) (fun i st hi hJ=>t0_round (k+5859) n la lb _ w i hw hi st hJ) ?_ ?_ ?_
    · refine qaT [(11, 0)] rfl (by simp only [qav, FUEL, qaz, qax, qaB, qaE, qbR, qaO, zV, zX, zI, zR, zQ, zC, zG, zW, zY, zF, zm, zn, zf, Nat.reduceEqDiff, zS, zZ, zl, zzC, zD, zE, zb, zh, zq, zp, zo, ne_eq, zt, z9, qap, qaN, qaL, qaC, qbb, qbj, L54k0, qbB, PO_nms, RA_nms, qaP, qbj, P.g0, P.g1, P.g2, P.g3, P.g4]) rfl ⟨_, .inl ⟨rfl, rfl, ?_, ?_⟩⟩
      · exact PR.cn ((P.up _ _ (by decide)).up _ _ (by decide)) _
      · exact qau (11,0) rfl (by simp (disch:=first|omega|decide|simp only[qaf,qad,qag,qae,qah,qac,qaa,qab,qai]) only[qap,zD]; rfl) rfl
    · intro st hJ
      obtain ⟨H,rfl,P,h1,h2⟩:=hJ.of_s hw0
      apply qbs
      simp (disch:=first|omega|decide|simp only[qaf,qad,qag,qae,qah,qac,qaa,qab,qai]) only[qa0,qat,qao,qan,qal,qak,qaM,qar,qay,qaq,qaH,qaG,qaj,qaF,qaD,qas,zM,zN,zO,zP,zK,zJ,Nat.reduceAdd,zA,zB,zL,qcU,zB,zA,qaW,Nat.reduceAdd,zi,zL,L54b0,zi]
      rfl
    · intro st hJ hr
      obtain ⟨H,rfl,P,h1,h2⟩:=hJ.of_s hw0
      subst hr
      simp (disch:=first|omega|decide|simp only[qaf,qad,qag,qae,qah,qac,qaa,qab,qai]) only[qbI,qa0,qat,qao,qan,qal,qak,qar,qay,qaq,qaH,qaG,qaj,qaF,qa8,qaD,qas,qbr,qcI,zM,zN,zO,zP,zK,zJ,zH,Nat.reduceAdd,zD,zA,zB,zL,qcU,zB,zA,qaW,Nat.reduceAdd,zi,zL,qaI,qaA,zH,qam,qam,L54b0,zi]
      rw[qdk 5 _ _ [(1,1)] (by simp only[qav,FUEL,qaz,qax,qaB,qaQ,zV,zX,zI,zR,zQ,zC,zG,zW,zY,zF,zm,zn,zf,Nat.reduceEqDiff,zS,zZ,zl,zzC,zD,zE,zb,zq,zp,zo,ne_eq,zt,z9,qbB,PO_nms,RA_nms,qaP,qaQ,P.g0,P.g1,P.g2,P.g3,P.g4,h2])]
      simp (disch:=first|omega|decide|simp only[qaf,qad,qag,qae,qah,qac,qaa,qab,qai]) only[zG,zC,zH,zD,zA,idx_cons,canonMap_ne,zzB,zH,qaK,List.filterMap_cons,qbq,qbK,qbB,PO_ren,RA_ren,qaK,qbq,P.g0,P.g1,P.g2,P.g3,P.g4,h2]
end Aes
namespace Aes
open Go Go.LE Xf
set_option maxRecDepth 20000
def xg (b:List (BitVec 8)) (t:R) (i:Nat):R:=fun j=>if j < i then fl b j ^^^ t j else 0#8
theorem xg_0 (b:List (BitVec 8)) (t:R):xg b t 0=fun _=>0#8:=funext fun j=>if_neg (Nat.not_lt_zero j)
theorem xg_succ (b:List (BitVec 8)) (t:R) (i:Nat):set1 (xg b t i) i (b.getD i 0#8 ^^^ t i)=xg b t (i+1):=by
  funext j
  simp only[set1,xg]
  by_cases h:j=i
  · subst h; rw[if_pos rfl,if_pos (Nat.lt_succ_self _)]; rfl
  · rw [if_neg h]
    by_cases h':j < i
    · rw[if_pos h',if_pos (by omega)]
    · rw[if_neg h',if_neg (by omega)]
theorem xg_all (b:List (BitVec 8)) (t:R):aB 16 (xg b t 16)=aB 16 (fun j=>fl b j ^^^ t j):=aB_ext _ fun j hj=>if_pos hj
theorem PR.skip {H:Heap} {n:Nat} {la lb:List (BitVec 8)} (P:PR H n la lb) (rest:List Nm):qbL H 60 [] ((0,0)::(0,1)::(0,2)::(0,3)::(0,4)::rest)=qbL H 51 [(0,0),(0,1),(0,2),(0,3),(0,4)] rest:=by
  rw[qaz,P.g0,qax,PO_nms,if_neg (by decide)]
  simp only[zR,zI]
  rw[qaz,P.g1,qax,RA_nms,if_neg (by decide)]
  simp only[zR,zI]
  rw[qaz,P.g2,qax,qaP,if_neg (by decide)]
  simp only[zR,zI]
  rw[qaz,P.g3,qax,RA_nms,if_neg (by decide)]
  simp only[zR,zI]
  rw[qaz,P.g4,qax,qaP,if_neg (by decide)]
  simp only[zR,zI]
  rw[qaz,if_pos (by decide),qaz,if_pos (by decide),qaz,if_pos (by decide),qaz,if_pos (by decide)]
theorem frontK_1 (x:LV):qcG 0 1 1 (some [x])=some [x]:=rfl
theorem appF_1 (b:Nat) (H:Heap) (V:LV) (x:BitVec 8):appF b 1 1 1 H V (some [B8 x])=appX b 1 1 1 H [] [B8 x] V:=qcC _ _ _ _ _ (by decide) rfl
def aJ1 (n:Nat) (la lb b:List (BitVec 8)) (t:R) (bk:Bool) (i:Nat) (st:St):Prop := ∃ (H:Heap),
  st=⟨[.ptr (0,0) 0,.isl (bs b) 16,.undef,Bo bk,.undef,.undef,.ptr (1,0) 0,.undef,.undef,.ptr (1,1) 0,N i,.undef,.undef,.undef,.undef,.undef,.undef,.undef,.undef,.undef,.undef,.undef,.undef,.undef,.undef,.undef,.undef,.undef,.undef,.undef,.undef,.undef,.undef,.undef,.undef,.undef,.undef,.undef,.undef,.undef,.undef,.undef,.undef,.undef,.undef,.undef,.undef,.undef,.undef,.undef,.undef,.undef,.undef,.undef,.undef],H,2,5⟩∧PR H n la lb∧H (1,0)=some (aB 16 t)∧H (1,1)=some (aB 16 (xg b t i))
theorem a1_round (k n:Nat) (la lb b:List (BitVec 8)) (hb:b.length=16) (t:R) (bk:Bool) (i:Nat) (hi:i < 16) (st:St) (hJ:aJ1 n la lb b t bk i st) :
    ∃ st1,ev (envC C k) k L55b1 st=some (.normal,st1)∧aJ1 n la lb b t bk (i+1) (qcr L55k1 st1):=by
  obtain ⟨H,rfl,P,h1,h2⟩:=hJ
  have c0:∀ H,cellAt H 1 (.ipt (List.drop i (bs b)))=some [B8 (b.getD i 0#8)]:=fun H=>by
    rw[bs_drop,cellAt,if_pos (by rw[qad,zzH]; omega),qcF,List.getD_eq_getElem?_getD,List.getElem?_eq_getElem (by omega),List.drop_eq_getElem_cons (by omega)]
    rfl
  simp (disch:=first|omega|decide|simp only[qaf,qad,qag,qae,qah,qac,qaa,qab,qai]) only[qbh,qat,qaX,qao,qan,qal,qak,qar,qbc,qay,qaJ,qaq,qaH,qaG,qaj,qaY,qaD,qa3,qbU,zM,zN,zO,zP,zG,zC,zQ,zK,zJ,B8_xor,Nat.reduceAdd,Nat.reduceSub,qb5,qaR,qbn,qbV,qbF,qbl,op_iaA,iaV_lt,za,zd,zU,Nat.reduceLT,zD,zA,zB,zT,aB_cell,aB_st,zk,zB,zA,qbz,qaW,qbJ,Nat.reduceLT,Nat.reduceAdd,zT,qce,zg,ze,op_iaS,iaSV_isl,qaI,qaA,qa6,zk,qa9,qbo,qbE,qca,qcl,qaE,zY,zW,zx,z6,z0,qbQ,qba,za,zd,Nat.testBit,Nat.reduceShiftRight,Nat.reduceAnd,Nat.reduceBEq,ze,zg,zy,zU,zj,Nat.reduceSub,Nat.reduceLT,bne,qbg,qbG,qbS,qbp,qbZ,qb0,zj,zU,qaU,qam,qam,qaU,L55b1,h1,h2,hi,c0,ibp_nms,xg_succ]
  refine ⟨_,rfl,?_⟩
  refine qaT [(1,0),(1,1)] rfl (by simp only[qav,FUEL,qaE,qci,qaO,zV,zX,zI,zR,zQ,zC,zG,qaN,qaL,qaC,qbb,L55k1,qbB,qbw]; rw[PR.skip (P.up _ _ (by decide))]; simp only[qaz,qax,qaB,zI,zR,zQ,zW,zY,zF,zm,zn,zf,Nat.reduceEqDiff,zS,zZ,zl,zzC,zD,zE,zb,zh,zq,zp,zo,ne_eq,zt,z9,qap,PO_nms,RA_nms,qbP,qaP,P.g0,P.g1,P.g2,P.g3,P.g4,h1,h2]) (by simp (maxSteps:=4000000) only[zC,zG,qaN,qaL,qaC,L55k1,zG,zC,qbO]; rfl) ⟨_,rfl,?_,?_,?_⟩
  · exact (P.up _ _ (by decide)).cn _
  · exact qau (1,0) rfl (by simp (disch:=first|omega|decide|simp only[qaf,qad,qag,qae,qah,qac,qaa,qab,qai]) only[qap,zF,zZ,zE,zh,h1]) (qa4 _ _ _)
  · exact qau (1,1) rfl (by simp (disch:=first|omega|decide|simp only[qaf,qad,qag,qae,qah,qac,qaa,qab,qai]) only[qap,zD]) (qa4 _ _ _)
def oA (y t:R) (i:Nat):List (BitVec 8):=(List.range i).map fun j=>y j ^^^ t j
theorem oA_succ (y t:R) (i:Nat):oA y t (i+1)=oA y t i++[y i ^^^ t i]:=by
  rw[oA,List.range_succ,List.map_append]; rfl
theorem oA_length (y t:R) (i:Nat):(oA y t i).length=i:=by rw[oA,zzK,List.length_range]
def aJ0 (n:Nat) (la lb:List (BitVec 8)) (y t:R) (i:Nat) (st:St):Prop := ∃ (H:Heap),
  (i=0∧st=⟨[.undef,.undef,.undef,.undef,.undef,.undef,.ptr (1,0) 0,.undef,.undef,.ptr (1,1) 0,.undef,Nil,N 0,.undef,.undef,.undef,.undef,.undef,.undef,.undef,.undef,.undef,.undef,.undef,.undef,.undef,.undef,.undef,.undef,.undef,.undef,.undef,.undef,.undef,.undef,.undef,.undef,.undef,.undef,.undef,.undef,.undef,.undef,.undef,.undef,.undef,.undef,.undef,.undef,.undef,.undef,.undef,.undef,.undef,.undef],H,2,5⟩∧PR H n la lb∧H (1,0)=some (aB 16 t)∧H (1,1)=some (aB 16 y)) ∨
  (0 < i∧st=⟨[.undef,.undef,.undef,.undef,.undef,.undef,.ptr (1,0) 0,.undef,.undef,.ptr (1,1) 0,.undef,.sl (1,2) 0 i none 1,N i,.undef,.undef,.undef,.undef,.undef,.undef,.undef,.undef,.undef,.undef,.undef,.undef,.undef,.undef,.undef,.undef,.undef,.undef,.undef,.undef,.undef,.undef,.undef,.undef,.undef,.undef,.undef,.undef,.undef,.undef,.undef,.undef,.undef,.undef,.undef,.undef,.undef,.undef,.undef,.undef,.undef,.undef],H,2,5⟩∧PR H n la lb∧H (1,0)=some (aB 16 t)∧H (1,1)=some (aB 16 y)∧H (1,2)=some (bs (oA y t i)))
theorem aJ0.of_z {n:Nat} {la lb:List (BitVec 8)} {y t:R} {st:St} (h:aJ0 n la lb y t 0 st):∃ (H:Heap),st=⟨[.undef,.undef,.undef,.undef,.undef,.undef,.ptr (1,0) 0,.undef,.undef,.ptr (1,1) 0,.undef,Nil,N 0,.undef,.undef,.undef,.undef,.undef,.undef,.undef,.undef,.undef,.undef,.undef,.undef,.undef,.undef,.undef,.undef,.undef,.undef,.undef,.undef,.undef,.undef,.undef,.undef,.undef,.undef,.undef,.undef,.undef,.undef,.undef,.undef,.undef,.undef,.undef,.undef,.undef,.undef,.undef,.undef,.undef,.undef],H,2,5⟩∧PR H n la lb∧H (1,0)=some (aB 16 t)∧H (1,1)=some (aB 16 y):=by
  obtain ⟨H,⟨_,h⟩ | ⟨h,_⟩⟩:=h
  · exact ⟨H,h⟩
  · exact absurd h (by omega)
theorem aJ0.of_s {n i:Nat} {la lb:List (BitVec 8)} {y t:R} {st:St} (h:aJ0 n la lb y t i st) (hi:0 < i):∃ (H:Heap),st=⟨[.undef,.undef,.undef,.undef,.undef,.undef,.ptr (1,0) 0,.undef,.undef,.ptr (1,1) 0,.undef,.sl (1,2) 0 i none 1,N i,.undef,.undef,.undef,.undef,.undef,.undef,.undef,.undef,.undef,.undef,.undef,.undef,.undef,.undef,.undef,.undef,.undef,.undef,.undef,.undef,.undef,.undef,.undef,.undef,.undef,.undef,.undef,.undef,.undef,.undef,.undef,.undef,.undef,.undef,.undef,.undef,.undef,.undef,.undef,.undef,.undef,.undef],H,2,5⟩∧PR H n la lb∧H (1,0)=some (aB 16 t)∧H (1,1)=some (aB 16 y)∧H (1,2)=some (bs (oA y t i)):=by
  obtain ⟨H,⟨h,_⟩ | ⟨_,h⟩⟩:=h
  · exact absurd h (by omega)
  · exact ⟨H,h⟩
theorem a0_roundZ (k n:Nat) (la lb:List (BitVec 8)) (y t:R) (hi:0 < 16) (st:St) (hJ:aJ0 n la lb y t 0 st) :
    ∃ st1,ev (envC C k) k L55b0 st=some (.normal,st1)∧aJ0 n la lb y t (0+1) (qcr L55k0 st1):=by
  obtain ⟨H,rfl,P,h1,h2⟩:=hJ.of_z
  simp (disch:=first|omega|decide|simp only[qaf,qad,qag,qae,qah,qac,qaa,qab,qai]) only[qbh,qat,qaX,qao,qan,qal,qak,qar,qay,qaJ,qaq,qaH,qaG,qaj,qaY,qaD,qa3,zM,zN,zO,zP,zG,zC,zI,zQ,zK,zJ,B8_xor,Nat.reduceAdd,Nat.reduceSub,qap,qb5,qaR,qbn,qbV,op_iaA,iaV_lt,qb6,qcZ,qcR,qbC,zzA,zzD,zzG,za,zd,zU,Nat.reduceLT,zu,zD,zA,zB,Nat.le_refl,zT,zL,aB_cell,zk,zB,zA,qbz,qaW,qbJ,Nat.reduceLT,Nat.reduceAdd,zL,zT,zg,ze,qch,qbj,qcA,qcB,appX_nil,qdd,qcX,qaI,qaZ,qaA,zk,qa9,qbo,qbE,qca,qaE,zY,zW,zx,z6,z0,qbQ,qba,za,zd,Nat.testBit,Nat.reduceShiftRight,Nat.reduceAnd,Nat.reduceBEq,ze,zg,zy,zU,zj,Nat.reduceSub,Nat.reduceLT,bne,qbg,qbG,qbp,qbZ,qdc,zj,zU,qcL,qaU,qam,qdo,qam,qaU,L55b0,h1,h2,hi,qbj,qaQ,frontK_1,appF_1]
  refine ⟨_,rfl,?_⟩
  refine qaT [(1,0),(1,1),(13,0)] rfl (by simp only[qav,FUEL,qaE,qaQ,qaO,zV,zX,zI,zR,zQ,zC,zG,qaN,qaL,qaC,qbb,L55k0,qbB,qaQ]; rw[PR.skip ((P.up _ _ (by decide)).up _ _ (by decide))]; simp only[qaz,qax,qaB,qbU,zV,zX,zI,zR,zQ,zW,zY,zF,zm,zn,zf,Nat.reduceEqDiff,zS,zZ,zl,zD,zE,zb,zh,zq,zp,zo,ne_eq,zt,z9,qap,qbP,h1,h2]) rfl ⟨_,.inr ⟨by omega,rfl,?_,?_,?_,?_⟩⟩
  · exact PR.cn ((P.up _ _ (by decide)).up _ _ (by decide)) _
  · exact qau (1,0) rfl (by simp (disch:=first|omega|decide|simp only[qaf,qad,qag,qae,qah,qac,qaa,qab,qai]) only[qap,zF,Nat.reduceEqDiff,zS,zE,h1]) (qa4 _ _ _)
  · exact qau (1,1) rfl (by simp (disch:=first|omega|decide|simp only[qaf,qad,qag,qae,qah,qac,qaa,qab,qai]) only[qap,zF,Nat.reduceEqDiff,zu,zE,zb,h2]) (qa4 _ _ _)
  · refine (qcW _ _ 2 (13, 0) _ rfl (by simp (disch := first | omega | decide | simp only [qaf, qad, qag, qae, qah, qac, qaa, qab, qai]) only [qap, zF, Nat.reduceEqDiff, zS, zD, zE]; rfl)).trans ?_
    rfl
theorem a0_roundS (k n:Nat) (la lb:List (BitVec 8)) (y t:R) (i:Nat) (h0i:0 < i) (hi:i < 16) (st:St) (hJ:aJ0 n la lb y t i st) :
    ∃ st1,ev (envC C k) k L55b0 st=some (.normal,st1)∧aJ0 n la lb y t (i+1) (qcr L55k0 st1):=by
  obtain ⟨H,rfl,P,h1,h2,h3⟩:=hJ.of_s h0i
  have hl:=oA_length y t i
  have hap:∀ (b:Nat),appN b 1 1 0 i (1,2) [B8 (y i ^^^ t i)] (some (bs (oA y t i)))=some ⟨.sl (b,0) 0 (i+1) none 1,[bs (oA y t (i+1))],[((1,2),none)]⟩:=by
    intro b
    rw[bs_one,appN_bytes _ _ _ _ _ _ (by omega),zw,List.take_of_length_le (by omega),oA_succ]
  simp (disch:=first|omega|decide|simp only[qaf,qad,qag,qae,qah,qac,qaa,qab,qai]) only[qbh,qat,qaX,qao,qan,qal,qak,qar,qay,qaJ,qaq,qaH,qaG,qaj,qaY,qaD,qa3,zM,zN,zO,zP,zG,zC,zI,zR,zQ,zK,zJ,B8_xor,Nat.reduceAdd,Nat.reduceSub,qap,qb5,qaR,qbn,qbV,op_iaA,iaV_lt,qb6,qcZ,qcR,qbC,zzA,zzD,zzG,za,zd,zU,zF,Nat.reduceEqDiff,Nat.reduceLT,zu,zD,zE,zA,zB,Nat.le_refl,zT,zL,aB_cell,zk,zB,zA,qbz,qaW,qbJ,Nat.reduceLT,Nat.reduceEqDiff,Nat.reduceAdd,zL,zT,qce,zg,ze,qch,qcA,qcB,appX_none,qdd,qcX,qaI,qaZ,qaA,qa6,zk,qa9,qbo,qbE,qca,qaE,zY,zW,zx,z6,z0,qbQ,qba,za,zd,Nat.testBit,Nat.reduceShiftRight,Nat.reduceAnd,Nat.reduceBEq,ze,zg,zy,zU,zj,Nat.reduceSub,Nat.reduceLT,bne,qbg,qbG,qbS,qbp,qbZ,qdc,zj,zU,qcL,qaU,qam,qdo,qam,qaU,L55b0,h1,h2,h3,hi,qaQ,frontK_1,appF_1,hap]
  refine ⟨_,rfl,?_⟩
  refine qaT [(1,0),(1,1),(13,0)] rfl (by simp only[qav,FUEL,qaE,qaQ,qaO,zV,zX,zI,zR,zQ,zC,zG,qaN,qaL,qaC,qbb,L55k0,qbB,qaQ]; rw[PR.skip (((P.up _ _ (by decide)).up _ _ (by decide)).up _ _ (by decide))]; simp only[qaz,qax,qaB,zI,zR,zQ,zW,zY,zF,zm,zn,zf,Nat.reduceEqDiff,zS,zZ,zl,zD,zE,zb,zh,zq,zp,zo,ne_eq,zt,z9,qap,qbP,qaP,h1,h2]) rfl ⟨_,.inr ⟨by omega,rfl,?_,?_,?_,?_⟩⟩
  · exact PR.cn (((P.up _ _ (by decide)).up _ _ (by decide)).up _ _ (by decide)) _
  · exact qau (1,0) rfl (by simp (disch:=first|omega|decide|simp only[qaf,qad,qag,qae,qah,qac,qaa,qab,qai]) only[qap,zF,Nat.reduceEqDiff,zS,zZ,zE,h1]) (qa4 _ _ _)
  · exact qau (1,1) rfl (by simp (disch:=first|omega|decide|simp only[qaf,qad,qag,qae,qah,qac,qaa,qab,qai]) only[qap,zF,Nat.reduceEqDiff,zZ,zu,zE,zb,h2]) (qa4 _ _ _)
  · refine (qcW _ _ 2 (13, 0) _ rfl (by simp (disch := first | omega | decide | simp only [qaf, qad, qag, qae, qah, qac, qaa, qab, qai]) only [qap, zF, Nat.reduceEqDiff, zS, zu, zD, zE]; rfl)).trans ?_
    rw[qaK]
theorem a0_round (k n:Nat) (la lb:List (BitVec 8)) (y t:R) (i:Nat) (hi:i < 16) (st:St) (hJ:aJ0 n la lb y t i st) :
    ∃ st1,ev (envC C k) k L55b0 st=some (.normal,st1)∧aJ0 n la lb y t (i+1) (qcr L55k0 st1):=by
  by_cases h0:0 < i
  · exact a0_roundS k n la lb y t i h0 hi st hJ
  · obtain rfl : i = 0 := by omega
    exact a0_roundZ k n la lb y t hi st hJ
theorem at_false (k n:Nat) (hn:n≤20) (la lb:List (BitVec 8)) (hla:la.length=16*(n+2)) (t:BitVec 128) (b:List (BitVec 8)) (hb:b.length=16) :
    F C (k+80) 55 [.ptr (0,0) 0,.isl (bs b) 16,.agg (aB 16 (qb1 t)),Bo false] [PO,RA 2 n,bs la,RA 4 n,bs lb]=some (.sl (1,0) 0 16 none 1,[some PO,some (RA 2 n),some (bs la),some (RA 4 n),some (bs lb)],[bs (wtl (enc (kf la) n) t b)]):=by
  rw[qbT f55]
  have P0:PR (qb4 [PO,RA 2 n,bs la,RA 4 n,bs lb]) n la lb:=⟨rfl,rfl,rfl,rfl,rfl⟩
  generalize hI:qb4 [PO,RA 2 n,bs la,RA 4 n,bs lb]=H0 at P0
  simp (disch:=first|omega|decide|simp only[qaf,qad,qag,qae,qah,qac,qaa,qab,qai]) only[qbk,qat,qaX,qao,qan,qal,qak,qar,qay,qaJ,qaH,qaj,zM,zN,zO,zP,zI,zR,qbd,z7,zK,zJ,qbH,Nat.reduceAdd,Nat.reduceSub,qa5,qcO,op_box,qcH,zA,zB,qcU,zB,zA,Nat.reduceAdd,qaI,qaZ,qaA,Nat.reduceSub,qam,qam,L55,hI]
  generalize hL:qbW L55k1 _ _ _=r
  refine qby hL (aJ1 n la lb b (qb1 t) false) 16 (by omega) (fun i st hi hJ=>a1_round _ n la lb b hb _ false i hi st hJ) ?_ ?_ ?_
  · refine qaT [(2, 0), (4, 0)] rfl (by simp only [qav, FUEL, qaE, qci, qaO, zV, zX, zI, zR, zQ, zC, zG, qaN, qaL, qaC, qbb, L55k1, qbB, qbw]; rw [PR.skip ((P0.up _ _ (by decide)).up _ _ (by decide))]; simp only [qaz, qax, qaB, zI, zR, zQ, zW, zY, zF, zm, zn, zf, Nat.reduceEqDiff, zS, zZ, zl, zzC, zD, zE, zb, zh, zq, zp, zo, ne_eq, zt, z9, qap, PO_nms, RA_nms, qbP, qaP, P0.g0, P0.g1, P0.g2, P0.g3, P0.g4]) (by simp (maxSteps := 4000000) only [zC, zG, qaN, qaL, qaC, L55k1, zG, zC, qbO]; rfl) ⟨_, rfl, ?_, ?_, ?_⟩
    · exact PR.cn ((P0.up _ _ (by decide)).up _ _ (by decide)) _
    · exact qau (2,0) rfl (by simp (disch:=first|omega|decide|simp only[qaf,qad,qag,qae,qah,qac,qaa,qab,qai]) only[qap,zF,Nat.reduceEqDiff,zS,zD,zE]) (qa4 _ _ _)
    · rw[xg_0]; exact qau (4,0) rfl (by simp (disch:=first|omega|decide|simp only[qaf,qad,qag,qae,qah,qac,qaa,qab,qai]) only[qap,zF,Nat.reduceEqDiff,zS,zD,zE]) (qa4 _ _ _)
  · rintro st ⟨H, rfl, P, h1, h2⟩
    apply qbs
    simp (disch:=first|omega|decide|simp only[qaf,qad,qag,qae,qah,qac,qaa,qab,qai]) only[qa0,qat,qao,qan,qal,qak,qaM,qar,qay,qaJ,qaq,qaH,qaG,qaj,qaF,qaD,qas,zM,zN,zO,zP,zK,zJ,Nat.reduceAdd,zA,zB,zL,zB,zA,qaW,Nat.reduceAdd,zi,zL,L55b1]
    rfl
  · rintro st ⟨H, rfl, P, h1, h2⟩ rfl
    rw[xg_all] at h2
    have Q:RG H (0,1) (0,2) (n+2) none la:=⟨P.g1,P.g2,by decide⟩
    have hr:=reach_RG Q
    have he:∀ b s,_:=fun b s=>c_renc (k+19) n b hn _ (0,1) (0,2) la Q.only hla s
    have ht:∀ v,_:=fun v=>tr_RG _ v (0,1) (0,2) (n+2) none la Q.only
    have g0:=P.g0
    simp (disch:=first|omega|decide|simp only[qaf,qad,qag,qae,qah,qac,qaa,qab,qai]) only[qa0,qat,qaX,qao,qan,qal,qak,qar,qbc,qay,qaJ,qaq,qaH,qaG,qa7,qa1,qaj,qaF,qa8,qaD,qas,zM,zN,zO,zP,zG,zC,zV,zX,zI,zQ,zK,zJ,qbH,Nat.reduceAdd,Nat.reduceSub,qa5,qaR,qbn,qbv,qbV,qco,qbF,qbl,op_fa,qcy,za,zd,zU,Nat.reduceLT,zD,zA,zB,zT,zL,qcb,qcz,qbe,zB,zA,qaW,Nat.reduceLT,Nat.reduceAdd,zi,zL,zT,qce,zg,ze,op_chk,qcq,qaI,qaA,qa6,qa9,qbo,qbE,qca,qc1,qcl,qb7,nms_fn,qaE,zY,zW,zx,z6,z0,qbQ,qba,za,zd,Nat.testBit,Nat.reduceShiftRight,Nat.reduceAnd,Nat.reduceBEq,ze,zg,zy,zU,zj,Nat.reduceSub,Nat.reduceLT,bne,qbg,qbG,qbS,qbp,qbZ,qcP,qb0,qbY,zj,zU,qaU,qam,qam,qaU,L55b1,zi,PO_k0,g0,h2,hr,he,ht]
    clear hL
    generalize hL:qbW L55k0 _ _ _=r
    refine qby hL (aJ0 n la lb (enc (kf la) n fun j=>fl b j ^^^ qb1 t j) (qb1 t)) 16 (by omega) (fun i st hi hJ=>a0_round _ n la lb _ _ i hi st hJ) ?_ ?_ ?_
    · refine qaT [(1, 0), (1, 1)] rfl (by simp only [qav, FUEL, qaE, qaO, zV, zX, zI, zR, zQ, zC, zG, qaN, qaL, qaC, qbb, qbj, L55k0, qbB, qbj]; rw [PR.skip (P.up _ _ (by decide))]; simp only [qaz, qax, qaB, zI, zR, zQ, zW, zY, zF, zm, zn, zf, Nat.reduceEqDiff, zS, zZ, zl, zD, zE, zb, zh, zq, zp, zo, ne_eq, zt, z9, qap, qbP, h1, h2]) rfl ⟨_, .inl ⟨rfl, rfl, ?_, ?_, ?_⟩⟩
      · exact PR.cn (P.up _ _ (by decide)) _
      · exact qau (1,0) rfl (by simp (disch:=first|omega|decide|simp only[qaf,qad,qag,qae,qah,qac,qaa,qab,qai]) only[qap,zF,zZ,zE,zh,h1]) (qa4 _ _ _)
      · exact qau (1,1) rfl (by simp (disch:=first|omega|decide|simp only[qaf,qad,qag,qae,qah,qac,qaa,qab,qai]) only[qap,zD]) (qa4 _ _ _)
    · intro st hJ
      obtain ⟨H,rfl,P,h1,h2,h3⟩:=hJ.of_s (by decide)
      apply qbs
      simp (disch:=first|omega|decide|simp only[qaf,qad,qag,qae,qah,qac,qaa,qab,qai]) only[qa0,qat,qao,qan,qal,qak,qaM,qar,qay,qaJ,qaq,qaH,qaG,qaj,qaF,qaD,qas,zM,zN,zO,zP,zK,zJ,Nat.reduceAdd,zA,zB,zL,zB,zA,qaW,Nat.reduceAdd,zi,zL,L55b0]
      rfl
    · intro st hJ hr
      obtain ⟨H,rfl,P,h1,h2,h3⟩:=hJ.of_s (by decide)
      subst hr
      rw[show oA (enc (kf la) n fun j=>fl b j ^^^ qb1 t j) (qb1 t) 16=wtl (enc (kf la) n) t b from rfl] at h3
      simp (disch:=first|omega|decide|simp only[qaf,qad,qag,qae,qah,qac,qaa,qab,qai]) only[qbI,qa0,qat,qao,qan,qal,qak,qar,qay,qaJ,qaq,qaH,qaG,qaj,qaF,qa8,qaD,qas,qbr,qcI,zM,zN,zO,zP,zK,zJ,zH,Nat.reduceAdd,zD,zA,zB,zL,zB,zA,qaW,Nat.reduceAdd,zi,zL,qaI,qaA,zH,qam,qam,L55b0,zi]
      rw[qdk 5 _ _ [(1,2)] (by simp (maxSteps:=4000000) only[qav,FUEL,qaz,qax,qaB,qaQ,zV,zX,zI,zR,zQ,zC,zG,zW,zY,zF,zm,zn,zf,Nat.reduceEqDiff,zS,zZ,zl,zzC,zD,zE,zb,zq,zp,zo,ne_eq,zt,z9,qbB,PO_nms,RA_nms,qaP,qaQ,P.g0,P.g1,P.g2,P.g3,P.g4,h3])]
      simp (disch:=first|omega|decide|simp only[qaf,qad,qag,qae,qah,qac,qaa,qab,qai]) only[zG,zC,zH,zD,zA,idx_cons,canonMap_ne,zzB,zH,qaK,List.filterMap_cons,qbq,qbK,qbB,PO_ren,RA_ren,qaK,qbq,P.g0,P.g1,P.g2,P.g3,P.g4,h3]
theorem at_true (k n:Nat) (hn:n≤20) (la lb:List (BitVec 8)) (hla:la.length=16*(n+2)) (t:BitVec 128) (b:List (BitVec 8)) (hb:b.length=16) :
    F C (k+80) 55 [.ptr (0,0) 0,.isl (bs b) 16,.agg (aB 16 (qb1 t)),Bo true] [PO,RA 2 n,bs la,RA 4 n,bs lb]=some (.sl (1,0) 0 16 none 1,[some PO,some (RA 2 n),some (bs la),some (RA 4 n),some (bs lb)],[bs (wtl (dec (kf la) n) t b)]):=by
  rw[qbT f55]
  have P0:PR (qb4 [PO,RA 2 n,bs la,RA 4 n,bs lb]) n la lb:=⟨rfl,rfl,rfl,rfl,rfl⟩
  generalize hI:qb4 [PO,RA 2 n,bs la,RA 4 n,bs lb]=H0 at P0
  simp (disch:=first|omega|decide|simp only[qaf,qad,qag,qae,qah,qac,qaa,qab,qai]) only[qbk,qat,qaX,qao,qan,qal,qak,qar,qay,qaJ,qaH,qaj,zM,zN,zO,zP,zI,zR,qbd,z7,zK,zJ,qbH,Nat.reduceAdd,Nat.reduceSub,qa5,qcO,op_box,qcH,zA,zB,qcU,zB,zA,Nat.reduceAdd,qaI,qaZ,qaA,Nat.reduceSub,qam,qam,L55,hI]
  generalize hL:qbW L55k1 _ _ _=r
  refine qby hL (aJ1 n la lb b (qb1 t) true) 16 (by omega) (fun i st hi hJ=>a1_round _ n la lb b hb _ true i hi st hJ) ?_ ?_ ?_
  · refine qaT [(2, 0), (4, 0)] rfl (by simp only [qav, FUEL, qaE, qci, qaO, zV, zX, zI, zR, zQ, zC, zG, qaN, qaL, qaC, qbb, L55k1, qbB, qbw]; rw [PR.skip ((P0.up _ _ (by decide)).up _ _ (by decide))]; simp only [qaz, qax, qaB, zI, zR, zQ, zW, zY, zF, zm, zn, zf, Nat.reduceEqDiff, zS, zZ, zl, zzC, zD, zE, zb, zh, zq, zp, zo, ne_eq, zt, z9, qap, PO_nms, RA_nms, qbP, qaP, P0.g0, P0.g1, P0.g2, P0.g3, P0.g4]) (by simp (maxSteps := 4000000) only [zC, zG, qaN, qaL, qaC, L55k1, zG, zC, qbO]; rfl) ⟨_, rfl, ?_, ?_, ?_⟩
    · exact PR.cn ((P0.up _ _ (by decide)).up _ _ (by decide)) _
    · exact qau (2,0) rfl (by simp (disch:=first|omega|decide|simp only[qaf,qad,qag,qae,qah,qac,qaa,qab,qai]) only[qap,zF,Nat.reduceEqDiff,zS,zD,zE]) (qa4 _ _ _)
    · rw[xg_0]; exact qau (4,0) rfl (by simp (disch:=first|omega|decide|simp only[qaf,qad,qag,qae,qah,qac,qaa,qab,qai]) only[qap,zF,Nat.reduceEqDiff,zS,zD,zE]) (qa4 _ _ _)
  · rintro st ⟨H, rfl, P, h1, h2⟩
    apply qbs
    simp (disch:=first|omega|decide|simp only[qaf,qad,qag,qae,qah,qac,qaa,qab,qai]) only[qa0,qat,qao,qan,qal,qak,qaM,qar,qay,qaJ,qaq,qaH,qaG,qaj,qaF,qaD,qas,zM,zN,zO,zP,zK,zJ,Nat.reduceAdd,zA,zB,zL,zB,zA,qaW,Nat.reduceAdd,zi,zL,L55b1]
    rfl
  · rintro st ⟨H, rfl, P, h1, h2⟩ rfl
    rw[xg_all] at h2
    have Q:RG H (0,1) (0,2) (n+2) none la:=⟨P.g1,P.g2,by decide⟩
    have hr:=reach_RG Q
    have he:∀ b s,_:=fun b s=>c_rdec (k+19) n b hn _ (0,1) (0,2) la Q.only hla s
    have ht:∀ v,_:=fun v=>tr_RG _ v (0,1) (0,2) (n+2) none la Q.only
    have g0:=P.g0
    simp (disch:=first|omega|decide|simp only[qaf,qad,qag,qae,qah,qac,qaa,qab,qai]) only[qa0,qat,qaX,qao,qan,qal,qak,qar,qbc,qay,qaJ,qaq,qaH,qaG,qa7,qa1,qaj,qaF,qa8,qaD,qa3,qas,zM,zN,zO,zP,zG,zC,zV,zX,zI,zQ,zK,zJ,qbH,Nat.reduceAdd,Nat.reduceSub,qa5,qaR,qbn,qbv,qbV,qco,qbF,qbl,op_fa,qcy,za,zd,zU,Nat.reduceLT,zD,zA,zB,zT,zL,qcb,qcz,qbe,zB,zA,qaW,Nat.reduceLT,Nat.reduceAdd,zi,zL,zT,qce,zg,ze,op_chk,qcq,qaI,qaA,qa6,qa9,qbo,qbE,qca,qc1,qcl,qb7,nms_fn,qaE,zY,zW,zx,z6,z0,qbQ,qba,za,zd,Nat.testBit,Nat.reduceShiftRight,Nat.reduceAnd,Nat.reduceBEq,ze,zg,zy,zU,zj,Nat.reduceSub,Nat.reduceLT,bne,qbg,qbG,qbS,qbp,qbZ,qcP,qb0,qbY,zj,zU,qaU,qam,qam,qaU,L55b1,zi,PO_k0,g0,h2,hr,he,ht]
    clear hL
    generalize hL:qbW L55k0 _ _ _=r
    refine qby hL (aJ0 n la lb (dec (kf la) n fun j=>fl b j ^^^ qb1 t j) (qb1 t)) 16 (by omega) (fun i st hi hJ=>a0_round _ n la lb _ _ i hi st hJ) ?_ ?_ ?_
    · refine qaT [(1, 0), (1, 1)] rfl (by simp only [qav, FUEL, qaE, qaO, zV, zX, zI, zR, zQ, zC, zG, qaN, qaL, qaC, qbb, qbj, L55k0, qbB, qbj]; rw [PR.skip (P.up _ _ (by decide))]; simp only [qaz, qax, qaB, zI, zR, zQ, zW, zY, zF, zm, zn, zf, Nat.reduceEqDiff, zS, zZ, zl, zD, zE, zb, zh, zq, zp, zo, ne_eq, zt, z9, qap, qbP, h1, h2]) rfl ⟨_, .inl ⟨rfl, rfl, ?_, ?_, ?_⟩⟩
      · exact PR.cn (P.up _ _ (by decide)) _
      · exact qau (1,0) rfl (by simp (disch:=first|omega|decide|simp only[qaf,qad,qag,qae,qah,qac,qaa,qab,qai]) only[qap,zF,zZ,zE,zh,h1]) (qa4 _ _ _)
      · exact qau (1,1) rfl (by simp (disch:=first|omega|decide|simp only[qaf,qad,qag,qae,qah,qac,qaa,qab,qai]) only[qap,zD]) (qa4 _ _ _)
    · intro st hJ
      obtain ⟨H,rfl,P,h1,h2,h3⟩:=hJ.of_s (by decide)
      apply qbs
      simp (disch:=first|omega|decide|simp only[qaf,qad,qag,qae,qah,qac,qaa,qab,qai]) only[qa0,qat,qao,qan,qal,qak,qaM,qar,qay,qaJ,qaq,qaH,qaG,qaj,qaF,qaD,qas,zM,zN,zO,zP,zK,zJ,Nat.reduceAdd,zA,zB,zL,zB,zA,qaW,Nat.reduceAdd,zi,zL,L55b0]
      rfl
    · intro st hJ hr
      obtain ⟨H,rfl,P,h1,h2,h3⟩:=hJ.of_s (by decide)
      subst hr
      rw[show oA (dec (kf la) n fun j=>fl b j ^^^ qb1 t j) (qb1 t) 16=wtl (dec (kf la) n) t b from rfl] at h3
      simp (disch:=first|omega|decide|simp only[qaf,qad,qag,qae,qah,qac,qaa,qab,qai]) only[qbI,qa0,qat,qao,qan,qal,qak,qar,qay,qaJ,qaq,qaH,qaG,qaj,qaF,qa8,qaD,qas,qbr,qcI,zM,zN,zO,zP,zK,zJ,zH,Nat.reduceAdd,zD,zA,zB,zL,zB,zA,qaW,Nat.reduceAdd,zi,zL,qaI,qaA,zH,qam,qam,L55b0,zi]
      rw[qdk 5 _ _ [(1,2)] (by simp (maxSteps:=4000000) only[qav,FUEL,qaz,qax,qaB,qaQ,zV,zX,zI,zR,zQ,zC,zG,zW,zY,zF,zm,zn,zf,Nat.reduceEqDiff,zS,zZ,zl,zzC,zD,zE,zb,zq,zp,zo,ne_eq,zt,z9,qbB,PO_nms,RA_nms,qaP,qaQ,P.g0,P.g1,P.g2,P.g3,P.g4,h3])]
      simp (disch:=first|omega|decide|simp only[qaf,qad,qag,qae,qah,qac,qaa,qab,qai]) only[zG,zC,zH,zD,zA,idx_cons,canonMap_ne,zzB,zH,qaK,List.filterMap_cons,qbq,qbK,qbB,PO_ren,RA_ren,qaK,qbq,P.g0,P.g1,P.g2,P.g3,P.g4,h3]
end Aes
namespace Aes
open Go Go.LE Xf
set_option maxRecDepth 20000
def mod5R (n:Nat) (la lb:List (BitVec 8)):List (Nm × Option qaV):=[((0,0),some PO),((0,1),some (RA 2 n)),((0,2),some (bs la)),((0,3),some (RA 4 n)),((0,4),some (bs lb))]
theorem PR.same {H:Heap} {n:Nat} {la lb:List (BitVec 8)} (h:PR H n la lb):modN (mod5R n la lb) H=H:=by
  simp only[mod5R,qa6,qaA,qbf h.g4,qbf h.g3,qbf h.g2,qbf h.g1,qbf h.g0]
theorem PR.tr {H:Heap} {n:Nat} {la lb:List (BitVec 8)} (h:PR H n la lb) (v:LV) (news:List qaV):trimO true H (some ⟨v,news,mod5R n la lb⟩)=some ⟨v,news,[]⟩:=by
  refine trimO_same _ _ _ _ fun q hm => ?_
  simp only[mod5R,List.mem_cons,List.not_mem_nil,zl] at hm
  rcases hm with rfl | rfl | rfl | rfl | rfl
  · simp only[h.g0,sameO]; rfl
  · simp only[h.g1,sameO,RA,same_RF]
  · simp only[h.g2,sameO,same_bs]
  · simp only[h.g3,sameO,RA,same_RF]
  · simp only[h.g4,sameO,same_bs]
theorem PR.reach {H:Heap} {n:Nat} {la lb:List (BitVec 8)} (h:PR H n la lb):qbL H FUEL [] [(0,0)]=five:=by
  simp only[FUEL,qaz,qax,qaB,zI,zR,zQ,zW,zY,zF,zm,zn,zf,Nat.reduceEqDiff,zZ,zl,zE,zb,PO_nms,RA_nms,qaP,h.g0,h.g1,h.g2,h.g3,h.g4]; rfl
theorem PR.obs {H:Heap} {n:Nat} {la lb:List (BitVec 8)} (h:PR H n la lb):(five.filterMap H).map (fun cs=>cs.map (ren D (qbx five)))=[PO,RA 2 n,bs la,RA 4 n,bs lb]:=by
  have hfm:five.filterMap H=[PO,RA 2 n,bs la,RA 4 n,bs lb]:=by
    simp[five,h.g0,h.g1,h.g2,h.g3,h.g4]
  have e0:PO.map (ren D (qbx five))=PO:=rfl
  have e1:(RA 2 n).map (ren D (qbx five))=RA 2 n:=by rw[RA,qcS,qbq,five_cee 2 (by decide)]; rfl
  have e3:(RA 4 n).map (ren D (qbx five))=RA 4 n:=by rw[RA,qcS,qbq,five_cee 4 (by decide)]; rfl
  rw[hfm,zG,zG,zG,zG,zG,zC,e0,e1,e3,qaK,qaK]
theorem back5R (b n:Nat) (la lb:List (BitVec 8)) (len es:Nat) (l:List (BitVec 8)):backTo five b (.sl (1,0) 0 len none es,[some PO,some (RA 2 n),some (bs la),some (RA 4 n),some (bs lb)],[bs l])=⟨.sl (b,0) 0 len none es,[bs l],mod5R n la lb⟩:=by
  have f0:PO.map (ren D (qc5 five b 1))=PO:=rfl
  have f1:(RA 2 n).map (ren D (qc5 five b 1))=RA 2 n:=by rw[RA,qcS,qbq]; rfl
  have f3:(RA 4 n).map (ren D (qc5 five b 1))=RA 4 n:=by rw[RA,qcS,qbq]; rfl
  rw[qdp,List.length_singleton]
  simp only[zG,zC,qaK,qbq,toCaller_1,Nat.zero_lt_one,qbK]
  rw[show five=[(0,0),(0,1),(0,2),(0,3),(0,4)] from rfl]
  simp only[List.zipWith_cons_cons,List.zipWith_nil_left,zH,qaK]
  rw[←show five=[(0,0),(0,1),(0,2),(0,3),(0,4)] from rfl,f0,f1,f3]
  rfl
theorem c_tweaks (k n b:Nat) (hn:n≤20) (la lb:List (BitVec 8)) (hlb:lb.length=16*(n+2)) (u:BitVec 64) (w:Nat) (hw0:0 < w) (hw:w≤5000) (H:Heap) (P:PR H n la lb) :
    qbD (envC C (k+6000)) H b 54 [.ptr (0,0) 0,B64 u,N w]=some ⟨.sl (b,0) 0 w none 16,[bs (twl (tw0 n lb u) w)],mod5R n la lb⟩:=by
  have hl:lend H (qcf 54) 0 [.ptr (0,0) 0,B64 u,N w]=some ([.ptr (0,0) 0,B64 u,N w],[]):=by rw[l54]; exact lend_none _ _ 0
  rw[call_gen _ b 54 H _ _ [.ptr (0,0) 0,B64 u,N w] five [] _ _ hl P.reach rfl rfl P.obs (tweaks_F k n hn la lb hlb u w hw0 hw) (by simp only[plainRes,zd,za,noImm_bs,RA,noImm_RF]; rfl),back5R]
def En (back:Bool) (la:List (BitVec 8)) (n:Nat):R→R:=if back then dec (kf la) n else enc (kf la) n
theorem at_F (k n:Nat) (hn:n≤20) (la lb:List (BitVec 8)) (hla:la.length=16*(n+2)) (t:BitVec 128) (b:List (BitVec 8)) (hb:b.length=16) (back:Bool) :
    F C (k+80) 55 [.ptr (0,0) 0,.isl (bs b) 16,.agg (aB 16 (qb1 t)),Bo back] [PO,RA 2 n,bs la,RA 4 n,bs lb]=some (.sl (1,0) 0 16 none 1,[some PO,some (RA 2 n),some (bs la),some (RA 4 n),some (bs lb)],[bs (wtl (En back la n) t b)]):=by
  cases back
  · exact at_false k n hn la lb hla t b hb
  · exact at_true k n hn la lb hla t b hb
theorem c_at (k n b:Nat) (hn:n≤20) (la lb:List (BitVec 8)) (hla:la.length=16*(n+2)) (t:BitVec 128) (V:LV) (bb:List (BitVec 8)) (hb:bb.length=16) (back:Bool) (H:Heap) (P:PR H n la lb) (lent:List Nm)
    (hs:snap H D V=some (.isl (bs bb) 16,lent)) (hx:∀ x ∈ lent,x ∉ five) :
    qbD (envC C (k+80)) H b 55 [.ptr (0,0) 0,V,.agg (aB 16 (qb1 t)),Bo back]=some ⟨.sl (b,0) 0 16 none 1,[bs (wtl (En back la n) t bb)],mod5R n la lb⟩:=by
  have hl:lend H (qcf 55) 0 [.ptr (0,0) 0,V,.agg (aB 16 (qb1 t)),Bo back]=some ([.ptr (0,0) 0,.isl (bs bb) 16,.agg (aB 16 (qb1 t)),Bo back],lent):=by
    rw[qdq,qdq,qdq,qdq,lend_nil,if_neg (show ¬ qcf 55 0=true by decide),if_pos (show qcf 55 (0+1)=true by decide),if_neg (show ¬ qcf 55 (0+1+1)=true by decide),if_neg (show ¬ qcf 55 (0+1+1+1)=true by decide),hs,qde,qde,qde,qde]
    simp
  have hr:Go.LE.qbL H FUEL [] (([.ptr (0,0) 0,.isl (bs bb) 16,.agg (aB 16 (qb1 t)),Bo back]:List LV).flatMap (nms D))=five:=by
    have e:([.ptr (0,0) 0,.isl (bs bb) 16,.agg (aB 16 (qb1 t)),Bo back]:List LV).flatMap (nms D)=[(0,0)]:=by
      simp only[zV,zX,qbw,qbe,zQ,qaE,qci]
    rw[e,P.reach]
  have hd:lent.any (fun n=>five.contains n)=false:=by
    rw[List.any_eq_false]; intro x h; have:=hx x h; simpa using this
  have ha:([.ptr (0,0) 0,.isl (bs bb) 16,.agg (aB 16 (qb1 t)),Bo back]:List LV).map (ren D (qbx five))=[.ptr (0,0) 0,.isl (bs bb) 16,.agg (aB 16 (qb1 t)),Bo back]:=by
    simp only[zG,zC,qbO,qbN]; rfl
  rw[call_gen _ b 55 H _ _ _ five lent _ _ hl hr hd ha P.obs (at_F k n hn la lb hla t bb hb back) (by simp only[plainRes,zd,za,noImm_bs,RA,noImm_RF]; rfl),back5R]
theorem twl_cell (t0:BitVec 128) (w i:Nat) (h:i < w):cellK (i*16) 16 (some (bs (twl t0 w)))=some (aB 16 (qb1 (tws t0 i))):=by
  have hpre:∀ w,i < w→∃ r,twl t0 w=twl t0 i++(List.range 16).map (qb1 (tws t0 i))++r:=by
    intro w
    induction w with
    | zero=>intro h; omega
    | succ w ih =>
      intro h
      by_cases h':i < w
      · obtain ⟨r, hr⟩ := ih h'
        exact ⟨r++(List.range 16).map (qb1 (tws t0 w)),by rw[twl,hr]; simp only[List.append_assoc]⟩
      · obtain rfl : w = i := by omega
        exact ⟨[],by rw[twl,zQ]⟩
  obtain ⟨r,hr⟩:=hpre w h
  have hl:=twl_length t0 i
  have h16:((List.range 16).map (qb1 (tws t0 i))).length=16:=by rw[zzK,List.length_range]
  rw[bs_cells _ _ 16 (by rw[hr,zzI,zzI,hl,h16]; omega),hr,List.append_assoc,List.drop_append,show i*16 - (twl t0 i).length=0 by omega,zw,List.drop_of_length_le (by omega),zI,List.take_append_of_le_length (by omega),List.take_of_length_le (by omega),aB_bs]
theorem bs_sub (d:List (BitVec 8)) (o:Nat):List.take 16 (List.drop o (bs d))=bs ((d.drop o).take 16):=by rw[bs_drop,qcF]
def urJ (n:Nat) (la lb:List (BitVec 8)) (t0:BitVec 128) (d:List (BitVec 8)) (back:Bool) (w i:Nat) (st:St):Prop := ∃ (H:Heap),
  (i=0∧st=⟨[.ptr (0,0) 0,.undef,.isl (bs d) d.length,Bo back,.undef,.undef,.undef,.undef,.undef,.undef,N (d.length / 16),N (d.length % 16),.sl (1,0) 0 (d.length / 16+1) none 16,Nil,N w,N 0,.undef,.undef,.undef,.undef,.undef,.undef,.undef,.undef,.undef,.undef,.undef,.undef,.undef,.undef,.undef,.undef,.undef,.undef,.undef,.undef,.undef,.undef,.undef,.undef,.undef,.undef,.undef,.undef,.undef,.undef,.undef,.undef,.undef,.undef,.undef,.undef,.undef,.undef,.undef,.undef,.undef,.undef,.undef,.undef,.undef,.undef,.undef,.undef,.undef,.undef,.undef,.undef,.undef,.undef,.undef,.undef,.undef,.undef,.undef,.undef,.undef,.undef,.undef,.undef,.undef,.undef,.undef,.undef,.undef,.undef,.undef,.undef,.undef,.undef,.undef,.undef,.undef,.undef,.undef,.undef,.undef,.undef,.undef,.undef,.undef,.undef,.undef,.undef,.undef,.undef,.undef,.undef,.undef,.undef,.undef,.undef,.undef,.undef,.undef,.undef,.undef,.undef,.undef,.undef,.undef,.undef,.undef,.undef],H,2,5⟩∧PR H n la lb∧H (1,0)=some (bs (twl t0 (d.length / 16+1)))) ∨
  (0 < i∧st=⟨[.ptr (0,0) 0,.undef,.isl (bs d) d.length,Bo back,.undef,.undef,.undef,.undef,.undef,.undef,N (d.length / 16),N (d.length % 16),.sl (1,0) 0 (d.length / 16+1) none 16,.sl (1,1) 0 (16*i) none 1,N w,N i,.undef,.undef,.undef,.undef,.undef,.undef,.undef,.undef,.undef,.undef,.undef,.undef,.undef,.undef,.undef,.undef,.undef,.undef,.undef,.undef,.undef,.undef,.undef,.undef,.undef,.undef,.undef,.undef,.undef,.undef,.undef,.undef,.undef,.undef,.undef,.undef,.undef,.undef,.undef,.undef,.undef,.undef,.undef,.undef,.undef,.undef,.undef,.undef,.undef,.undef,.undef,.undef,.undef,.undef,.undef,.undef,.undef,.undef,.undef,.undef,.undef,.undef,.undef,.undef,.undef,.undef,.undef,.undef,.undef,.undef,.undef,.undef,.undef,.undef,.undef,.undef,.undef,.undef,.undef,.undef,.undef,.undef,.undef,.undef,.undef,.undef,.undef,.undef,.undef,.undef,.undef,.undef,.undef,.undef,.undef,.undef,.undef,.undef,.undef,.undef,.undef,.undef,.undef,.undef,.undef,.undef,.undef,.undef],H,2,5⟩∧PR H n la lb∧H (1,0)=some (bs (twl t0 (d.length / 16+1)))∧H (1,1)=some (bs (done (En back la n) t0 d i)))
theorem urJ.of_z {n:Nat} {la lb:List (BitVec 8)} {t0:BitVec 128} {d:List (BitVec 8)} {back:Bool} {w:Nat} {st:St} (h:urJ n la lb t0 d back w 0 st):∃ (H:Heap),st=⟨[.ptr (0,0) 0,.undef,.isl (bs d) d.length,Bo back,.undef,.undef,.undef,.undef,.undef,.undef,N (d.length / 16),N (d.length % 16),.sl (1,0) 0 (d.length / 16+1) none 16,Nil,N w,N 0,.undef,.undef,.undef,.undef,.undef,.undef,.undef,.undef,.undef,.undef,.undef,.undef,.undef,.undef,.undef,.undef,.undef,.undef,.undef,.undef,.undef,.undef,.undef,.undef,.undef,.undef,.undef,.undef,.undef,.undef,.undef,.undef,.undef,.undef,.undef,.undef,.undef,.undef,.undef,.undef,.undef,.undef,.undef,.undef,.undef,.undef,.undef,.undef,.undef,.undef,.undef,.undef,.undef,.undef,.undef,.undef,.undef,.undef,.undef,.undef,.undef,.undef,.undef,.undef,.undef,.undef,.undef,.undef,.undef,.undef,.undef,.undef,.undef,.undef,.undef,.undef,.undef,.undef,.undef,.undef,.undef,.undef,.undef,.undef,.undef,.undef,.undef,.undef,.undef,.undef,.undef,.undef,.undef,.undef,.undef,.undef,.undef,.undef,.undef,.undef,.undef,.undef,.undef,.undef,.undef,.undef,.undef,.undef],H,2,5⟩∧PR H n la lb∧H (1,0)=some (bs (twl t0 (d.length / 16+1))):=by
  obtain ⟨H,⟨_,h⟩ | ⟨h,_⟩⟩:=h
  · exact ⟨H,h⟩
  · exact absurd h (by omega)
theorem urJ.of_s {n i:Nat} {la lb:List (BitVec 8)} {t0:BitVec 128} {d:List (BitVec 8)} {back:Bool} {w:Nat} {st:St} (h:urJ n la lb t0 d back w i st) (hi:0 < i):∃ (H:Heap),st=⟨[.ptr (0,0) 0,.undef,.isl (bs d) d.length,Bo back,.undef,.undef,.undef,.undef,.undef,.undef,N (d.length / 16),N (d.length % 16),.sl (1,0) 0 (d.length / 16+1) none 16,.sl (1,1) 0 (16*i) none 1,N w,N i,.undef,.undef,.undef,.undef,.undef,.undef,.undef,.undef,.undef,.undef,.undef,.undef,.undef,.undef,.undef,.undef,.undef,.undef,.undef,.undef,.undef,.undef,.undef,.undef,.undef,.undef,.undef,.undef,.undef,.undef,.undef,.undef,.undef,.undef,.undef,.undef,.undef,.undef,.undef,.undef,.undef,.undef,.undef,.undef,.undef,.undef,.undef,.undef,.undef,.undef,.undef,.undef,.undef,.undef,.undef,.undef,.undef,.undef,.undef,.undef,.undef,.undef,.undef,.undef,.undef,.undef,.undef,.undef,.undef,.undef,.undef,.undef,.undef,.undef,.undef,.undef,.undef,.undef,.undef,.undef,.undef,.undef,.undef,.undef,.undef,.undef,.undef,.undef,.undef,.undef,.undef,.undef,.undef,.undef,.undef,.undef,.undef,.undef,.undef,.undef,.undef,.undef,.undef,.undef,.undef,.undef,.undef,.undef],H,2,5⟩∧PR H n la lb∧H (1,0)=some (bs (twl t0 (d.length / 16+1)))∧H (1,1)=some (bs (done (En back la n) t0 d i)):=by
  obtain ⟨H,⟨h,_⟩ | ⟨_,h⟩⟩:=h
  · exact absurd h (by omega)
  · exact ⟨H,h⟩
theorem u_roundZ (k n:Nat) (hn:n≤20) (la lb:List (BitVec 8)) (hla:la.length=16*(n+2)) (t0:BitVec 128) (d:List (BitVec 8)) (hd2:d.length≤65536) (back:Bool) (w:Nat) (hw:16*w≤d.length) (hi:0 < w) (st:St) (hJ:urJ n la lb t0 d back w 0 st) :
    ∃ st1,ev (envC C (k+80)) (k+80) L45b0 st=some (.normal,st1)∧urJ n la lb t0 d back w (0+1) (qcr L45k0 st1):=by
  obtain ⟨H,rfl,P,h1⟩:=hJ.of_z
  have i0:16*0≤16*0+16:=by omega
  have i1:16*0+16≤d.length:=by omega
  have i2:16*0+16 - 16*0=16:=by omega
  have i3:0 < d.length / 16+1:=by omega
  have htc:=twl_cell t0 (d.length / 16+1) 0 i3
  have hbl:(blk d 0).length=16:=blk_length d 0 (by omega)
  have hbk:List.take 16 (List.drop (16*0) (bs d))=bs (blk d 0):=bs_sub d (16*0)
  have hbk0:List.take 16 (bs d)=bs (blk d 0):=hbk
  simp (disch:=first|omega|decide|simp only[qaf,qad,qag,qae,qah,qac,qaa,qab,qai]) only[qbh,qat,qaX,qao,qan,qal,qak,qar,qay,qaJ,qaq,qaH,qaG,qa7,qa1,qaj,qaD,qa3,qci,zM,zN,zO,zP,zG,zC,zV,zX,zI,zQ,zK,zJ,Nat.reduceAdd,Nat.reduceSub,qaR,qbv,qco,zw,za,zd,zU,Nat.reduceLT,zD,zA,zB,zT,qbe,zk,zB,zA,qbz,N_mul,qaW,qbJ,Nat.reduceLT,Nat.reduceMul,Nat.reduceAdd,zT,ze,qcT,qcg,op_slcS,slcV_isl,qcn,op_iaS,qdf,qaI,qaA,qbw,zk,qa9,qbo,qbE,qc1,qb7,nms_fn,qaE,zY,zW,zx,z0,qbQ,qba,za,zd,Nat.testBit,Nat.reduceShiftRight,Nat.reduceAnd,ze,zy,zU,zj,Nat.reduceSub,Nat.reduceLT,bne,qbg,qbG,qbp,qcP,qbY,zj,zU,qaU,qam,qam,qaU,L45b0,h1,hi,i2,htc,hbk0,qbe,qbw,qaE,qci]
  have P5:PR (only five H) n la lb:=⟨P.g0,P.g1,P.g2,P.g3,P.g4⟩
  obtain ⟨W,hW⟩:∃ W,W=wtl (En back la n) (tws t0 0) (blk d 0):=⟨_,rfl⟩
  have hWl:W.length=16:=by rw[hW,qdm]
  rw[P.reach,c_at k n _ hn la lb hla (tws t0 0) _ (blk d 0) hbl back (only five H) P5 [] (snap_isl _ _) (by simp),P5.tr,←hW]
  have hfk:qcG 0 1 16 (some (bs W))=some (bs W):=by
    rw[qcG,if_pos (by rw[qad]; omega),zw,qcF,List.take_of_length_le (by omega)]
  simp (disch:=first|omega|decide|simp only[qaf,qad,qag,qae,qah,qac,qaa,qab,qai]) only[qao,qan,qal,qak,qar,qay,qaJ,qaq,qaH,qaG,qaj,qaY,zM,zN,zO,zP,zC,zI,zK,zJ,Nat.reduceAdd,Nat.reduceSub,qap,za,zd,zU,Nat.reduceLT,zD,zA,zB,zT,zL,zB,zA,qbz,Nat.reduceLT,Nat.reduceAdd,zL,zT,zg,ze,qch,qbj,qcA,qcB,qcC,appX_nil,qaI,qaZ,qaA,qa9,qbo,qbE,zY,zW,zx,z6,z0,qbQ,qba,za,zd,Nat.testBit,Nat.reduceShiftRight,Nat.reduceAnd,Nat.reduceBEq,ze,zg,zy,zU,zj,Nat.reduceSub,Nat.reduceLT,bne,qbg,qbG,qbp,qdc,zj,zU,qcL,qaU,qam,qdo,qam,qaU,hfk,five,qbj,qaQ]
  refine ⟨_,rfl,?_⟩
  refine qaT [(1,0),(20,0)] rfl (by simp only[qav,FUEL,qaE,qaQ,qci,qaO,zV,zX,zI,zR,zQ,zC,zG,qaN,qaL,qaC,qbb,L45k0,qbB,qaQ,qbw]; rw[PR.skip ((P.up _ _ (by decide)).up _ _ (by decide))]; simp only[qaz,qax,qaB,zI,zR,zQ,zW,zY,zF,zm,zn,zf,Nat.reduceEqDiff,zS,zZ,zl,zzC,zD,zE,zb,zh,zq,zp,zo,ne_eq,zt,z9,qap,PO_nms,RA_nms,qaP,P.g0,P.g1,P.g2,P.g3,P.g4,h1]) (by simp only[zC,zG,qaN,qaL,qaC,L45k0,zG,zC,qbO]; rfl) ⟨_,.inr ⟨by omega,rfl,?_,?_,?_⟩⟩
  · exact PR.cn ((P.up _ _ (by decide)).up _ _ (by decide)) _
  · exact qau (1,0) rfl (by simp (disch:=first|omega|decide|simp only[qaf,qad,qag,qae,qah,qac,qaa,qab,qai]) only[qap,zF,Nat.reduceEqDiff,zS,zE,h1]) (qaK _ _)
  · refine (qcW _ _ 1 (20, 0) _ rfl (by simp (disch := first | omega | decide | simp only [qaf, qad, qag, qae, qah, qac, qaa, qab, qai]) only [qap, zF, Nat.reduceEqDiff, zS, zD, zE]; rfl)).trans ?_
    rw[qaK,done,done,zI,hW]
theorem u_roundS (k n:Nat) (hn:n≤20) (la lb:List (BitVec 8)) (hla:la.length=16*(n+2)) (t0:BitVec 128) (d:List (BitVec 8)) (hd2:d.length≤65536) (back:Bool) (w:Nat) (hw:16*w≤d.length) (i:Nat) (h0i:0 < i) (hi:i < w) (st:St) (hJ:urJ n la lb t0 d back w i st) :
    ∃ st1,ev (envC C (k+80)) (k+80) L45b0 st=some (.normal,st1)∧urJ n la lb t0 d back w (i+1) (qcr L45k0 st1):=by
  obtain ⟨H,rfl,P,h1,h2⟩:=hJ.of_s h0i
  have i0:16*i≤16*i+16:=by omega
  have i1:16*i+16≤d.length:=by omega
  have i2:16*i+16 - 16*i=16:=by omega
  have i3:i < d.length / 16+1:=by omega
  have htc:=twl_cell t0 (d.length / 16+1) i i3
  have hbl:(blk d i).length=16:=blk_length d i (by omega)
  have hbk:List.take 16 (List.drop (16*i) (bs d))=bs (blk d i):=bs_sub d (16*i)
  simp (disch:=first|omega|decide|simp only[qaf,qad,qag,qae,qah,qac,qaa,qab,qai]) only[qbh,qat,qaX,qao,qan,qal,qak,qar,qay,qaJ,qaq,qaH,qaG,qa7,qa1,qaj,qaD,qa3,qci,zM,zN,zO,zP,zG,zC,zV,zX,zI,zQ,zK,zJ,Nat.reduceAdd,Nat.reduceSub,qaR,qbv,qco,za,zd,zU,Nat.reduceLT,zD,zA,zB,zT,qbe,zk,zB,zA,qbz,N_mul,qaW,qbJ,Nat.reduceLT,Nat.reduceAdd,zT,ze,qcT,qcg,op_slcS,slcV_isl,qcn,op_iaS,qdf,qaI,qaA,qbw,zk,qa9,qbo,qbE,qc1,qb7,nms_fn,qaE,zY,zW,zx,z0,qbQ,qba,za,zd,Nat.testBit,Nat.reduceShiftRight,Nat.reduceAnd,ze,zy,zU,zj,Nat.reduceSub,Nat.reduceLT,bne,qbg,qbG,qbp,qcP,qbY,zj,zU,qaU,qam,qam,qaU,L45b0,h1,hi,i2,htc,hbk,qbe,qbw,qaE,qci]
  have P5:PR (only five H) n la lb:=⟨P.g0,P.g1,P.g2,P.g3,P.g4⟩
  obtain ⟨W,hW⟩:∃ W,W=wtl (En back la n) (tws t0 i) (blk d i):=⟨_,rfl⟩
  have hWl:W.length=16:=by rw[hW,qdm]
  rw[P.reach,c_at k n _ hn la lb hla (tws t0 i) _ (blk d i) hbl back (only five H) P5 [] (snap_isl _ _) (by simp),P5.tr,←hW]
  have hfk:qcG 0 1 16 (some (bs W))=some (bs W):=by
    rw[qcG,if_pos (by rw[qad]; omega),zw,qcF,List.take_of_length_le (by omega)]
  have hdl:=qdn (En back la n) t0 d i
  have hap:∀ (b:Nat),appN b 1 16 0 (16*i) (1,1) (bs W) (some (bs (done (En back la n) t0 d i)))=some ⟨.sl (b,0) 0 (16*(i+1)) none 1,[bs (done (En back la n) t0 d (i+1))],[((1,1),none)]⟩:=by
    intro b
    rw[appN_bytes _ _ _ _ _ _ (by omega),zw,List.take_of_length_le (by omega),hW,done]
    rfl
  simp (disch:=first|omega|decide|simp only[qaf,qad,qag,qae,qah,qac,qaa,qab,qai]) only[qao,qan,qal,qak,qar,qay,qaJ,qaq,qaH,qaG,qaj,qaY,zM,zN,zO,zP,zG,zC,zI,zR,zK,zJ,Nat.reduceAdd,Nat.reduceSub,qap,za,zd,zU,zF,Nat.reduceEqDiff,Nat.reduceLT,zu,zD,zE,zA,zB,zT,zL,zb,zB,zA,qbz,Nat.reduceLT,Nat.reduceEqDiff,Nat.reduceAdd,zL,zT,qce,zg,ze,qch,qcA,qcB,qcC,appX_none,qaI,qaZ,qaA,qa6,qa9,qbo,qbE,zY,zW,zx,z6,z0,qbQ,qba,za,zd,Nat.testBit,Nat.reduceShiftRight,Nat.reduceAnd,Nat.reduceBEq,ze,zg,zy,zU,zj,Nat.reduceSub,Nat.reduceLT,bne,qbg,qbG,qbS,qdc,zj,zU,qcL,qaU,qam,qdo,qam,qaU,h2,hfk,five,qaQ,hap]
  refine ⟨_,rfl,?_⟩
  refine qaT [(1,0),(20,0)] rfl (by simp only[qav,FUEL,qaE,qaQ,qci,qaO,zV,zX,zI,zR,zQ,zC,zG,qaN,qaL,qaC,qbb,L45k0,qbB,qaQ,qbw]; rw[PR.skip (((P.up _ _ (by decide)).up _ _ (by decide)).up _ _ (by decide))]; simp only[qaz,qax,qaB,zI,zR,zQ,zW,zY,zF,zm,zn,zf,Nat.reduceEqDiff,zS,zZ,zl,zzC,zD,zE,zb,zh,zq,zp,zo,ne_eq,zt,z9,qap,PO_nms,RA_nms,qaP,P.g0,P.g1,P.g2,P.g3,P.g4,h1]) (by simp only[zC,zG,qaN,qaL,qaC,L45k0,zG,zC,qbO]; rfl) ⟨_,.inr ⟨by omega,rfl,?_,?_,?_⟩⟩
  · exact PR.cn (((P.up _ _ (by decide)).up _ _ (by decide)).up _ _ (by decide)) _
  · exact qau (1,0) rfl (by simp (disch:=first|omega|decide|simp only[qaf,qad,qag,qae,qah,qac,qaa,qab,qai]) only[qap,zF,Nat.reduceEqDiff,zS,zZ,zE,zh,h1]) (qaK _ _)
  · refine (qcW _ _ 1 (20, 0) _ rfl (by simp (disch := first | omega | decide | simp only [qaf, qad, qag, qae, qah, qac, qaa, qab, qai]) only [qap, zF, Nat.reduceEqDiff, zS, zu, zD, zE, zh]; rfl)).trans ?_
    rw[qaK]
theorem u_round (k n:Nat) (hn:n≤20) (la lb:List (BitVec 8)) (hla:la.length=16*(n+2)) (t0:BitVec 128) (d:List (BitVec 8)) (hd2:d.length≤65536) (back:Bool) (w:Nat) (hw:16*w≤d.length) (i:Nat) (hi:i < w) (st:St) (hJ:urJ n la lb t0 d back w i st) :
    ∃ st1,ev (envC C (k+80)) (k+80) L45b0 st=some (.normal,st1)∧urJ n la lb t0 d back w (i+1) (qcr L45k0 st1):=by
  by_cases h0:0 < i
  · exact u_roundS k n hn la lb hla t0 d hd2 back w hw i h0 hi st hJ
  · obtain rfl : i = 0 := by omega
    exact u_roundZ k n hn la lb hla t0 d hd2 back w hw hi st hJ
end Aes
namespace Aes
open Go Go.LE Xf
set_option maxRecDepth 20000
theorem nms7_sl (m:Nm) (a b:Nat) (c:Option Nat) (d:Nat):nms 7 (.sl m a b c d)=[m]:=rfl
theorem runit_whole (k n:Nat) (hn:n≤20) (la lb:List (BitVec 8)) (hla:la.length=16*(n+2)) (hlb:lb.length=16*(n+2)) (u:BitVec 64) (d:List (BitVec 8)) (h16:16≤d.length) (hd2:d.length≤65536) (back:Bool) (hr:d.length % 16=0) :
    F C (k+7000) 45 [.ptr (0,0) 0,B64 u,.isl (bs d) d.length,Bo back] [PO,RA 2 n,bs la,RA 4 n,bs lb] =
    some (.tup [.sl (1,0) 0 d.length none 1,N 0],[some PO,some (RA 2 n),some (bs la),some (RA 4 n),some (bs lb)],[bs (qb3 (En back la n) (tw0 n lb u) d back)]):=by
  rw[qbT f45]
  have P0:PR (qb4 [PO,RA 2 n,bs la,RA 4 n,bs lb]) n la lb:=⟨rfl,rfl,rfl,rfl,rfl⟩
  generalize hI:qb4 [PO,RA 2 n,bs la,RA 4 n,bs lb]=H0 at P0
  have hle:¬ d.length < 16:=by omega
  have hle2:¬ 65536 < d.length:=by omega
  have htw:=fun b=>c_tweaks (k+999) n b hn la lb hlb u (d.length / 16+1) (by omega) (by omega) H0 P0
  have hsame:=P0.same
  have d0:decide (0 < d.length % 16)=false:=decide_eq_false (by omega)
  simp (disch:=first|omega|decide|simp only[qaf,qad,qag,qae,qah,qac,qaa,qab,qai]) only[qbk,qbh,qat,qaX,qao,qan,qal,qak,qbm,qcv,qar,qay,qaJ,qaq,qcd,qaH,qcx,qaG,qa7,qa1,qaj,qaD,qas,zM,zN,zO,zP,zG,zC,zI,zR,qbd,z7,zK,zJ,qbH,Nat.reduceAdd,Nat.reduceSub,zA,zB,zL,qcU,zB,zA,qbz,N_quo,N_rem,qaW,N_gtr,Nat.reduceAdd,zL,qcm,qbA,qcT,qaI,qaZ,qaA,Nat.reduceSub,qam,qam,L45,hI,hle,hle2,htw,hsame,d0]
  obtain ⟨t0,ht0⟩:∃ t0,t0=tw0 n lb u:=⟨_,rfl⟩
  rw[←ht0]
  generalize hL:qbW L45k0 _ _ _=r
  refine qby hL (urJ n la lb t0 d back (d.length / 16)) (d.length / 16) (by omega) (fun i st hi hJ=>u_round (k+6919) n hn la lb hla t0 d hd2 back (d.length / 16) (by omega) i hi st hJ) ?_ ?_ ?_
  · refine qaT [(24, 0)] rfl (by simp only [qav, FUEL, qaE, qaQ, qci, qaO, zV, zX, zI, zR, zQ, zC, zG, qaN, qaL, qaC, qbb, qbj, L45k0, qbB, qaQ, qbj, qbw]; rw [PR.skip (P0.up _ _ (by decide))]; simp only [qaz, qax, qaB, zI, zR, zQ, zW, zY, zF, zm, zn, zf, Nat.reduceEqDiff, zS, zZ, zl, zzC, zD, zE, zb, zh, zq, zp, zo, ne_eq, zt, z9, qap, PO_nms, RA_nms, qaP, P0.g0, P0.g1, P0.g2, P0.g3, P0.g4]) (by simp only [zC, zG, qaN, qaL, qaC, L45k0, zG, zC, qbO]; rfl) ⟨_, .inl ⟨rfl, rfl, ?_, ?_⟩⟩
    · exact PR.cn (P0.up _ _ (by decide)) _
    · exact qau (24,0) rfl (by simp (disch:=first|omega|decide|simp only[qaf,qad,qag,qae,qah,qac,qaa,qab,qai]) only[qap,zD,ht0]) (qaK _ _)
  · intro st hJ
    obtain ⟨H,rfl,P,h1,h2⟩:=hJ.of_s (by omega)
    apply qbs
    simp (disch:=first|omega|decide|simp only[qaf,qad,qag,qae,qah,qac,qaa,qab,qai]) only[qa0,qat,qao,qan,qal,qak,qaM,qar,qay,qaq,qaH,qaG,qaj,qaF,qaD,qas,zM,zN,zO,zP,zK,zJ,Nat.reduceAdd,zA,zB,zL,zB,zA,qaW,Nat.reduceAdd,zi,zL,L45b0,zi]
    rfl
  · intro st hJ hr'
    obtain ⟨H,rfl,P,h1,h2⟩:=hJ.of_s (by omega)
    subst hr'
    have e16:16*(d.length / 16)=d.length:=by omega
    rw[show done (En back la n) t0 d (d.length / 16)=qb3 (En back la n) t0 d back by rw[qb3,if_pos hr]] at h2
    simp (disch:=first|omega|decide|simp only[qaf,qad,qag,qae,qah,qac,qaa,qab,qai]) only[qbI,qa0,qat,qao,qan,qal,qak,qar,qay,qaJ,qaq,qaH,qaG,qaj,qdx,qaF,qa8,qaD,qa3,qas,qbr,zM,zN,zO,zP,zK,zJ,zH,Nat.reduceAdd,zD,zA,zB,zT,zL,qc4,zB,zA,N_eql,qaW,Nat.reduceAdd,zi,zL,zT,qaI,qaA,zH,qam,qam,L45b0,zi,hr,e16]
    refine out_fin (names:=[(1,1)]) ?_ ?_
    · simp only [qav, FUEL, zV, zX, zI, zR, zQ, zC, zG, qbB, qcV, nms7_N, nms7_sl]
      rw[PR.skip P]
      simp only[qaz,qax,qaB,zI,zR,zQ,zW,zY,zF,zm,zn,zf,Nat.reduceEqDiff,zS,zZ,zl,zD,zE,zb,zq,zp,zo,ne_eq,zt,z9,qaP,h2]
    · simp (disch := first | omega | decide | simp only [qaf, qad, qag, qae, qah, qac, qaa, qab, qai]) only [zG, zC, zH, zF, zS, zzB, zH, qaK, List.filterMap_cons, qbB, PO_ren, RA_ren, qaK, qb8, P.g0, P.g1, P.g2, P.g3, P.g4, h2]
      rfl
theorem runit_Sf (k n:Nat) (hn:n≤20) (la lb:List (BitVec 8)) (hla:la.length=16*(n+2)) (hlb:lb.length=16*(n+2)) (u:BitVec 64) (d:List (BitVec 8)) (h16:16≤d.length) (hd2:d.length≤65536) (hr:d.length % 16≠0) (m:Nat) (hm':m=d.length / 16 - 1) (hm0:0 < m) :
    F C (k+7000) 45 [.ptr (0,0) 0,B64 u,.isl (bs d) d.length,Bo false] [PO,RA 2 n,bs la,RA 4 n,bs lb] =
    some (.tup [.sl (1,0) 0 d.length none 1,N 0],[some PO,some (RA 2 n),some (bs la),some (RA 4 n),some (bs lb)],[bs (qb3 (En false la n) (tw0 n lb u) d false)]):=by
  rw[qbT f45]
  have P0:PR (qb4 [PO,RA 2 n,bs la,RA 4 n,bs lb]) n la lb:=⟨rfl,rfl,rfl,rfl,rfl⟩
  generalize hI:qb4 [PO,RA 2 n,bs la,RA 4 n,bs lb]=H0 at P0
  have hle:¬ d.length < 16:=by omega
  have hle2:¬ 65536 < d.length:=by omega
  have htw:=fun b=>c_tweaks (k+999) n b hn la lb hlb u (d.length / 16+1) (by omega) (by omega) H0 P0
  have hsame:=P0.same
  have d0:decide (0 < d.length % 16)=true:=decide_eq_true (by omega)
  simp (disch:=first|omega|decide|simp only[qaf,qad,qag,qae,qah,qac,qaa,qab,qai]) only[qbk,qbh,qat,qaX,qao,qan,qal,qak,qbm,qcv,qar,qay,qaJ,qaq,qcd,qaH,qcx,qaG,qa7,qa1,qaj,qaD,qa3,qas,zM,zN,zO,zP,zG,zC,zI,zR,qbd,z7,zK,zJ,qbH,Nat.reduceAdd,Nat.reduceSub,zA,zB,zL,qcU,zB,zA,qbz,N_sub,N_quo,N_rem,qaW,N_gtr,Nat.reduceAdd,zL,qcm,qbA,qcT,qaI,qaZ,qaA,Nat.reduceSub,qam,qam,L45,hI,hle,hle2,htw,hsame,d0,←hm']
  obtain ⟨t0,ht0⟩:∃ t0,t0=tw0 n lb u:=⟨_,rfl⟩
  rw[←ht0]
  generalize hL:qbW L45k0 _ _ _=r
  refine qby hL (urJ n la lb t0 d false m) m (by omega) (fun i st hi hJ=>u_round (k+6919) n hn la lb hla t0 d hd2 false m (by omega) i hi st hJ) ?_ ?_ ?_
  · refine qaT [(24, 0)] rfl (by simp only [qav, FUEL, qaE, qaQ, qci, qaO, zV, zX, zI, zR, zQ, zC, zG, qaN, qaL, qaC, qbb, qbj, L45k0, qbB, qaQ, qbj, qbw]; rw [PR.skip (P0.up _ _ (by decide))]; simp only [qaz, qax, qaB, zI, zR, zQ, zW, zY, zF, zm, zn, zf, Nat.reduceEqDiff, zS, zZ, zl, zzC, zD, zE, zb, zh, zq, zp, zo, ne_eq, zt, z9, qap, PO_nms, RA_nms, qaP, P0.g0, P0.g1, P0.g2, P0.g3, P0.g4]) (by simp only [zC, zG, qaN, qaL, qaC, L45k0, zG, zC, qbO]; rfl) ⟨_, .inl ⟨rfl, rfl, ?_, ?_⟩⟩
    · exact PR.cn (P0.up _ _ (by decide)) _
    · exact qau (24,0) rfl (by simp (disch:=first|omega|decide|simp only[qaf,qad,qag,qae,qah,qac,qaa,qab,qai]) only[qap,zD,ht0]) (qaK _ _)
  · intro st hJ
    obtain ⟨H,rfl,P,h1,h2⟩:=hJ.of_s hm0
    apply qbs
    simp (disch:=first|omega|decide|simp only[qaf,qad,qag,qae,qah,qac,qaa,qab,qai]) only[qa0,qat,qao,qan,qal,qak,qaM,qar,qay,qaq,qaH,qaG,qaj,qaF,qaD,qas,zM,zN,zO,zP,zK,zJ,Nat.reduceAdd,zA,zB,zL,zB,zA,qaW,Nat.reduceAdd,zi,zL,L45b0,zi]
    rfl
  · intro st hJ hr'
    obtain ⟨H,rfl,P,h1,h2⟩:=hJ.of_s hm0
    subst hr'
    have hres:¬ d.length % 16=0:=hr
    have m0:d.length / 16 - 1=m:=hm'.symm
    have tm:=twl_cell t0 (d.length / 16+1) m (by omega)
    have tm1:=twl_cell t0 (d.length / 16+1) (m+1) (by omega)
    have j0:m < d.length / 16+1:=by omega
    have j1:m+1 < d.length / 16+1:=by omega
    have i0:16*m≤16*m+16:=by omega
    have i1:16*m+16≤d.length:=by omega
    have i2:16*m+16 - 16*m=16:=by omega
    have hbk:List.take 16 (List.drop (16*m) (bs d))=bs (blk d m):=bs_sub d (16*m)
    have hbl:(blk d m).length=16:=blk_length d m (by omega)
    simp (disch:=first|omega|decide|simp only[qaf,qad,qag,qae,qah,qac,qaa,qab,qai]) only[qbh,qa0,qat,qao,qan,qal,qak,qar,qbc,qay,qaJ,qaq,qaH,qaG,qa7,qa1,qaj,qaF,qa8,qaD,qas,qci,zM,zN,zO,zP,zG,zC,zV,zX,zI,zQ,zK,zJ,Nat.reduceAdd,Nat.reduceSub,qap,qa5,qaR,qbv,qco,qcO,qbF,qbl,za,zd,zU,zF,Nat.reduceEqDiff,Nat.reduceLT,zS,zD,zE,zA,zB,zT,zL,qcb,qcz,qbe,zk,zB,zA,qbz,N_sub,N_mul,N_eql,qaW,qbJ,Nat.reduceLT,Nat.reduceEqDiff,Nat.reduceAdd,zi,zL,zT,qce,zg,ze,qcT,qcg,op_slcS,slcV_isl,qcn,op_iaS,qdf,qaI,qaZ,qaA,qa6,qbw,zk,qa9,qbo,qbE,qc1,qcl,qb7,nms_fn,qaE,zY,zW,zx,z6,z0,qbQ,qba,za,zd,Nat.testBit,Nat.reduceShiftRight,Nat.reduceAnd,Nat.reduceBEq,ze,zg,zy,zU,zj,Nat.reduceSub,Nat.reduceLT,bne,qbg,qbG,qbS,qbp,qcP,qb0,qbY,zj,zU,qaU,qam,qam,qaU,L45b0,zi,hres,m0,tm,tm1,i2,hbk,h1,qbe,qbw,qaE,qci]
    generalize hG2:upd (upd (upd (upd H (19,0) _) (20,0) _) (19,0) _) (20,0) _=G2
    have P2:PR G2 n la lb:=by rw[←hG2]; exact (((P.up _ _ (by decide)).up _ _ (by decide)).up _ _ (by decide)).up _ _ (by decide)
    have qb:G2 (20,0)=some (aB 16 (qb1 (tw2 t0 m false))):=by rw[←hG2]; rfl
    have q2:G2 (1,1)=some (bs (done (En false la n) t0 d m)):=by rw[←hG2]; exact h2
    have P5:PR (only five G2) n la lb:=⟨P2.g0,P2.g1,P2.g2,P2.g3,P2.g4⟩
    obtain ⟨sto,hsto⟩:∃ sto,sto=stolen (En false la n) t0 d false m:=⟨_,rfl⟩
    have hsl:sto.length=16:=by rw[hsto,stolen,qdm]
    obtain ⟨rst,hrst⟩:∃ rst,rst=d.drop (16*m+16):=⟨_,rfl⟩
    have hrsl:rst.length=d.length % 16:=by rw[hrst,zzH]; omega
    have hr0:0 < d.length % 16:=by omega
    have hrl:d.length % 16 < 16:=Nat.mod_lt _ (by decide)
    have hr16:d.length % 16≤16:=by omega
    have hsr:d.length - (16*m+16)=d.length % 16:=by omega
    rw [P2.reach, c_at (k + 6919) n _ hn la lb hla (tws t0 m) _ (blk d m) hbl false (only five G2) P5 [] (snap_isl _ _) (by simp), P5.tr,
      show wtl (En false la n) (tws t0 m) (blk d m)=sto from hsto.symm]
    have hdr:List.drop (16*m+16) (bs d)=bs rst:=by rw[bs_drop,hrst]
    have hdr2:List.take (d.length % 16) (bs rst)=bs rst:=by rw[qcF,List.take_of_length_le (by omega)]
    have hfr:∀ H,front H 1 (d.length % 16) (.isl (bs rst) (d.length % 16))=some (bs rst):=fun H=>qdw rst _ hrsl
    have hap:∀ b H x,appX b 1 1 (d.length % 16) H [] (bs rst) (.sl x 0 0 (some 0) 1)=some ⟨.sl (b,0) 0 (d.length % 16) none 1,[bs rst],[]⟩:=fun b H x=>appX_e b _ H x (bs rst) hr (by omega)
    have hfk:qcG (d.length % 16) 1 (16 - d.length % 16) (some (bs sto))=some (bs (sto.drop (d.length % 16))):=by
      rw[qcG,if_pos (by rw[qad]; omega),bs_drop,qcF,List.take_of_length_le (by rw[zzH]; omega)]
    have e16:d.length % 16+(16 - d.length % 16)=16:=by omega
    have htk:rst.take (d.length % 16)=rst:=List.take_of_length_le (by omega)
    obtain ⟨las,hlas⟩:∃ las,las=rst++sto.drop (d.length % 16):=⟨_,rfl⟩
    have hlas':las=lastB (En false la n) t0 d false m:=by rw[hlas,hrst,hsto]; rfl
    have hlasl:las.length=16:=by rw[hlas,zzI,zzH]; omega
    simp (disch:=first|omega|decide|simp only[qaf,qad,qag,qae,qah,qac,qaa,qab,qai]) only[qat,qao,qan,qal,qak,qar,qay,qaJ,qaq,qaH,qaG,qa7,qa1,qaj,zM,zN,zO,zP,zG,zC,zI,zR,zQ,zK,zJ,Nat.reduceAdd,Nat.reduceSub,qap,qaR,qbv,qco,qb6,zw,za,zd,zU,zF,Nat.reduceEqDiff,Nat.reduceLT,zS,zD,zE,zA,zB,zT,zL,qcb,zk,zB,zA,qbz,N_mul,qbJ,Nat.reduceLT,Nat.reduceEqDiff,Nat.reduceAdd,zi,zL,zT,qce,zg,qb9,qcT,qch,lenOf_isl,qcA,qcB,qcC,appX_none,appN_bytes,qdi,qcg,op_slcS,slcV_none,slcV_isl,qcn,qdd,qcX,qaI,qaZ,qaA,qa6,qbw,zk,qa9,qbo,qbE,zY,zW,zx,z6,z0,qbQ,qba,za,zd,Nat.testBit,Nat.reduceShiftRight,Nat.reduceAnd,Nat.reduceBEq,zg,zy,zU,zj,Nat.reduceSub,Nat.reduceLT,bne,qbg,qbG,qbS,qbp,qdc,zj,zU,qcL,qaU,qam,qdo,qam,qaU,five,hsr,hdr,hdr2,hfr,hap,hfk,e16,htk,←hlas,qb,qaQ,qbw]
    generalize hG3:upd (upd (upd (upd (upd G2 (34,0) _) (36,0) _) (42,0) _) (42,0) _) (46,0) _=G3
    have P3:PR G3 n la lb:=by rw[←hG3]; exact ((((P2.up _ _ (by decide)).up _ _ (by decide)).up _ _ (by decide)).up _ _ (by decide)).up _ _ (by decide)
    have ss:G3 (34,0)=some (bs sto):=by rw[←hG3]; rfl
    have sl:G3 (46,0)=some (bs las):=by rw[←hG3]; rfl
    have s1:G3 (1,1)=some (bs (done (En false la n) t0 d m)):=by rw[←hG3]; exact q2
    have hsame3:=P3.same
    have hsn:snap G3 D (.sl (46,0) 0 16 none 1)=some (.isl (bs las) 16,[(46,0)]):=by
      rw[snap_bytes (H:=G3) (46,0) 0 16 none las sl (by decide),zw,List.take_of_length_le (by omega)]
    obtain ⟨W2,hW2⟩:∃ W2,W2=wtl (En false la n) (tw2 t0 m false) las:=⟨_,rfl⟩
    have hW2l:W2.length=16:=by rw[hW2,qdm]
    rw[c_at (k+6919) n _ hn la lb hla (tw2 t0 m false) _ las hlasl false G3 P3 [(46,0)] hsn (by decide),←hW2]
    have hf16:qcG 0 1 16 (some (bs W2))=some (bs W2):=by
      rw[qcG,if_pos (by rw[qad]; omega),zw,qcF,List.take_of_length_le (by omega)]
    have hfr2:qcG 0 1 (d.length % 16) (some (bs sto))=some (bs (sto.take (d.length % 16))):=by
      rw[qcG,if_pos (by rw[qad]; omega),zw,qcF,zk]
    have hdl:16*m+16+d.length % 16=d.length:=by omega
    have hfin:done (En false la n) t0 d m++W2++sto.take (d.length % 16)=qb3 (En false la n) t0 d false:=by
      rw[qb3,if_neg hr,←hm',hsto,hW2,hlas']
    have hdn:=qdn (En false la n) t0 d m
    have hap2:∀ b,appN b 1 16 0 (16*m) (1,1) (bs W2) (some (bs (done (En false la n) t0 d m)))=some ⟨.sl (b,0) 0 (16*m+16) none 1,[bs (done (En false la n) t0 d m++W2)],[((1,1),none)]⟩:=by
      intro b
      rw[appN_bytes _ _ _ _ _ _ (by omega),zw,List.take_of_length_le (by omega)]
    have hap3:∀ b x,appN b 1 (d.length % 16) 0 (16*m+16) x (bs (sto.take (d.length % 16))) (some (bs (done (En false la n) t0 d m++W2)))=some ⟨.sl (b,0) 0 d.length none 1,[bs (qb3 (En false la n) t0 d false)],[(x,none)]⟩:=by
      intro b x
      rw[appN_bytes _ _ _ _ _ _ (by rw[zzI]; omega),zw,List.take_of_length_le (by rw[zzI]; omega),hfin,hdl]
    simp (disch:=first|omega|decide|simp only[qaf,qad,qag,qae,qah,qac,qaa,qab,qai]) only[qbI,qat,qao,qan,qal,qak,qar,qay,qaJ,qaq,qaH,qaj,qbr,zM,zN,zO,zP,zK,zJ,zH,Nat.reduceAdd,qap,zF,Nat.reduceEqDiff,zS,zu,zD,zE,zA,zB,zb,zh,qc4,zk,zB,zA,qbJ,Nat.reduceEqDiff,Nat.reduceAdd,qb9,qch,qcA,qcB,qcC,appX_none,qdi,qcg,op_slcS,slcV_none,qcn,qaI,qaZ,qaA,qa6,zH,Nat.sub_zero,zk,qcL,qam,qam,hsame3,ss,s1,hf16,hfr2,hap2,hap3]
    refine out_fin (names:=[(60,0)]) ?_ ?_
    · simp only [qav, FUEL, zV, zX, zI, zR, zQ, zC, zG, qbB, qcV, nms7_N, nms7_sl]
      rw[PR.skip (((((P3.up _ _ (by decide)).up _ _ (by decide)).up _ _ (by decide)).up _ _ (by decide)).up _ _ (by decide))]
      simp only[qaz,qax,qaB,zI,zR,zQ,zW,zY,zF,zm,zn,zf,Nat.reduceEqDiff,zS,zZ,zl,zD,zE,zh,zq,zp,zo,ne_eq,zt,z9,qap,qaP]
    · simp (disch := first | omega | decide | simp only [qaf, qad, qag, qae, qah, qac, qaa, qab, qai]) only [zG, zC, zH, qap, zF, Nat.reduceEqDiff, zS, false_and, zu, zD, zE, zh, zzB, zH, qaK, List.filterMap_cons, qbB, PO_ren, RA_ren, qaK, qb8, P3.g0, P3.g1, P3.g2, P3.g3, P3.g4]
      rfl
end Aes
namespace Aes
open Go Go.LE Xf
set_option maxRecDepth 20000
theorem runit_St (k n:Nat) (hn:n≤20) (la lb:List (BitVec 8)) (hla:la.length=16*(n+2)) (hlb:lb.length=16*(n+2)) (u:BitVec 64) (d:List (BitVec 8)) (h16:16≤d.length) (hd2:d.length≤65536) (hr:d.length % 16≠0) (m:Nat) (hm':m=d.length / 16 - 1) (hm0:0 < m) :
    F C (k+7000) 45 [.ptr (0,0) 0,B64 u,.isl (bs d) d.length,Bo true] [PO,RA 2 n,bs la,RA 4 n,bs lb] =
    some (.tup [.sl (1,0) 0 d.length none 1,N 0],[some PO,some (RA 2 n),some (bs la),some (RA 4 n),some (bs lb)],[bs (qb3 (En true la n) (tw0 n lb u) d true)]):=by
  rw[qbT f45]
  have P0:PR (qb4 [PO,RA 2 n,bs la,RA 4 n,bs lb]) n la lb:=⟨rfl,rfl,rfl,rfl,rfl⟩
  generalize hI:qb4 [PO,RA 2 n,bs la,RA 4 n,bs lb]=H0 at P0
  have hle:¬ d.length < 16:=by omega
  have hle2:¬ 65536 < d.length:=by omega
  have htw:=fun b=>c_tweaks (k+999) n b hn la lb hlb u (d.length / 16+1) (by omega) (by omega) H0 P0
  have hsame:=P0.same
  have d0:decide (0 < d.length % 16)=true:=decide_eq_true (by omega)
  simp (disch:=first|omega|decide|simp only[qaf,qad,qag,qae,qah,qac,qaa,qab,qai]) only[qbk,qbh,qat,qaX,qao,qan,qal,qak,qbm,qcv,qar,qay,qaJ,qaq,qcd,qaH,qcx,qaG,qa7,qa1,qaj,qaD,qa3,qas,zM,zN,zO,zP,zG,zC,zI,zR,qbd,z7,zK,zJ,qbH,Nat.reduceAdd,Nat.reduceSub,zA,zB,zL,qcU,zB,zA,qbz,N_sub,N_quo,N_rem,qaW,N_gtr,Nat.reduceAdd,zL,qcm,qbA,qcT,qaI,qaZ,qaA,Nat.reduceSub,qam,qam,L45,hI,hle,hle2,htw,hsame,d0,←hm']
  obtain ⟨t0,ht0⟩:∃ t0,t0=tw0 n lb u:=⟨_,rfl⟩
  rw[←ht0]
  generalize hL:qbW L45k0 _ _ _=r
  refine qby hL (urJ n la lb t0 d true m) m (by omega) (fun i st hi hJ=>u_round (k+6919) n hn la lb hla t0 d hd2 true m (by omega) i hi st hJ) ?_ ?_ ?_
  · refine qaT [(24, 0)] rfl (by simp only [qav, FUEL, qaE, qaQ, qci, qaO, zV, zX, zI, zR, zQ, zC, zG, qaN, qaL, qaC, qbb, qbj, L45k0, qbB, qaQ, qbj, qbw]; rw [PR.skip (P0.up _ _ (by decide))]; simp only [qaz, qax, qaB, zI, zR, zQ, zW, zY, zF, zm, zn, zf, Nat.reduceEqDiff, zS, zZ, zl, zzC, zD, zE, zb, zh, zq, zp, zo, ne_eq, zt, z9, qap, PO_nms, RA_nms, qaP, P0.g0, P0.g1, P0.g2, P0.g3, P0.g4]) (by simp only [zC, zG, qaN, qaL, qaC, L45k0, zG, zC, qbO]; rfl) ⟨_, .inl ⟨rfl, rfl, ?_, ?_⟩⟩
    · exact PR.cn (P0.up _ _ (by decide)) _
    · exact qau (24,0) rfl (by simp (disch:=first|omega|decide|simp only[qaf,qad,qag,qae,qah,qac,qaa,qab,qai]) only[qap,zD,ht0]) (qaK _ _)
  · intro st hJ
    obtain ⟨H,rfl,P,h1,h2⟩:=hJ.of_s hm0
    apply qbs
    simp (disch:=first|omega|decide|simp only[qaf,qad,qag,qae,qah,qac,qaa,qab,qai]) only[qa0,qat,qao,qan,qal,qak,qaM,qar,qay,qaq,qaH,qaG,qaj,qaF,qaD,qas,zM,zN,zO,zP,zK,zJ,Nat.reduceAdd,zA,zB,zL,zB,zA,qaW,Nat.reduceAdd,zi,zL,L45b0,zi]
    rfl
  · intro st hJ hr'
    obtain ⟨H,rfl,P,h1,h2⟩:=hJ.of_s hm0
    subst hr'
    have hres:¬ d.length % 16=0:=hr
    have m0:d.length / 16 - 1=m:=hm'.symm
    have tm:=twl_cell t0 (d.length / 16+1) m (by omega)
    have tm1:=twl_cell t0 (d.length / 16+1) (m+1) (by omega)
    have j0:m < d.length / 16+1:=by omega
    have j1:m+1 < d.length / 16+1:=by omega
    have i0:16*m≤16*m+16:=by omega
    have i1:16*m+16≤d.length:=by omega
    have i2:16*m+16 - 16*m=16:=by omega
    have hbk:List.take 16 (List.drop (16*m) (bs d))=bs (blk d m):=bs_sub d (16*m)
    have hbl:(blk d m).length=16:=blk_length d m (by omega)
    simp (disch:=first|omega|decide|simp only[qaf,qad,qag,qae,qah,qac,qaa,qab,qai]) only[qbh,qa0,qat,qao,qan,qal,qak,qar,qbc,qay,qaJ,qaq,qaH,qaG,qa7,qa1,qaj,qaF,qa8,qaD,qa3,qas,qci,zM,zN,zO,zP,zG,zC,zV,zX,zI,zQ,zK,zJ,Nat.reduceAdd,Nat.reduceSub,qap,qa5,qaR,qbv,qco,qcO,qbF,qbl,za,zd,zU,zF,Nat.reduceEqDiff,Nat.reduceLT,zS,zD,zE,zA,zB,zT,zL,qcb,qcz,qbe,zk,zB,zA,qbz,N_sub,N_mul,N_eql,qaW,qbJ,Nat.reduceLT,Nat.reduceEqDiff,Nat.reduceAdd,zi,zL,zT,qce,zg,ze,qcT,qcg,op_slcS,slcV_isl,qcn,op_iaS,qdf,qaI,qaZ,qaA,qa6,qbw,zk,qa9,qbo,qbE,qc1,qcl,qb7,nms_fn,qaE,zY,zW,zx,z6,z0,qbQ,qba,za,zd,Nat.testBit,Nat.reduceShiftRight,Nat.reduceAnd,Nat.reduceBEq,ze,zg,zy,zU,zj,Nat.reduceSub,Nat.reduceLT,bne,qbg,qbG,qbS,qbp,qcP,qb0,qbY,zj,zU,qaU,qam,qam,qaU,L45b0,zi,hres,m0,tm,tm1,i2,hbk,h1,qbe,qbw,qaE,qci]
    generalize hG2:upd (upd (upd (upd (upd (upd H (19,0) _) (20,0) _) (19,0) _) (20,0) _) (19,0) _) (20,0) _=G2
    have P2:PR G2 n la lb:=by rw[←hG2]; exact (((((P.up _ _ (by decide)).up _ _ (by decide)).up _ _ (by decide)).up _ _ (by decide)).up _ _ (by decide)).up _ _ (by decide)
    have qb:G2 (20,0)=some (aB 16 (qb1 (tw2 t0 m true))):=by rw[←hG2]; rfl
    have q2:G2 (1,1)=some (bs (done (En true la n) t0 d m)):=by rw[←hG2]; exact h2
    have P5:PR (only five G2) n la lb:=⟨P2.g0,P2.g1,P2.g2,P2.g3,P2.g4⟩
    obtain ⟨sto,hsto⟩:∃ sto,sto=stolen (En true la n) t0 d true m:=⟨_,rfl⟩
    have hsl:sto.length=16:=by rw[hsto,stolen,qdm]
    obtain ⟨rst,hrst⟩:∃ rst,rst=d.drop (16*m+16):=⟨_,rfl⟩
    have hrsl:rst.length=d.length % 16:=by rw[hrst,zzH]; omega
    have hr0:0 < d.length % 16:=by omega
    have hrl:d.length % 16 < 16:=Nat.mod_lt _ (by decide)
    have hr16:d.length % 16≤16:=by omega
    have hsr:d.length - (16*m+16)=d.length % 16:=by omega
    rw [P2.reach, c_at (k + 6919) n _ hn la lb hla (tws t0 (m + 1)) _ (blk d m) hbl true (only five G2) P5 [] (snap_isl _ _) (by simp), P5.tr,
      show wtl (En true la n) (tws t0 (m+1)) (blk d m)=sto from hsto.symm]
    have hdr:List.drop (16*m+16) (bs d)=bs rst:=by rw[bs_drop,hrst]
    have hdr2:List.take (d.length % 16) (bs rst)=bs rst:=by rw[qcF,List.take_of_length_le (by omega)]
    have hfr:∀ H,front H 1 (d.length % 16) (.isl (bs rst) (d.length % 16))=some (bs rst):=fun H=>qdw rst _ hrsl
    have hap:∀ b H x,appX b 1 1 (d.length % 16) H [] (bs rst) (.sl x 0 0 (some 0) 1)=some ⟨.sl (b,0) 0 (d.length % 16) none 1,[bs rst],[]⟩:=fun b H x=>appX_e b _ H x (bs rst) hr (by omega)
    have hfk:qcG (d.length % 16) 1 (16 - d.length % 16) (some (bs sto))=some (bs (sto.drop (d.length % 16))):=by
      rw[qcG,if_pos (by rw[qad]; omega),bs_drop,qcF,List.take_of_length_le (by rw[zzH]; omega)]
    have e16:d.length % 16+(16 - d.length % 16)=16:=by omega
    have htk:rst.take (d.length % 16)=rst:=List.take_of_length_le (by omega)
    obtain ⟨las,hlas⟩:∃ las,las=rst++sto.drop (d.length % 16):=⟨_,rfl⟩
    have hlas':las=lastB (En true la n) t0 d true m:=by rw[hlas,hrst,hsto]; rfl
    have hlasl:las.length=16:=by rw[hlas,zzI,zzH]; omega
    simp (disch:=first|omega|decide|simp only[qaf,qad,qag,qae,qah,qac,qaa,qab,qai]) only[qat,qao,qan,qal,qak,qar,qay,qaJ,qaq,qaH,qaG,qa7,qa1,qaj,zM,zN,zO,zP,zG,zC,zI,zR,zQ,zK,zJ,Nat.reduceAdd,Nat.reduceSub,qap,qaR,qbv,qco,qb6,zw,za,zd,zU,zF,Nat.reduceEqDiff,Nat.reduceLT,zS,zD,zE,zA,zB,zT,zL,qcb,zk,zB,zA,qbz,N_mul,qbJ,Nat.reduceLT,Nat.reduceEqDiff,Nat.reduceAdd,zi,zL,zT,qce,zg,qb9,qcT,qch,lenOf_isl,qcA,qcB,qcC,appX_none,appN_bytes,qdi,qcg,op_slcS,slcV_none,slcV_isl,qcn,qdd,qcX,qaI,qaZ,qaA,qa6,qbw,zk,qa9,qbo,qbE,zY,zW,zx,z6,z0,qbQ,qba,za,zd,Nat.testBit,Nat.reduceShiftRight,Nat.reduceAnd,Nat.reduceBEq,zg,zy,zU,zj,Nat.reduceSub,Nat.reduceLT,bne,qbg,qbG,qbS,qbp,qdc,zj,zU,qcL,qaU,qam,qdo,qam,qaU,five,hsr,hdr,hdr2,hfr,hap,hfk,e16,htk,←hlas,qb,qaQ,qbw]
    generalize hG3:upd (upd (upd (upd (upd G2 (45,0) _) (47,0) _) (53,0) _) (53,0) _) (57,0) _=G3
    have P3:PR G3 n la lb:=by rw[←hG3]; exact ((((P2.up _ _ (by decide)).up _ _ (by decide)).up _ _ (by decide)).up _ _ (by decide)).up _ _ (by decide)
    have ss:G3 (45,0)=some (bs sto):=by rw[←hG3]; rfl
    have sl:G3 (57,0)=some (bs las):=by rw[←hG3]; rfl
    have s1:G3 (1,1)=some (bs (done (En true la n) t0 d m)):=by rw[←hG3]; exact q2
    have hsame3:=P3.same
    have hsn:snap G3 D (.sl (57,0) 0 16 none 1)=some (.isl (bs las) 16,[(57,0)]):=by
      rw[snap_bytes (H:=G3) (57,0) 0 16 none las sl (by decide),zw,List.take_of_length_le (by omega)]
    obtain ⟨W2,hW2⟩:∃ W2,W2=wtl (En true la n) (tw2 t0 m true) las:=⟨_,rfl⟩
    have hW2l:W2.length=16:=by rw[hW2,qdm]
    rw[c_at (k+6919) n _ hn la lb hla (tw2 t0 m true) _ las hlasl true G3 P3 [(57,0)] hsn (by decide),←hW2]
    have hf16:qcG 0 1 16 (some (bs W2))=some (bs W2):=by
      rw[qcG,if_pos (by rw[qad]; omega),zw,qcF,List.take_of_length_le (by omega)]
    have hfr2:qcG 0 1 (d.length % 16) (some (bs sto))=some (bs (sto.take (d.length % 16))):=by
      rw[qcG,if_pos (by rw[qad]; omega),zw,qcF,zk]
    have hdl:16*m+16+d.length % 16=d.length:=by omega
    have hfin:done (En true la n) t0 d m++W2++sto.take (d.length % 16)=qb3 (En true la n) t0 d true:=by
      rw[qb3,if_neg hr,←hm',hsto,hW2,hlas']
    have hdn:=qdn (En true la n) t0 d m
    have hap2:∀ b,appN b 1 16 0 (16*m) (1,1) (bs W2) (some (bs (done (En true la n) t0 d m)))=some ⟨.sl (b,0) 0 (16*m+16) none 1,[bs (done (En true la n) t0 d m++W2)],[((1,1),none)]⟩:=by
      intro b
      rw[appN_bytes _ _ _ _ _ _ (by omega),zw,List.take_of_length_le (by omega)]
    have hap3:∀ b x,appN b 1 (d.length % 16) 0 (16*m+16) x (bs (sto.take (d.length % 16))) (some (bs (done (En true la n) t0 d m++W2)))=some ⟨.sl (b,0) 0 d.length none 1,[bs (qb3 (En true la n) t0 d true)],[(x,none)]⟩:=by
      intro b x
      rw[appN_bytes _ _ _ _ _ _ (by rw[zzI]; omega),zw,List.take_of_length_le (by rw[zzI]; omega),hfin,hdl]
    simp (disch:=first|omega|decide|simp only[qaf,qad,qag,qae,qah,qac,qaa,qab,qai]) only[qbI,qat,qao,qan,qal,qak,qar,qay,qaJ,qaq,qaH,qaj,qbr,zM,zN,zO,zP,zK,zJ,zH,Nat.reduceAdd,qap,zF,Nat.reduceEqDiff,zS,zu,zD,zE,zA,zB,zb,zh,qc4,zk,zB,zA,qbJ,Nat.reduceEqDiff,Nat.reduceAdd,qb9,qch,qcA,qcB,qcC,appX_none,qdi,qcg,op_slcS,slcV_none,qcn,qaI,qaZ,qaA,qa6,zH,Nat.sub_zero,zk,qcL,qam,qam,hsame3,ss,s1,hf16,hfr2,hap2,hap3]
    refine out_fin (names:=[(71,0)]) ?_ ?_
    · simp only [qav, FUEL, zV, zX, zI, zR, zQ, zC, zG, qbB, qcV, nms7_N, nms7_sl]
      rw[PR.skip (((((P3.up _ _ (by decide)).up _ _ (by decide)).up _ _ (by decide)).up _ _ (by decide)).up _ _ (by decide))]
      simp only[qaz,qax,qaB,zI,zR,zQ,zW,zY,zF,zm,zn,zf,Nat.reduceEqDiff,zS,zZ,zl,zD,zE,zh,zq,zp,zo,ne_eq,zt,z9,qap,qaP]
    · simp (disch := first | omega | decide | simp only [qaf, qad, qag, qae, qah, qac, qaa, qab, qai]) only [zG, zC, zH, qap, zF, Nat.reduceEqDiff, zS, false_and, zu, zD, zE, zh, zzB, zH, qaK, List.filterMap_cons, qbB, PO_ren, RA_ren, qaK, qb8, P3.g0, P3.g1, P3.g2, P3.g3, P3.g4]
      rfl
end Aes
namespace Aes
open Go Go.LE Xf
set_option maxRecDepth 20000
theorem runit_Zf (k n:Nat) (hn:n≤20) (la lb:List (BitVec 8)) (hla:la.length=16*(n+2)) (hlb:lb.length=16*(n+2)) (u:BitVec 64) (d:List (BitVec 8)) (h16:16≤d.length) (hd2:d.length≤65536) (hr:d.length % 16≠0) (m:Nat) (hm':m=d.length / 16 - 1) (hm0:m=0) :
    F C (k+7000) 45 [.ptr (0,0) 0,B64 u,.isl (bs d) d.length,Bo false] [PO,RA 2 n,bs la,RA 4 n,bs lb] =
    some (.tup [.sl (1,0) 0 d.length none 1,N 0],[some PO,some (RA 2 n),some (bs la),some (RA 4 n),some (bs lb)],[bs (qb3 (En false la n) (tw0 n lb u) d false)]):=by
  rw[qbT f45]
  have P0:PR (qb4 [PO,RA 2 n,bs la,RA 4 n,bs lb]) n la lb:=⟨rfl,rfl,rfl,rfl,rfl⟩
  generalize hI:qb4 [PO,RA 2 n,bs la,RA 4 n,bs lb]=H0 at P0
  have hle:¬ d.length < 16:=by omega
  have hle2:¬ 65536 < d.length:=by omega
  have htw:=fun b=>c_tweaks (k+999) n b hn la lb hlb u (d.length / 16+1) (by omega) (by omega) H0 P0
  have hsame:=P0.same
  have d0:decide (0 < d.length % 16)=true:=decide_eq_true (by omega)
  simp (disch:=first|omega|decide|simp only[qaf,qad,qag,qae,qah,qac,qaa,qab,qai]) only[qbk,qbh,qat,qaX,qao,qan,qal,qak,qbm,qcv,qar,qay,qaJ,qaq,qcd,qaH,qcx,qaG,qa7,qa1,qaj,qaD,qa3,qas,zM,zN,zO,zP,zG,zC,zI,zR,qbd,z7,zK,zJ,qbH,Nat.reduceAdd,Nat.reduceSub,zA,zB,zL,qcU,zB,zA,qbz,N_sub,N_quo,N_rem,qaW,N_gtr,Nat.reduceAdd,zL,qcm,qbA,qcT,qaI,qaZ,qaA,Nat.reduceSub,qam,qam,L45,hI,hle,hle2,htw,hsame,d0,←hm']
  obtain ⟨t0,ht0⟩:∃ t0,t0=tw0 n lb u:=⟨_,rfl⟩
  rw[←ht0]
  generalize hL:qbW L45k0 _ _ _=r
  refine qby hL (urJ n la lb t0 d false m) m (by omega) (fun i st hi hJ=>u_round (k+6919) n hn la lb hla t0 d hd2 false m (by omega) i hi st hJ) ?_ ?_ ?_
  · refine qaT [(24, 0)] rfl (by simp only [qav, FUEL, qaE, qaQ, qci, qaO, zV, zX, zI, zR, zQ, zC, zG, qaN, qaL, qaC, qbb, qbj, L45k0, qbB, qaQ, qbj, qbw]; rw [PR.skip (P0.up _ _ (by decide))]; simp only [qaz, qax, qaB, zI, zR, zQ, zW, zY, zF, zm, zn, zf, Nat.reduceEqDiff, zS, zZ, zl, zzC, zD, zE, zb, zh, zq, zp, zo, ne_eq, zt, z9, qap, PO_nms, RA_nms, qaP, P0.g0, P0.g1, P0.g2, P0.g3, P0.g4]) (by simp only [zC, zG, qaN, qaL, qaC, L45k0, zG, zC, qbO]; rfl) ⟨_, .inl ⟨rfl, rfl, ?_, ?_⟩⟩
    · exact PR.cn (P0.up _ _ (by decide)) _
    · exact qau (24,0) rfl (by simp (disch:=first|omega|decide|simp only[qaf,qad,qag,qae,qah,qac,qaa,qab,qai]) only[qap,zD,ht0]) (qaK _ _)
  · intro st hJ
    obtain ⟨H,rfl,P,h1⟩:=(show urJ n la lb t0 d false m 0 st by rw[hm0] at hJ ⊢; exact hJ).of_z
    have hlt0:¬ 0 < m:=by omega
    apply qbs
    simp (disch:=first|omega|decide|simp only[qaf,qad,qag,qae,qah,qac,qaa,qab,qai]) only[qa0,qat,qao,qan,qal,qak,qaM,qar,qay,qaq,qaH,qaG,qaj,qaF,qaD,qas,zM,zN,zO,zP,zK,zJ,Nat.reduceAdd,zA,zB,zL,zB,zA,qaW,Nat.reduceAdd,zL,L45b0,hlt0]
    rfl
  · intro st hJ hr'
    obtain ⟨H,rfl,P,h1⟩:=(show urJ n la lb t0 d false m 0 st by rw[hm0] at hJ ⊢; exact hJ).of_z
    have hlt0:¬ 0 < m:=by omega
    subst hr'
    have hres:¬ d.length % 16=0:=hr
    have m0:d.length / 16 - 1=m:=hm'.symm
    have tm:=twl_cell t0 (d.length / 16+1) m (by omega)
    have tm1:=twl_cell t0 (d.length / 16+1) (m+1) (by omega)
    have j0:m < d.length / 16+1:=by omega
    have j1:m+1 < d.length / 16+1:=by omega
    have i0:16*m≤16*m+16:=by omega
    have i1:16*m+16≤d.length:=by omega
    have i2:16*m+16 - 16*m=16:=by omega
    have hbk:List.take 16 (List.drop (16*m) (bs d))=bs (blk d m):=bs_sub d (16*m)
    have hbl:(blk d m).length=16:=blk_length d m (by omega)
    simp (disch:=first|omega|decide|simp only[qaf,qad,qag,qae,qah,qac,qaa,qab,qai]) only[qbh,qa0,qat,qao,qan,qal,qak,qar,qbc,qay,qaJ,qaq,qaH,qaG,qa7,qa1,qaj,qaF,qa8,qaD,qas,qci,zM,zN,zO,zP,zG,zC,zV,zX,zI,zQ,zK,zJ,Nat.reduceAdd,Nat.reduceSub,qap,qa5,qaR,qbv,qco,qcO,qbF,qbl,za,zd,zU,zF,Nat.reduceEqDiff,Nat.reduceLT,zS,zD,zE,zA,zB,zT,zL,qcb,qcz,qbe,zk,zB,zA,qbz,N_sub,N_mul,N_eql,qaW,qbJ,Nat.reduceLT,Nat.reduceEqDiff,Nat.reduceAdd,zL,zT,qce,zg,ze,qcT,qcg,op_slcS,slcV_isl,qcn,op_iaS,qdf,qaI,qaZ,qaA,qa6,qbw,zk,qa9,qbo,qbE,qc1,qcl,qb7,nms_fn,qaE,zY,zW,zx,z6,z0,qbQ,qba,za,zd,Nat.testBit,Nat.reduceShiftRight,Nat.reduceAnd,Nat.reduceBEq,ze,zg,zy,zU,zj,Nat.reduceSub,Nat.reduceLT,bne,qbg,qbG,qbS,qbp,qcP,qb0,qbY,zj,zU,qaU,qam,qam,qaU,L45b0,hlt0,hres,m0,tm,tm1,i2,hbk,h1,qbe,qbw,qaE,qci]
    generalize hG2:upd (upd (upd (upd H (19,0) _) (20,0) _) (19,0) _) (20,0) _=G2
    have P2:PR G2 n la lb:=by rw[←hG2]; exact (((P.up _ _ (by decide)).up _ _ (by decide)).up _ _ (by decide)).up _ _ (by decide)
    have qb:G2 (20,0)=some (aB 16 (qb1 (tw2 t0 m false))):=by rw[←hG2]; rfl
    have P5:PR (only five G2) n la lb:=⟨P2.g0,P2.g1,P2.g2,P2.g3,P2.g4⟩
    obtain ⟨sto,hsto⟩:∃ sto,sto=stolen (En false la n) t0 d false m:=⟨_,rfl⟩
    have hsl:sto.length=16:=by rw[hsto,stolen,qdm]
    obtain ⟨rst,hrst⟩:∃ rst,rst=d.drop (16*m+16):=⟨_,rfl⟩
    have hrsl:rst.length=d.length % 16:=by rw[hrst,zzH]; omega
    have hr0:0 < d.length % 16:=by omega
    have hrl:d.length % 16 < 16:=Nat.mod_lt _ (by decide)
    have hr16:d.length % 16≤16:=by omega
    have hsr:d.length - (16*m+16)=d.length % 16:=by omega
    rw [P2.reach, c_at (k + 6919) n _ hn la lb hla (tws t0 m) _ (blk d m) hbl false (only five G2) P5 [] (snap_isl _ _) (by simp), P5.tr,
      show wtl (En false la n) (tws t0 m) (blk d m)=sto from hsto.symm]
    have hdr:List.drop (16*m+16) (bs d)=bs rst:=by rw[bs_drop,hrst]
    have hdr2:List.take (d.length % 16) (bs rst)=bs rst:=by rw[qcF,List.take_of_length_le (by omega)]
    have hfr:∀ H,front H 1 (d.length % 16) (.isl (bs rst) (d.length % 16))=some (bs rst):=fun H=>qdw rst _ hrsl
    have hap:∀ b H x,appX b 1 1 (d.length % 16) H [] (bs rst) (.sl x 0 0 (some 0) 1)=some ⟨.sl (b,0) 0 (d.length % 16) none 1,[bs rst],[]⟩:=fun b H x=>appX_e b _ H x (bs rst) hr (by omega)
    have hfk:qcG (d.length % 16) 1 (16 - d.length % 16) (some (bs sto))=some (bs (sto.drop (d.length % 16))):=by
      rw[qcG,if_pos (by rw[qad]; omega),bs_drop,qcF,List.take_of_length_le (by rw[zzH]; omega)]
    have e16:d.length % 16+(16 - d.length % 16)=16:=by omega
    have htk:rst.take (d.length % 16)=rst:=List.take_of_length_le (by omega)
    obtain ⟨las,hlas⟩:∃ las,las=rst++sto.drop (d.length % 16):=⟨_,rfl⟩
    have hlas':las=lastB (En false la n) t0 d false m:=by rw[hlas,hrst,hsto]; rfl
    have hlasl:las.length=16:=by rw[hlas,zzI,zzH]; omega
    simp (disch:=first|omega|decide|simp only[qaf,qad,qag,qae,qah,qac,qaa,qab,qai]) only[qat,qao,qan,qal,qak,qar,qay,qaJ,qaq,qaH,qaG,qa7,qa1,qaj,zM,zN,zO,zP,zG,zC,zI,zR,zQ,zK,zJ,Nat.reduceAdd,Nat.reduceSub,qap,qaR,qbv,qco,qb6,zw,za,zd,zU,zF,Nat.reduceEqDiff,Nat.reduceLT,zS,zD,zE,zA,zB,zT,zL,qcb,zk,zB,zA,qbz,N_mul,qbJ,Nat.reduceLT,Nat.reduceEqDiff,Nat.reduceAdd,zi,zL,zT,qce,zg,qb9,qcT,qch,lenOf_isl,qcA,qcB,qcC,appX_none,appN_bytes,qdi,qcg,op_slcS,slcV_none,slcV_isl,qcn,qdd,qcX,qaI,qaZ,qaA,qa6,qbw,zk,qa9,qbo,qbE,zY,zW,zx,z6,z0,qbQ,qba,za,zd,Nat.testBit,Nat.reduceShiftRight,Nat.reduceAnd,Nat.reduceBEq,zg,zy,zU,zj,Nat.reduceSub,Nat.reduceLT,bne,qbg,qbG,qbS,qbp,qdc,zj,zU,qcL,qaU,qam,qdo,qam,qaU,five,hsr,hdr,hdr2,hfr,hap,hfk,e16,htk,←hlas,qb,qaQ,qbw]
    generalize hG3:upd (upd (upd (upd (upd G2 (34,0) _) (36,0) _) (42,0) _) (42,0) _) (46,0) _=G3
    have P3:PR G3 n la lb:=by rw[←hG3]; exact ((((P2.up _ _ (by decide)).up _ _ (by decide)).up _ _ (by decide)).up _ _ (by decide)).up _ _ (by decide)
    have ss:G3 (34,0)=some (bs sto):=by rw[←hG3]; rfl
    have sl:G3 (46,0)=some (bs las):=by rw[←hG3]; rfl
    have hsame3:=P3.same
    have hsn:snap G3 D (.sl (46,0) 0 16 none 1)=some (.isl (bs las) 16,[(46,0)]):=by
      rw[snap_bytes (H:=G3) (46,0) 0 16 none las sl (by decide),zw,List.take_of_length_le (by omega)]
    obtain ⟨W2,hW2⟩:∃ W2,W2=wtl (En false la n) (tw2 t0 m false) las:=⟨_,rfl⟩
    have hW2l:W2.length=16:=by rw[hW2,qdm]
    rw[c_at (k+6919) n _ hn la lb hla (tw2 t0 m false) _ las hlasl false G3 P3 [(46,0)] hsn (by decide),←hW2]
    have hf16:qcG 0 1 16 (some (bs W2))=some (bs W2):=by
      rw[qcG,if_pos (by rw[qad]; omega),zw,qcF,List.take_of_length_le (by omega)]
    have hfr2:qcG 0 1 (d.length % 16) (some (bs sto))=some (bs (sto.take (d.length % 16))):=by
      rw[qcG,if_pos (by rw[qad]; omega),zw,qcF,zk]
    have hdl:16*m+16+d.length % 16=d.length:=by omega
    have hfin:done (En false la n) t0 d m++W2++sto.take (d.length % 16)=qb3 (En false la n) t0 d false:=by
      rw[qb3,if_neg hr,←hm',hsto,hW2,hlas']
    have hap3:∀ b x,appN b 1 (d.length % 16) 0 16 x (bs (sto.take (d.length % 16))) (some (bs W2))=some ⟨.sl (b,0) 0 d.length none 1,[bs (qb3 (En false la n) t0 d false)],[(x,none)]⟩:=by
      intro b x
      rw[appN_bytes _ _ _ _ _ _ (by omega),zw,List.take_of_length_le (by omega),←hfin,show done (En false la n) t0 d m=[] by rw[hm0]; rfl,zI,show 16+d.length % 16=d.length by omega]
    simp (disch:=first|omega|decide|simp only[qaf,qad,qag,qae,qah,qac,qaa,qab,qai]) only[qbI,qat,qao,qan,qal,qak,qar,qay,qaJ,qaq,qaH,qaj,qbr,zM,zN,zO,zP,zK,zJ,zH,Nat.reduceAdd,qap,zF,Nat.reduceEqDiff,zS,zD,zE,zA,zB,qc4,zk,zB,zA,qbJ,Nat.reduceEqDiff,Nat.reduceAdd,qb9,qch,qcA,qcB,qcC,appX_none,appX_nil,qdi,qcg,op_slcS,slcV_none,qcn,qaI,qaZ,qaA,qa6,zH,Nat.sub_zero,zk,qcL,qam,qam,hsame3,ss,hf16,hfr2,hap3]
    refine out_fin (names:=[(60,0)]) ?_ ?_
    · simp only [qav, FUEL, zV, zX, zI, zR, zQ, zC, zG, qbB, qcV, nms7_N, nms7_sl]
      rw[PR.skip ((((P3.up _ _ (by decide)).up _ _ (by decide)).up _ _ (by decide)).up _ _ (by decide))]
      simp only[qaz,qax,qaB,zI,zR,zQ,zW,zY,zF,zm,zn,zf,Nat.reduceEqDiff,zS,zZ,zl,zD,zE,zh,zq,zp,zo,ne_eq,zt,z9,qap,qaP]
    · simp (disch := first | omega | decide | simp only [qaf, qad, qag, qae, qah, qac, qaa, qab, qai]) only [zG, zC, zH, qap, zF, Nat.reduceEqDiff, zS, false_and, zD, zE, zzB, zH, qaK, List.filterMap_cons, qbB, PO_ren, RA_ren, qaK, qb8, P3.g0, P3.g1, P3.g2, P3.g3, P3.g4]
      rfl
end Aes
namespace Aes
open Go Go.LE Xf
set_option maxRecDepth 20000
theorem runit_Zt (k n:Nat) (hn:n≤20) (la lb:List (BitVec 8)) (hla:la.length=16*(n+2)) (hlb:lb.length=16*(n+2)) (u:BitVec 64) (d:List (BitVec 8)) (h16:16≤d.length) (hd2:d.length≤65536) (hr:d.length % 16≠0) (m:Nat) (hm':m=d.length / 16 - 1) (hm0:m=0) :
    F C (k+7000) 45 [.ptr (0,0) 0,B64 u,.isl (bs d) d.length,Bo true] [PO,RA 2 n,bs la,RA 4 n,bs lb] =
    some (.tup [.sl (1,0) 0 d.length none 1,N 0],[some PO,some (RA 2 n),some (bs la),some (RA 4 n),some (bs lb)],[bs (qb3 (En true la n) (tw0 n lb u) d true)]):=by
  rw[qbT f45]
  have P0:PR (qb4 [PO,RA 2 n,bs la,RA 4 n,bs lb]) n la lb:=⟨rfl,rfl,rfl,rfl,rfl⟩
  generalize hI:qb4 [PO,RA 2 n,bs la,RA 4 n,bs lb]=H0 at P0
  have hle:¬ d.length < 16:=by omega
  have hle2:¬ 65536 < d.length:=by omega
  have htw:=fun b=>c_tweaks (k+999) n b hn la lb hlb u (d.length / 16+1) (by omega) (by omega) H0 P0
  have hsame:=P0.same
  have d0:decide (0 < d.length % 16)=true:=decide_eq_true (by omega)
  simp (disch:=first|omega|decide|simp only[qaf,qad,qag,qae,qah,qac,qaa,qab,qai]) only[qbk,qbh,qat,qaX,qao,qan,qal,qak,qbm,qcv,qar,qay,qaJ,qaq,qcd,qaH,qcx,qaG,qa7,qa1,qaj,qaD,qa3,qas,zM,zN,zO,zP,zG,zC,zI,zR,qbd,z7,zK,zJ,qbH,Nat.reduceAdd,Nat.reduceSub,zA,zB,zL,qcU,zB,zA,qbz,N_sub,N_quo,N_rem,qaW,N_gtr,Nat.reduceAdd,zL,qcm,qbA,qcT,qaI,qaZ,qaA,Nat.reduceSub,qam,qam,L45,hI,hle,hle2,htw,hsame,d0,←hm']
  obtain ⟨t0,ht0⟩:∃ t0,t0=tw0 n lb u:=⟨_,rfl⟩
  rw[←ht0]
  generalize hL:qbW L45k0 _ _ _=r
  refine qby hL (urJ n la lb t0 d true m) m (by omega) (fun i st hi hJ=>u_round (k+6919) n hn la lb hla t0 d hd2 true m (by omega) i hi st hJ) ?_ ?_ ?_
  · refine qaT [(24, 0)] rfl (by simp only [qav, FUEL, qaE, qaQ, qci, qaO, zV, zX, zI, zR, zQ, zC, zG, qaN, qaL, qaC, qbb, qbj, L45k0, qbB, qaQ, qbj, qbw]; rw [PR.skip (P0.up _ _ (by decide))]; simp only [qaz, qax, qaB, zI, zR, zQ, zW, zY, zF, zm, zn, zf, Nat.reduceEqDiff, zS, zZ, zl, zzC, zD, zE, zb, zh, zq, zp, zo, ne_eq, zt, z9, qap, PO_nms, RA_nms, qaP, P0.g0, P0.g1, P0.g2, P0.g3, P0.g4]) (by simp only [zC, zG, qaN, qaL, qaC, L45k0, zG, zC, qbO]; rfl) ⟨_, .inl ⟨rfl, rfl, ?_, ?_⟩⟩
    · exact PR.cn (P0.up _ _ (by decide)) _
    · exact qau (24,0) rfl (by simp (disch:=first|omega|decide|simp only[qaf,qad,qag,qae,qah,qac,qaa,qab,qai]) only[qap,zD,ht0]) (qaK _ _)
  · intro st hJ
    obtain ⟨H,rfl,P,h1⟩:=(show urJ n la lb t0 d true m 0 st by rw[hm0] at hJ ⊢; exact hJ).of_z
    have hlt0:¬ 0 < m:=by omega
    apply qbs
    simp (disch:=first|omega|decide|simp only[qaf,qad,qag,qae,qah,qac,qaa,qab,qai]) only[qa0,qat,qao,qan,qal,qak,qaM,qar,qay,qaq,qaH,qaG,qaj,qaF,qaD,qas,zM,zN,zO,zP,zK,zJ,Nat.reduceAdd,zA,zB,zL,zB,zA,qaW,Nat.reduceAdd,zL,L45b0,hlt0]
    rfl
  · intro st hJ hr'
    obtain ⟨H,rfl,P,h1⟩:=(show urJ n la lb t0 d true m 0 st by rw[hm0] at hJ ⊢; exact hJ).of_z
    have hlt0:¬ 0 < m:=by omega
    subst hr'
    have hres:¬ d.length % 16=0:=hr
    have m0:d.length / 16 - 1=m:=hm'.symm
    have tm:=twl_cell t0 (d.length / 16+1) m (by omega)
    have tm1:=twl_cell t0 (d.length / 16+1) (m+1) (by omega)
    have j0:m < d.length / 16+1:=by omega
    have j1:m+1 < d.length / 16+1:=by omega
    have i0:16*m≤16*m+16:=by omega
    have i1:16*m+16≤d.length:=by omega
    have i2:16*m+16 - 16*m=16:=by omega
    have hbk:List.take 16 (List.drop (16*m) (bs d))=bs (blk d m):=bs_sub d (16*m)
    have hbl:(blk d m).length=16:=blk_length d m (by omega)
    simp (disch:=first|omega|decide|simp only[qaf,qad,qag,qae,qah,qac,qaa,qab,qai]) only[qbh,qa0,qat,qao,qan,qal,qak,qar,qbc,qay,qaJ,qaq,qaH,qaG,qa7,qa1,qaj,qaF,qa8,qaD,qa3,qas,qci,zM,zN,zO,zP,zG,zC,zV,zX,zI,zQ,zK,zJ,Nat.reduceAdd,Nat.reduceSub,qap,qa5,qaR,qbv,qco,qcO,qbF,qbl,za,zd,zU,zF,Nat.reduceEqDiff,Nat.reduceLT,zS,zD,zE,zA,zB,zT,zL,qcb,qcz,qbe,zk,zB,zA,qbz,N_sub,N_mul,N_eql,qaW,qbJ,Nat.reduceLT,Nat.reduceEqDiff,Nat.reduceAdd,zL,zT,qce,zg,ze,qcT,qcg,op_slcS,slcV_isl,qcn,op_iaS,qdf,qaI,qaZ,qaA,qa6,qbw,zk,qa9,qbo,qbE,qc1,qcl,qb7,nms_fn,qaE,zY,zW,zx,z6,z0,qbQ,qba,za,zd,Nat.testBit,Nat.reduceShiftRight,Nat.reduceAnd,Nat.reduceBEq,ze,zg,zy,zU,zj,Nat.reduceSub,Nat.reduceLT,bne,qbg,qbG,qbS,qbp,qcP,qb0,qbY,zj,zU,qaU,qam,qam,qaU,L45b0,hlt0,hres,m0,tm,tm1,i2,hbk,h1,qbe,qbw,qaE,qci]
    generalize hG2:upd (upd (upd (upd (upd (upd H (19,0) _) (20,0) _) (19,0) _) (20,0) _) (19,0) _) (20,0) _=G2
    have P2:PR G2 n la lb:=by rw[←hG2]; exact (((((P.up _ _ (by decide)).up _ _ (by decide)).up _ _ (by decide)).up _ _ (by decide)).up _ _ (by decide)).up _ _ (by decide)
    have qb:G2 (20,0)=some (aB 16 (qb1 (tw2 t0 m true))):=by rw[←hG2]; rfl
    have P5:PR (only five G2) n la lb:=⟨P2.g0,P2.g1,P2.g2,P2.g3,P2.g4⟩
    obtain ⟨sto,hsto⟩:∃ sto,sto=stolen (En true la n) t0 d true m:=⟨_,rfl⟩
    have hsl:sto.length=16:=by rw[hsto,stolen,qdm]
    obtain ⟨rst,hrst⟩:∃ rst,rst=d.drop (16*m+16):=⟨_,rfl⟩
    have hrsl:rst.length=d.length % 16:=by rw[hrst,zzH]; omega
    have hr0:0 < d.length % 16:=by omega
    have hrl:d.length % 16 < 16:=Nat.mod_lt _ (by decide)
    have hr16:d.length % 16≤16:=by omega
    have hsr:d.length - (16*m+16)=d.length % 16:=by omega
    rw [P2.reach, c_at (k + 6919) n _ hn la lb hla (tws t0 (m + 1)) _ (blk d m) hbl true (only five G2) P5 [] (snap_isl _ _) (by simp), P5.tr,
      show wtl (En true la n) (tws t0 (m+1)) (blk d m)=sto from hsto.symm]
    have hdr:List.drop (16*m+16) (bs d)=bs rst:=by rw[bs_drop,hrst]
    have hdr2:List.take (d.length % 16) (bs rst)=bs rst:=by rw[qcF,List.take_of_length_le (by omega)]
    have hfr:∀ H,front H 1 (d.length % 16) (.isl (bs rst) (d.length % 16))=some (bs rst):=fun H=>qdw rst _ hrsl
    have hap:∀ b H x,appX b 1 1 (d.length % 16) H [] (bs rst) (.sl x 0 0 (some 0) 1)=some ⟨.sl (b,0) 0 (d.length % 16) none 1,[bs rst],[]⟩:=fun b H x=>appX_e b _ H x (bs rst) hr (by omega)
    have hfk:qcG (d.length % 16) 1 (16 - d.length % 16) (some (bs sto))=some (bs (sto.drop (d.length % 16))):=by
      rw[qcG,if_pos (by rw[qad]; omega),bs_drop,qcF,List.take_of_length_le (by rw[zzH]; omega)]
    have e16:d.length % 16+(16 - d.length % 16)=16:=by omega
    have htk:rst.take (d.length % 16)=rst:=List.take_of_length_le (by omega)
    obtain ⟨las,hlas⟩:∃ las,las=rst++sto.drop (d.length % 16):=⟨_,rfl⟩
    have hlas':las=lastB (En true la n) t0 d true m:=by rw[hlas,hrst,hsto]; rfl
    have hlasl:las.length=16:=by rw[hlas,zzI,zzH]; omega
    simp (disch:=first|omega|decide|simp only[qaf,qad,qag,qae,qah,qac,qaa,qab,qai]) only[qat,qao,qan,qal,qak,qar,qay,qaJ,qaq,qaH,qaG,qa7,qa1,qaj,zM,zN,zO,zP,zG,zC,zI,zR,zQ,zK,zJ,Nat.reduceAdd,Nat.reduceSub,qap,qaR,qbv,qco,qb6,zw,za,zd,zU,zF,Nat.reduceEqDiff,Nat.reduceLT,zS,zD,zE,zA,zB,zT,zL,qcb,zk,zB,zA,qbz,N_mul,qbJ,Nat.reduceLT,Nat.reduceEqDiff,Nat.reduceAdd,zi,zL,zT,qce,zg,qb9,qcT,qch,lenOf_isl,qcA,qcB,qcC,appX_none,appN_bytes,qdi,qcg,op_slcS,slcV_none,slcV_isl,qcn,qdd,qcX,qaI,qaZ,qaA,qa6,qbw,zk,qa9,qbo,qbE,zY,zW,zx,z6,z0,qbQ,qba,za,zd,Nat.testBit,Nat.reduceShiftRight,Nat.reduceAnd,Nat.reduceBEq,zg,zy,zU,zj,Nat.reduceSub,Nat.reduceLT,bne,qbg,qbG,qbS,qbp,qdc,zj,zU,qcL,qaU,qam,qdo,qam,qaU,five,hsr,hdr,hdr2,hfr,hap,hfk,e16,htk,←hlas,qb,qaQ,qbw]
    generalize hG3:upd (upd (upd (upd (upd G2 (45,0) _) (47,0) _) (53,0) _) (53,0) _) (57,0) _=G3
    have P3:PR G3 n la lb:=by rw[←hG3]; exact ((((P2.up _ _ (by decide)).up _ _ (by decide)).up _ _ (by decide)).up _ _ (by decide)).up _ _ (by decide)
    have ss:G3 (45,0)=some (bs sto):=by rw[←hG3]; rfl
    have sl:G3 (57,0)=some (bs las):=by rw[←hG3]; rfl
    have hsame3:=P3.same
    have hsn:snap G3 D (.sl (57,0) 0 16 none 1)=some (.isl (bs las) 16,[(57,0)]):=by
      rw[snap_bytes (H:=G3) (57,0) 0 16 none las sl (by decide),zw,List.take_of_length_le (by omega)]
    obtain ⟨W2,hW2⟩:∃ W2,W2=wtl (En true la n) (tw2 t0 m true) las:=⟨_,rfl⟩
    have hW2l:W2.length=16:=by rw[hW2,qdm]
    rw[c_at (k+6919) n _ hn la lb hla (tw2 t0 m true) _ las hlasl true G3 P3 [(57,0)] hsn (by decide),←hW2]
    have hf16:qcG 0 1 16 (some (bs W2))=some (bs W2):=by
      rw[qcG,if_pos (by rw[qad]; omega),zw,qcF,List.take_of_length_le (by omega)]
    have hfr2:qcG 0 1 (d.length % 16) (some (bs sto))=some (bs (sto.take (d.length % 16))):=by
      rw[qcG,if_pos (by rw[qad]; omega),zw,qcF,zk]
    have hdl:16*m+16+d.length % 16=d.length:=by omega
    have hfin:done (En true la n) t0 d m++W2++sto.take (d.length % 16)=qb3 (En true la n) t0 d true:=by
      rw[qb3,if_neg hr,←hm',hsto,hW2,hlas']
    have hap3:∀ b x,appN b 1 (d.length % 16) 0 16 x (bs (sto.take (d.length % 16))) (some (bs W2))=some ⟨.sl (b,0) 0 d.length none 1,[bs (qb3 (En true la n) t0 d true)],[(x,none)]⟩:=by
      intro b x
      rw[appN_bytes _ _ _ _ _ _ (by omega),zw,List.take_of_length_le (by omega),←hfin,show done (En true la n) t0 d m=[] by rw[hm0]; rfl,zI,show 16+d.length % 16=d.length by omega]
    simp (disch:=first|omega|decide|simp only[qaf,qad,qag,qae,qah,qac,qaa,qab,qai]) only[qbI,qat,qao,qan,qal,qak,qar,qay,qaJ,qaq,qaH,qaj,qbr,zM,zN,zO,zP,zK,zJ,zH,Nat.reduceAdd,qap,zF,Nat.reduceEqDiff,zS,zD,zE,zA,zB,qc4,zk,zB,zA,qbJ,Nat.reduceEqDiff,Nat.reduceAdd,qb9,qch,qcA,qcB,qcC,appX_none,appX_nil,qdi,qcg,op_slcS,slcV_none,qcn,qaI,qaZ,qaA,qa6,zH,Nat.sub_zero,zk,qcL,qam,qam,hsame3,ss,hf16,hfr2,hap3]
    refine out_fin (names:=[(71,0)]) ?_ ?_
    · simp only [qav, FUEL, zV, zX, zI, zR, zQ, zC, zG, qbB, qcV, nms7_N, nms7_sl]
      rw[PR.skip ((((P3.up _ _ (by decide)).up _ _ (by decide)).up _ _ (by decide)).up _ _ (by decide))]
      simp only[qaz,qax,qaB,zI,zR,zQ,zW,zY,zF,zm,zn,zf,Nat.reduceEqDiff,zS,zZ,zl,zD,zE,zh,zq,zp,zo,ne_eq,zt,z9,qap,qaP]
    · simp (disch := first | omega | decide | simp only [qaf, qad, qag, qae, qah, qac, qaa, qab, qai]) only [zG, zC, zH, qap, zF, Nat.reduceEqDiff, zS, false_and, zD, zE, zzB, zH, qaK, List.filterMap_cons, qbB, PO_ren, RA_ren, qaK, qb8, P3.g0, P3.g1, P3.g2, P3.g3, P3.g4]
      rfl
end Aes
namespace Aes
open Go Go.LE Xf
set_option maxRecDepth 20000
theorem runit_F (k n:Nat) (hn:n≤20) (la lb:List (BitVec 8)) (hla:la.length=16*(n+2)) (hlb:lb.length=16*(n+2)) (u:BitVec 64) (d:List (BitVec 8)) (h16:16≤d.length) (hd2:d.length≤65536) (back:Bool) :
    F C (k+7000) 45 [.ptr (0,0) 0,B64 u,.isl (bs d) d.length,Bo back] [PO,RA 2 n,bs la,RA 4 n,bs lb] =
    some (.tup [.sl (1,0) 0 d.length none 1,N 0],[some PO,some (RA 2 n),some (bs la),some (RA 4 n),some (bs lb)],[bs (qb3 (En back la n) (tw0 n lb u) d back)]):=by
  by_cases hr:d.length % 16=0
  · exact runit_whole k n hn la lb hla hlb u d h16 hd2 back hr
  · by_cases hm : 0 < d.length / 16 - 1
    · cases back
      · exact runit_Sf k n hn la lb hla hlb u d h16 hd2 hr _ rfl hm
      · exact runit_St k n hn la lb hla hlb u d h16 hd2 hr _ rfl hm
    · cases back
      · exact runit_Zf k n hn la lb hla hlb u d h16 hd2 hr _ rfl (by omega)
      · exact runit_Zt k n hn la lb hla hlb u d h16 hd2 hr _ rfl (by omega)
end Aes
namespace Aes
open Go Go.LE Xf
set_option maxRecDepth 20000
theorem runit_bad (k n:Nat) (la lb:List (BitVec 8)) (u:BitVec 64) (d:List (BitVec 8)) (hd:d.length < 16∨65536 < d.length) (hd2:d.length < 9223372036854775808) (back:Bool) :
    F C (k+7000) 45 [.ptr (0,0) 0,B64 u,.isl (bs d) d.length,Bo back] [PO,RA 2 n,bs la,RA 4 n,bs lb] =
    some (.tup [Nil,N 30],[some PO,some (RA 2 n),some (bs la),some (RA 4 n),some (bs lb)],[]):=by
  rw[qbT f45]
  have P0:PR (qb4 [PO,RA 2 n,bs la,RA 4 n,bs lb]) n la lb:=⟨rfl,rfl,rfl,rfl,rfl⟩
  generalize hI:qb4 [PO,RA 2 n,bs la,RA 4 n,bs lb]=H0 at P0
  by_cases h:d.length < 16
  · simp (disch := first | omega | decide | simp only [qaf, qad, qag, qae, qah, qac, qaa, qab, qai]) only [qbk, qbI, qat, qao, qan, qal, qak, qbm, guardK_false', qar, qay, qaJ, qaq, qdv, qaH, qcx, qaG, qaj, qdx, qaD, qa3, qbr, zM, zN, zO, zP, zI, zR, qbd, z7, zK, zJ, zH, Nat.reduceAdd, Nat.reduceSub, zA, zB, zT, qc4, qcU, zB, zA, qaW, Nat.reduceAdd, zT, qcm, qbA, qcT, qaI, qaA, zH, Nat.reduceSub, qam, qam, L45, hI, h]
    refine out_fin (names:=[]) ?_ ?_
    · simp only [qav, FUEL, zV, zX, zQ, zC, zG, qbB, qcV, nms7_N, show nms 7 Nil = [] from rfl]
      rw[PR.skip P0]
      simp only[qaB,zE,zq,zp,zo,ne_eq,z9]
    · simp (disch := first | omega | decide | simp only [qaf, qad, qag, qae, qah, qac, qaa, qab, qai]) only [zG, zC, zH, zF, zS, zzB, zH, qaK, qbB, PO_ren, RA_ren, qaK, qb8, P0.g0, P0.g1, P0.g2, P0.g3, P0.g4]
      rfl
  · have h2 : 65536 < d.length := by omega
    simp (disch:=first|omega|decide|simp only[qaf,qad,qag,qae,qah,qac,qaa,qab,qai]) only[qbk,qbI,qat,qao,qan,qal,qak,qbm,qcv,qar,qay,qaJ,qaq,qcd,qaH,qcx,qaG,qaj,qdx,qaD,qa3,qbr,zM,zN,zO,zP,zI,zR,qbd,z7,zK,zJ,zH,Nat.reduceAdd,Nat.reduceSub,zA,zB,zT,zL,qc4,qcU,zB,zA,qaW,N_gtr,Nat.reduceAdd,zL,zT,qcm,qbA,qcT,qaI,qaA,zH,Nat.reduceSub,qam,qam,L45,hI,h,h2]
    refine out_fin (names:=[]) ?_ ?_
    · simp only [qav, FUEL, zV, zX, zQ, zC, zG, qbB, qcV, nms7_N, show nms 7 Nil = [] from rfl]
      rw[PR.skip P0]
      simp only[qaB,zE,zq,zp,zo,ne_eq,z9]
    · simp (disch := first | omega | decide | simp only [qaf, qad, qag, qae, qah, qac, qaa, qab, qai]) only [zG, zC, zH, zF, zS, zzB, zH, qaK, qbB, PO_ren, RA_ren, qaK, qb8, P0.g0, P0.g1, P0.g2, P0.g3, P0.g4]
      rfl
theorem back5T (b n:Nat) (la lb:List (BitVec 8)) (len es:Nat) (l:List (BitVec 8)):backTo five b (.tup [.sl (1,0) 0 len none es,N 0],[some PO,some (RA 2 n),some (bs la),some (RA 4 n),some (bs lb)],[bs l])=⟨.tup [.sl (b,0) 0 len none es,N 0],[bs l],mod5R n la lb⟩:=by
  have f0:PO.map (ren D (qc5 five b 1))=PO:=rfl
  have f1:(RA 2 n).map (ren D (qc5 five b 1))=RA 2 n:=by rw[RA,qcS,qbq]; rfl
  have f3:(RA 4 n).map (ren D (qc5 five b 1))=RA 4 n:=by rw[RA,qcS,qbq]; rfl
  rw[qdp,List.length_singleton]
  simp only[zG,zC,qaK]
  rw[show five=[(0,0),(0,1),(0,2),(0,3),(0,4)] from rfl]
  simp only[List.zipWith_cons_cons,List.zipWith_nil_left,zH,qaK]
  rw[←show five=[(0,0),(0,1),(0,2),(0,3),(0,4)] from rfl,f0,f1,f3]
  rfl
theorem back5N (b n:Nat) (la lb:List (BitVec 8)):backTo five b (.tup [Nil,N 30],[some PO,some (RA 2 n),some (bs la),some (RA 4 n),some (bs lb)],[])=⟨.tup [Nil,N 30],[],mod5R n la lb⟩:=by
  have f0:PO.map (ren D (qc5 five b 0))=PO:=rfl
  have f1:(RA 2 n).map (ren D (qc5 five b 0))=RA 2 n:=by rw[RA,qcS,qbq]; rfl
  have f3:(RA 4 n).map (ren D (qc5 five b 0))=RA 4 n:=by rw[RA,qcS,qbq]; rfl
  rw[qdp,zJ]
  simp only[zC]
  rw[show five=[(0,0),(0,1),(0,2),(0,3),(0,4)] from rfl]
  simp only[List.zipWith_cons_cons,List.zipWith_nil_left,zH,qaK]
  rw[←show five=[(0,0),(0,1),(0,2),(0,3),(0,4)] from rfl,f0,f1,f3]
  rfl
theorem lend45 (H:Heap) (u:BitVec 64) (d:List (BitVec 8)) (back:Bool):lend H (qcf 45) 0 [.ptr (0,0) 0,B64 u,.isl (bs d) d.length,Bo back]=some ([.ptr (0,0) 0,B64 u,.isl (bs d) d.length,Bo back],[]):=by
  rw[qdq,qdq,qdq,qdq,lend_nil,if_neg (show ¬ qcf 45 0=true by decide),if_neg (show ¬ qcf 45 (0+1)=true by decide),if_pos (show qcf 45 (0+1+1)=true by decide),if_neg (show ¬ qcf 45 (0+1+1+1)=true by decide),snap_isl,qde,qde,qde,qde]
  rfl
theorem c_runit (K n b:Nat) (la lb:List (BitVec 8)) (u:BitVec 64) (d:List (BitVec 8)) (back:Bool) (H:Heap) (P:PR H n la lb) (res:CallRes) (hp:plainRes res=true)
    (hF:F C K 45 [.ptr (0,0) 0,B64 u,.isl (bs d) d.length,Bo back] [PO,RA 2 n,bs la,RA 4 n,bs lb]=some res) :
    qbD (envC C K) H b 45 [.ptr (0,0) 0,B64 u,.isl (bs d) d.length,Bo back]=some (backTo five b res):=by
  have hr:Go.LE.qbL H FUEL [] (([.ptr (0,0) 0,B64 u,.isl (bs d) d.length,Bo back]:List LV).flatMap (nms D))=five:=by
    have e:([.ptr (0,0) 0,B64 u,.isl (bs d) d.length,Bo back]:List LV).flatMap (nms D)=[(0,0)]:=by
      simp only[zV,zX,qbw,zQ,qaE,qbR,qci]
    rw[e,P.reach]
  have ha:([.ptr (0,0) 0,B64 u,.isl (bs d) d.length,Bo back]:List LV).map (ren D (qbx five))=[.ptr (0,0) 0,B64 u,.isl (bs d) d.length,Bo back]:=by
    simp only[zG,zC,qbO]; rfl
  exact call_gen K b 45 H _ _ _ five [] _ _ (lend45 H u d back) hr rfl ha P.obs hF hp
theorem plR (n:Nat) (la lb:List (BitVec 8)) (len:Nat) (l:List (BitVec 8)):plainRes (.tup [.sl (1,0) 0 len none 1,N 0],[some PO,some (RA 2 n),some (bs la),some (RA 4 n),some (bs lb)],[bs l])=true:=by
  simp only[plainRes,zd,za,noImm_bs,RA,noImm_RF]; rfl
theorem plN (n:Nat) (la lb:List (BitVec 8)):plainRes (.tup [Nil,N 30],[some PO,some (RA 2 n),some (bs la),some (RA 4 n),some (bs lb)],[])=true:=by
  simp only[plainRes,zd,za,noImm_bs,RA,noImm_RF]; rfl
theorem renc25_F (k n:Nat) (hn:n≤20) (la lb:List (BitVec 8)) (hla:la.length=16*(n+2)) (hlb:lb.length=16*(n+2)) (u:BitVec 64) (d:List (BitVec 8)) (h16:16≤d.length) (hd2:d.length≤65536) :
    F C (k+7001) 25 [.ptr (0,0) 0,B64 u,.isl (bs d) d.length] [PO,RA 2 n,bs la,RA 4 n,bs lb] =
    some (.tup [.sl (1,0) 0 d.length none 1,N 0],[some PO,some (RA 2 n),some (bs la),some (RA 4 n),some (bs lb)],[bs (qb3 (En false la n) (tw0 n lb u) d false)]):=by
  rw[qbT f25]
  have P0:PR (qb4 [PO,RA 2 n,bs la,RA 4 n,bs lb]) n la lb:=⟨rfl,rfl,rfl,rfl,rfl⟩
  generalize hI:qb4 [PO,RA 2 n,bs la,RA 4 n,bs lb]=H0 at P0
  have hc:=fun b=>(c_runit (k+7000) n b la lb u d false H0 P0 _ (plR _ _ _ _ _) (runit_F k n hn la lb hla hlb u d h16 hd2 false)).trans (congrArg some (back5T b n la lb _ _ _))
  have hs:=P0.same
  simp (disch:=first|omega|decide|simp only[qaf,qad,qag,qae,qah,qac,qaa,qab,qai]) only[qbk,qbI,qat,qao,qan,qal,qak,qar,qay,qaJ,qaq,qaH,qa7,qa1,qaj,qbr,zM,zN,zO,zP,zG,zC,zI,zR,qbd,z7,zK,zJ,zH,Nat.reduceAdd,Nat.reduceSub,zA,zB,qc4,zB,zA,Nat.reduceAdd,qaI,qaZ,qaA,zH,List.getElem?_cons_zero,List.getElem?_cons_succ,qcJ,qcp,List.getElem?_cons_zero,List.getElem?_cons_succ,Nat.reduceSub,qam,qam,L25,hI,hc,hs]
  refine out_fin (names:=[(7,0)]) ?_ ?_
  · simp only [qav, FUEL, zV, zX, zI, zR, zQ, zC, zG, qbB, qcV, nms7_N, nms7_sl]
    rw[PR.skip (P0.up _ _ (by decide))]
    simp only[qaz,qax,qaB,zI,zR,zQ,zW,zY,zF,zm,zn,zf,Nat.reduceEqDiff,zS,zZ,zl,zD,zE,zh,zq,zp,zo,ne_eq,zt,z9,qap,qaP]
  · simp (disch := first | omega | decide | simp only [qaf, qad, qag, qae, qah, qac, qaa, qab, qai]) only [zG, zC, zH, qap, zF, Nat.reduceEqDiff, zS, false_and, zD, zE, zzB, zH, qaK, List.filterMap_cons, qbB, PO_ren, RA_ren, qaK, qb8, P0.g0, P0.g1, P0.g2, P0.g3, P0.g4]
    rfl
theorem renc25_bad (k n:Nat) (la lb:List (BitVec 8)) (u:BitVec 64) (d:List (BitVec 8)) (hd:d.length < 16∨65536 < d.length) (hd2:d.length < 9223372036854775808) :
    F C (k+7001) 25 [.ptr (0,0) 0,B64 u,.isl (bs d) d.length] [PO,RA 2 n,bs la,RA 4 n,bs lb] =
    some (.tup [Nil,N 30],[some PO,some (RA 2 n),some (bs la),some (RA 4 n),some (bs lb)],[]):=by
  rw[qbT f25]
  have P0:PR (qb4 [PO,RA 2 n,bs la,RA 4 n,bs lb]) n la lb:=⟨rfl,rfl,rfl,rfl,rfl⟩
  generalize hI:qb4 [PO,RA 2 n,bs la,RA 4 n,bs lb]=H0 at P0
  have hc:=fun b=>(c_runit (k+7000) n b la lb u d false H0 P0 _ (plN _ _ _) (runit_bad k n la lb u d hd hd2 false)).trans (congrArg some (back5N b n la lb))
  have hs:=P0.same
  simp (disch:=first|omega|decide|simp only[qaf,qad,qag,qae,qah,qac,qaa,qab,qai]) only[qbk,qbI,qat,qao,qan,qal,qak,qar,qay,qaJ,qaq,qaH,qa7,qa1,qaj,qbr,zM,zN,zO,zP,zG,zC,zI,zR,qbd,z7,zK,zJ,zH,Nat.reduceAdd,Nat.reduceSub,zA,zB,qc4,zB,zA,Nat.reduceAdd,qaI,qaA,zH,List.getElem?_cons_zero,List.getElem?_cons_succ,qcJ,qcp,List.getElem?_cons_zero,List.getElem?_cons_succ,Nat.reduceSub,qam,qam,L25,hI,hc,hs]
  refine out_fin (names:=[]) ?_ ?_
  · simp only [qav, FUEL, zV, zX, zQ, zC, zG, qbB, qcV, nms7_N, show nms 7 Nil = [] from rfl]
    rw[PR.skip P0]
    simp only[qaB,zE,zq,zp,zo,ne_eq,z9]
  · simp (disch := first | omega | decide | simp only [qaf, qad, qag, qae, qah, qac, qaa, qab, qai]) only [zG, zC, zH, zF, zS, zzB, zH, qaK, qbB, PO_ren, RA_ren, qaK, qb8, P0.g0, P0.g1, P0.g2, P0.g3, P0.g4]
    rfl
theorem renc27_F (k n:Nat) (hn:n≤20) (la lb:List (BitVec 8)) (hla:la.length=16*(n+2)) (hlb:lb.length=16*(n+2)) (u:BitVec 64) (d:List (BitVec 8)) (h16:16≤d.length) (hd2:d.length≤65536) :
    F C (k+7001) 27 [.ptr (0,0) 0,B64 u,.isl (bs d) d.length] [PO,RA 2 n,bs la,RA 4 n,bs lb] =
    some (.tup [.sl (1,0) 0 d.length none 1,N 0],[some PO,some (RA 2 n),some (bs la),some (RA 4 n),some (bs lb)],[bs (qb3 (En true la n) (tw0 n lb u) d true)]):=by
  rw[qbT f27]
  have P0:PR (qb4 [PO,RA 2 n,bs la,RA 4 n,bs lb]) n la lb:=⟨rfl,rfl,rfl,rfl,rfl⟩
  generalize hI:qb4 [PO,RA 2 n,bs la,RA 4 n,bs lb]=H0 at P0
  have hc:=fun b=>(c_runit (k+7000) n b la lb u d true H0 P0 _ (plR _ _ _ _ _) (runit_F k n hn la lb hla hlb u d h16 hd2 true)).trans (congrArg some (back5T b n la lb _ _ _))
  have hs:=P0.same
  simp (disch:=first|omega|decide|simp only[qaf,qad,qag,qae,qah,qac,qaa,qab,qai]) only[qbk,qbI,qat,qao,qan,qal,qak,qar,qay,qaJ,qaq,qaH,qa7,qa1,qaj,qbr,zM,zN,zO,zP,zG,zC,zI,zR,qbd,z7,zK,zJ,zH,Nat.reduceAdd,Nat.reduceSub,zA,zB,qc4,zB,zA,Nat.reduceAdd,qaI,qaZ,qaA,zH,List.getElem?_cons_zero,List.getElem?_cons_succ,qcJ,qcp,List.getElem?_cons_zero,List.getElem?_cons_succ,Nat.reduceSub,qam,qam,L27,hI,hc,hs]
  refine out_fin (names:=[(7,0)]) ?_ ?_
  · simp only [qav, FUEL, zV, zX, zI, zR, zQ, zC, zG, qbB, qcV, nms7_N, nms7_sl]
    rw[PR.skip (P0.up _ _ (by decide))]
    simp only[qaz,qax,qaB,zI,zR,zQ,zW,zY,zF,zm,zn,zf,Nat.reduceEqDiff,zS,zZ,zl,zD,zE,zh,zq,zp,zo,ne_eq,zt,z9,qap,qaP]
  · simp (disch := first | omega | decide | simp only [qaf, qad, qag, qae, qah, qac, qaa, qab, qai]) only [zG, zC, zH, qap, zF, Nat.reduceEqDiff, zS, false_and, zD, zE, zzB, zH, qaK, List.filterMap_cons, qbB, PO_ren, RA_ren, qaK, qb8, P0.g0, P0.g1, P0.g2, P0.g3, P0.g4]
    rfl
theorem renc27_bad (k n:Nat) (la lb:List (BitVec 8)) (u:BitVec 64) (d:List (BitVec 8)) (hd:d.length < 16∨65536 < d.length) (hd2:d.length < 9223372036854775808) :
    F C (k+7001) 27 [.ptr (0,0) 0,B64 u,.isl (bs d) d.length] [PO,RA 2 n,bs la,RA 4 n,bs lb] =
    some (.tup [Nil,N 30],[some PO,some (RA 2 n),some (bs la),some (RA 4 n),some (bs lb)],[]):=by
  rw[qbT f27]
  have P0:PR (qb4 [PO,RA 2 n,bs la,RA 4 n,bs lb]) n la lb:=⟨rfl,rfl,rfl,rfl,rfl⟩
  generalize hI:qb4 [PO,RA 2 n,bs la,RA 4 n,bs lb]=H0 at P0
  have hc:=fun b=>(c_runit (k+7000) n b la lb u d true H0 P0 _ (plN _ _ _) (runit_bad k n la lb u d hd hd2 true)).trans (congrArg some (back5N b n la lb))
  have hs:=P0.same
  simp (disch:=first|omega|decide|simp only[qaf,qad,qag,qae,qah,qac,qaa,qab,qai]) only[qbk,qbI,qat,qao,qan,qal,qak,qar,qay,qaJ,qaq,qaH,qa7,qa1,qaj,qbr,zM,zN,zO,zP,zG,zC,zI,zR,qbd,z7,zK,zJ,zH,Nat.reduceAdd,Nat.reduceSub,zA,zB,qc4,zB,zA,Nat.reduceAdd,qaI,qaA,zH,List.getElem?_cons_zero,List.getElem?_cons_succ,qcJ,qcp,List.getElem?_cons_zero,List.getElem?_cons_succ,Nat.reduceSub,qam,qam,L27,hI,hc,hs]
  refine out_fin (names:=[]) ?_ ?_
  · simp only [qav, FUEL, zV, zX, zQ, zC, zG, qbB, qcV, nms7_N, show nms 7 Nil = [] from rfl]
    rw[PR.skip P0]
    simp only[qaB,zE,zq,zp,zo,ne_eq,z9]
  · simp (disch := first | omega | decide | simp only [qaf, qad, qag, qae, qah, qac, qaa, qab, qai]) only [zG, zC, zH, zF, zS, zzB, zH, qaK, qbB, PO_ren, RA_ren, qaK, qb8, P0.g0, P0.g1, P0.g2, P0.g3, P0.g4]
    rfl
structure RXG (H:Heap) (p a ka b kb:Nm) (n:Nat) (la lb:List (BitVec 8)):Prop where
  hp:H p=some [.ptr a 0,.ptr b 0]
  ha:H a=some (RF (.sl ka 0 (n+2) none 16) TB)
  hka:H ka=some (bs la)
  hb:H b=some (RF (.sl kb 0 (n+2) none 16) TB)
  hkb:H kb=some (bs lb)
  nd:[p,a,ka,b,kb].Nodup
def modRX (p a ka b kb:Nm) (n:Nat) (la lb:List (BitVec 8)):List (Nm × Option qaV) :=
  [(p,some [.ptr a 0,.ptr b 0]),(a,some (RF (.sl ka 0 (n+2) none 16) TB)),(ka,some (bs la)),(b,some (RF (.sl kb 0 (n+2) none 16) TB)),(kb,some (bs lb))]
theorem RXG.same {H:Heap} {p a ka b kb:Nm} {n:Nat} {la lb:List (BitVec 8)} (h:RXG H p a ka b kb n la lb):modN (modRX p a ka b kb n la lb) H=H:=by
  simp only[modRX,qa6,qaA,qbf h.hkb,qbf h.hb,qbf h.hka,qbf h.ha,qbf h.hp]
theorem RXG.ne {H:Heap} {p a ka b kb:Nm} {n:Nat} {la lb:List (BitVec 8)} (h:RXG H p a ka b kb n la lb):(a≠p∧ka≠p∧b≠p∧kb≠p)∧(ka≠a∧b≠a∧kb≠a)∧(b≠ka∧kb≠ka)∧kb≠b:=by
  have:=h.nd
  simp only[List.nodup_cons,List.mem_cons,List.not_mem_nil,zl,not_or,List.nodup_nil,zt,zS] at this
  obtain ⟨⟨h1,h2,h3,h4⟩,⟨h5,h6,h7⟩,⟨h8,h9⟩,h10⟩:=this
  exact ⟨⟨fun e=>h1 e.symm,fun e=>h2 e.symm,fun e=>h3 e.symm,fun e=>h4 e.symm⟩,⟨fun e=>h5 e.symm,fun e=>h6 e.symm,fun e=>h7 e.symm⟩,⟨fun e=>h8 e.symm,fun e=>h9 e.symm⟩,fun e=>h10 e.symm⟩
theorem RXG.reach {H:Heap} {p a ka b kb:Nm} {n:Nat} {la lb:List (BitVec 8)} (h:RXG H p a ka b kb n la lb):Go.LE.qbL H FUEL [] [p]=[p,a,ka,b,kb]:=by
  obtain ⟨⟨h1,h2,h3,h4⟩,⟨h5,h6,h7⟩,⟨h8,h9⟩,h10⟩:=h.ne
  have f:∀ (x:Nm) (l:List Nm),x ∉ l→l.contains x=false:=fun x l hl=>by simpa using hl
  exact ((qaw (by rfl) h.hp rfl).trans <| (qaw (f _ _ (by simp [h1])) h.ha (RF_nms _ _)).trans <| (qaw (f _ _ (by simp [h2, h5])) h.hka (qaP _)).trans <|
    (qaw (f _ _ (by simp[h3,h6,h8])) h.hb (RF_nms _ _)).trans <| (qaw (f _ _ (by simp[h4,h7,h9,h10])) h.hkb (qaP _)).trans <| qaB _ _ _)
theorem RXG.cee {H:Heap} {p a ka b kb:Nm} {n:Nat} {la lb:List (BitVec 8)} (h:RXG H p a ka b kb n la lb):qbx [p,a,ka,b,kb] p=some (0,0)∧qbx [p,a,ka,b,kb] a=some (0,1)∧qbx [p,a,ka,b,kb] ka=some (0,2)∧qbx [p,a,ka,b,kb] b=some (0,3)∧qbx [p,a,ka,b,kb] kb=some (0,4):=by
  obtain ⟨⟨h1,h2,h3,h4⟩,⟨h5,h6,h7⟩,⟨h8,h9⟩,h10⟩:=h.ne
  refine ⟨?_,?_,?_,?_,?_⟩ <;> simp[qbx,idx,Ne.symm h1,Ne.symm h2,Ne.symm h3,Ne.symm h4,Ne.symm h5,Ne.symm h6,Ne.symm h7,Ne.symm h8,Ne.symm h9,Ne.symm h10]
theorem c_ren (K g n base:Nat) (hg:∀ i,qcf g i=decide (i=2)) (H:Heap) (p a ka b kb:Nm) (la lb:List (BitVec 8)) (X:RXG H p a ka b kb n la lb) (u:BitVec 64) (d R0:List (BitVec 8)) (len:Nat)
    (hF:F C K g [.ptr (0,0) 0,B64 u,.isl (bs d) d.length] [PO,RA 2 n,bs la,RA 4 n,bs lb]=some (.tup [.sl (1,0) 0 len none 1,N 0],[some PO,some (RA 2 n),some (bs la),some (RA 4 n),some (bs lb)],[bs R0])) :
    qbD (envC C K) H base g [.ptr p 0,B64 u,.isl (bs d) d.length]=some ⟨.tup [.sl (base,0) 0 len none 1,N 0],[bs R0],modRX p a ka b kb n la lb⟩:=by
  obtain ⟨c0,c1,c2,c3,c4⟩:=X.cee
  have hl:lend H (qcf g) 0 [.ptr p 0,B64 u,.isl (bs d) d.length]=some ([.ptr p 0,B64 u,.isl (bs d) d.length],[]):=by
    rw[qdq,qdq,qdq,lend_nil,if_neg (by rw[hg]; decide),if_neg (by rw[hg]; decide),if_pos (by rw[hg]; decide),snap_isl,qde,qde,qde]
    rfl
  have hr:Go.LE.qbL H FUEL [] (([.ptr p 0,B64 u,.isl (bs d) d.length]:List LV).flatMap (nms D))=[p,a,ka,b,kb]:=by
    have e:([.ptr p 0,B64 u,.isl (bs d) d.length]:List LV).flatMap (nms D)=[p]:=by
      simp only[zV,zX,qbw,zQ,qaE,qbR]
    rw[e,X.reach]
  have ho:([p,a,ka,b,kb].filterMap H).map (fun cs=>cs.map (ren D (qbx [p,a,ka,b,kb])))=[PO,RA 2 n,bs la,RA 4 n,bs lb]:=by
    simp only[List.filterMap_cons,zzB,X.hp,X.ha,X.hka,X.hb,X.hkb,zG,zC,qb2,c1,c3,qcE,qcS,qbq,c2,c4,qbK,qaK,PO,RA]
  rw[call_gen K base g H _ _ [.ptr (0,0) 0,B64 u,.isl (bs d) d.length] _ [] _ _ hl hr rfl (by simp only[zG,zC,qb2,c0,qcE,qcu,qbO]) ho hF (plR _ _ _ _ _),qdp]
  simp only[PO,RA,modRX,List.zipWith_cons_cons,List.zipWith_nil_left,zH,zG,zC,qb2,qbq,qcS,qaK,toCaller_0,List.getElem?_cons_zero,List.getElem?_cons_succ,qcE,qbK,zK,zJ,zA,qb8]
  rfl
theorem c_rbad (K g n base:Nat) (hg:∀ i,qcf g i=decide (i=2)) (H:Heap) (p a ka b kb:Nm) (la lb:List (BitVec 8)) (X:RXG H p a ka b kb n la lb) (u:BitVec 64) (d:List (BitVec 8))
    (hF:F C K g [.ptr (0,0) 0,B64 u,.isl (bs d) d.length] [PO,RA 2 n,bs la,RA 4 n,bs lb]=some (.tup [Nil,N 30],[some PO,some (RA 2 n),some (bs la),some (RA 4 n),some (bs lb)],[])) :
    qbD (envC C K) H base g [.ptr p 0,B64 u,.isl (bs d) d.length]=some ⟨.tup [Nil,N 30],[],modRX p a ka b kb n la lb⟩:=by
  obtain ⟨c0,c1,c2,c3,c4⟩:=X.cee
  have hl:lend H (qcf g) 0 [.ptr p 0,B64 u,.isl (bs d) d.length]=some ([.ptr p 0,B64 u,.isl (bs d) d.length],[]):=by
    rw[qdq,qdq,qdq,lend_nil,if_neg (by rw[hg]; decide),if_neg (by rw[hg]; decide),if_pos (by rw[hg]; decide),snap_isl,qde,qde,qde]
    rfl
  have hr:Go.LE.qbL H FUEL [] (([.ptr p 0,B64 u,.isl (bs d) d.length]:List LV).flatMap (nms D))=[p,a,ka,b,kb]:=by
    have e:([.ptr p 0,B64 u,.isl (bs d) d.length]:List LV).flatMap (nms D)=[p]:=by
      simp only[zV,zX,qbw,zQ,qaE,qbR]
    rw[e,X.reach]
  have ho:([p,a,ka,b,kb].filterMap H).map (fun cs=>cs.map (ren D (qbx [p,a,ka,b,kb])))=[PO,RA 2 n,bs la,RA 4 n,bs lb]:=by
    simp only[List.filterMap_cons,zzB,X.hp,X.ha,X.hka,X.hb,X.hkb,zG,zC,qb2,c1,c3,qcE,qcS,qbq,c2,c4,qbK,qaK,PO,RA]
  rw[call_gen K base g H _ _ [.ptr (0,0) 0,B64 u,.isl (bs d) d.length] _ [] _ _ hl hr rfl (by simp only[zG,zC,qb2,c0,qcE,qcu,qbO]) ho hF (plN _ _ _),qdp]
  simp only[PO,RA,modRX,List.zipWith_cons_cons,List.zipWith_nil_left,zH,zG,zC,qb2,qbq,qcS,qaK,toCaller_0,List.getElem?_cons_zero,List.getElem?_cons_succ,qcE,qbK,zJ,qb8]
  rfl
theorem lent25:∀ i,qcf 25 i=decide (i=2):=by intro i; match i with | 0 | 1 | 2=>rfl | (i+3)=>simp[qcf]
theorem lent27:∀ i,qcf 27 i=decide (i=2):=by intro i; match i with | 0 | 1 | 2=>rfl | (i+3)=>simp[qcf]
end Aes
