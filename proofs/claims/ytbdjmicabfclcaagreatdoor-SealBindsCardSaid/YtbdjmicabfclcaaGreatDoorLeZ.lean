/- xts, the document's: tweaks, evaluated. -/
import Derived.Test.YtbdjmicabfclcaaGreatDoorLeY
set_option linter.unusedVariables false
set_option linter.unusedSimpArgs false
open List renaming reduceReplicate → rR
open Nat renaming reduceSubDiff → rS
namespace Aes
open Go Go.LE Xf Tb
set_option maxRecDepth 20000
def RA (i n:Nat):qan:=RF (.sl (0,i) 0 (n+2) none 16) TB
theorem qcT (i n:Nat):(RA i n).flatMap (nms D)=[(0,i)]:=by rw[RA,qbZ]; rfl
theorem qfL (i n:Nat) (names:List Nm):(RA i n).map (ren D (qbq names))=RA i n:=by rw[RA,qbI,qaY,qc6]; rfl
structure PR (H:Heap) (n:Nat) (la lb:List (BitVec 8)):Prop where
  g0:H (0,0)=some PO
  g1:H (0,1)=some (RA 2 n)
  g2:H (0,2)=some (bs la)
  g3:H (0,3)=some (RA 4 n)
  g4:H (0,4)=some (bs lb)
theorem PR.cn {H:Heap} {n:Nat} {la lb:List (BitVec 8)} (h:PR H n la lb) (names:List Nm):PR (cN names H) n la lb :=
  ⟨by rw[qaI,h.g0,zC,qeQ],by rw[qaI,h.g1,zC,qfL],by rw[qaI,h.g2,zC,qar],by rw[qaI,h.g3,zC,qfL],by rw[qaI,h.g4,zC,qar]⟩
theorem PR.up {H:Heap} {n:Nat} {la lb:List (BitVec 8)} (h:PR H n la lb) (m:Nm) (x:Option qan) (hm:m.1≠0):PR (upd H m x) n la lb:=by
  have e:∀ j,upd H m x (0,j)=H (0,j):=fun j=>by
    rw[qbE,if_neg (fun h=>hm (by rw[←h]))]
  exact ⟨by rw[e]; exact h.g0,by rw[e]; exact h.g1,by rw[e]; exact h.g2,by rw[e]; exact h.g3,by rw[e]; exact h.g4⟩
def fst8 (u:BitVec 64) (i:Nat):R:=fun j=>if j < i then qa6 (U128 u) j else 0#8
theorem byte_U (u:BitVec 64) (i:Nat) (h:i < 8):(u >>> (8*i)).setWidth 8=qa6 (U128 u) i:=by
  apply BitVec.eq_of_getLsbD_eq
  intro n hn
  rw[qeJ,BitVec.getLsbD_setWidth,BitVec.getLsbD_ushiftRight,U128,BitVec.getLsbD_setWidth]
  have:8*i+n < 128:=by omega
  simp[this]
theorem byte_U0 (u:BitVec 64) (i:Nat) (h:8≤i):qa6 (U128 u) i=0#8:=by
  apply BitVec.eq_of_getLsbD_eq
  intro n hn
  rw[qeJ,U128,BitVec.getLsbD_setWidth,BitVec.getLsbD_of_ge u _ (by omega)]
  simp
theorem fst8_succ (u:BitVec 64) (i:Nat):set1 (fst8 u i) i (qa6 (U128 u) i)=fst8 u (i+1):=by
  funext j
  simp only[set1,fst8]
  by_cases h:j=i
  · subst h; rw[if_pos rfl,if_pos (Nat.lt_succ_self _)]
  · rw [if_neg h]
    by_cases h':j < i
    · rw[if_pos h',if_pos (by omega)]
    · rw[if_neg h',if_neg (by omega)]
theorem fst8_all (u:BitVec 64):aB 16 (fst8 u 8)=aB 16 (qa6 (U128 u)):=qbR _ fun j hj=>by
  rw[fst8]
  by_cases h:j < 8
  · rw[if_pos h]
  · rw[if_neg h,byte_U0 u j (by omega)]
def tJ1 (n:Nat) (la lb:List (BitVec 8)) (u:BitVec 64) (w i:Nat) (st:St):Prop := ∃ (H:Heap),
  st=⟨[.ptr (0,0) 0,B64 u,N w,.undef,.undef,.undef,.undef,.ptr (1,0) 0,N i,.undef,.undef,.undef,.undef,.undef,.undef,.undef,.undef,.undef,.undef,.undef,.undef,.undef,.undef,.undef,.undef,.undef,.undef,.undef,.undef,.undef,.undef,.undef,.undef,.undef,.undef,.undef,.undef,.undef,.undef,.undef,.undef,.undef,.undef],H,2,5⟩∧PR H n la lb∧H (1,0)=some (aB 16 (fst8 u i))
theorem t1_round (k n:Nat) (la lb:List (BitVec 8)) (u:BitVec 64) (w i:Nat) (hi:i < 8) (st:St) (hJ:tJ1 n la lb u w i st) :
    ∃ st1,ev (envC C k) k L69b1 st=some (.normal,st1)∧tJ1 n la lb u w (i+1) (qaT L69k1 st1):=by
  obtain ⟨H,rfl,P,h1⟩:=hJ
  have i16:i < 16:=by omega
  simp (disch:=first|omega|decide|simp only[nmsB,lB]) only[simprocAttr,-rR,-rS,leB,memB,arrB,numB,qaf,ordB,qaz,qak,qaF,L69b1,h1,hi,i16,byte_U u i hi,fst8_succ,qac,qad,qab,qaa,qaq,qah]
  refine ⟨_,rfl,?_⟩
  refine qal [(1,0)] rfl (by simp only[simprocAttr,-rR,-rS,qaj,L69k1,qbn,qcx,qcT,qaD,qam,P.g0,P.g1,P.g2,P.g3,P.g4,h1,qag,qab,qaa]) rfl ⟨_,rfl,?_,?_⟩
  · exact (P.up _ _ (by decide)).cn _
  · exact qai (1,0) rfl (by simp (disch:=first|omega|decide|simp only[nmsB,lB]) only[simprocAttr,-rR,-rS,leB,memB,qaf,qae,qac,qad,qab,qaa]) (qap _ _ _)
def twl (t0:BitVec 128):Nat→List (BitVec 8)
  | 0=>[]
  | i+1=>twl t0 i++(List.range 16).map (qa6 (tws t0 i))
theorem qit (t0:BitVec 128):∀ i,(twl t0 i).length=16*i:=by
  intro i
  induction i with
  | zero=>rfl
  | succ i ih=>rw[twl,zJ,ih,zX,List.length_range]; omega
def tJ0 (n:Nat) (la lb:List (BitVec 8)) (t0:BitVec 128) (w i:Nat) (st:St):Prop := ∃ (H:Heap),
  (i=0∧st=⟨[.undef,.undef,N w,.undef,.undef,.undef,.undef,.undef,.undef,.ptr (1,0) 0,Nil,N 0,.undef,.undef,.undef,.undef,.undef,.undef,.undef,.undef,.undef,.undef,.undef,.undef,.undef,.undef,.undef,.undef,.undef,.undef,.undef,.undef,.undef,.undef,.undef,.undef,.undef,.undef,.undef,.undef,.undef,.undef,.undef],H,2,5⟩∧PR H n la lb∧H (1,0)=some [B64 (lo (tws t0 0)),B64 (Xf.hi (tws t0 0))]) ∨
  (0 < i∧st=⟨[.undef,.undef,N w,.undef,.undef,.undef,.undef,.undef,.undef,.ptr (1,0) 0,.sl (1,1) 0 i none 16,N i,.undef,.undef,.undef,.undef,.undef,.undef,.undef,.undef,.undef,.undef,.undef,.undef,.undef,.undef,.undef,.undef,.undef,.undef,.undef,.undef,.undef,.undef,.undef,.undef,.undef,.undef,.undef,.undef,.undef,.undef,.undef],H,2,5⟩∧PR H n la lb∧H (1,0)=some [B64 (lo (tws t0 i)),B64 (Xf.hi (tws t0 i))]∧H (1,1)=some (bs (twl t0 i)))
theorem tJ0.of_z {n:Nat} {la lb:List (BitVec 8)} {t0:BitVec 128} {w:Nat} {st:St} (h:tJ0 n la lb t0 w 0 st):∃ (H:Heap),st=⟨[.undef,.undef,N w,.undef,.undef,.undef,.undef,.undef,.undef,.ptr (1,0) 0,Nil,N 0,.undef,.undef,.undef,.undef,.undef,.undef,.undef,.undef,.undef,.undef,.undef,.undef,.undef,.undef,.undef,.undef,.undef,.undef,.undef,.undef,.undef,.undef,.undef,.undef,.undef,.undef,.undef,.undef,.undef,.undef,.undef],H,2,5⟩∧PR H n la lb∧H (1,0)=some [B64 (lo (tws t0 0)),B64 (Xf.hi (tws t0 0))]:=by
  obtain ⟨H,⟨_,h⟩ | ⟨h,_⟩⟩:=h
  · exact ⟨H,h⟩
  · exact absurd h (by omega)
theorem tJ0.of_s {n:Nat} {la lb:List (BitVec 8)} {t0:BitVec 128} {w i:Nat} {st:St} (h:tJ0 n la lb t0 w i st) (hi:0 < i):∃ (H:Heap),st=⟨[.undef,.undef,N w,.undef,.undef,.undef,.undef,.undef,.undef,.ptr (1,0) 0,.sl (1,1) 0 i none 16,N i,.undef,.undef,.undef,.undef,.undef,.undef,.undef,.undef,.undef,.undef,.undef,.undef,.undef,.undef,.undef,.undef,.undef,.undef,.undef,.undef,.undef,.undef,.undef,.undef,.undef,.undef,.undef,.undef,.undef,.undef,.undef],H,2,5⟩∧PR H n la lb∧H (1,0)=some [B64 (lo (tws t0 i)),B64 (Xf.hi (tws t0 i))]∧H (1,1)=some (bs (twl t0 i)):=by
  obtain ⟨H,⟨h,_⟩ | ⟨_,h⟩⟩:=h
  · exact absurd h (by omega)
  · exact ⟨H,h⟩
theorem t0_roundZ (k n:Nat) (la lb:List (BitVec 8)) (t0:BitVec 128) (w:Nat) (hw:w≤5000) (hi:0 < w) (st:St) (hJ:tJ0 n la lb t0 w 0 st) :
    ∃ st1,ev (envC C (k+140)) (k+140) L69b0 st=some (.normal,st1)∧tJ0 n la lb t0 w (0+1) (qaT L69k0 st1):=by
  obtain ⟨H,rfl,P,h1⟩:=hJ.of_z
  have hb:F C (k+140) 90 [Hf (lo (tws t0 0)) (Xf.hi (tws t0 0))] []=some (.agg (aB 16 (qa6 (tws t0 0))),[],[]):=Xf.rbytes_F (k+10) _
  have hd:F C (k+140) 91 [Hf (lo (tws t0 0)) (Xf.hi (tws t0 0))] []=some (Hf (lo (tws t0 (0+1))) (Xf.hi (tws t0 (0+1))),[],[]):=Xf.rdbl_F k _
  simp (disch:=first|omega|decide|simp only[nmsB,lB]) only[simprocAttr,-rR,-rS,leB,memB,arrB,numB,qaf,ordB,qaz,qak,qaF,L69b0,h1,hi,hb,hd,qgl,l90,l91,qef,qfc,qaU,qaN,qg0,qe3,qae,qac,qad,qab,qaa,qaq,qah]
  refine ⟨_,rfl,?_⟩
  refine qal [(1,0),(9,0)] rfl (by simp only[simprocAttr,-rR,-rS,qaj,L69k0,qbn,qcx,qcT,qaD,qam,qaN,qef,P.g0,P.g1,P.g2,P.g3,P.g4,h1,qag,qab,qaa]) rfl ⟨_,.inr ⟨by omega,rfl,?_,?_,?_⟩⟩
  · exact PR.cn (((P.up _ _ (by decide)).up _ _ (by decide)).up _ _ (by decide)) _
  · exact qai (1,0) rfl (by simp (disch:=first|omega|decide|simp only[nmsB,lB]) only[simprocAttr,-rR,-rS,leB,memB,qaf,qae,qac,qad,qab,qaa]) rfl
  · refine (qb7 _ _ 1 (9, 0) _ rfl (by simp (disch := first | omega | decide | simp only [nmsB, lB]) only [simprocAttr, -rR, -rS, leB, memB, qaf, qae, qac, qad, qab, qaa] <;> rfl)).trans ?_
    rw[qap,qcK,twl,twl,zG]
theorem t0_roundS (k n:Nat) (la lb:List (BitVec 8)) (t0:BitVec 128) (w:Nat) (hw:w≤5000) (i:Nat) (h0i:0 < i) (hi:i < w) (st:St) (hJ:tJ0 n la lb t0 w i st) :
    ∃ st1,ev (envC C (k+140)) (k+140) L69b0 st=some (.normal,st1)∧tJ0 n la lb t0 w (i+1) (qaT L69k0 st1):=by
  obtain ⟨H,rfl,P,h1,h2⟩:=hJ.of_s h0i
  have hb:F C (k+140) 90 [Hf (lo (tws t0 i)) (Xf.hi (tws t0 i))] []=some (.agg (aB 16 (qa6 (tws t0 i))),[],[]):=Xf.rbytes_F (k+10) _
  have hd:F C (k+140) 91 [Hf (lo (tws t0 i)) (Xf.hi (tws t0 i))] []=some (Hf (lo (tws t0 (i+1))) (Xf.hi (tws t0 (i+1))),[],[]):=Xf.rdbl_F k _
  have hl:=qit t0 i
  have hap:∀ (b:Nat),appN b 16 1 0 i (1,1) (aB 16 (qa6 (tws t0 i))) (some (bs (twl t0 i)))=some ⟨.sl (b,0) 0 (i+1) none 16,[bs (twl t0 (i+1))],[((1,1),none)]⟩:=by
    intro b
    rw[appN,qaV,if_pos (by omega),zE,qcK,qcg,qcY,List.take_of_length_le (by omega),twl]
  simp (disch:=first|omega|decide|simp only[nmsB,lB]) only[simprocAttr,-rR,-rS,leB,memB,arrB,numB,qaf,ordB,qaz,qak,qaF,L69b0,h1,h2,hi,hb,hd,qgl,l90,l91,qef,qfc,qaU,qaN,qg0,qe3,hap,qae,qac,qad,qab,qaa,qaq,qah]
  refine ⟨_,rfl,?_⟩
  refine qal [(1,0),(9,0)] rfl (by simp only[simprocAttr,-rR,-rS,qaj,L69k0,qbn,qcx,qcT,qaD,qam,qaN,qef,P.g0,P.g1,P.g2,P.g3,P.g4,h1,qag,qab,qaa]) rfl ⟨_,.inr ⟨by omega,rfl,?_,?_,?_⟩⟩
  · exact PR.cn ((((P.up _ _ (by decide)).up _ _ (by decide)).up _ _ (by decide)).up _ _ (by decide)) _
  · exact qai (1,0) rfl (by simp (disch:=first|omega|decide|simp only[nmsB,lB]) only[simprocAttr,-rR,-rS,leB,memB,qaf,qae,qac,qad,qab,qaa]) rfl
  · refine (qb7 _ _ 1 (9, 0) _ rfl (by simp (disch := first | omega | decide | simp only [nmsB, lB]) only [simprocAttr, -rR, -rS, leB, memB, qaf, qae, qac, qad, qab, qaa] <;> rfl)).trans ?_
    rw[qar]
theorem t0_round (k n:Nat) (la lb:List (BitVec 8)) (t0:BitVec 128) (w i:Nat) (hw:w≤5000) (hi:i < w) (st:St) (hJ:tJ0 n la lb t0 w i st) :
    ∃ st1,ev (envC C (k+140)) (k+140) L69b0 st=some (.normal,st1)∧tJ0 n la lb t0 w (i+1) (qaT L69k0 st1):=by
  by_cases h0:0 < i
  · exact t0_roundS k n la lb t0 w hw i h0 hi st hJ
  · obtain rfl : i = 0 := by omega
    exact t0_roundZ k n la lb t0 w hw hi st hJ
theorem tweaks_F (k n:Nat) (hn:n≤20) (la lb:List (BitVec 8)) (hlb:lb.length=16*(n+2)) (u:BitVec 64) (w:Nat) (hw0:0 < w) (hw:w≤5000) :
    F C (k+6000) 69 [.ptr (0,0) 0,B64 u,N w] [PO,RA 2 n,bs la,RA 4 n,bs lb]=some (.sl (1,0) 0 w none 16,[some PO,some (RA 2 n),some (bs la),some (RA 4 n),some (bs lb)],[bs (twl (tw0 n lb u) w)]):=by
  rw[qaL f69]
  have P0:PR (qaZ [PO,RA 2 n,bs la,RA 4 n,bs lb]) n la lb:=⟨rfl,rfl,rfl,rfl,rfl⟩
  generalize hI:qaZ [PO,RA 2 n,bs la,RA 4 n,bs lb]=H0 at P0
  simp (disch:=first|omega|decide|simp only[nmsB,lB]) only[simprocAttr,-rR,-rS,leB,memB,arrB,numB,qaf,opsB,ordB,qaz,qak,qaF,L69,hI,qac,qad,qab,qaa,qaq,qah]
  generalize hL:qaP L69k1 _ _ _=r
  refine qaK hL (tJ1 n la lb u w) 8 (by omega) (fun i st hi hJ=>t1_round _ n la lb u w i hi st hJ) ?_ ?_ ?_
  · refine qal [(3, 0)] rfl (by simp only [simprocAttr, -rR, -rS, qaj, L69k1, qbn, qcx, qcT, qaD, qam, P0.g0, P0.g1, P0.g2, P0.g3, P0.g4, qag, qab, qaa]) rfl ⟨_, rfl, ?_, ?_⟩
    · exact (P0.up _ _ (by decide)).cn _
    · exact qai (3,0) rfl (by simp (disch:=first|omega|decide|simp only[nmsB,lB]) only[simprocAttr,-rR,-rS,leB,memB,qaf,arrB,qae,qac,qad,qab,qaa] <;> rfl) (qap _ _ _)
  · rintro st ⟨H, rfl, P, h1⟩
    apply qaG
    simp (disch:=first|omega|decide|simp only[nmsB,lB]) only[simprocAttr,-rR,-rS,leB,memB,arrB,numB,qaf,L69b1,qae,qac,qad,qab,qaa]
    rfl
  · rintro st ⟨H, rfl, P, h1⟩ rfl
    rw[fst8_all] at h1
    have Q:RG H (0,3) (0,4) (n+2) none lb:=⟨P.g3,P.g4,by decide⟩
    have hr:=reach_RG Q
    have he:∀ b s,_:=fun b s=>c_renc (k+5939) n b hn _ (0,3) (0,4) lb Q.only hlb s
    have ht:∀ v,_:=fun v=>tr_RG _ v (0,3) (0,4) (n+2) none lb Q.only
    have hof:F C (k+5999) 88 [.agg (aB 16 (enc (kf lb) n (qa6 (U128 u))))] []=some (Hf (lo (tw0 n lb u)) (Xf.hi (tw0 n lb u)),[],[]):=Xf.rof_F (k+5869) _
    have g0:=P.g0
    simp (disch:=first|omega|decide|simp only[nmsB,lB]) only[simprocAttr,-rR,-rS,leB,memB,arrB,numB,qaf,opsB,ordB,qaz,qak,qaF,L69b1,zU,PO_k0,PO_k1,g0,h1,hr,he,ht,hof,qgl,l88,qae,qac,qad,qab,qaa,qaq,qah]
    clear hL
    generalize hL:qaP L69k0 _ _ _=r
    refine qaK hL (tJ0 n la lb (tw0 n lb u) w) w (by omega) (fun i st hi hJ=>t0_round (k+5859) n la lb _ w i hw hi st hJ) ?_ ?_ ?_
    · refine qal [(11, 0)] rfl (by simp only [simprocAttr, -rR, -rS, qaj, L69k0, qbn, qcx, qcT, qaD, qam, qef, qaU, P.g0, P.g1, P.g2, P.g3, P.g4, qag, qab, qaa]) rfl ⟨_, .inl ⟨rfl, rfl, ?_, ?_⟩⟩
      · exact PR.cn ((P.up _ _ (by decide)).up _ _ (by decide)) _
      · exact qai (11,0) rfl (by simp (disch:=first|omega|decide|simp only[nmsB,lB]) only[simprocAttr,-rR,-rS,leB,memB,qaf,qae,qac,qad,qab,qaa] <;> rfl) rfl
    · intro st hJ
      obtain ⟨H,rfl,P,h1,h2⟩:=hJ.of_s hw0
      apply qaG
      simp (disch:=first|omega|decide|simp only[nmsB,lB]) only[simprocAttr,-rR,-rS,leB,memB,arrB,numB,qaf,L69b0,zU,qae,qac,qad,qab,qaa]
      rfl
    · intro st hJ hr
      obtain ⟨H,rfl,P,h1,h2⟩:=hJ.of_s hw0
      subst hr
      simp (disch:=first|omega|decide|simp only[nmsB,lB]) only[simprocAttr,-rR,-rS,leB,memB,arrB,numB,qaf,opsB,ordB,qaz,qak,qaF,L69b0,zU,qae,qac,qad,qab,qaa,qaq,qah]
      rw[qa0 5 _ _ [(1,1)] (by simp only[simprocAttr,-rR,-rS,qaj,qbn,qcx,qcT,qam,qaN,P.g0,P.g1,P.g2,P.g3,P.g4,h2,qag,qab,qaa])]
      simp (disch:=first|omega|decide|simp only[nmsB,lB]) only[simprocAttr,-rR,-rS,leB,memB,qaf,qbn,qeQ,qfL,qar,qaY,P.g0,P.g1,P.g2,P.g3,P.g4,h2,qae,qac,qad,qab,qaa]
end Aes
namespace Aes
open Go Go.LE Xf Tb
set_option maxRecDepth 20000
def xg (b:List (BitVec 8)) (t:R) (i:Nat):R:=fun j=>if j < i then fl b j ^^^ t j else 0#8
theorem xg_0 (b:List (BitVec 8)) (t:R):xg b t 0=fun _=>0#8:=funext fun j=>if_neg (Nat.not_lt_zero j)
theorem xg_succ (b:List (BitVec 8)) (t:R) (i:Nat):set1 (xg b t i) i (b.getD i 0#8 ^^^ t i)=xg b t (i+1):=by
  funext j
  simp only[set1,xg]
  by_cases h:j=i
  · subst h; rw[if_pos rfl,if_pos (Nat.lt_succ_self _)]; rfl
  · rw [if_neg h]
    by_cases h':j < i
    · rw[if_pos h',if_pos (by omega)]
    · rw[if_neg h',if_neg (by omega)]
theorem xg_all (b:List (BitVec 8)) (t:R):aB 16 (xg b t 16)=aB 16 (fun j=>fl b j ^^^ t j):=qbR _ fun j hj=>if_pos hj
theorem PR.skip {H:Heap} {n:Nat} {la lb:List (BitVec 8)} (P:PR H n la lb) (rest:List Nm):qa2 H 60 [] ((0,0)::(0,1)::(0,2)::(0,3)::(0,4)::rest)=qa2 H 51 [(0,0),(0,1),(0,2),(0,3),(0,4)] rest:=by
  rw[qag,P.g0,qbL,qcx,if_neg (by decide)]
  simp only[zQ,zG]
  rw[qag,P.g1,qbL,qcT,if_neg (by decide)]
  simp only[zQ,zG]
  rw[qag,P.g2,qbL,qam,if_neg (by decide)]
  simp only[zQ,zG]
  rw[qag,P.g3,qbL,qcT,if_neg (by decide)]
  simp only[zQ,zG]
  rw[qag,P.g4,qbL,qam,if_neg (by decide)]
  simp only[zQ,zG]
  rw[qag,if_pos (by decide),qag,if_pos (by decide),qag,if_pos (by decide),qag,if_pos (by decide)]
theorem frontK_1 (x:LV):qcF 0 1 1 (some [x])=some [x]:=rfl
theorem appF_1 (b:Nat) (H:Heap) (V:LV) (x:BitVec 8):appF b 1 1 1 H V (some [B8 x])=appX b 1 1 1 H [] [B8 x] V:=appF_some _ _ _ _ _ (by decide) rfl
def aJ1 (n:Nat) (la lb b:List (BitVec 8)) (t:R) (bk:Bool) (i:Nat) (st:St):Prop := ∃ (H:Heap),
  st=⟨[.ptr (0,0) 0,.isl (bs b) 16,.undef,Bo bk,.undef,.undef,.ptr (1,0) 0,.undef,.undef,.ptr (1,1) 0,N i,.undef,.undef,.undef,.undef,.undef,.undef,.undef,.undef,.undef,.undef,.undef,.undef,.undef,.undef,.undef,.undef,.undef,.undef,.undef,.undef,.undef,.undef,.undef,.undef,.undef,.undef,.undef,.undef,.undef,.undef,.undef,.undef,.undef,.undef,.undef,.undef,.undef,.undef,.undef,.undef,.undef,.undef,.undef,.undef],H,2,5⟩∧PR H n la lb∧H (1,0)=some (aB 16 t)∧H (1,1)=some (aB 16 (xg b t i))
theorem a1_round (k n:Nat) (la lb b:List (BitVec 8)) (hb:b.length=16) (t:R) (bk:Bool) (i:Nat) (hi:i < 16) (st:St) (hJ:aJ1 n la lb b t bk i st) :
    ∃ st1,ev (envC C k) k L70b1 st=some (.normal,st1)∧aJ1 n la lb b t bk (i+1) (qaT L70k1 st1):=by
  obtain ⟨H,rfl,P,h1,h2⟩:=hJ
  have c0:∀ H,qb9 H 1 (.ipt (List.drop i (bs b)))=some [B8 (b.getD i 0#8)]:=fun H=>by
    rw[qdt,qb9,if_pos (by rw[qaV,zR]; omega),qcg,List.getD_eq_getElem?_getD,List.getElem?_eq_getElem (by omega),List.drop_eq_getElem_cons (by omega)]
    rfl
  simp (disch:=first|omega|decide|simp only[nmsB,lB]) only[simprocAttr,-rR,-rS,leB,memB,arrB,numB,qaf,ordB,qaz,qak,qaF,L70b1,h1,h2,hi,c0,qf5,xg_succ,qac,qad,qab,qaa,qaq,qah]
  refine ⟨_,rfl,?_⟩
  refine qal [(1,0),(1,1)] rfl (by simp only[simprocAttr,-rR,-rS,qaj,L70k1,qbn,qaD,qa1,qab,qaa]; rw[PR.skip (P.up _ _ (by decide))]; simp only[simprocAttr,-rR,-rS,qaj,qcx,qcT,qaD,qam,P.g0,P.g1,P.g2,P.g3,P.g4,h1,h2,qag,qab,qaa]) (by simp (maxSteps:=4000000) only[simprocAttr,-rR,-rS,qaj,L70k1,zA,zB,qa9,qag,qab,qaa] <;> rfl) ⟨_,rfl,?_,?_,?_⟩
  · exact (P.up _ _ (by decide)).cn _
  · exact qai (1,0) rfl (by simp (disch:=first|omega|decide|simp only[nmsB,lB]) only[simprocAttr,-rR,-rS,leB,memB,qaf,h1,qae,qac,qad,qab,qaa]) (qap _ _ _)
  · exact qai (1,1) rfl (by simp (disch:=first|omega|decide|simp only[nmsB,lB]) only[simprocAttr,-rR,-rS,leB,memB,qaf,qae,qac,qad,qab,qaa]) (qap _ _ _)
def oA (y t:R) (i:Nat):List (BitVec 8):=(List.range i).map fun j=>y j ^^^ t j
theorem oA_succ (y t:R) (i:Nat):oA y t (i+1)=oA y t i++[y i ^^^ t i]:=by
  rw[oA,List.range_succ,List.map_append]; rfl
theorem oA_length (y t:R) (i:Nat):(oA y t i).length=i:=by rw[oA,zX,List.length_range]
def aJ0 (n:Nat) (la lb:List (BitVec 8)) (y t:R) (i:Nat) (st:St):Prop := ∃ (H:Heap),
  (i=0∧st=⟨[.undef,.undef,.undef,.undef,.undef,.undef,.ptr (1,0) 0,.undef,.undef,.ptr (1,1) 0,.undef,Nil,N 0,.undef,.undef,.undef,.undef,.undef,.undef,.undef,.undef,.undef,.undef,.undef,.undef,.undef,.undef,.undef,.undef,.undef,.undef,.undef,.undef,.undef,.undef,.undef,.undef,.undef,.undef,.undef,.undef,.undef,.undef,.undef,.undef,.undef,.undef,.undef,.undef,.undef,.undef,.undef,.undef,.undef,.undef],H,2,5⟩∧PR H n la lb∧H (1,0)=some (aB 16 t)∧H (1,1)=some (aB 16 y)) ∨
  (0 < i∧st=⟨[.undef,.undef,.undef,.undef,.undef,.undef,.ptr (1,0) 0,.undef,.undef,.ptr (1,1) 0,.undef,.sl (1,2) 0 i none 1,N i,.undef,.undef,.undef,.undef,.undef,.undef,.undef,.undef,.undef,.undef,.undef,.undef,.undef,.undef,.undef,.undef,.undef,.undef,.undef,.undef,.undef,.undef,.undef,.undef,.undef,.undef,.undef,.undef,.undef,.undef,.undef,.undef,.undef,.undef,.undef,.undef,.undef,.undef,.undef,.undef,.undef,.undef],H,2,5⟩∧PR H n la lb∧H (1,0)=some (aB 16 t)∧H (1,1)=some (aB 16 y)∧H (1,2)=some (bs (oA y t i)))
theorem aJ0.of_z {n:Nat} {la lb:List (BitVec 8)} {y t:R} {st:St} (h:aJ0 n la lb y t 0 st):∃ (H:Heap),st=⟨[.undef,.undef,.undef,.undef,.undef,.undef,.ptr (1,0) 0,.undef,.undef,.ptr (1,1) 0,.undef,Nil,N 0,.undef,.undef,.undef,.undef,.undef,.undef,.undef,.undef,.undef,.undef,.undef,.undef,.undef,.undef,.undef,.undef,.undef,.undef,.undef,.undef,.undef,.undef,.undef,.undef,.undef,.undef,.undef,.undef,.undef,.undef,.undef,.undef,.undef,.undef,.undef,.undef,.undef,.undef,.undef,.undef,.undef,.undef],H,2,5⟩∧PR H n la lb∧H (1,0)=some (aB 16 t)∧H (1,1)=some (aB 16 y):=by
  obtain ⟨H,⟨_,h⟩ | ⟨h,_⟩⟩:=h
  · exact ⟨H,h⟩
  · exact absurd h (by omega)
theorem aJ0.of_s {n i:Nat} {la lb:List (BitVec 8)} {y t:R} {st:St} (h:aJ0 n la lb y t i st) (hi:0 < i):∃ (H:Heap),st=⟨[.undef,.undef,.undef,.undef,.undef,.undef,.ptr (1,0) 0,.undef,.undef,.ptr (1,1) 0,.undef,.sl (1,2) 0 i none 1,N i,.undef,.undef,.undef,.undef,.undef,.undef,.undef,.undef,.undef,.undef,.undef,.undef,.undef,.undef,.undef,.undef,.undef,.undef,.undef,.undef,.undef,.undef,.undef,.undef,.undef,.undef,.undef,.undef,.undef,.undef,.undef,.undef,.undef,.undef,.undef,.undef,.undef,.undef,.undef,.undef,.undef,.undef],H,2,5⟩∧PR H n la lb∧H (1,0)=some (aB 16 t)∧H (1,1)=some (aB 16 y)∧H (1,2)=some (bs (oA y t i)):=by
  obtain ⟨H,⟨h,_⟩ | ⟨_,h⟩⟩:=h
  · exact absurd h (by omega)
  · exact ⟨H,h⟩
theorem a0_roundZ (k n:Nat) (la lb:List (BitVec 8)) (y t:R) (hi:0 < 16) (st:St) (hJ:aJ0 n la lb y t 0 st) :
    ∃ st1,ev (envC C k) k L70b0 st=some (.normal,st1)∧aJ0 n la lb y t (0+1) (qaT L70k0 st1):=by
  obtain ⟨H,rfl,P,h1,h2⟩:=hJ.of_z
  simp (disch:=first|omega|decide|simp only[nmsB,lB]) only[simprocAttr,-rR,-rS,leB,memB,arrB,numB,qaf,ordB,qaz,qak,qaF,L70b0,h1,h2,hi,qaU,qaN,frontK_1,appF_1,qac,qad,qab,qaa,qaq,qah]
  refine ⟨_,rfl,?_⟩
  refine qal [(1,0),(1,1),(13,0)] rfl (by simp only[simprocAttr,-rR,-rS,qaj,L70k0,qbn,qaN,qab,qaa]; rw[PR.skip ((P.up _ _ (by decide)).up _ _ (by decide))]; simp only[simprocAttr,-rR,-rS,qaj,qcx,qcT,qaD,qam,qaN,P.g0,P.g1,P.g2,P.g3,P.g4,h1,h2,qag,qab,qaa]) rfl ⟨_,.inr ⟨by omega,rfl,?_,?_,?_,?_⟩⟩
  · exact PR.cn ((P.up _ _ (by decide)).up _ _ (by decide)) _
  · exact qai (1,0) rfl (by simp (disch:=first|omega|decide|simp only[nmsB,lB]) only[simprocAttr,-rR,-rS,leB,memB,qaf,h1,qae,qac,qad,qab,qaa]) (qap _ _ _)
  · exact qai (1,1) rfl (by simp (disch:=first|omega|decide|simp only[nmsB,lB]) only[simprocAttr,-rR,-rS,leB,memB,qaf,h2,qae,qac,qad,qab,qaa]) (qap _ _ _)
  · refine (qb7 _ _ 2 (13, 0) _ rfl (by simp (disch := first | omega | decide | simp only [nmsB, lB]) only [simprocAttr, -rR, -rS, leB, memB, qaf, qae, qac, qad, qab, qaa] <;> rfl)).trans ?_
    rfl
theorem a0_roundS (k n:Nat) (la lb:List (BitVec 8)) (y t:R) (i:Nat) (h0i:0 < i) (hi:i < 16) (st:St) (hJ:aJ0 n la lb y t i st) :
    ∃ st1,ev (envC C k) k L70b0 st=some (.normal,st1)∧aJ0 n la lb y t (i+1) (qaT L70k0 st1):=by
  obtain ⟨H,rfl,P,h1,h2,h3⟩:=hJ.of_s h0i
  have hl:=oA_length y t i
  have hap:∀ (b:Nat),appN b 1 1 0 i (1,2) [B8 (y i ^^^ t i)] (some (bs (oA y t i)))=some ⟨.sl (b,0) 0 (i+1) none 1,[bs (oA y t (i+1))],[((1,2),none)]⟩:=by
    intro b
    rw[bs_one,qc4 _ _ _ _ _ _ (by omega),zE,List.take_of_length_le (by omega),oA_succ]
  simp (disch:=first|omega|decide|simp only[nmsB,lB]) only[simprocAttr,-rR,-rS,leB,memB,arrB,numB,qaf,ordB,qaz,qak,qaF,L70b0,h1,h2,h3,hi,qaU,qaN,frontK_1,appF_1,hap,qac,qad,qab,qaa,qaq,qah]
  refine ⟨_,rfl,?_⟩
  refine qal [(1,0),(1,1),(13,0)] rfl (by simp only[simprocAttr,-rR,-rS,qaj,L70k0,qbn,qaN,qab,qaa]; rw[PR.skip (((P.up _ _ (by decide)).up _ _ (by decide)).up _ _ (by decide))]; simp only[simprocAttr,-rR,-rS,qaj,qcx,qcT,qaD,qam,qaN,P.g0,P.g1,P.g2,P.g3,P.g4,h1,h2,qag,qab,qaa]) rfl ⟨_,.inr ⟨by omega,rfl,?_,?_,?_,?_⟩⟩
  · exact PR.cn (((P.up _ _ (by decide)).up _ _ (by decide)).up _ _ (by decide)) _
  · exact qai (1,0) rfl (by simp (disch:=first|omega|decide|simp only[nmsB,lB]) only[simprocAttr,-rR,-rS,leB,memB,qaf,h1,qae,qac,qad,qab,qaa]) (qap _ _ _)
  · exact qai (1,1) rfl (by simp (disch:=first|omega|decide|simp only[nmsB,lB]) only[simprocAttr,-rR,-rS,leB,memB,qaf,h2,qae,qac,qad,qab,qaa]) (qap _ _ _)
  · refine (qb7 _ _ 2 (13, 0) _ rfl (by simp (disch := first | omega | decide | simp only [nmsB, lB]) only [simprocAttr, -rR, -rS, leB, memB, qaf, qae, qac, qad, qab, qaa] <;> rfl)).trans ?_
    rw[qar]
theorem a0_round (k n:Nat) (la lb:List (BitVec 8)) (y t:R) (i:Nat) (hi:i < 16) (st:St) (hJ:aJ0 n la lb y t i st) :
    ∃ st1,ev (envC C k) k L70b0 st=some (.normal,st1)∧aJ0 n la lb y t (i+1) (qaT L70k0 st1):=by
  by_cases h0:0 < i
  · exact a0_roundS k n la lb y t i h0 hi st hJ
  · obtain rfl : i = 0 := by omega
    exact a0_roundZ k n la lb y t hi st hJ
theorem at_false (k n:Nat) (hn:n≤20) (la lb:List (BitVec 8)) (hla:la.length=16*(n+2)) (t:BitVec 128) (b:List (BitVec 8)) (hb:b.length=16) :
    F C (k+80) 70 [.ptr (0,0) 0,.isl (bs b) 16,.agg (aB 16 (qa6 t)),Bo false] [PO,RA 2 n,bs la,RA 4 n,bs lb]=some (.sl (1,0) 0 16 none 1,[some PO,some (RA 2 n),some (bs la),some (RA 4 n),some (bs lb)],[bs (wtl (enc (kf la) n) t b)]):=by
  rw[qaL f70]
  have P0:PR (qaZ [PO,RA 2 n,bs la,RA 4 n,bs lb]) n la lb:=⟨rfl,rfl,rfl,rfl,rfl⟩
  generalize hI:qaZ [PO,RA 2 n,bs la,RA 4 n,bs lb]=H0 at P0
  simp (disch:=first|omega|decide|simp only[nmsB,lB]) only[simprocAttr,-rR,-rS,leB,memB,arrB,numB,qaf,opsB,ordB,qaz,qak,qaF,L70,hI,qac,qad,qab,qaa,qaq,qah]
  generalize hL:qaP L70k1 _ _ _=r
  refine qaK hL (aJ1 n la lb b (qa6 t) false) 16 (by omega) (fun i st hi hJ=>a1_round _ n la lb b hb _ false i hi st hJ) ?_ ?_ ?_
  · refine qal [(2, 0), (4, 0)] rfl (by simp only [simprocAttr, -rR, -rS, qaj, L70k1, qbn, qa1, qab, qaa]; rw [PR.skip ((P0.up _ _ (by decide)).up _ _ (by decide))]; simp only [simprocAttr, -rR, -rS, qaj, qcx, qcT, qaD, qam, P0.g0, P0.g1, P0.g2, P0.g3, P0.g4, qag, qab, qaa]) (by simp (maxSteps := 4000000) only [simprocAttr, -rR, -rS, qaj, L70k1, zA, zB, qa9, qag, qab, qaa] <;> rfl) ⟨_, rfl, ?_, ?_, ?_⟩
    · exact PR.cn ((P0.up _ _ (by decide)).up _ _ (by decide)) _
    · exact qai (2,0) rfl (by simp (disch:=first|omega|decide|simp only[nmsB,lB]) only[simprocAttr,-rR,-rS,leB,memB,qaf,qae,qac,qad,qab,qaa]) (qap _ _ _)
    · rw[xg_0]; exact qai (4,0) rfl (by simp (disch:=first|omega|decide|simp only[nmsB,lB]) only[simprocAttr,-rR,-rS,leB,memB,qaf,arrB,qae,qac,qad,qab,qaa]) (qap _ _ _)
  · rintro st ⟨H, rfl, P, h1, h2⟩
    apply qaG
    simp (disch:=first|omega|decide|simp only[nmsB,lB]) only[simprocAttr,-rR,-rS,leB,memB,arrB,numB,qaf,L70b1,qae,qac,qad,qab,qaa]
    rfl
  · rintro st ⟨H, rfl, P, h1, h2⟩ rfl
    rw[xg_all] at h2
    have Q:RG H (0,1) (0,2) (n+2) none la:=⟨P.g1,P.g2,by decide⟩
    have hr:=reach_RG Q
    have he:∀ b s,_:=fun b s=>c_renc (k+19) n b hn _ (0,1) (0,2) la Q.only hla s
    have ht:∀ v,_:=fun v=>tr_RG _ v (0,1) (0,2) (n+2) none la Q.only
    have g0:=P.g0
    simp (disch:=first|omega|decide|simp only[nmsB,lB]) only[simprocAttr,-rR,-rS,leB,memB,arrB,numB,qaf,opsB,ordB,qaz,qak,qaF,L70b1,zU,PO_k0,PO_k1,g0,h1,h2,hr,he,ht,qac,qad,qab,qaa,qaq,qah]
    clear hL
    generalize hL:qaP L70k0 _ _ _=r
    refine qaK hL (aJ0 n la lb (enc (kf la) n fun j=>fl b j ^^^ qa6 t j) (qa6 t)) 16 (by omega) (fun i st hi hJ=>a0_round _ n la lb _ _ i hi st hJ) ?_ ?_ ?_
    · refine qal [(1, 0), (1, 1)] rfl (by simp only [simprocAttr, -rR, -rS, qaj, L70k0, qbn, qaU, qab, qaa]; rw [PR.skip (P.up _ _ (by decide))]; simp only [simprocAttr, -rR, -rS, qaj, qcx, qcT, qaD, qam, P.g0, P.g1, P.g2, P.g3, P.g4, h1, h2, qag, qab, qaa]) rfl ⟨_, .inl ⟨rfl, rfl, ?_, ?_, ?_⟩⟩
      · exact PR.cn (P.up _ _ (by decide)) _
      · exact qai (1,0) rfl (by simp (disch:=first|omega|decide|simp only[nmsB,lB]) only[simprocAttr,-rR,-rS,leB,memB,qaf,h1,qae,qac,qad,qab,qaa]) (qap _ _ _)
      · exact qai (1,1) rfl (by simp (disch:=first|omega|decide|simp only[nmsB,lB]) only[simprocAttr,-rR,-rS,leB,memB,qaf,qae,qac,qad,qab,qaa]) (qap _ _ _)
    · intro st hJ
      obtain ⟨H,rfl,P,h1,h2,h3⟩:=hJ.of_s (by decide)
      apply qaG
      simp (disch:=first|omega|decide|simp only[nmsB,lB]) only[simprocAttr,-rR,-rS,leB,memB,arrB,numB,qaf,L70b0,qae,qac,qad,qab,qaa]
      rfl
    · intro st hJ hr
      obtain ⟨H,rfl,P,h1,h2,h3⟩:=hJ.of_s (by decide)
      subst hr
      rw[show oA (enc (kf la) n fun j=>fl b j ^^^ qa6 t j) (qa6 t) 16=wtl (enc (kf la) n) t b from rfl] at h3
      simp (disch:=first|omega|decide|simp only[nmsB,lB]) only[simprocAttr,-rR,-rS,leB,memB,arrB,numB,qaf,opsB,ordB,qaz,qak,qaF,L70b0,zU,qae,qac,qad,qab,qaa,qaq,qah]
      rw[qa0 5 _ _ [(1,2)] (by simp (maxSteps:=4000000) only[simprocAttr,-rR,-rS,qaj,qbn,qcx,qcT,qam,qaN,P.g0,P.g1,P.g2,P.g3,P.g4,h3,qag,qab,qaa])]
      simp (disch:=first|omega|decide|simp only[nmsB,lB]) only[simprocAttr,-rR,-rS,leB,memB,qaf,qbn,qeQ,qfL,qar,qaY,P.g0,P.g1,P.g2,P.g3,P.g4,h3,qae,qac,qad,qab,qaa]
theorem at_true (k n:Nat) (hn:n≤20) (la lb:List (BitVec 8)) (hla:la.length=16*(n+2)) (t:BitVec 128) (b:List (BitVec 8)) (hb:b.length=16) :
    F C (k+80) 70 [.ptr (0,0) 0,.isl (bs b) 16,.agg (aB 16 (qa6 t)),Bo true] [PO,RA 2 n,bs la,RA 4 n,bs lb]=some (.sl (1,0) 0 16 none 1,[some PO,some (RA 2 n),some (bs la),some (RA 4 n),some (bs lb)],[bs (wtl (dec (kf la) n) t b)]):=by
  rw[qaL f70]
  have P0:PR (qaZ [PO,RA 2 n,bs la,RA 4 n,bs lb]) n la lb:=⟨rfl,rfl,rfl,rfl,rfl⟩
  generalize hI:qaZ [PO,RA 2 n,bs la,RA 4 n,bs lb]=H0 at P0
  simp (disch:=first|omega|decide|simp only[nmsB,lB]) only[simprocAttr,-rR,-rS,leB,memB,arrB,numB,qaf,opsB,ordB,qaz,qak,qaF,L70,hI,qac,qad,qab,qaa,qaq,qah]
  generalize hL:qaP L70k1 _ _ _=r
  refine qaK hL (aJ1 n la lb b (qa6 t) true) 16 (by omega) (fun i st hi hJ=>a1_round _ n la lb b hb _ true i hi st hJ) ?_ ?_ ?_
  · refine qal [(2, 0), (4, 0)] rfl (by simp only [simprocAttr, -rR, -rS, qaj, L70k1, qbn, qa1, qab, qaa]; rw [PR.skip ((P0.up _ _ (by decide)).up _ _ (by decide))]; simp only [simprocAttr, -rR, -rS, qaj, qcx, qcT, qaD, qam, P0.g0, P0.g1, P0.g2, P0.g3, P0.g4, qag, qab, qaa]) (by simp (maxSteps := 4000000) only [simprocAttr, -rR, -rS, qaj, L70k1, zA, zB, qa9, qag, qab, qaa] <;> rfl) ⟨_, rfl, ?_, ?_, ?_⟩
    · exact PR.cn ((P0.up _ _ (by decide)).up _ _ (by decide)) _
    · exact qai (2,0) rfl (by simp (disch:=first|omega|decide|simp only[nmsB,lB]) only[simprocAttr,-rR,-rS,leB,memB,qaf,qae,qac,qad,qab,qaa]) (qap _ _ _)
    · rw[xg_0]; exact qai (4,0) rfl (by simp (disch:=first|omega|decide|simp only[nmsB,lB]) only[simprocAttr,-rR,-rS,leB,memB,qaf,arrB,qae,qac,qad,qab,qaa]) (qap _ _ _)
  · rintro st ⟨H, rfl, P, h1, h2⟩
    apply qaG
    simp (disch:=first|omega|decide|simp only[nmsB,lB]) only[simprocAttr,-rR,-rS,leB,memB,arrB,numB,qaf,L70b1,qae,qac,qad,qab,qaa]
    rfl
  · rintro st ⟨H, rfl, P, h1, h2⟩ rfl
    rw[xg_all] at h2
    have Q:RG H (0,1) (0,2) (n+2) none la:=⟨P.g1,P.g2,by decide⟩
    have hr:=reach_RG Q
    have he:∀ b s,_:=fun b s=>c_rdec (k+19) n b hn _ (0,1) (0,2) la Q.only hla s
    have ht:∀ v,_:=fun v=>tr_RG _ v (0,1) (0,2) (n+2) none la Q.only
    have g0:=P.g0
    simp (disch:=first|omega|decide|simp only[nmsB,lB]) only[simprocAttr,-rR,-rS,leB,memB,arrB,numB,qaf,opsB,ordB,qaz,qak,qaF,L70b1,zU,PO_k0,PO_k1,g0,h1,h2,hr,he,ht,qac,qad,qab,qaa,qaq,qah]
    clear hL
    generalize hL:qaP L70k0 _ _ _=r
    refine qaK hL (aJ0 n la lb (dec (kf la) n fun j=>fl b j ^^^ qa6 t j) (qa6 t)) 16 (by omega) (fun i st hi hJ=>a0_round _ n la lb _ _ i hi st hJ) ?_ ?_ ?_
    · refine qal [(1, 0), (1, 1)] rfl (by simp only [simprocAttr, -rR, -rS, qaj, L70k0, qbn, qaU, qab, qaa]; rw [PR.skip (P.up _ _ (by decide))]; simp only [simprocAttr, -rR, -rS, qaj, qcx, qcT, qaD, qam, P.g0, P.g1, P.g2, P.g3, P.g4, h1, h2, qag, qab, qaa]) rfl ⟨_, .inl ⟨rfl, rfl, ?_, ?_, ?_⟩⟩
      · exact PR.cn (P.up _ _ (by decide)) _
      · exact qai (1,0) rfl (by simp (disch:=first|omega|decide|simp only[nmsB,lB]) only[simprocAttr,-rR,-rS,leB,memB,qaf,h1,qae,qac,qad,qab,qaa]) (qap _ _ _)
      · exact qai (1,1) rfl (by simp (disch:=first|omega|decide|simp only[nmsB,lB]) only[simprocAttr,-rR,-rS,leB,memB,qaf,qae,qac,qad,qab,qaa]) (qap _ _ _)
    · intro st hJ
      obtain ⟨H,rfl,P,h1,h2,h3⟩:=hJ.of_s (by decide)
      apply qaG
      simp (disch:=first|omega|decide|simp only[nmsB,lB]) only[simprocAttr,-rR,-rS,leB,memB,arrB,numB,qaf,L70b0,qae,qac,qad,qab,qaa]
      rfl
    · intro st hJ hr
      obtain ⟨H,rfl,P,h1,h2,h3⟩:=hJ.of_s (by decide)
      subst hr
      rw[show oA (dec (kf la) n fun j=>fl b j ^^^ qa6 t j) (qa6 t) 16=wtl (dec (kf la) n) t b from rfl] at h3
      simp (disch:=first|omega|decide|simp only[nmsB,lB]) only[simprocAttr,-rR,-rS,leB,memB,arrB,numB,qaf,opsB,ordB,qaz,qak,qaF,L70b0,zU,qae,qac,qad,qab,qaa,qaq,qah]
      rw[qa0 5 _ _ [(1,2)] (by simp (maxSteps:=4000000) only[simprocAttr,-rR,-rS,qaj,qbn,qcx,qcT,qam,qaN,P.g0,P.g1,P.g2,P.g3,P.g4,h3,qag,qab,qaa])]
      simp (disch:=first|omega|decide|simp only[nmsB,lB]) only[simprocAttr,-rR,-rS,leB,memB,qaf,qbn,qeQ,qfL,qar,qaY,P.g0,P.g1,P.g2,P.g3,P.g4,h3,qae,qac,qad,qab,qaa]
end Aes
namespace Aes
open Go Go.LE Xf Tb
set_option maxRecDepth 20000
def mod5R (n:Nat) (la lb:List (BitVec 8)):List (Nm × Option qan):=[((0,0),some PO),((0,1),some (RA 2 n)),((0,2),some (bs la)),((0,3),some (RA 4 n)),((0,4),some (bs lb))]
theorem PR.same {H:Heap} {n:Nat} {la lb:List (BitVec 8)} (h:PR H n la lb):modN (mod5R n la lb) H=H:=by
  simp only[mod5R,qb8,qcc,qa8 h.g4,qa8 h.g3,qa8 h.g2,qa8 h.g1,qa8 h.g0]
theorem PR.tr {H:Heap} {n:Nat} {la lb:List (BitVec 8)} (h:PR H n la lb) (v:LV) (news:List qan):qdz true H (some ⟨v,news,mod5R n la lb⟩)=some ⟨v,news,[]⟩:=by
  refine qec _ _ _ _ fun q hm => ?_
  simp only[mod5R,List.mem_cons,List.not_mem_nil,zV] at hm
  rcases hm with rfl | rfl | rfl | rfl | rfl
  · simp only[h.g0,qcJ]; rfl
  · simp only[h.g1,qcJ,RA,same_RF]
  · simp only[h.g2,qcJ,qe2]
  · simp only[h.g3,qcJ,RA,same_RF]
  · simp only[h.g4,qcJ,qe2]
theorem PR.reach {H:Heap} {n:Nat} {la lb:List (BitVec 8)} (h:PR H n la lb):qa2 H FUEL [] [(0,0)]=five:=by
  simp only[simprocAttr,-rR,-rS,qaj,qcx,qcT,qam,h.g0,h.g1,h.g2,h.g3,h.g4,qag,qab,qaa]; rfl
theorem PR.obs {H:Heap} {n:Nat} {la lb:List (BitVec 8)} (h:PR H n la lb):(five.filterMap H).map (fun cs=>cs.map (ren D (qaM five)))=[PO,RA 2 n,bs la,RA 4 n,bs lb]:=by
  have hfm:five.filterMap H=[PO,RA 2 n,bs la,RA 4 n,bs lb]:=by
    simp[five,h.g0,h.g1,h.g2,h.g3,h.g4]
  have e0:PO.map (ren D (qaM five))=PO:=rfl
  have e1:(RA 2 n).map (ren D (qaM five))=RA 2 n:=by rw[RA,qbI,qaY,qho 2 (by decide)]; rfl
  have e3:(RA 4 n).map (ren D (qaM five))=RA 4 n:=by rw[RA,qbI,qaY,qho 4 (by decide)]; rfl
  rw[hfm,zA,zA,zA,zA,zA,zB,e0,e1,e3,qar,qar]
theorem back5R (b n:Nat) (la lb:List (BitVec 8)) (len es:Nat) (l:List (BitVec 8)):qcA five b (.sl (1,0) 0 len none es,[some PO,some (RA 2 n),some (bs la),some (RA 4 n),some (bs lb)],[bs l])=⟨.sl (b,0) 0 len none es,[bs l],mod5R n la lb⟩:=by
  have f0:PO.map (ren D (qbh five b 1))=PO:=rfl
  have f1:(RA 2 n).map (ren D (qbh five b 1))=RA 2 n:=by rw[RA,qbI,qaY]; rfl
  have f3:(RA 4 n).map (ren D (qbh five b 1))=RA 4 n:=by rw[RA,qbI,qaY]; rfl
  rw[qaW,List.length_singleton]
  simp only[zA,zB,qar,qaY,qbs,Nat.zero_lt_one,zF,qbj]
  rw[show five=[(0,0),(0,1),(0,2),(0,3),(0,4)] from rfl]
  simp only[List.zipWith_cons_cons,List.zipWith_nil_left,zC,qar]
  rw[←show five=[(0,0),(0,1),(0,2),(0,3),(0,4)] from rfl,f0,f1,f3]
  rfl
theorem c_tweaks (k n b:Nat) (hn:n≤20) (la lb:List (BitVec 8)) (hlb:lb.length=16*(n+2)) (u:BitVec 64) (w:Nat) (hw0:0 < w) (hw:w≤5000) (H:Heap) (P:PR H n la lb) :
    qaA (envC C (k+6000)) H b 69 [.ptr (0,0) 0,B64 u,N w]=some ⟨.sl (b,0) 0 w none 16,[bs (twl (tw0 n lb u) w)],mod5R n la lb⟩:=by
  have hl:lend H (qaJ 69) 0 [.ptr (0,0) 0,B64 u,N w]=some ([.ptr (0,0) 0,B64 u,N w],[]):=by rw[l69]; exact qdo _ _ 0
  rw[qe0 _ b 69 H _ _ [.ptr (0,0) 0,B64 u,N w] five [] _ _ hl P.reach rfl rfl P.obs (tweaks_F k n hn la lb hlb u w hw0 hw) (by simp only[qa7,ze,zW,qcu,RA,qgr] <;> rfl),back5R]
def En (back:Bool) (la:List (BitVec 8)) (n:Nat):R→R:=if back then dec (kf la) n else enc (kf la) n
theorem at_F (k n:Nat) (hn:n≤20) (la lb:List (BitVec 8)) (hla:la.length=16*(n+2)) (t:BitVec 128) (b:List (BitVec 8)) (hb:b.length=16) (back:Bool) :
    F C (k+80) 70 [.ptr (0,0) 0,.isl (bs b) 16,.agg (aB 16 (qa6 t)),Bo back] [PO,RA 2 n,bs la,RA 4 n,bs lb]=some (.sl (1,0) 0 16 none 1,[some PO,some (RA 2 n),some (bs la),some (RA 4 n),some (bs lb)],[bs (wtl (En back la n) t b)]):=by
  cases back
  · exact at_false k n hn la lb hla t b hb
  · exact at_true k n hn la lb hla t b hb
theorem c_at (k n b:Nat) (hn:n≤20) (la lb:List (BitVec 8)) (hla:la.length=16*(n+2)) (t:BitVec 128) (V:LV) (bb:List (BitVec 8)) (hb:bb.length=16) (back:Bool) (H:Heap) (P:PR H n la lb) (lent:List Nm)
    (hs:snap H D V=some (.isl (bs bb) 16,lent)) (hx:∀ x ∈ lent,x ∉ five) :
    qaA (envC C (k+80)) H b 70 [.ptr (0,0) 0,V,.agg (aB 16 (qa6 t)),Bo back]=some ⟨.sl (b,0) 0 16 none 1,[bs (wtl (En back la n) t bb)],mod5R n la lb⟩:=by
  have hl:lend H (qaJ 70) 0 [.ptr (0,0) 0,V,.agg (aB 16 (qa6 t)),Bo back]=some ([.ptr (0,0) 0,.isl (bs bb) 16,.agg (aB 16 (qa6 t)),Bo back],lent):=by
    rw[qba,qba,qba,qba,qct,if_neg (show ¬ qaJ 70 0=true by decide),if_pos (show qaJ 70 (0+1)=true by decide),if_neg (show ¬ qaJ 70 (0+1+1)=true by decide),if_neg (show ¬ qaJ 70 (0+1+1+1)=true by decide),hs,qa3,qa3,qa3,qa3]
    simp
  have hr:Go.LE.qa2 H FUEL [] (([.ptr (0,0) 0,.isl (bs bb) 16,.agg (aB 16 (qa6 t)),Bo back]:List LV).flatMap (nms D))=five:=by
    have e:([.ptr (0,0) 0,.isl (bs bb) 16,.agg (aB 16 (qa6 t)),Bo back]:List LV).flatMap (nms D)=[(0,0)]:=by
      simp only[zI,zN,qa1,qbe,zD,qb5,qfG]
    rw[e,P.reach]
  have hd:lent.any (fun n=>five.contains n)=false:=by
    rw[List.any_eq_false]; intro x h; have:=hx x h; simpa using this
  have ha:([.ptr (0,0) 0,.isl (bs bb) 16,.agg (aB 16 (qa6 t)),Bo back]:List LV).map (ren D (qaM five))=[.ptr (0,0) 0,.isl (bs bb) 16,.agg (aB 16 (qa6 t)),Bo back]:=by
    simp only[zA,zB,qa9,qbl]; rfl
  rw[qe0 _ b 70 H _ _ _ five lent _ _ hl hr hd ha P.obs (at_F k n hn la lb hla t bb hb back) (by simp only[qa7,ze,zW,qcu,RA,qgr] <;> rfl),back5R]
theorem twl_cell (t0:BitVec 128) (w i:Nat) (h:i < w):qbc (i*16) 16 (some (bs (twl t0 w)))=some (aB 16 (qa6 (tws t0 i))):=by
  have hpre:∀ w,i < w→∃ r,twl t0 w=twl t0 i++(List.range 16).map (qa6 (tws t0 i))++r:=by
    intro w
    induction w with
    | zero=>intro h; omega
    | succ w ih =>
      intro h
      by_cases h':i < w
      · obtain ⟨r, hr⟩ := ih h'
        exact ⟨r++(List.range 16).map (qa6 (tws t0 w)),by rw[twl,hr]; simp only[List.append_assoc]⟩
      · obtain rfl : w = i := by omega
        exact ⟨[],by rw[twl,zD]⟩
  obtain ⟨r,hr⟩:=hpre w h
  have hl:=qit t0 i
  have h16:((List.range 16).map (qa6 (tws t0 i))).length=16:=by rw[zX,List.length_range]
  rw[qfs _ _ 16 (by rw[hr,zJ,zJ,hl,h16]; omega),hr,List.append_assoc,List.drop_append,show i*16 - (twl t0 i).length=0 by omega,zE,List.drop_of_length_le (by omega),zG,List.take_append_of_le_length (by omega),List.take_of_length_le (by omega),qcK]
theorem bs_sub (d:List (BitVec 8)) (o:Nat):List.take 16 (List.drop o (bs d))=bs ((d.drop o).take 16):=by rw[qdt,qcg]
def urJ (n:Nat) (la lb:List (BitVec 8)) (t0:BitVec 128) (d:List (BitVec 8)) (back:Bool) (w i:Nat) (st:St):Prop := ∃ (H:Heap),
  (i=0∧st=⟨[.ptr (0,0) 0,.undef,.isl (bs d) d.length,Bo back,.undef,.undef,.undef,.undef,.undef,.undef,N (d.length / 16),N (d.length % 16),.sl (1,0) 0 (d.length / 16+1) none 16,Nil,N w,N 0,.undef,.undef,.undef,.undef,.undef,.undef,.undef,.undef,.undef,.undef,.undef,.undef,.undef,.undef,.undef,.undef,.undef,.undef,.undef,.undef,.undef,.undef,.undef,.undef,.undef,.undef,.undef,.undef,.undef,.undef,.undef,.undef,.undef,.undef,.undef,.undef,.undef,.undef,.undef,.undef,.undef,.undef,.undef,.undef,.undef,.undef,.undef,.undef,.undef,.undef,.undef,.undef,.undef,.undef,.undef,.undef,.undef,.undef,.undef,.undef,.undef,.undef,.undef,.undef,.undef,.undef,.undef,.undef,.undef,.undef,.undef,.undef,.undef,.undef,.undef,.undef,.undef,.undef,.undef,.undef,.undef,.undef,.undef,.undef,.undef,.undef,.undef,.undef,.undef,.undef,.undef,.undef,.undef,.undef,.undef,.undef,.undef,.undef,.undef,.undef,.undef,.undef,.undef,.undef,.undef,.undef,.undef,.undef],H,2,5⟩∧PR H n la lb∧H (1,0)=some (bs (twl t0 (d.length / 16+1)))) ∨
  (0 < i∧st=⟨[.ptr (0,0) 0,.undef,.isl (bs d) d.length,Bo back,.undef,.undef,.undef,.undef,.undef,.undef,N (d.length / 16),N (d.length % 16),.sl (1,0) 0 (d.length / 16+1) none 16,.sl (1,1) 0 (16*i) none 1,N w,N i,.undef,.undef,.undef,.undef,.undef,.undef,.undef,.undef,.undef,.undef,.undef,.undef,.undef,.undef,.undef,.undef,.undef,.undef,.undef,.undef,.undef,.undef,.undef,.undef,.undef,.undef,.undef,.undef,.undef,.undef,.undef,.undef,.undef,.undef,.undef,.undef,.undef,.undef,.undef,.undef,.undef,.undef,.undef,.undef,.undef,.undef,.undef,.undef,.undef,.undef,.undef,.undef,.undef,.undef,.undef,.undef,.undef,.undef,.undef,.undef,.undef,.undef,.undef,.undef,.undef,.undef,.undef,.undef,.undef,.undef,.undef,.undef,.undef,.undef,.undef,.undef,.undef,.undef,.undef,.undef,.undef,.undef,.undef,.undef,.undef,.undef,.undef,.undef,.undef,.undef,.undef,.undef,.undef,.undef,.undef,.undef,.undef,.undef,.undef,.undef,.undef,.undef,.undef,.undef,.undef,.undef,.undef,.undef],H,2,5⟩∧PR H n la lb∧H (1,0)=some (bs (twl t0 (d.length / 16+1)))∧H (1,1)=some (bs (done (En back la n) t0 d i)))
theorem urJ.of_z {n:Nat} {la lb:List (BitVec 8)} {t0:BitVec 128} {d:List (BitVec 8)} {back:Bool} {w:Nat} {st:St} (h:urJ n la lb t0 d back w 0 st):∃ (H:Heap),st=⟨[.ptr (0,0) 0,.undef,.isl (bs d) d.length,Bo back,.undef,.undef,.undef,.undef,.undef,.undef,N (d.length / 16),N (d.length % 16),.sl (1,0) 0 (d.length / 16+1) none 16,Nil,N w,N 0,.undef,.undef,.undef,.undef,.undef,.undef,.undef,.undef,.undef,.undef,.undef,.undef,.undef,.undef,.undef,.undef,.undef,.undef,.undef,.undef,.undef,.undef,.undef,.undef,.undef,.undef,.undef,.undef,.undef,.undef,.undef,.undef,.undef,.undef,.undef,.undef,.undef,.undef,.undef,.undef,.undef,.undef,.undef,.undef,.undef,.undef,.undef,.undef,.undef,.undef,.undef,.undef,.undef,.undef,.undef,.undef,.undef,.undef,.undef,.undef,.undef,.undef,.undef,.undef,.undef,.undef,.undef,.undef,.undef,.undef,.undef,.undef,.undef,.undef,.undef,.undef,.undef,.undef,.undef,.undef,.undef,.undef,.undef,.undef,.undef,.undef,.undef,.undef,.undef,.undef,.undef,.undef,.undef,.undef,.undef,.undef,.undef,.undef,.undef,.undef,.undef,.undef,.undef,.undef,.undef,.undef,.undef,.undef],H,2,5⟩∧PR H n la lb∧H (1,0)=some (bs (twl t0 (d.length / 16+1))):=by
  obtain ⟨H,⟨_,h⟩ | ⟨h,_⟩⟩:=h
  · exact ⟨H,h⟩
  · exact absurd h (by omega)
theorem urJ.of_s {n i:Nat} {la lb:List (BitVec 8)} {t0:BitVec 128} {d:List (BitVec 8)} {back:Bool} {w:Nat} {st:St} (h:urJ n la lb t0 d back w i st) (hi:0 < i):∃ (H:Heap),st=⟨[.ptr (0,0) 0,.undef,.isl (bs d) d.length,Bo back,.undef,.undef,.undef,.undef,.undef,.undef,N (d.length / 16),N (d.length % 16),.sl (1,0) 0 (d.length / 16+1) none 16,.sl (1,1) 0 (16*i) none 1,N w,N i,.undef,.undef,.undef,.undef,.undef,.undef,.undef,.undef,.undef,.undef,.undef,.undef,.undef,.undef,.undef,.undef,.undef,.undef,.undef,.undef,.undef,.undef,.undef,.undef,.undef,.undef,.undef,.undef,.undef,.undef,.undef,.undef,.undef,.undef,.undef,.undef,.undef,.undef,.undef,.undef,.undef,.undef,.undef,.undef,.undef,.undef,.undef,.undef,.undef,.undef,.undef,.undef,.undef,.undef,.undef,.undef,.undef,.undef,.undef,.undef,.undef,.undef,.undef,.undef,.undef,.undef,.undef,.undef,.undef,.undef,.undef,.undef,.undef,.undef,.undef,.undef,.undef,.undef,.undef,.undef,.undef,.undef,.undef,.undef,.undef,.undef,.undef,.undef,.undef,.undef,.undef,.undef,.undef,.undef,.undef,.undef,.undef,.undef,.undef,.undef,.undef,.undef,.undef,.undef,.undef,.undef,.undef,.undef],H,2,5⟩∧PR H n la lb∧H (1,0)=some (bs (twl t0 (d.length / 16+1)))∧H (1,1)=some (bs (done (En back la n) t0 d i)):=by
  obtain ⟨H,⟨h,_⟩ | ⟨_,h⟩⟩:=h
  · exact absurd h (by omega)
  · exact ⟨H,h⟩
theorem u_roundZ (k n:Nat) (hn:n≤20) (la lb:List (BitVec 8)) (hla:la.length=16*(n+2)) (t0:BitVec 128) (d:List (BitVec 8)) (hd2:d.length≤65536) (back:Bool) (w:Nat) (hw:16*w≤d.length) (hi:0 < w) (st:St) (hJ:urJ n la lb t0 d back w 0 st) :
    ∃ st1,ev (envC C (k+80)) (k+80) L40b0 st=some (.normal,st1)∧urJ n la lb t0 d back w (0+1) (qaT L40k0 st1):=by
  obtain ⟨H,rfl,P,h1⟩:=hJ.of_z
  have i0:16*0≤16*0+16:=by omega
  have i1:16*0+16≤d.length:=by omega
  have i2:16*0+16 - 16*0=16:=by omega
  have i3:0 < d.length / 16+1:=by omega
  have htc:=twl_cell t0 (d.length / 16+1) 0 i3
  have hbl:(blk d 0).length=16:=qfj d 0 (by omega)
  have hbk:List.take 16 (List.drop (16*0) (bs d))=bs (blk d 0):=bs_sub d (16*0)
  have hbk0:List.take 16 (bs d)=bs (blk d 0):=hbk
  simp (disch:=first|omega|decide|simp only[nmsB,lB]) only[simprocAttr,-rR,-rS,leB,memB,arrB,numB,qaf,opsB,ordB,qaz,qak,qaF,L40b0,h1,hi,i0,i1,i2,i3,htc,hbk,hbk0,qbe,qa1,qb5,qfG,qac,qad,qab,qaa,qaq,qah]
  have P5:PR (only five H) n la lb:=⟨P.g0,P.g1,P.g2,P.g3,P.g4⟩
  obtain ⟨W,hW⟩:∃ W,W=wtl (En back la n) (tws t0 0) (blk d 0):=⟨_,rfl⟩
  have hWl:W.length=16:=by rw[hW,qcv]
  rw[P.reach,c_at k n _ hn la lb hla (tws t0 0) _ (blk d 0) hbl back (only five H) P5 [] (qeZ _ _) (by simp),P5.tr,←hW]
  have hfk:qcF 0 1 16 (some (bs W))=some (bs W):=by
    rw[qcF,if_pos (by rw[qaV]; omega),zE,qcg,List.take_of_length_le (by omega)]
  simp (disch:=first|omega|decide|simp only[nmsB,lB]) only[simprocAttr,-rR,-rS,leB,memB,arrB,numB,qaf,opsB,ordB,qaz,qak,qaF,h1,hfk,five,qaU,qaN,qac,qad,qab,qaa,qaq,qah]
  refine ⟨_,rfl,?_⟩
  refine qal [(1,0),(20,0)] rfl (by simp only[simprocAttr,-rR,-rS,qaj,L40k0,qbn,qaN,qa1,qab,qaa]; rw[PR.skip ((P.up _ _ (by decide)).up _ _ (by decide))]; simp only[simprocAttr,-rR,-rS,qaj,qcx,qcT,qam,qaN,P.g0,P.g1,P.g2,P.g3,P.g4,h1,qag,qab,qaa]) (by simp only[simprocAttr,-rR,-rS,qaj,L40k0,zA,zB,qa9,qag,qab,qaa] <;> rfl) ⟨_,.inr ⟨by omega,rfl,?_,?_,?_⟩⟩
  · exact PR.cn ((P.up _ _ (by decide)).up _ _ (by decide)) _
  · exact qai (1,0) rfl (by simp (disch:=first|omega|decide|simp only[nmsB,lB]) only[simprocAttr,-rR,-rS,leB,memB,qaf,h1,qae,qac,qad,qab,qaa]) (qar _ _)
  · refine (qb7 _ _ 1 (20, 0) _ rfl (by simp (disch := first | omega | decide | simp only [nmsB, lB]) only [simprocAttr, -rR, -rS, leB, memB, qaf, qae, qac, qad, qab, qaa] <;> rfl)).trans ?_
    rw[qar,done,done,zG,hW]
theorem u_roundS (k n:Nat) (hn:n≤20) (la lb:List (BitVec 8)) (hla:la.length=16*(n+2)) (t0:BitVec 128) (d:List (BitVec 8)) (hd2:d.length≤65536) (back:Bool) (w:Nat) (hw:16*w≤d.length) (i:Nat) (h0i:0 < i) (hi:i < w) (st:St) (hJ:urJ n la lb t0 d back w i st) :
    ∃ st1,ev (envC C (k+80)) (k+80) L40b0 st=some (.normal,st1)∧urJ n la lb t0 d back w (i+1) (qaT L40k0 st1):=by
  obtain ⟨H,rfl,P,h1,h2⟩:=hJ.of_s h0i
  have i0:16*i≤16*i+16:=by omega
  have i1:16*i+16≤d.length:=by omega
  have i2:16*i+16 - 16*i=16:=by omega
  have i3:i < d.length / 16+1:=by omega
  have htc:=twl_cell t0 (d.length / 16+1) i i3
  have hbl:(blk d i).length=16:=qfj d i (by omega)
  have hbk:List.take 16 (List.drop (16*i) (bs d))=bs (blk d i):=bs_sub d (16*i)
  simp (disch:=first|omega|decide|simp only[nmsB,lB]) only[simprocAttr,-rR,-rS,leB,memB,arrB,numB,qaf,opsB,ordB,qaz,qak,qaF,L40b0,h1,h2,hi,i0,i1,i2,i3,htc,hbk,qbe,qa1,qb5,qfG,qac,qad,qab,qaa,qaq,qah]
  have P5:PR (only five H) n la lb:=⟨P.g0,P.g1,P.g2,P.g3,P.g4⟩
  obtain ⟨W,hW⟩:∃ W,W=wtl (En back la n) (tws t0 i) (blk d i):=⟨_,rfl⟩
  have hWl:W.length=16:=by rw[hW,qcv]
  rw[P.reach,c_at k n _ hn la lb hla (tws t0 i) _ (blk d i) hbl back (only five H) P5 [] (qeZ _ _) (by simp),P5.tr,←hW]
  have hfk:qcF 0 1 16 (some (bs W))=some (bs W):=by
    rw[qcF,if_pos (by rw[qaV]; omega),zE,qcg,List.take_of_length_le (by omega)]
  have hdl:=qco (En back la n) t0 d i
  have hap:∀ (b:Nat),appN b 1 16 0 (16*i) (1,1) (bs W) (some (bs (done (En back la n) t0 d i)))=some ⟨.sl (b,0) 0 (16*(i+1)) none 1,[bs (done (En back la n) t0 d (i+1))],[((1,1),none)]⟩:=by
    intro b
    rw[qc4 _ _ _ _ _ _ (by omega),zE,List.take_of_length_le (by omega),hW,done]
    rfl
  simp (disch:=first|omega|decide|simp only[nmsB,lB]) only[simprocAttr,-rR,-rS,leB,memB,arrB,numB,qaf,opsB,ordB,qaz,qak,qaF,h1,h2,hfk,five,qaU,qaN,hap,qac,qad,qab,qaa,qaq,qah]
  refine ⟨_,rfl,?_⟩
  refine qal [(1,0),(20,0)] rfl (by simp only[simprocAttr,-rR,-rS,qaj,L40k0,qbn,qaN,qa1,qab,qaa]; rw[PR.skip (((P.up _ _ (by decide)).up _ _ (by decide)).up _ _ (by decide))]; simp only[simprocAttr,-rR,-rS,qaj,qcx,qcT,qam,qaN,P.g0,P.g1,P.g2,P.g3,P.g4,h1,qag,qab,qaa]) (by simp only[simprocAttr,-rR,-rS,qaj,L40k0,zA,zB,qa9,qag,qab,qaa] <;> rfl) ⟨_,.inr ⟨by omega,rfl,?_,?_,?_⟩⟩
  · exact PR.cn (((P.up _ _ (by decide)).up _ _ (by decide)).up _ _ (by decide)) _
  · exact qai (1,0) rfl (by simp (disch:=first|omega|decide|simp only[nmsB,lB]) only[simprocAttr,-rR,-rS,leB,memB,qaf,h1,qae,qac,qad,qab,qaa]) (qar _ _)
  · refine (qb7 _ _ 1 (20, 0) _ rfl (by simp (disch := first | omega | decide | simp only [nmsB, lB]) only [simprocAttr, -rR, -rS, leB, memB, qaf, qae, qac, qad, qab, qaa] <;> rfl)).trans ?_
    rw[qar]
theorem u_round (k n:Nat) (hn:n≤20) (la lb:List (BitVec 8)) (hla:la.length=16*(n+2)) (t0:BitVec 128) (d:List (BitVec 8)) (hd2:d.length≤65536) (back:Bool) (w:Nat) (hw:16*w≤d.length) (i:Nat) (hi:i < w) (st:St) (hJ:urJ n la lb t0 d back w i st) :
    ∃ st1,ev (envC C (k+80)) (k+80) L40b0 st=some (.normal,st1)∧urJ n la lb t0 d back w (i+1) (qaT L40k0 st1):=by
  by_cases h0:0 < i
  · exact u_roundS k n hn la lb hla t0 d hd2 back w hw i h0 hi st hJ
  · obtain rfl : i = 0 := by omega
    exact u_roundZ k n hn la lb hla t0 d hd2 back w hw hi st hJ
end Aes
namespace Aes
open Go Go.LE Xf Tb
set_option maxRecDepth 20000
theorem nms7_sl (m:Nm) (a b:Nat) (c:Option Nat) (d:Nat):nms 7 (.sl m a b c d)=[m]:=rfl
theorem qh8 (k n:Nat) (hn:n≤20) (la lb:List (BitVec 8)) (hla:la.length=16*(n+2)) (hlb:lb.length=16*(n+2)) (u:BitVec 64) (d:List (BitVec 8)) (h16:16≤d.length) (hd2:d.length≤65536) (back:Bool) (hr:d.length % 16=0) :
    F C (k+7000) 40 [.ptr (0,0) 0,B64 u,.isl (bs d) d.length,Bo back] [PO,RA 2 n,bs la,RA 4 n,bs lb] =
    some (.tup [.sl (1,0) 0 d.length none 1,N 0],[some PO,some (RA 2 n),some (bs la),some (RA 4 n),some (bs lb)],[bs (qbF (En back la n) (tw0 n lb u) d back)]):=by
  rw[qaL f40]
  have P0:PR (qaZ [PO,RA 2 n,bs la,RA 4 n,bs lb]) n la lb:=⟨rfl,rfl,rfl,rfl,rfl⟩
  generalize hI:qaZ [PO,RA 2 n,bs la,RA 4 n,bs lb]=H0 at P0
  have hle:¬ d.length < 16:=by omega
  have hle2:¬ 65536 < d.length:=by omega
  have htw:=fun b=>c_tweaks (k+999) n b hn la lb hlb u (d.length / 16+1) (by omega) (by omega) H0 P0
  have hsame:=P0.same
  have d0:decide (0 < d.length % 16)=false:=decide_eq_false (by omega)
  simp (disch:=first|omega|decide|simp only[nmsB,lB]) only[simprocAttr,-rR,-rS,leB,memB,arrB,numB,qaf,opsB,ordB,qaz,qak,qaF,L40,hI,hle,hle2,htw,hsame,d0,qac,qad,qab,qaa,qaq,qah]
  obtain ⟨t0,ht0⟩:∃ t0,t0=tw0 n lb u:=⟨_,rfl⟩
  rw[←ht0]
  generalize hL:qaP L40k0 _ _ _=r
  refine qaK hL (urJ n la lb t0 d back (d.length / 16)) (d.length / 16) (by omega) (fun i st hi hJ=>u_round (k+6919) n hn la lb hla t0 d hd2 back (d.length / 16) (by omega) i hi st hJ) ?_ ?_ ?_
  · refine qal [(24, 0)] rfl (by simp only [simprocAttr, -rR, -rS, qaj, L40k0, qbn, qaN, qaU, qa1, qab, qaa]; rw [PR.skip (P0.up _ _ (by decide))]; simp only [simprocAttr, -rR, -rS, qaj, qcx, qcT, qam, qaN, P0.g0, P0.g1, P0.g2, P0.g3, P0.g4, qag, qab, qaa]) (by simp only [simprocAttr, -rR, -rS, qaj, L40k0, zA, zB, qa9, qag, qab, qaa] <;> rfl) ⟨_, .inl ⟨rfl, rfl, ?_, ?_⟩⟩
    · exact PR.cn (P0.up _ _ (by decide)) _
    · exact qai (24,0) rfl (by simp (disch:=first|omega|decide|simp only[nmsB,lB]) only[simprocAttr,-rR,-rS,leB,memB,qaf,ht0,qae,qac,qad,qab,qaa]) (qar _ _)
  · intro st hJ
    obtain ⟨H,rfl,P,h1,h2⟩:=hJ.of_s (by omega)
    apply qaG
    simp (disch:=first|omega|decide|simp only[nmsB,lB]) only[simprocAttr,-rR,-rS,leB,memB,arrB,numB,qaf,L40b0,zU,qae,qac,qad,qab,qaa]
    rfl
  · intro st hJ hr'
    obtain ⟨H,rfl,P,h1,h2⟩:=hJ.of_s (by omega)
    subst hr'
    have e16:16*(d.length / 16)=d.length:=by omega
    rw[show done (En back la n) t0 d (d.length / 16)=qbF (En back la n) t0 d back by rw[qbF,if_pos hr]] at h2
    simp (disch:=first|omega|decide|simp only[nmsB,lB]) only[simprocAttr,-rR,-rS,leB,memB,arrB,numB,qaf,opsB,ordB,qaz,qak,qaF,L40b0,zU,hr,e16,qac,qad,qab,qaa,qaq,qah]
    refine qb3 (names:=[(1,1)]) ?_ ?_
    · simp only [simprocAttr, -rR, -rS, qaj, qbn, qc9, qdy, nms7_sl, qab, qaa]
      rw[PR.skip P]
      simp only[simprocAttr,-rR,-rS,qaj,qam,h2,qag,qab,qaa]
    · simp (disch := first | omega | decide | simp only [nmsB, lB]) only [simprocAttr, -rR, -rS, leB, memB, qaf, qbn, qeQ, qfL, qar, qaY, qbS, P.g0, P.g1, P.g2, P.g3, P.g4, h2, qae, qac, qad, qab, qaa]
      rfl
end Aes
namespace Aes
open Go Go.LE Xf Tb
set_option maxRecDepth 20000
theorem back5T (b n:Nat) (la lb:List (BitVec 8)) (len es:Nat) (l:List (BitVec 8)):qcA five b (.tup [.sl (1,0) 0 len none es,N 0],[some PO,some (RA 2 n),some (bs la),some (RA 4 n),some (bs lb)],[bs l])=⟨.tup [.sl (b,0) 0 len none es,N 0],[bs l],mod5R n la lb⟩:=by
  have f0:PO.map (ren D (qbh five b 1))=PO:=rfl
  have f1:(RA 2 n).map (ren D (qbh five b 1))=RA 2 n:=by rw[RA,qbI,qaY]; rfl
  have f3:(RA 4 n).map (ren D (qbh five b 1))=RA 4 n:=by rw[RA,qbI,qaY]; rfl
  rw[qaW,List.length_singleton]
  simp only[zA,zB,qar]
  rw[show five=[(0,0),(0,1),(0,2),(0,3),(0,4)] from rfl]
  simp only[List.zipWith_cons_cons,List.zipWith_nil_left,zC,qar]
  rw[←show five=[(0,0),(0,1),(0,2),(0,3),(0,4)] from rfl,f0,f1,f3]
  rfl
theorem lend45 (H:Heap) (u:BitVec 64) (d:List (BitVec 8)) (back:Bool):lend H (qaJ 40) 0 [.ptr (0,0) 0,B64 u,.isl (bs d) d.length,Bo back]=some ([.ptr (0,0) 0,B64 u,.isl (bs d) d.length,Bo back],[]):=by
  rw[qba,qba,qba,qba,qct,if_neg (show ¬ qaJ 40 0=true by decide),if_neg (show ¬ qaJ 40 (0+1)=true by decide),if_pos (show qaJ 40 (0+1+1)=true by decide),if_neg (show ¬ qaJ 40 (0+1+1+1)=true by decide),qeZ,qa3,qa3,qa3,qa3]
  rfl
theorem c_runit (K n b:Nat) (la lb:List (BitVec 8)) (u:BitVec 64) (d:List (BitVec 8)) (back:Bool) (H:Heap) (P:PR H n la lb) (res:qce) (hp:qa7 res=true)
    (hF:F C K 40 [.ptr (0,0) 0,B64 u,.isl (bs d) d.length,Bo back] [PO,RA 2 n,bs la,RA 4 n,bs lb]=some res) :
    qaA (envC C K) H b 40 [.ptr (0,0) 0,B64 u,.isl (bs d) d.length,Bo back]=some (qcA five b res):=by
  have hr:Go.LE.qa2 H FUEL [] (([.ptr (0,0) 0,B64 u,.isl (bs d) d.length,Bo back]:List LV).flatMap (nms D))=five:=by
    have e:([.ptr (0,0) 0,B64 u,.isl (bs d) d.length,Bo back]:List LV).flatMap (nms D)=[(0,0)]:=by
      simp only[zI,zN,qa1,zD,qb5,qfr,qfG]
    rw[e,P.reach]
  have ha:([.ptr (0,0) 0,B64 u,.isl (bs d) d.length,Bo back]:List LV).map (ren D (qaM five))=[.ptr (0,0) 0,B64 u,.isl (bs d) d.length,Bo back]:=by
    simp only[zA,zB,qa9]; rfl
  exact qe0 K b 40 H _ _ _ five [] _ _ (lend45 H u d back) hr rfl ha P.obs hF hp
theorem plR (n:Nat) (la lb:List (BitVec 8)) (len:Nat) (l:List (BitVec 8)):qa7 (.tup [.sl (1,0) 0 len none 1,N 0],[some PO,some (RA 2 n),some (bs la),some (RA 4 n),some (bs lb)],[bs l])=true:=by
  simp only[qa7,ze,zW,qcu,RA,qgr]; rfl
theorem renc25_F (k n:Nat) (hn:n≤20) (la lb:List (BitVec 8)) (hla:la.length=16*(n+2)) (hlb:lb.length=16*(n+2)) (u:BitVec 64) (d:List (BitVec 8)) (h16:16≤d.length) (hd2:d.length≤65536) (hw:d.length % 16=0) :
    F C (k+7001) 20 [.ptr (0,0) 0,B64 u,.isl (bs d) d.length] [PO,RA 2 n,bs la,RA 4 n,bs lb] =
    some (.tup [.sl (1,0) 0 d.length none 1,N 0],[some PO,some (RA 2 n),some (bs la),some (RA 4 n),some (bs lb)],[bs (qbF (En false la n) (tw0 n lb u) d false)]):=by
  rw[qaL f20]
  have P0:PR (qaZ [PO,RA 2 n,bs la,RA 4 n,bs lb]) n la lb:=⟨rfl,rfl,rfl,rfl,rfl⟩
  generalize hI:qaZ [PO,RA 2 n,bs la,RA 4 n,bs lb]=H0 at P0
  have hc:=fun b=>(c_runit (k+7000) n b la lb u d false H0 P0 _ (plR _ _ _ _ _) (qh8 k n hn la lb hla hlb u d h16 hd2 false hw)).trans (congrArg some (back5T b n la lb _ _ _))
  have hs:=P0.same
  simp (disch:=first|omega|decide|simp only[nmsB,lB]) only[simprocAttr,-rR,-rS,leB,memB,arrB,numB,qaf,opsB,ordB,qaz,qak,qaF,L20,hI,hc,hs,qac,qad,qab,qaa,qaq,qah]
  refine qb3 (names:=[(7,0)]) ?_ ?_
  · simp only [simprocAttr, -rR, -rS, qaj, qbn, qc9, qdy, nms7_sl, qab, qaa]
    rw[PR.skip (P0.up _ _ (by decide))]
    simp only[simprocAttr,-rR,-rS,qaj,qam,qag,qab,qaa]
  · simp (disch := first | omega | decide | simp only [nmsB, lB]) only [simprocAttr, -rR, -rS, leB, memB, qaf, qbn, qeQ, qfL, qar, qaY, qbS, P0.g0, P0.g1, P0.g2, P0.g3, P0.g4, qae, qac, qad, qab, qaa]
    rfl
theorem renc27_F (k n:Nat) (hn:n≤20) (la lb:List (BitVec 8)) (hla:la.length=16*(n+2)) (hlb:lb.length=16*(n+2)) (u:BitVec 64) (d:List (BitVec 8)) (h16:16≤d.length) (hd2:d.length≤65536) (hw:d.length % 16=0) :
    F C (k+7001) 27 [.ptr (0,0) 0,B64 u,.isl (bs d) d.length] [PO,RA 2 n,bs la,RA 4 n,bs lb] =
    some (.tup [.sl (1,0) 0 d.length none 1,N 0],[some PO,some (RA 2 n),some (bs la),some (RA 4 n),some (bs lb)],[bs (qbF (En true la n) (tw0 n lb u) d true)]):=by
  rw[qaL f27]
  have P0:PR (qaZ [PO,RA 2 n,bs la,RA 4 n,bs lb]) n la lb:=⟨rfl,rfl,rfl,rfl,rfl⟩
  generalize hI:qaZ [PO,RA 2 n,bs la,RA 4 n,bs lb]=H0 at P0
  have hc:=fun b=>(c_runit (k+7000) n b la lb u d true H0 P0 _ (plR _ _ _ _ _) (qh8 k n hn la lb hla hlb u d h16 hd2 true hw)).trans (congrArg some (back5T b n la lb _ _ _))
  have hs:=P0.same
  simp (disch:=first|omega|decide|simp only[nmsB,lB]) only[simprocAttr,-rR,-rS,leB,memB,arrB,numB,qaf,opsB,ordB,qaz,qak,qaF,L27,hI,hc,hs,qac,qad,qab,qaa,qaq,qah]
  refine qb3 (names:=[(7,0)]) ?_ ?_
  · simp only [simprocAttr, -rR, -rS, qaj, qbn, qc9, qdy, nms7_sl, qab, qaa]
    rw[PR.skip (P0.up _ _ (by decide))]
    simp only[simprocAttr,-rR,-rS,qaj,qam,qag,qab,qaa]
  · simp (disch := first | omega | decide | simp only [nmsB, lB]) only [simprocAttr, -rR, -rS, leB, memB, qaf, qbn, qeQ, qfL, qar, qaY, qbS, P0.g0, P0.g1, P0.g2, P0.g3, P0.g4, qae, qac, qad, qab, qaa]
    rfl
structure RXG (H:Heap) (p a ka b kb:Nm) (n:Nat) (la lb:List (BitVec 8)):Prop where
  hp:H p=some [.ptr a 0,.ptr b 0]
  ha:H a=some (RF (.sl ka 0 (n+2) none 16) TB)
  hka:H ka=some (bs la)
  hb:H b=some (RF (.sl kb 0 (n+2) none 16) TB)
  hkb:H kb=some (bs lb)
  nd:[p,a,ka,b,kb].Nodup
def modRX (p a ka b kb:Nm) (n:Nat) (la lb:List (BitVec 8)):List (Nm × Option qan) :=
  [(p,some [.ptr a 0,.ptr b 0]),(a,some (RF (.sl ka 0 (n+2) none 16) TB)),(ka,some (bs la)),(b,some (RF (.sl kb 0 (n+2) none 16) TB)),(kb,some (bs lb))]
theorem RXG.same {H:Heap} {p a ka b kb:Nm} {n:Nat} {la lb:List (BitVec 8)} (h:RXG H p a ka b kb n la lb):modN (modRX p a ka b kb n la lb) H=H:=by
  simp only[modRX,qb8,qcc,qa8 h.hkb,qa8 h.hb,qa8 h.hka,qa8 h.ha,qa8 h.hp]
theorem RXG.ne {H:Heap} {p a ka b kb:Nm} {n:Nat} {la lb:List (BitVec 8)} (h:RXG H p a ka b kb n la lb):(a≠p∧ka≠p∧b≠p∧kb≠p)∧(ka≠a∧b≠a∧kb≠a)∧(b≠ka∧kb≠ka)∧kb≠b:=by
  have:=h.nd
  simp only[List.nodup_cons,List.mem_cons,List.not_mem_nil,zV,not_or,List.nodup_nil,not_false_eq_true,and_true] at this
  obtain ⟨⟨h1,h2,h3,h4⟩,⟨h5,h6,h7⟩,⟨h8,h9⟩,h10⟩:=this
  exact ⟨⟨fun e=>h1 e.symm,fun e=>h2 e.symm,fun e=>h3 e.symm,fun e=>h4 e.symm⟩,⟨fun e=>h5 e.symm,fun e=>h6 e.symm,fun e=>h7 e.symm⟩,⟨fun e=>h8 e.symm,fun e=>h9 e.symm⟩,fun e=>h10 e.symm⟩
theorem RXG.reach {H:Heap} {p a ka b kb:Nm} {n:Nat} {la lb:List (BitVec 8)} (h:RXG H p a ka b kb n la lb):Go.LE.qa2 H FUEL [] [p]=[p,a,ka,b,kb]:=by
  obtain ⟨⟨h1,h2,h3,h4⟩,⟨h5,h6,h7⟩,⟨h8,h9⟩,h10⟩:=h.ne
  have f:∀ (x:Nm) (l:List Nm),x ∉ l→l.contains x=false:=fun x l hl=>by simpa using hl
  exact ((qaE (by rfl) h.hp rfl).trans <| (qaE (f _ _ (by simp [h1])) h.ha (qbZ _ _)).trans <| (qaE (f _ _ (by simp [h2, h5])) h.hka (qam _)).trans <|
    (qaE (f _ _ (by simp[h3,h6,h8])) h.hb (qbZ _ _)).trans <| (qaE (f _ _ (by simp[h4,h7,h9,h10])) h.hkb (qam _)).trans <| qbm _ _ _)
theorem RXG.cee {H:Heap} {p a ka b kb:Nm} {n:Nat} {la lb:List (BitVec 8)} (h:RXG H p a ka b kb n la lb):qaM [p,a,ka,b,kb] p=some (0,0)∧qaM [p,a,ka,b,kb] a=some (0,1)∧qaM [p,a,ka,b,kb] ka=some (0,2)∧qaM [p,a,ka,b,kb] b=some (0,3)∧qaM [p,a,ka,b,kb] kb=some (0,4):=by
  obtain ⟨⟨h1,h2,h3,h4⟩,⟨h5,h6,h7⟩,⟨h8,h9⟩,h10⟩:=h.ne
  refine ⟨?_,?_,?_,?_,?_⟩ <;> simp[qaM,idx,h1,h2,h3,h4,h5,h6,h7,h8,h9,h10,Ne.symm h1,Ne.symm h2,Ne.symm h3,Ne.symm h4,Ne.symm h5,Ne.symm h6,Ne.symm h7,Ne.symm h8,Ne.symm h9,Ne.symm h10]
theorem c_ren (K g n base:Nat) (hg:∀ i,qaJ g i=decide (i=2)) (H:Heap) (p a ka b kb:Nm) (la lb:List (BitVec 8)) (X:RXG H p a ka b kb n la lb) (u:BitVec 64) (d R0:List (BitVec 8)) (len:Nat)
    (hF:F C K g [.ptr (0,0) 0,B64 u,.isl (bs d) d.length] [PO,RA 2 n,bs la,RA 4 n,bs lb]=some (.tup [.sl (1,0) 0 len none 1,N 0],[some PO,some (RA 2 n),some (bs la),some (RA 4 n),some (bs lb)],[bs R0])) :
    qaA (envC C K) H base g [.ptr p 0,B64 u,.isl (bs d) d.length]=some ⟨.tup [.sl (base,0) 0 len none 1,N 0],[bs R0],modRX p a ka b kb n la lb⟩:=by
  obtain ⟨c0,c1,c2,c3,c4⟩:=X.cee
  have hl:lend H (qaJ g) 0 [.ptr p 0,B64 u,.isl (bs d) d.length]=some ([.ptr p 0,B64 u,.isl (bs d) d.length],[]):=by
    rw[qba,qba,qba,qct,if_neg (by rw[hg]; decide),if_neg (by rw[hg]; decide),if_pos (by rw[hg]; decide),qeZ,qa3,qa3,qa3]
    rfl
  have hr:Go.LE.qa2 H FUEL [] (([.ptr p 0,B64 u,.isl (bs d) d.length]:List LV).flatMap (nms D))=[p,a,ka,b,kb]:=by
    have e:([.ptr p 0,B64 u,.isl (bs d) d.length]:List LV).flatMap (nms D)=[p]:=by
      simp only[zI,zN,qa1,zD,qb5,qfr]
    rw[e,X.reach]
  have ho:([p,a,ka,b,kb].filterMap H).map (fun cs=>cs.map (ren D (qaM [p,a,ka,b,kb])))=[PO,RA 2 n,bs la,RA 4 n,bs lb]:=by
    simp only[List.filterMap_cons,zS,X.hp,X.ha,X.hka,X.hb,X.hkb,zA,zB,qbr,c1,c3,qbw,qbI,qaY,c2,c4,qbj,qar,PO,RA]
  rw[qe0 K base g H _ _ [.ptr (0,0) 0,B64 u,.isl (bs d) d.length] _ [] _ _ hl hr rfl (by simp only[zA,zB,qbr,c0,qbw,qds,qa9]) ho hF (plR _ _ _ _ _),qaW]
  simp only[PO,RA,modRX,List.zipWith_cons_cons,List.zipWith_nil_left,zC,zA,zB,qbr,qaY,qbI,qar,qcL,qbs,List.getElem?_cons_zero,List.getElem?_cons_succ,qbw,qbj,zH,zM,zO,Nat.lt_one_iff,qbS]
  rfl
theorem lent25:∀ i,qaJ 20 i=decide (i=2):=by intro i; match i with | 0 | 1 | 2=>rfl | (i+3)=>simp[qaJ]
theorem lent27:∀ i,qaJ 27 i=decide (i=2):=by intro i; match i with | 0 | 1 | 2=>rfl | (i+3)=>simp[qaJ]
end Aes
