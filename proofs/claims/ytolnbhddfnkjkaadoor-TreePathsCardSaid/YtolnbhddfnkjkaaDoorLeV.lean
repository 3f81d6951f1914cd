/- (h).Sum: the digest of what came, evaluated. (Printed by wip/tools/mksum.py.) -/
import Derived.Test.YtolnbhddfnkjkaaDoorLeS
set_option linter.unusedVariables false
set_option linter.unusedSimpArgs false
namespace Sha
open Go Go.LE
def zs (n:Nat):Nat:=(119 - n % 64) % 64
def lenb (n i:Nat):BitVec 8:=((BitVec.ofNat 64 n*8#64) >>> (56 - 8*i)).setWidth 8
def fb (n i:Nat):List (BitVec 8):=128#8::(List.replicate (zs n) 0#8++(List.range i).map (lenb n))
theorem fb_length (n i:Nat):(fb n i).length=zs n+1+i:=by simp[fb]; omega
theorem fb_zero (n:Nat):fb n 0=(List.replicate (zs n+1) 0#8).set 0 128#8:=by simp[fb,List.replicate_succ]
theorem fb_succ (n i:Nat):fb n (i+1)=fb n i++[lenb n i]:=by simp[fb,List.range_succ]
theorem fill1 (z x:BitVec 8):fill [B8 z] [(0,1,B8 x)]=some (bs [x]):=rfl
theorem zs_lt (n:Nat):zs n < 64:=by unfold zs; omega
def outB (s:Nat→BitVec 32) (j:Nat):BitVec 8:=(s (j / 4) >>> (24 - 8*(j % 4))).setWidth 8
def outP (s:Nat→BitVec 32) (i j:Nat):BitVec 8:=if j < 4*i then outB s j else 0#8
theorem outP_succ (s:Nat→BitVec 32) (i:Nat):outP s (i+1)=set1 (set1 (set1 (set1 (outP s i) (4*i) ((s i >>> 24).setWidth 8)) (4*i+1) ((s i >>> 16).setWidth 8)) (4*i+2) ((s i >>> 8).setWidth 8)) (4*i+3) ((s i).setWidth 8):=by
  funext j
  simp only[set1,outP,outB]
  by_cases h3:j=4*i+3
  · subst h3
    rw[if_pos (by omega),if_pos rfl]
    have e1:(4*i+3) / 4=i:=by omega
    have e2:(4*i+3) % 4=3:=by omega
    rw[e1,e2]; simp
  rw[if_neg h3]
  by_cases h2:j=4*i+2
  · subst h2
    rw[if_pos (by omega),if_pos rfl]
    have e1:(4*i+2) / 4=i:=by omega
    have e2:(4*i+2) % 4=2:=by omega
    rw[e1,e2]
  rw[if_neg h2]
  by_cases h1:j=4*i+1
  · subst h1
    rw[if_pos (by omega),if_pos rfl]
    have e1:(4*i+1) / 4=i:=by omega
    have e2:(4*i+1) % 4=1:=by omega
    rw[e1,e2]
  rw[if_neg h1]
  by_cases h0:j=4*i
  · subst h0
    rw[if_pos (by omega),if_pos rfl]
    have e1:(4*i) / 4=i:=by omega
    have e2:(4*i) % 4=0:=by omega
    rw[e1,e2]
  rw[if_neg h0]
  have:(j < 4*(i+1))↔(j < 4*i):=by omega
  simp only[this]
def fJB (s:Nat→BitVec 32) (n:Nat) (len:Nat) (l:List (BitVec 8)) (i:Nat) (st:St):Prop := ∃ (c:Option Nat) (H:Heap),st=⟨[.ptr (0,0) 0,.undef,.ptr (1,0) 0,.ptr (1,1) 0,.ptr (1,2) 0,.sl (1,4) 0 (zs n+1+i) c 1,.undef,.undef,.undef,.undef,.undef,.undef,.undef,.undef,.undef,.undef,.undef,.undef,.undef,.undef,.undef,.undef,.undef,.undef,.undef,N i,.undef,.undef,.undef,.undef,.undef,.undef,.undef,.undef,.undef,.undef,.undef,.undef,.undef,.undef,.undef,.undef,.undef,.undef,.undef,.undef,.undef,.undef,.undef,.undef,.undef,.undef,.undef,.undef,.undef,.undef,.undef,.undef,.undef,.undef,.undef,.undef,.undef,.undef,.undef,.undef,.undef,.undef,.undef,.undef,.undef,.undef,.undef,.undef,.undef,.undef,.undef,.undef,.undef,.undef,.undef,.undef],H,2,2⟩ ∧
  (c=none∨(i=0∧c=some (zs n+1)))∧H (0,0)=some (HsC s (.sl (0,1) 0 len none 1) n)∧H (1,0)=some (aB 32 fun _=>0#8)∧H (1,1)=some (aB 32 fun _=>0#8)∧H (1,2)=some (HsC s (.sl (1,3) 0 len none 1) n)∧H (1,4)=some (bs (fb n i))∧H (1,3)=some (bs (l.take len))∧H (0,1)=some (bs l)
set_option maxRecDepth 10000 in
theorem f_roundB (K k0:Nat) (s:Nat→BitVec 32) (n:Nat) (len:Nat) (l:List (BitVec 8)) (hn:n≤4611686018427387904) (i:Nat) (hi:i < 8) (st:St) (hI:fJB s n len l i st) :
    ∃ st1,ev (envC C k0) K L43b1 st=some (.normal,st1)∧fJB s n len l (i+1) (qby L43k1 st1):=by
  obtain ⟨c,H,rfl,hc,h0,h1,h2,h3,hF,h13,h01⟩:=hI
  have hz:=zs_lt n
  have hl:=fb_length n i
  have hlen:((BitVec.ofNat 64 n*8#64) >>> (56 - 8*i)).setWidth 8=lenb n i:=rfl
  have hx:H (1,4)=some (bs (fb n i)):=hF
  have hfr:front (upd H (17,0) (some (bs [lenb n i]))) 1 1 (.sl (17,0) 0 1 (some 1) 1)=some (bs [lenb n i]):=front_bytes (17,0) 0 1 (some 1) [lenb n i] (by simp only[qab,zC]) (by simp)
  have hF':upd H (17,0) (some (bs [lenb n i])) (1,4)=some (bs (fb n i)):=by simp only[qab,zD,Nat.reduceEqDiff,zX,zA,hF]
  have ha:∃ ms,(ms=[]∨ms=[((1,4),none)])∧appX 18 1 1 1 (upd H (17,0) (some (bs [lenb n i]))) [] (bs [lenb n i]) (.sl (1,4) 0 (zs n+1+i) c 1)=some ⟨.sl (18,0) 0 (zs n+1+i+1) none 1,[bs (fb n (i+1))],ms⟩:=by
    rcases hc with rfl | ⟨rfl,rfl⟩
    · refine ⟨_, .inr rfl, ?_⟩
      rw[appX_none 1 1 _ _ _ _ _ (by omega),hF',appN_bytes _ _ _ _ _ _ (by omega),z8,List.take_of_length_le (by omega),←fb_succ]
    · refine ⟨_, .inl rfl, ?_⟩
      rw[appX_full _ (1,4) 0 _ _ _ _ hF' (by omega) (by omega) (by omega),z8,List.take_of_length_le (by omega),←fb_succ]
  obtain ⟨ms,hms,ha⟩:=ha
  rcases hms with rfl | rfl
  all_goals
    apply Exists.intro
    apply And.intro
    · simp (disch := first | omega | decide | simp only [qai, qag, qak, qaj, qah, qae, qac, qad, qan]) only [qba, qau, qa3, qao, qap, qam, qaf, qaN, qaq, qaz, qaI, qar, qaF, qaB, op_cvt, qaa, qa4, qaw, qaY, zK, zL, zN, zO, zG, zF, zJ, zM, B64_mul, cvt_64_8, Nat.reduceAdd, qdh, qaQ, qbe, qbx, op_fa, faV_ptr, zB, zE, zT, zE, zB, qbY, N_sub, N_mul, qa2, cvt_N_64, B64_shrN, Nat.reduceAdd, zT, op_chk, chkV_ptr, qbB, qb8, qb9, qcb, qbK, qbw, stepK_nm, L43b1, hi, h0, Hs_n, hlen, fill1, hfr, ha]
      rfl
    · refine qaU [(1, 0), (1, 1), (1, 2), (1, 3), (18, 0)] rfl (by simp only [qaA, FUEL, qaH, qaD, qaE, qaP, qaK, qaL, zS, zW, zP, zV, zR, zF, zG, zY, za, zD, zt, zo, ze, Nat.reduceEqDiff, zH, zU, zp, zzF, zC, zA, zd, zi, zm, zg, zl, ne_eq, zq, z9, qab, qaJ, qaC, qav, qcP, qaO, L43k1, h0, h1, h2, h3, h13, h01, qbS, qdb, qbh]) rfl ⟨none, _, rfl, .inl rfl, ?_, ?_, ?_, ?_, ?_, ?_, ?_⟩
      · rw[qcm]; simp (disch:=first|omega|decide|simp only[qai,qag,qak,qaj,qah,qae,qac,qad,qan]) only[zI,qab,zD,Nat.reduceEqDiff,zH,zX,zA,zi,qcM,zI,qbk,qbX,h0,qcu]
      · exact qas (1,0) rfl (by simp only[qab,zD,Nat.reduceEqDiff,zH,zU,zA,h1]) (qbj _ _ _)
      · exact qas (1,1) rfl (by simp only[qab,zD,Nat.reduceEqDiff,zU,zX,zA,zd,h2]) (qbj _ _ _)
      · rw[cN_one _ _ _ (1,2) (HsC s (.sl (1,3) 0 len none 1) n) rfl (by simp only[qab,zD,Nat.reduceEqDiff,zU,zX,zA,h3]),qcu]; rfl
      · exact qas (18,0) rfl (by simp only[qab,zD,Nat.reduceEqDiff,zH,zX,zC,zA]) (qaW _ _)
      · exact qas (1,3) rfl (by simp only[qab,zD,Nat.reduceEqDiff,zU,zX,zA,h13]) (qaW _ _)
      · rw[qcm]; simp (disch:=first|omega|decide|simp only[qai,qag,qak,qaj,qah,qae,qac,qad,qan]) only[zI,qab,zD,Nat.reduceEqDiff,zX,zA,zd,zi,zI,qaW,h01]
def gJB (s s':Nat→BitVec 32) (n:Nat) (len:Nat) (l:List (BitVec 8)) (i:Nat) (st:St):Prop := ∃ (H:Heap),st=⟨[.undef,.undef,.ptr (1,0) 0,.ptr (1,1) 0,.undef,.undef,.undef,.undef,.undef,.undef,.undef,.undef,.undef,.undef,.undef,.undef,.undef,.undef,.undef,.undef,.undef,.undef,.undef,.undef,.undef,.undef,.undef,.undef,.undef,.undef,.undef,.undef,.undef,.undef,.undef,.undef,.undef,.undef,.undef,.undef,.undef,.undef,.undef,.undef,.undef,.undef,.undef,.undef,.undef,.agg (aW 8 s'),N i,.undef,.undef,.undef,.undef,.undef,.undef,.undef,.undef,.undef,.undef,.undef,.undef,.undef,.undef,.undef,.undef,.undef,.undef,.undef,.undef,.undef,.undef,.undef,.undef,.undef,.undef,.undef,.undef,.undef,.undef,.undef],H,2,2⟩ ∧
  H (0,0)=some (HsC s (.sl (0,1) 0 len none 1) n)∧H (1,0)=some (aB 32 fun _=>0#8)∧H (1,1)=some (aB 32 (outP s' i))∧H (0,1)=some (bs l)
set_option maxRecDepth 10000 in
theorem g_roundB (K k0:Nat) (s s':Nat→BitVec 32) (n:Nat) (len:Nat) (l:List (BitVec 8)) (i:Nat) (hi:i < 8) (st:St) (hI:gJB s s' n len l i st) :
    ∃ st1,ev (envC C k0) K L43b0 st=some (.normal,st1)∧gJB s s' n len l (i+1) (qby L43k0 st1):=by
  obtain ⟨H,rfl,h0,h1,h2,h01⟩:=hI
  apply Exists.intro
  apply And.intro
  · simp (disch := first | omega | decide | simp only [qai, qag, qak, qaj, qah, qae, qac, qad, qan]) only [qba, qau, qa3, qao, qap, qam, qaf, qaN, qaq, qa7, qaz, qaI, qar, qaF, qaB, op_cvt, qaa, qa4, qaw, qaY, zK, zL, zN, zO, zJ, zM, B32_shr64, cvt_32_8, BitVec.toNat_ofNat, Nat.reduceAdd, qab, qcz, qdl, qbt, qbf, op_iaA, iaV_lt, zC, zB, zE, zT, Nat.reducePow, Nat.reduceMod, op_ix1, aB_st, aW_ix1, zZ, zE, zB, qbY, N_mul, qa2, qbO, Nat.reduceAdd, Nat.reduceMod, zT, L43b0, hi, h2]
    rfl
  · refine qaU [(1, 0), (1, 1)] rfl (by simp only [qaA, FUEL, qaH, qaD, qaE, qaP, qaK, qaL, zS, zW, zP, zV, zR, zF, zG, zY, za, zD, zt, zo, ze, zH, zU, zp, zzF, zC, zA, zd, zi, zm, zg, zl, ne_eq, zq, z9, qab, qaJ, qaC, qav, qcP, qaO, L43k0, h0, h1, h2, h01, qbS, qdb, qbh, qbU]) rfl ⟨_, rfl, ?_, ?_, ?_, ?_⟩
    · rw[qcm]; simp (disch:=first|omega|decide|simp only[qai,qag,qak,qaj,qah,qae,qac,qad,qan]) only[zI,qab,zD,zX,zA,zi,qcM,zI,qbk,qbX,h0,qcu]
    · exact qas (1,0) rfl (by simp only[qab,zD,zU,zA,zi,h1]) (qbj _ _ _)
    · rw[outP_succ]; exact qas (1,1) rfl (by simp only[qab,zC]) (qbj _ _ _)
    · rw[qcm]; simp (disch:=first|omega|decide|simp only[qai,qag,qak,qaj,qah,qae,qac,qad,qan]) only[zI,qab,zD,zH,zA,zi,zI,qaW,h01]
set_option maxRecDepth 10000 in
theorem sumB (k:Nat) (s:Nat→BitVec 32) (n:Nat) (len:Nat) (l:List (BitVec 8)) (hn:n≤4611686018427387000) (hl:len≤l.length) (h0:0 < len) (hlb:len≤211106232000000):
    F C (k+(l.take len++fb n 8).length / 64+101) 43 [.ptr (0,0) 0] [HsC s (.sl (0,1) 0 len none 1) n,bs l]=some (.agg (aB 32 (outB (absN (l.take len++fb n 8) s ((l.take len++fb n 8).length / 64)))),[some (HsC s (.sl (0,1) 0 len none 1) n),some (bs l)],[]):=by
  have hz:=zs_lt n
  have hfl:=fb_length n 8
  obtain ⟨m,hm⟩:∃ m,m=l.take len++fb n 8:=⟨_,rfl⟩
  rw[←hm]
  rw[qch f43]
  have hfork := ptr_callG (k + m.length / 64 + 100) 7 51 l51 (upd (upd (qcV [HsC s (.sl (0, 1) 0 len none 1) n, bs l]) (2, 0) (some (aB 32 fun _ => 0#8))) (3, 0) (some (aB 32 fun _ => 0#8))) (0, 0) (0, 1) s n len none l rfl rfl (by decide)
    (.ptr (1, 0) 0) (.ptr (7, 0) 0) [HsC s (.sl (1, 1) 0 len none 1) n, bs (l.take len)] [HsC s (.sl (7, 1) 0 len none 1) n, bs (l.take len)] (forkG (k + m.length / 64 + 98) s n len len none none l (l.take len) (clone_F _ len l hl h0 (by omega))) rfl (by
      simp only[zG,zF,qcu,qaW]; rfl)
  have hzs:(119 - n % 64) % 64=zs n:=rfl
  have hst:∀ nm:Nm,stK 1 0 nm (some [B8 128#8]) (some (bs (List.replicate (zs n+1) 0#8)))=some ⟨Un,[],[(nm,some (bs (fb n 0)))]⟩:=by
    intro nm; rw[bs_st _ _ _ _ (by simp),←fb_zero]
  simp (disch:=first|omega|decide|simp only[qai,qag,qak,qaj,qah,qae,qac,qad,qan]) only[qbb,qba,qau,qa3,qao,qap,qam,qaf,qaN,qaq,qa7,qaz,qaI,qar,qaF,qaB,qa1,qaT,qaa,qaw,qat,zK,zL,zN,zO,zG,zF,zP,zV,qa5,zy,zJ,zM,qbZ,Nat.reduceAdd,Nat.reduceSub,qab,qdh,qcz,qdl,qaQ,qbe,qbx,qbR,qbt,qbf,op_fa,faV_ptr,zD,Nat.reduceEqDiff,zH,zU,zX,zC,zA,zB,zE,zi,qbH,zZ,zE,zB,qbY,N_sub,N_rem,qbO,Nat.reduceEqDiff,Nat.reduceAdd,op_chk,chkV_ptr,eqp_ptr,qb7,qbG,op_mkslice,zZ,qbn,qaZ,List.getElem?_cons_zero,stepK_n2m2,L43,Hs_n,hfork,mk_bytes,hzs,hst]
  generalize hL:qca L43k1 _ _ _=r
  refine qbJ hL (fJB s n len l) 8 (by omega) (fun i st hi hI=>f_roundB _ _ s n len l (by omega) i hi st hI) ?_ ?_ ?_
  · refine qaU [(2, 0), (3, 0), (7, 0), (7, 1), (17, 0)] rfl (by simp only [qaA, FUEL, qaH, qaD, qaE, qaP, qaK, qaL, zS, zW, zP, zV, zR, zF, zG, zY, za, zD, zt, zo, ze, Nat.reduceEqDiff, zH, zU, zp, zzF, zC, zA, zd, zi, zm, zg, zl, ne_eq, zq, z9, qab, qaJ, qaC, qav, qbn, qaZ, qcP, List.getElem?_cons_zero, List.getElem?_cons_succ, qaO, L43k1, qbS, qdb, qbh]) rfl ⟨some (zs n + 1), _, rfl, .inr ⟨rfl, rfl⟩, ?_, ?_, ?_, ?_, ?_, ?_, ?_⟩
    · rw[qcm]; simp (disch:=first|omega|decide|simp only[qai,qag,qak,qaj,qah,qae,qac,qad,qan]) only[zI,qab,zD,Nat.reduceEqDiff,zH,zU,zX,zC,zA,zi,qcM,zI,qbn,List.getElem?_cons_zero,qbk,qbX,qcu]
    · exact qas (2,0) rfl (by simp only[qab,zD,Nat.reduceEqDiff,zH,zX,zC,zA,zi]) (qbj _ _ _)
    · exact qas (3,0) rfl (by simp only[qab,zD,Nat.reduceEqDiff,zH,zX,zC,zA,zi]) (qbj _ _ _)
    · rw[cN_one _ _ _ (7,0) (HsC s (.sl (7,1) 0 len none 1) n) rfl (by simp only[qab,zD,Nat.reduceEqDiff,zH,zU,zX,zC,zA,zi]),qcu]; rfl
    · exact qas (17,0) rfl (by simp only[qab,zD,Nat.reduceEqDiff,zH,zX,zC,zA,zi]) (qaW _ _)
    · exact qas (7,1) rfl (by simp only[qab,zD,Nat.reduceEqDiff,zH,zU,zX,zC,zA,zd]) (qaW _ _)
    · rw[qcm]; simp (disch:=first|omega|decide|simp only[qai,qag,qak,qaj,qah,qae,qac,qad,qan]) only[zI,qab,zD,Nat.reduceEqDiff,zH,zU,zX,zC,zA,zd,zI,qaW,qbn,List.getElem?_cons_zero,List.getElem?_cons_succ,qaW]
  · rintro st ⟨c, H, rfl, hc, h0, h1, h2, h3, hF, h13, h01⟩
    apply qbs
    simp (disch:=first|omega|decide|simp only[qai,qag,qak,qaj,qah,qae,qac,qad,qan]) only[qa6,qau,qao,qap,qam,qaf,qaN,qaq,qaz,qaI,qar,qaB,qaa,qaG,qaw,qat,zK,zL,zN,zO,zJ,zM,Nat.reduceAdd,zB,zE,zQ,qa2,Nat.reduceAdd,zj,zQ,L43b1]
    rfl
  · rintro st ⟨c, H, rfl, hc, h0, h1, h2, h3, hF, h13, h01⟩ rfl
    clear hL
    have hlt:(l.take len).length=len:=by rw[zzJ,Nat.min_eq_left hl]
    have hmt:m=(l.take len).take len++fb n 8:=by rw[hm,List.take_take,Nat.min_self]
    have hml:m.length=len+(fb n 8).length:=by rw[hm,zzI,hlt]
    obtain ⟨l',hw,_,_⟩:=writeB k s n len (l.take len) (by omega) (fb n 8) m hmt (by omega) (by omega)
    have hB:=lent_sl H (1,4) 0 (zs n+1+8) c (fb n 8) [(1,2),(1,3)] hF (by omega) rfl
    rw[z8,List.take_of_length_le (by omega)] at hB
    have hcall:=fun b=>write_callG _ b H (1,2) (1,3) s _ n _ _ len none _ (fb n 8) (l.take len) l' none h3 h13 (by decide) hB hw
    obtain ⟨s',hs'⟩:∃ s',s'=absN m s (m.length / 64):=⟨_,rfl⟩
    rw[←hs'] at hcall ⊢
    simp (disch:=first|omega|decide|simp only[qai,qag,qak,qaj,qah,qae,qac,qad,qan]) only[qa6,qau,qa3,qao,qap,qam,qaf,qaN,qaq,qaz,qaI,qar,qaF,qaB,qa1,qaT,qaa,qaG,qbc,qaw,qat,zK,zL,zN,zO,zG,zF,zJ,zM,qbZ,Nat.reduceAdd,qab,qaQ,qb6,op_ld,op_fa,faV_ptr,zD,Nat.reduceEqDiff,zU,zX,zC,zA,zB,zE,zQ,zE,zB,qa2,Nat.reduceEqDiff,Nat.reduceAdd,zj,zQ,op_chk,chkV_ptr,Option.map_none,stepK_nm2,L43b1,hcall,Hs_state]
    generalize hL:qca L43k0 _ _ _=r
    refine qbJ hL (gJB s s' n len l) 8 (by omega) (fun i st hi hI=>g_roundB _ _ s s' n len l i hi st hI) ?_ ?_ ?_
    · refine qaU [(1, 0), (1, 1)] rfl (by simp only [qaA, FUEL, qaH, qaD, qaE, qaP, qaK, qaL, zS, zW, zP, zV, zR, zF, zG, zY, za, zD, zt, zo, ze, Nat.reduceEqDiff, zH, zU, zp, zzF, zC, zA, zd, zi, zm, zg, zl, ne_eq, zq, z9, qab, qaJ, qaC, qav, qcP, qaO, L43k0, h0, h1, h2, h01, qbS, qdb, qbh, qbU]) rfl ⟨_, rfl, ?_, ?_, ?_, ?_⟩
      · rw[qcm]; simp (disch:=first|omega|decide|simp only[qai,qag,qak,qaj,qah,qae,qac,qad,qan]) only[zI,qab,zD,Nat.reduceEqDiff,zH,zX,zA,zi,qcM,zI,qbk,qbX,h0,qcu]
      · exact qas (1,0) rfl (by simp only[qab,zD,Nat.reduceEqDiff,zH,zU,zA,h1]) (qbj _ _ _)
      · rw [show outP s' 0 = fun _ => 0#8 by funext j; simp [outP]]
        exact qas (1,1) rfl (by simp only[qab,zD,Nat.reduceEqDiff,zU,zX,zA,zd,h2]) (qbj _ _ _)
      · rw[qcm]; simp (disch:=first|omega|decide|simp only[qai,qag,qak,qaj,qah,qae,qac,qad,qan]) only[zI,qab,zD,Nat.reduceEqDiff,zX,zA,zd,zi,zI,qaW,h01,qaW]
    · rintro st ⟨H, rfl, h0, h1, h2, h01⟩
      apply qbs
      simp (disch:=first|omega|decide|simp only[qai,qag,qak,qaj,qah,qae,qac,qad,qan]) only[qa6,qau,qao,qap,qam,qaf,qaN,qaq,qaz,qaI,qar,qaB,qaa,qaG,qaw,qat,zK,zL,zN,zO,zJ,zM,Nat.reduceAdd,zB,zE,zQ,qa2,Nat.reduceAdd,zj,zQ,L43b0]
      rfl
    · rintro st ⟨H, rfl, h0, h1, h2, h01⟩ rfl
      have e:aB 32 (outP s' 8)=aB 32 (outB s'):=aB_ext 32 fun j hj=>by simp only[outP]; rw[if_pos (by omega)]
      rw[e] at h2
      simp (disch:=first|omega|decide|simp only[qai,qag,qak,qaj,qah,qae,qac,qad,qan]) only[qbp,qa6,qau,qao,qap,qam,qaf,qaN,qaq,qa7,qaz,qaI,qar,qaB,qaa,qaG,qbc,qaw,qat,qbg,zK,zL,zN,zO,zJ,zM,zI,Nat.reduceAdd,qab,qcz,qaX,qaQ,qb6,op_ld,qbt,qbf,zC,zB,zE,zQ,resVal_agg,aggV_some,qbP,qbm,zE,zB,qa2,Nat.reduceAdd,zj,zQ,zI,L43b0,h1,h2]
      rw[qcc 2 _ _ [] (by simp only[qaA,FUEL,qaH,qaD,qaE,qaK,zS,zW,zP,zV,zR,zF,zG,zY,za,zD,zt,zo,ze,zH,zU,zp,zzF,zC,zA,zd,zi,zm,zg,zl,ne_eq,z9,qab,qcP,h0,h01,qbF,qdb,qbh])]
      simp (disch:=first|omega|decide|simp only[qai,qag,qak,qaj,qah,qae,qac,qad,qan]) only[zG,zF,zI,qab,zD,false_and,zA,zi,qbM,qcM,zzC,zI,qaW,qcP,qbk,qbX,h0,h01,qcu]
def fJZ (s:Nat→BitVec 32) (n:Nat) (l:List (BitVec 8)) (i:Nat) (st:St):Prop := ∃ (c:Option Nat) (H:Heap),st=⟨[.ptr (0,0) 0,.undef,.ptr (1,0) 0,.ptr (1,1) 0,.ptr (1,2) 0,.sl (1,4) 0 (zs n+1+i) c 1,.undef,.undef,.undef,.undef,.undef,.undef,.undef,.undef,.undef,.undef,.undef,.undef,.undef,.undef,.undef,.undef,.undef,.undef,.undef,N i,.undef,.undef,.undef,.undef,.undef,.undef,.undef,.undef,.undef,.undef,.undef,.undef,.undef,.undef,.undef,.undef,.undef,.undef,.undef,.undef,.undef,.undef,.undef,.undef,.undef,.undef,.undef,.undef,.undef,.undef,.undef,.undef,.undef,.undef,.undef,.undef,.undef,.undef,.undef,.undef,.undef,.undef,.undef,.undef,.undef,.undef,.undef,.undef,.undef,.undef,.undef,.undef,.undef,.undef,.undef,.undef],H,2,2⟩ ∧
  (c=none∨(i=0∧c=some (zs n+1)))∧H (0,0)=some (HsC s (.sl (0,1) 0 0 none 1) n)∧H (1,0)=some (aB 32 fun _=>0#8)∧H (1,1)=some (aB 32 fun _=>0#8)∧H (1,2)=some (HsC s (.sl (1,3) 0 0 (some 0) 1) n)∧H (1,4)=some (bs (fb n i))∧H (1,3)=some (bs [])∧H (0,1)=some (bs l)
set_option maxRecDepth 10000 in
theorem f_roundZ (K k0:Nat) (s:Nat→BitVec 32) (n:Nat) (l:List (BitVec 8)) (hn:n≤4611686018427387904) (i:Nat) (hi:i < 8) (st:St) (hI:fJZ s n l i st) :
    ∃ st1,ev (envC C k0) K L43b1 st=some (.normal,st1)∧fJZ s n l (i+1) (qby L43k1 st1):=by
  obtain ⟨c,H,rfl,hc,h0,h1,h2,h3,hF,h13,h01⟩:=hI
  have hz:=zs_lt n
  have hl:=fb_length n i
  have hlen:((BitVec.ofNat 64 n*8#64) >>> (56 - 8*i)).setWidth 8=lenb n i:=rfl
  have hx:H (1,4)=some (bs (fb n i)):=hF
  have hfr:front (upd H (17,0) (some (bs [lenb n i]))) 1 1 (.sl (17,0) 0 1 (some 1) 1)=some (bs [lenb n i]):=front_bytes (17,0) 0 1 (some 1) [lenb n i] (by simp only[qab,zC]) (by simp)
  have hF':upd H (17,0) (some (bs [lenb n i])) (1,4)=some (bs (fb n i)):=by simp only[qab,zD,Nat.reduceEqDiff,zX,zA,hF]
  have ha:∃ ms,(ms=[]∨ms=[((1,4),none)])∧appX 18 1 1 1 (upd H (17,0) (some (bs [lenb n i]))) [] (bs [lenb n i]) (.sl (1,4) 0 (zs n+1+i) c 1)=some ⟨.sl (18,0) 0 (zs n+1+i+1) none 1,[bs (fb n (i+1))],ms⟩:=by
    rcases hc with rfl | ⟨rfl,rfl⟩
    · refine ⟨_, .inr rfl, ?_⟩
      rw[appX_none 1 1 _ _ _ _ _ (by omega),hF',appN_bytes _ _ _ _ _ _ (by omega),z8,List.take_of_length_le (by omega),←fb_succ]
    · refine ⟨_, .inl rfl, ?_⟩
      rw[appX_full _ (1,4) 0 _ _ _ _ hF' (by omega) (by omega) (by omega),z8,List.take_of_length_le (by omega),←fb_succ]
  obtain ⟨ms,hms,ha⟩:=ha
  rcases hms with rfl | rfl
  all_goals
    apply Exists.intro
    apply And.intro
    · simp (disch := first | omega | decide | simp only [qai, qag, qak, qaj, qah, qae, qac, qad, qan]) only [qba, qau, qa3, qao, qap, qam, qaf, qaN, qaq, qaz, qaI, qar, qaF, qaB, op_cvt, qaa, qa4, qaw, qaY, zK, zL, zN, zO, zG, zF, zJ, zM, B64_mul, cvt_64_8, Nat.reduceAdd, qdh, qaQ, qbe, qbx, op_fa, faV_ptr, zB, zE, zT, zE, zB, qbY, N_sub, N_mul, qa2, cvt_N_64, B64_shrN, Nat.reduceAdd, zT, op_chk, chkV_ptr, qbB, qb8, qb9, qcb, qbK, qbw, stepK_nm, L43b1, hi, h0, Hs_n, hlen, fill1, hfr, ha]
      rfl
    · refine qaU [(1, 0), (1, 1), (1, 2), (1, 3), (18, 0)] rfl (by simp only [qaA, FUEL, qaH, qaD, qaE, qaP, qaK, qaL, zS, zW, zP, zV, zR, zF, zG, zY, za, zD, zt, zo, ze, Nat.reduceEqDiff, zH, zU, zp, zzF, zC, zA, zd, zi, zm, zg, zl, ne_eq, zq, z9, qab, qaJ, qaC, qav, qcP, qaO, L43k1, h0, h1, h2, h3, h13, h01, qbS, qdb, qbh]) rfl ⟨none, _, rfl, .inl rfl, ?_, ?_, ?_, ?_, ?_, ?_, ?_⟩
      · rw[qcm]; simp (disch:=first|omega|decide|simp only[qai,qag,qak,qaj,qah,qae,qac,qad,qan]) only[zI,qab,zD,Nat.reduceEqDiff,zH,zX,zA,zi,qcM,zI,qbk,qbX,h0,qcu]
      · exact qas (1,0) rfl (by simp only[qab,zD,Nat.reduceEqDiff,zH,zU,zA,h1]) (qbj _ _ _)
      · exact qas (1,1) rfl (by simp only[qab,zD,Nat.reduceEqDiff,zU,zX,zA,zd,h2]) (qbj _ _ _)
      · rw[cN_one _ _ _ (1,2) (HsC s (.sl (1,3) 0 0 (some 0) 1) n) rfl (by simp only[qab,zD,Nat.reduceEqDiff,zU,zX,zA,h3]),qcu]; rfl
      · exact qas (18,0) rfl (by simp only[qab,zD,Nat.reduceEqDiff,zH,zX,zC,zA]) (qaW _ _)
      · exact qas (1,3) rfl (by simp only[qab,zD,Nat.reduceEqDiff,zU,zX,zA,h13]) (qaW _ _)
      · rw[qcm]; simp (disch:=first|omega|decide|simp only[qai,qag,qak,qaj,qah,qae,qac,qad,qan]) only[zI,qab,zD,Nat.reduceEqDiff,zX,zA,zd,zi,zI,qaW,h01]
def gJZ (s s':Nat→BitVec 32) (n:Nat) (l:List (BitVec 8)) (i:Nat) (st:St):Prop := ∃ (H:Heap),st=⟨[.undef,.undef,.ptr (1,0) 0,.ptr (1,1) 0,.undef,.undef,.undef,.undef,.undef,.undef,.undef,.undef,.undef,.undef,.undef,.undef,.undef,.undef,.undef,.undef,.undef,.undef,.undef,.undef,.undef,.undef,.undef,.undef,.undef,.undef,.undef,.undef,.undef,.undef,.undef,.undef,.undef,.undef,.undef,.undef,.undef,.undef,.undef,.undef,.undef,.undef,.undef,.undef,.undef,.agg (aW 8 s'),N i,.undef,.undef,.undef,.undef,.undef,.undef,.undef,.undef,.undef,.undef,.undef,.undef,.undef,.undef,.undef,.undef,.undef,.undef,.undef,.undef,.undef,.undef,.undef,.undef,.undef,.undef,.undef,.undef,.undef,.undef,.undef],H,2,2⟩ ∧
  H (0,0)=some (HsC s (.sl (0,1) 0 0 none 1) n)∧H (1,0)=some (aB 32 fun _=>0#8)∧H (1,1)=some (aB 32 (outP s' i))∧H (0,1)=some (bs l)
set_option maxRecDepth 10000 in
theorem g_roundZ (K k0:Nat) (s s':Nat→BitVec 32) (n:Nat) (l:List (BitVec 8)) (i:Nat) (hi:i < 8) (st:St) (hI:gJZ s s' n l i st) :
    ∃ st1,ev (envC C k0) K L43b0 st=some (.normal,st1)∧gJZ s s' n l (i+1) (qby L43k0 st1):=by
  obtain ⟨H,rfl,h0,h1,h2,h01⟩:=hI
  apply Exists.intro
  apply And.intro
  · simp (disch := first | omega | decide | simp only [qai, qag, qak, qaj, qah, qae, qac, qad, qan]) only [qba, qau, qa3, qao, qap, qam, qaf, qaN, qaq, qa7, qaz, qaI, qar, qaF, qaB, op_cvt, qaa, qa4, qaw, qaY, zK, zL, zN, zO, zJ, zM, B32_shr64, cvt_32_8, BitVec.toNat_ofNat, Nat.reduceAdd, qab, qcz, qdl, qbt, qbf, op_iaA, iaV_lt, zC, zB, zE, zT, Nat.reducePow, Nat.reduceMod, op_ix1, aB_st, aW_ix1, zZ, zE, zB, qbY, N_mul, qa2, qbO, Nat.reduceAdd, Nat.reduceMod, zT, L43b0, hi, h2]
    rfl
  · refine qaU [(1, 0), (1, 1)] rfl (by simp only [qaA, FUEL, qaH, qaD, qaE, qaP, qaK, qaL, zS, zW, zP, zV, zR, zF, zG, zY, za, zD, zt, zo, ze, zH, zU, zp, zzF, zC, zA, zd, zi, zm, zg, zl, ne_eq, zq, z9, qab, qaJ, qaC, qav, qcP, qaO, L43k0, h0, h1, h2, h01, qbS, qdb, qbh, qbU]) rfl ⟨_, rfl, ?_, ?_, ?_, ?_⟩
    · rw[qcm]; simp (disch:=first|omega|decide|simp only[qai,qag,qak,qaj,qah,qae,qac,qad,qan]) only[zI,qab,zD,zX,zA,zi,qcM,zI,qbk,qbX,h0,qcu]
    · exact qas (1,0) rfl (by simp only[qab,zD,zU,zA,zi,h1]) (qbj _ _ _)
    · rw[outP_succ]; exact qas (1,1) rfl (by simp only[qab,zC]) (qbj _ _ _)
    · rw[qcm]; simp (disch:=first|omega|decide|simp only[qai,qag,qak,qaj,qah,qae,qac,qad,qan]) only[zI,qab,zD,zH,zA,zi,zI,qaW,h01]
set_option maxRecDepth 10000 in
theorem sumZ (k:Nat) (s:Nat→BitVec 32) (n:Nat) (l:List (BitVec 8)) (hn:n≤4611686018427387000) :
    F C (k+(fb n 8).length / 64+101) 43 [.ptr (0,0) 0] [HsC s (.sl (0,1) 0 0 none 1) n,bs l]=some (.agg (aB 32 (outB (absN (fb n 8) s ((fb n 8).length / 64)))),[some (HsC s (.sl (0,1) 0 0 none 1) n),some (bs l)],[]):=by
  have hz:=zs_lt n
  have hfl:=fb_length n 8
  obtain ⟨m,hm⟩:∃ m,m=fb n 8:=⟨_,rfl⟩
  rw[←hm]
  rw[qch f43]
  have hfork := ptr_callG (k + m.length / 64 + 100) 7 51 l51 (upd (upd (qcV [HsC s (.sl (0, 1) 0 0 none 1) n, bs l]) (2, 0) (some (aB 32 fun _ => 0#8))) (3, 0) (some (aB 32 fun _ => 0#8))) (0, 0) (0, 1) s n 0 none l rfl rfl (by decide)
    (.ptr (1,0) 0) (.ptr (7,0) 0) [HsC s (.sl (1,1) 0 0 (some 0) 1) n,bs []] [HsC s (.sl (7,1) 0 0 (some 0) 1) n,bs []] (forkG (k+m.length / 64+98) s n 0 0 none (some 0) l [] (clone_0 _ l)) rfl (by
      simp only[zG,zF,qcu,qaW]; rfl)
  have hzs:(119 - n % 64) % 64=zs n:=rfl
  have hst:∀ nm:Nm,stK 1 0 nm (some [B8 128#8]) (some (bs (List.replicate (zs n+1) 0#8)))=some ⟨Un,[],[(nm,some (bs (fb n 0)))]⟩:=by
    intro nm; rw[bs_st _ _ _ _ (by simp),←fb_zero]
  simp (disch:=first|omega|decide|simp only[qai,qag,qak,qaj,qah,qae,qac,qad,qan]) only[qbb,qba,qau,qa3,qao,qap,qam,qaf,qaN,qaq,qa7,qaz,qaI,qar,qaF,qaB,qa1,qaT,qaa,qaw,qat,zK,zL,zN,zO,zG,zF,zP,zV,qa5,zy,zJ,zM,qbZ,Nat.reduceAdd,Nat.reduceSub,qab,qdh,qcz,qdl,qaQ,qbe,qbx,qbR,qbt,qbf,op_fa,faV_ptr,zD,Nat.reduceEqDiff,zH,zU,zX,zC,zA,zB,zE,zi,qbH,zZ,zE,zB,qbY,N_sub,N_rem,qbO,Nat.reduceEqDiff,Nat.reduceAdd,op_chk,chkV_ptr,eqp_ptr,qb7,qbG,op_mkslice,zZ,qbn,qaZ,List.getElem?_cons_zero,stepK_n2m2,L43,Hs_n,hfork,mk_bytes,hzs,hst]
  generalize hL:qca L43k1 _ _ _=r
  refine qbJ hL (fJZ s n l) 8 (by omega) (fun i st hi hI=>f_roundZ _ _ s n l (by omega) i hi st hI) ?_ ?_ ?_
  · refine qaU [(2, 0), (3, 0), (7, 0), (7, 1), (17, 0)] rfl (by simp only [qaA, FUEL, qaH, qaD, qaE, qaP, qaK, qaL, zS, zW, zP, zV, zR, zF, zG, zY, za, zD, zt, zo, ze, Nat.reduceEqDiff, zH, zU, zp, zzF, zC, zA, zd, zi, zm, zg, zl, ne_eq, zq, z9, qab, qaJ, qaC, qav, qbn, qaZ, qcP, List.getElem?_cons_zero, List.getElem?_cons_succ, qaO, L43k1, qbS, qdb, qbh]) rfl ⟨some (zs n + 1), _, rfl, .inr ⟨rfl, rfl⟩, ?_, ?_, ?_, ?_, ?_, ?_, ?_⟩
    · rw[qcm]; simp (disch:=first|omega|decide|simp only[qai,qag,qak,qaj,qah,qae,qac,qad,qan]) only[zI,qab,zD,Nat.reduceEqDiff,zH,zU,zX,zC,zA,zi,qcM,zI,qbn,List.getElem?_cons_zero,qbk,qbX,qcu]
    · exact qas (2,0) rfl (by simp only[qab,zD,Nat.reduceEqDiff,zH,zX,zC,zA,zi]) (qbj _ _ _)
    · exact qas (3,0) rfl (by simp only[qab,zD,Nat.reduceEqDiff,zH,zX,zC,zA,zi]) (qbj _ _ _)
    · rw[cN_one _ _ _ (7,0) (HsC s (.sl (7,1) 0 0 (some 0) 1) n) rfl (by simp only[qab,zD,Nat.reduceEqDiff,zH,zU,zX,zC,zA,zi]),qcu]; rfl
    · exact qas (17,0) rfl (by simp only[qab,zD,Nat.reduceEqDiff,zH,zX,zC,zA,zi]) (qaW _ _)
    · exact qas (7,1) rfl (by simp only[qab,zD,Nat.reduceEqDiff,zH,zU,zX,zC,zA,zd]) (qaW _ _)
    · rw[qcm]; simp (disch:=first|omega|decide|simp only[qai,qag,qak,qaj,qah,qae,qac,qad,qan]) only[zI,qab,zD,Nat.reduceEqDiff,zH,zU,zX,zC,zA,zd,zI,qaW,qbn,List.getElem?_cons_zero,List.getElem?_cons_succ,qaW]
  · rintro st ⟨c, H, rfl, hc, h0, h1, h2, h3, hF, h13, h01⟩
    apply qbs
    simp (disch:=first|omega|decide|simp only[qai,qag,qak,qaj,qah,qae,qac,qad,qan]) only[qa6,qau,qao,qap,qam,qaf,qaN,qaq,qaz,qaI,qar,qaB,qaa,qaG,qaw,qat,zK,zL,zN,zO,zJ,zM,Nat.reduceAdd,zB,zE,zQ,qa2,Nat.reduceAdd,zj,zQ,L43b1]
    rfl
  · rintro st ⟨c, H, rfl, hc, h0, h1, h2, h3, hF, h13, h01⟩ rfl
    clear hL
    obtain ⟨l',hw,_,_⟩:=writeC k s n (fb n 8) m hm (by simp[fb]) (by rw[hm]; omega) (by omega)
    have hB:=lent_sl H (1,4) 0 (zs n+1+8) c (fb n 8) [(1,2),(1,3)] hF (by omega) rfl
    rw[z8,List.take_of_length_le (by omega)] at hB
    have hcall:=fun b=>write_callG _ b H (1,2) (1,3) s _ n _ _ 0 (some 0) _ (fb n 8) [] l' (some []) h3 h13 (by decide) hB hw
    obtain ⟨s',hs'⟩:∃ s',s'=absN m s (m.length / 64):=⟨_,rfl⟩
    rw[←hs'] at hcall ⊢
    simp (disch:=first|omega|decide|simp only[qai,qag,qak,qaj,qah,qae,qac,qad,qan]) only[qa6,qau,qa3,qao,qap,qam,qaf,qaN,qaq,qaz,qaI,qar,qaF,qaB,qa1,qaT,qaa,qaG,qbc,qaw,qat,zK,zL,zN,zO,zG,zF,zJ,zM,zI,qbZ,Nat.reduceAdd,qab,qaQ,qb6,op_ld,op_fa,faV_ptr,zD,Nat.reduceEqDiff,zU,zX,zC,zA,zB,zE,zQ,zE,zB,qa2,Nat.reduceEqDiff,Nat.reduceAdd,zj,zQ,op_chk,chkV_ptr,zI,stepK_nm2,L43b1,hcall,Hs_state]
    generalize hL:qca L43k0 _ _ _=r
    refine qbJ hL (gJZ s s' n l) 8 (by omega) (fun i st hi hI=>g_roundZ _ _ s s' n l i hi st hI) ?_ ?_ ?_
    · refine qaU [(1, 0), (1, 1)] rfl (by simp only [qaA, FUEL, qaH, qaD, qaE, qaP, qaK, qaL, zS, zW, zP, zV, zR, zF, zG, zY, za, zD, zt, zo, ze, Nat.reduceEqDiff, zH, zU, zp, zzF, zC, zA, zd, zi, zm, zg, zl, ne_eq, zq, z9, qab, qaJ, qaC, qav, qcP, qaO, L43k0, h0, h1, h2, h01, qbS, qdb, qbh, qbU]) rfl ⟨_, rfl, ?_, ?_, ?_, ?_⟩
      · rw[qcm]; simp (disch:=first|omega|decide|simp only[qai,qag,qak,qaj,qah,qae,qac,qad,qan]) only[zI,qab,zD,Nat.reduceEqDiff,zH,zX,zA,zi,qcM,zI,qbk,qbX,h0,qcu]
      · exact qas (1,0) rfl (by simp only[qab,zD,Nat.reduceEqDiff,zH,zU,zA,h1]) (qbj _ _ _)
      · rw [show outP s' 0 = fun _ => 0#8 by funext j; simp [outP]]
        exact qas (1,1) rfl (by simp only[qab,zD,Nat.reduceEqDiff,zU,zX,zA,zd,h2]) (qbj _ _ _)
      · rw[qcm]; simp (disch:=first|omega|decide|simp only[qai,qag,qak,qaj,qah,qae,qac,qad,qan]) only[zI,qab,zD,Nat.reduceEqDiff,zX,zA,zd,zi,zI,qaW,h01,qaW]
    · rintro st ⟨H, rfl, h0, h1, h2, h01⟩
      apply qbs
      simp (disch:=first|omega|decide|simp only[qai,qag,qak,qaj,qah,qae,qac,qad,qan]) only[qa6,qau,qao,qap,qam,qaf,qaN,qaq,qaz,qaI,qar,qaB,qaa,qaG,qaw,qat,zK,zL,zN,zO,zJ,zM,Nat.reduceAdd,zB,zE,zQ,qa2,Nat.reduceAdd,zj,zQ,L43b0]
      rfl
    · rintro st ⟨H, rfl, h0, h1, h2, h01⟩ rfl
      have e:aB 32 (outP s' 8)=aB 32 (outB s'):=aB_ext 32 fun j hj=>by simp only[outP]; rw[if_pos (by omega)]
      rw[e] at h2
      simp (disch:=first|omega|decide|simp only[qai,qag,qak,qaj,qah,qae,qac,qad,qan]) only[qbp,qa6,qau,qao,qap,qam,qaf,qaN,qaq,qa7,qaz,qaI,qar,qaB,qaa,qaG,qbc,qaw,qat,qbg,zK,zL,zN,zO,zJ,zM,zI,Nat.reduceAdd,qab,qcz,qaX,qaQ,qb6,op_ld,qbt,qbf,zC,zB,zE,zQ,resVal_agg,aggV_some,qbP,qbm,zE,zB,qa2,Nat.reduceAdd,zj,zQ,zI,L43b0,h1,h2]
      rw[qcc 2 _ _ [] (by simp only[qaA,FUEL,qaH,qaD,qaE,qaK,zS,zW,zP,zV,zR,zF,zG,zY,za,zD,zt,zo,ze,zH,zU,zp,zzF,zC,zA,zd,zi,zm,zg,zl,ne_eq,z9,qab,qcP,h0,h01,qbF,qdb,qbh])]
      simp (disch:=first|omega|decide|simp only[qai,qag,qak,qaj,qah,qae,qac,qad,qan]) only[zG,zF,zI,qab,zD,false_and,zA,zi,qbM,qcM,zzC,zI,qaW,qcP,qbk,qbX,h0,h01,qcu]
def fJC (s:Nat→BitVec 32) (n:Nat) (l:List (BitVec 8)) (i:Nat) (st:St):Prop := ∃ (c:Option Nat) (H:Heap),st=⟨[.ptr (0,0) 0,.undef,.ptr (1,0) 0,.ptr (1,1) 0,.ptr (1,2) 0,.sl (1,4) 0 (zs n+1+i) c 1,.undef,.undef,.undef,.undef,.undef,.undef,.undef,.undef,.undef,.undef,.undef,.undef,.undef,.undef,.undef,.undef,.undef,.undef,.undef,N i,.undef,.undef,.undef,.undef,.undef,.undef,.undef,.undef,.undef,.undef,.undef,.undef,.undef,.undef,.undef,.undef,.undef,.undef,.undef,.undef,.undef,.undef,.undef,.undef,.undef,.undef,.undef,.undef,.undef,.undef,.undef,.undef,.undef,.undef,.undef,.undef,.undef,.undef,.undef,.undef,.undef,.undef,.undef,.undef,.undef,.undef,.undef,.undef,.undef,.undef,.undef,.undef,.undef,.undef,.undef,.undef],H,2,2⟩ ∧
  (c=none∨(i=0∧c=some (zs n+1)))∧H (0,0)=some (HsC s (.sl (0,1) 0 0 (some 0) 1) n)∧H (1,0)=some (aB 32 fun _=>0#8)∧H (1,1)=some (aB 32 fun _=>0#8)∧H (1,2)=some (HsC s (.sl (1,3) 0 0 (some 0) 1) n)∧H (1,4)=some (bs (fb n i))∧H (1,3)=some (bs [])∧H (0,1)=some (bs l)
set_option maxRecDepth 10000 in
theorem f_roundC (K k0:Nat) (s:Nat→BitVec 32) (n:Nat) (l:List (BitVec 8)) (hn:n≤4611686018427387904) (i:Nat) (hi:i < 8) (st:St) (hI:fJC s n l i st) :
    ∃ st1,ev (envC C k0) K L43b1 st=some (.normal,st1)∧fJC s n l (i+1) (qby L43k1 st1):=by
  obtain ⟨c,H,rfl,hc,h0,h1,h2,h3,hF,h13,h01⟩:=hI
  have hz:=zs_lt n
  have hl:=fb_length n i
  have hlen:((BitVec.ofNat 64 n*8#64) >>> (56 - 8*i)).setWidth 8=lenb n i:=rfl
  have hx:H (1,4)=some (bs (fb n i)):=hF
  have hfr:front (upd H (17,0) (some (bs [lenb n i]))) 1 1 (.sl (17,0) 0 1 (some 1) 1)=some (bs [lenb n i]):=front_bytes (17,0) 0 1 (some 1) [lenb n i] (by simp only[qab,zC]) (by simp)
  have hF':upd H (17,0) (some (bs [lenb n i])) (1,4)=some (bs (fb n i)):=by simp only[qab,zD,Nat.reduceEqDiff,zX,zA,hF]
  have ha:∃ ms,(ms=[]∨ms=[((1,4),none)])∧appX 18 1 1 1 (upd H (17,0) (some (bs [lenb n i]))) [] (bs [lenb n i]) (.sl (1,4) 0 (zs n+1+i) c 1)=some ⟨.sl (18,0) 0 (zs n+1+i+1) none 1,[bs (fb n (i+1))],ms⟩:=by
    rcases hc with rfl | ⟨rfl,rfl⟩
    · refine ⟨_, .inr rfl, ?_⟩
      rw[appX_none 1 1 _ _ _ _ _ (by omega),hF',appN_bytes _ _ _ _ _ _ (by omega),z8,List.take_of_length_le (by omega),←fb_succ]
    · refine ⟨_, .inl rfl, ?_⟩
      rw[appX_full _ (1,4) 0 _ _ _ _ hF' (by omega) (by omega) (by omega),z8,List.take_of_length_le (by omega),←fb_succ]
  obtain ⟨ms,hms,ha⟩:=ha
  rcases hms with rfl | rfl
  all_goals
    apply Exists.intro
    apply And.intro
    · simp (disch := first | omega | decide | simp only [qai, qag, qak, qaj, qah, qae, qac, qad, qan]) only [qba, qau, qa3, qao, qap, qam, qaf, qaN, qaq, qaz, qaI, qar, qaF, qaB, op_cvt, qaa, qa4, qaw, qaY, zK, zL, zN, zO, zG, zF, zJ, zM, B64_mul, cvt_64_8, Nat.reduceAdd, qdh, qaQ, qbe, qbx, op_fa, faV_ptr, zB, zE, zT, zE, zB, qbY, N_sub, N_mul, qa2, cvt_N_64, B64_shrN, Nat.reduceAdd, zT, op_chk, chkV_ptr, qbB, qb8, qb9, qcb, qbK, qbw, stepK_nm, L43b1, hi, h0, Hs_n, hlen, fill1, hfr, ha]
      rfl
    · refine qaU [(1, 0), (1, 1), (1, 2), (1, 3), (18, 0)] rfl (by simp only [qaA, FUEL, qaH, qaD, qaE, qaP, qaK, qaL, zS, zW, zP, zV, zR, zF, zG, zY, za, zD, zt, zo, ze, Nat.reduceEqDiff, zH, zU, zp, zzF, zC, zA, zd, zi, zm, zg, zl, ne_eq, zq, z9, qab, qaJ, qaC, qav, qcP, qaO, L43k1, h0, h1, h2, h3, h13, h01, qbS, qdb, qbh]) rfl ⟨none, _, rfl, .inl rfl, ?_, ?_, ?_, ?_, ?_, ?_, ?_⟩
      · rw[qcm]; simp (disch:=first|omega|decide|simp only[qai,qag,qak,qaj,qah,qae,qac,qad,qan]) only[zI,qab,zD,Nat.reduceEqDiff,zH,zX,zA,zi,qcM,zI,qbk,qbX,h0,qcu]
      · exact qas (1,0) rfl (by simp only[qab,zD,Nat.reduceEqDiff,zH,zU,zA,h1]) (qbj _ _ _)
      · exact qas (1,1) rfl (by simp only[qab,zD,Nat.reduceEqDiff,zU,zX,zA,zd,h2]) (qbj _ _ _)
      · rw[cN_one _ _ _ (1,2) (HsC s (.sl (1,3) 0 0 (some 0) 1) n) rfl (by simp only[qab,zD,Nat.reduceEqDiff,zU,zX,zA,h3]),qcu]; rfl
      · exact qas (18,0) rfl (by simp only[qab,zD,Nat.reduceEqDiff,zH,zX,zC,zA]) (qaW _ _)
      · exact qas (1,3) rfl (by simp only[qab,zD,Nat.reduceEqDiff,zU,zX,zA,h13]) (qaW _ _)
      · rw[qcm]; simp (disch:=first|omega|decide|simp only[qai,qag,qak,qaj,qah,qae,qac,qad,qan]) only[zI,qab,zD,Nat.reduceEqDiff,zX,zA,zd,zi,zI,qaW,h01]
def gJC (s s':Nat→BitVec 32) (n:Nat) (l:List (BitVec 8)) (i:Nat) (st:St):Prop := ∃ (H:Heap),st=⟨[.undef,.undef,.ptr (1,0) 0,.ptr (1,1) 0,.undef,.undef,.undef,.undef,.undef,.undef,.undef,.undef,.undef,.undef,.undef,.undef,.undef,.undef,.undef,.undef,.undef,.undef,.undef,.undef,.undef,.undef,.undef,.undef,.undef,.undef,.undef,.undef,.undef,.undef,.undef,.undef,.undef,.undef,.undef,.undef,.undef,.undef,.undef,.undef,.undef,.undef,.undef,.undef,.undef,.agg (aW 8 s'),N i,.undef,.undef,.undef,.undef,.undef,.undef,.undef,.undef,.undef,.undef,.undef,.undef,.undef,.undef,.undef,.undef,.undef,.undef,.undef,.undef,.undef,.undef,.undef,.undef,.undef,.undef,.undef,.undef,.undef,.undef,.undef],H,2,2⟩ ∧
  H (0,0)=some (HsC s (.sl (0,1) 0 0 (some 0) 1) n)∧H (1,0)=some (aB 32 fun _=>0#8)∧H (1,1)=some (aB 32 (outP s' i))∧H (0,1)=some (bs l)
set_option maxRecDepth 10000 in
theorem g_roundC (K k0:Nat) (s s':Nat→BitVec 32) (n:Nat) (l:List (BitVec 8)) (i:Nat) (hi:i < 8) (st:St) (hI:gJC s s' n l i st) :
    ∃ st1,ev (envC C k0) K L43b0 st=some (.normal,st1)∧gJC s s' n l (i+1) (qby L43k0 st1):=by
  obtain ⟨H,rfl,h0,h1,h2,h01⟩:=hI
  apply Exists.intro
  apply And.intro
  · simp (disch := first | omega | decide | simp only [qai, qag, qak, qaj, qah, qae, qac, qad, qan]) only [qba, qau, qa3, qao, qap, qam, qaf, qaN, qaq, qa7, qaz, qaI, qar, qaF, qaB, op_cvt, qaa, qa4, qaw, qaY, zK, zL, zN, zO, zJ, zM, B32_shr64, cvt_32_8, BitVec.toNat_ofNat, Nat.reduceAdd, qab, qcz, qdl, qbt, qbf, op_iaA, iaV_lt, zC, zB, zE, zT, Nat.reducePow, Nat.reduceMod, op_ix1, aB_st, aW_ix1, zZ, zE, zB, qbY, N_mul, qa2, qbO, Nat.reduceAdd, Nat.reduceMod, zT, L43b0, hi, h2]
    rfl
  · refine qaU [(1, 0), (1, 1)] rfl (by simp only [qaA, FUEL, qaH, qaD, qaE, qaP, qaK, qaL, zS, zW, zP, zV, zR, zF, zG, zY, za, zD, zt, zo, ze, zH, zU, zp, zzF, zC, zA, zd, zi, zm, zg, zl, ne_eq, zq, z9, qab, qaJ, qaC, qav, qcP, qaO, L43k0, h0, h1, h2, h01, qbS, qdb, qbh, qbU]) rfl ⟨_, rfl, ?_, ?_, ?_, ?_⟩
    · rw[qcm]; simp (disch:=first|omega|decide|simp only[qai,qag,qak,qaj,qah,qae,qac,qad,qan]) only[zI,qab,zD,zX,zA,zi,qcM,zI,qbk,qbX,h0,qcu]
    · exact qas (1,0) rfl (by simp only[qab,zD,zU,zA,zi,h1]) (qbj _ _ _)
    · rw[outP_succ]; exact qas (1,1) rfl (by simp only[qab,zC]) (qbj _ _ _)
    · rw[qcm]; simp (disch:=first|omega|decide|simp only[qai,qag,qak,qaj,qah,qae,qac,qad,qan]) only[zI,qab,zD,zH,zA,zi,zI,qaW,h01]
set_option maxRecDepth 10000 in
theorem sumC (k:Nat) (s:Nat→BitVec 32) (n:Nat) (l:List (BitVec 8)) (hn:n≤4611686018427387000) (hl:l=[]):
    F C (k+(fb n 8).length / 64+101) 43 [.ptr (0,0) 0] [HsC s (.sl (0,1) 0 0 (some 0) 1) n,bs l]=some (.agg (aB 32 (outB (absN (fb n 8) s ((fb n 8).length / 64)))),[some (HsC s (.sl (0,1) 0 0 (some 0) 1) n),some (bs l)],[]):=by
  have hz:=zs_lt n
  have hfl:=fb_length n 8
  obtain ⟨m,hm⟩:∃ m,m=fb n 8:=⟨_,rfl⟩
  rw[←hm]
  rw[qch f43]
  have hfork := ptr_callG (k + m.length / 64 + 100) 7 51 l51 (upd (upd (qcV [HsC s (.sl (0, 1) 0 0 (some 0) 1) n, bs l]) (2, 0) (some (aB 32 fun _ => 0#8))) (3, 0) (some (aB 32 fun _ => 0#8))) (0, 0) (0, 1) s n 0 (some 0) l rfl rfl (by decide)
    (.ptr (1, 0) 0) (.ptr (7, 0) 0) [HsC s (.sl (1, 1) 0 0 (some 0) 1) n, bs []] [HsC s (.sl (7, 1) 0 0 (some 0) 1) n, bs []] (forkG (k + m.length / 64 + 98) s n 0 0 (some 0) (some 0) l [] (by subst hl; exact clone_C _)) rfl (by
      simp only[zG,zF,qcu,qaW]; rfl)
  have hzs:(119 - n % 64) % 64=zs n:=rfl
  have hst:∀ nm:Nm,stK 1 0 nm (some [B8 128#8]) (some (bs (List.replicate (zs n+1) 0#8)))=some ⟨Un,[],[(nm,some (bs (fb n 0)))]⟩:=by
    intro nm; rw[bs_st _ _ _ _ (by simp),←fb_zero]
  simp (disch:=first|omega|decide|simp only[qai,qag,qak,qaj,qah,qae,qac,qad,qan]) only[qbb,qba,qau,qa3,qao,qap,qam,qaf,qaN,qaq,qa7,qaz,qaI,qar,qaF,qaB,qa1,qaT,qaa,qaw,qat,zK,zL,zN,zO,zG,zF,zP,zV,qa5,zy,zJ,zM,qbZ,Nat.reduceAdd,Nat.reduceSub,qab,qdh,qcz,qdl,qaQ,qbe,qbx,qbR,qbt,qbf,op_fa,faV_ptr,zD,Nat.reduceEqDiff,zH,zU,zX,zC,zA,zB,zE,zi,qbH,zZ,zE,zB,qbY,N_sub,N_rem,qbO,Nat.reduceEqDiff,Nat.reduceAdd,op_chk,chkV_ptr,eqp_ptr,qb7,qbG,op_mkslice,zZ,qbn,qaZ,List.getElem?_cons_zero,stepK_n2m2,L43,Hs_n,hfork,mk_bytes,hzs,hst]
  generalize hL:qca L43k1 _ _ _=r
  refine qbJ hL (fJC s n l) 8 (by omega) (fun i st hi hI=>f_roundC _ _ s n l (by omega) i hi st hI) ?_ ?_ ?_
  · refine qaU [(2, 0), (3, 0), (7, 0), (7, 1), (17, 0)] rfl (by simp only [qaA, FUEL, qaH, qaD, qaE, qaP, qaK, qaL, zS, zW, zP, zV, zR, zF, zG, zY, za, zD, zt, zo, ze, Nat.reduceEqDiff, zH, zU, zp, zzF, zC, zA, zd, zi, zm, zg, zl, ne_eq, zq, z9, qab, qaJ, qaC, qav, qbn, qaZ, qcP, List.getElem?_cons_zero, List.getElem?_cons_succ, qaO, L43k1, qbS, qdb, qbh]) rfl ⟨some (zs n + 1), _, rfl, .inr ⟨rfl, rfl⟩, ?_, ?_, ?_, ?_, ?_, ?_, ?_⟩
    · rw[qcm]; simp (disch:=first|omega|decide|simp only[qai,qag,qak,qaj,qah,qae,qac,qad,qan]) only[zI,qab,zD,Nat.reduceEqDiff,zH,zU,zX,zC,zA,zi,qcM,zI,qbn,List.getElem?_cons_zero,qbk,qbX,qcu]
    · exact qas (2,0) rfl (by simp only[qab,zD,Nat.reduceEqDiff,zH,zX,zC,zA,zi]) (qbj _ _ _)
    · exact qas (3,0) rfl (by simp only[qab,zD,Nat.reduceEqDiff,zH,zX,zC,zA,zi]) (qbj _ _ _)
    · rw[cN_one _ _ _ (7,0) (HsC s (.sl (7,1) 0 0 (some 0) 1) n) rfl (by simp only[qab,zD,Nat.reduceEqDiff,zH,zU,zX,zC,zA,zi]),qcu]; rfl
    · exact qas (17,0) rfl (by simp only[qab,zD,Nat.reduceEqDiff,zH,zX,zC,zA,zi]) (qaW _ _)
    · exact qas (7,1) rfl (by simp only[qab,zD,Nat.reduceEqDiff,zH,zU,zX,zC,zA,zd]) (qaW _ _)
    · rw[qcm]; simp (disch:=first|omega|decide|simp only[qai,qag,qak,qaj,qah,qae,qac,qad,qan]) only[zI,qab,zD,Nat.reduceEqDiff,zH,zU,zX,zC,zA,zd,zI,qaW,qbn,List.getElem?_cons_zero,List.getElem?_cons_succ,qaW]
  · rintro st ⟨c, H, rfl, hc, h0, h1, h2, h3, hF, h13, h01⟩
    apply qbs
    simp (disch:=first|omega|decide|simp only[qai,qag,qak,qaj,qah,qae,qac,qad,qan]) only[qa6,qau,qao,qap,qam,qaf,qaN,qaq,qaz,qaI,qar,qaB,qaa,qaG,qaw,qat,zK,zL,zN,zO,zJ,zM,Nat.reduceAdd,zB,zE,zQ,qa2,Nat.reduceAdd,zj,zQ,L43b1]
    rfl
  · rintro st ⟨c, H, rfl, hc, h0, h1, h2, h3, hF, h13, h01⟩ rfl
    clear hL
    obtain ⟨l',hw,_,_⟩:=writeC k s n (fb n 8) m hm (by simp[fb]) (by rw[hm]; omega) (by omega)
    have hB:=lent_sl H (1,4) 0 (zs n+1+8) c (fb n 8) [(1,2),(1,3)] hF (by omega) rfl
    rw[z8,List.take_of_length_le (by omega)] at hB
    have hcall:=fun b=>write_callG _ b H (1,2) (1,3) s _ n _ _ 0 (some 0) _ (fb n 8) [] l' (some []) h3 h13 (by decide) hB hw
    obtain ⟨s',hs'⟩:∃ s',s'=absN m s (m.length / 64):=⟨_,rfl⟩
    rw[←hs'] at hcall ⊢
    simp (disch:=first|omega|decide|simp only[qai,qag,qak,qaj,qah,qae,qac,qad,qan]) only[qa6,qau,qa3,qao,qap,qam,qaf,qaN,qaq,qaz,qaI,qar,qaF,qaB,qa1,qaT,qaa,qaG,qbc,qaw,qat,zK,zL,zN,zO,zG,zF,zJ,zM,zI,qbZ,Nat.reduceAdd,qab,qaQ,qb6,op_ld,op_fa,faV_ptr,zD,Nat.reduceEqDiff,zU,zX,zC,zA,zB,zE,zQ,zE,zB,qa2,Nat.reduceEqDiff,Nat.reduceAdd,zj,zQ,op_chk,chkV_ptr,zI,stepK_nm2,L43b1,hcall,Hs_state]
    generalize hL:qca L43k0 _ _ _=r
    refine qbJ hL (gJC s s' n l) 8 (by omega) (fun i st hi hI=>g_roundC _ _ s s' n l i hi st hI) ?_ ?_ ?_
    · refine qaU [(1, 0), (1, 1)] rfl (by simp only [qaA, FUEL, qaH, qaD, qaE, qaP, qaK, qaL, zS, zW, zP, zV, zR, zF, zG, zY, za, zD, zt, zo, ze, Nat.reduceEqDiff, zH, zU, zp, zzF, zC, zA, zd, zi, zm, zg, zl, ne_eq, zq, z9, qab, qaJ, qaC, qav, qcP, qaO, L43k0, h0, h1, h2, h01, qbS, qdb, qbh, qbU]) rfl ⟨_, rfl, ?_, ?_, ?_, ?_⟩
      · rw[qcm]; simp (disch:=first|omega|decide|simp only[qai,qag,qak,qaj,qah,qae,qac,qad,qan]) only[zI,qab,zD,Nat.reduceEqDiff,zH,zX,zA,zi,qcM,zI,qbk,qbX,h0,qcu]
      · exact qas (1,0) rfl (by simp only[qab,zD,Nat.reduceEqDiff,zH,zU,zA,h1]) (qbj _ _ _)
      · rw [show outP s' 0 = fun _ => 0#8 by funext j; simp [outP]]
        exact qas (1,1) rfl (by simp only[qab,zD,Nat.reduceEqDiff,zU,zX,zA,zd,h2]) (qbj _ _ _)
      · rw[qcm]; simp (disch:=first|omega|decide|simp only[qai,qag,qak,qaj,qah,qae,qac,qad,qan]) only[zI,qab,zD,Nat.reduceEqDiff,zX,zA,zd,zi,zI,qaW,h01,qaW]
    · rintro st ⟨H, rfl, h0, h1, h2, h01⟩
      apply qbs
      simp (disch:=first|omega|decide|simp only[qai,qag,qak,qaj,qah,qae,qac,qad,qan]) only[qa6,qau,qao,qap,qam,qaf,qaN,qaq,qaz,qaI,qar,qaB,qaa,qaG,qaw,qat,zK,zL,zN,zO,zJ,zM,Nat.reduceAdd,zB,zE,zQ,qa2,Nat.reduceAdd,zj,zQ,L43b0]
      rfl
    · rintro st ⟨H, rfl, h0, h1, h2, h01⟩ rfl
      have e:aB 32 (outP s' 8)=aB 32 (outB s'):=aB_ext 32 fun j hj=>by simp only[outP]; rw[if_pos (by omega)]
      rw[e] at h2
      simp (disch:=first|omega|decide|simp only[qai,qag,qak,qaj,qah,qae,qac,qad,qan]) only[qbp,qa6,qau,qao,qap,qam,qaf,qaN,qaq,qa7,qaz,qaI,qar,qaB,qaa,qaG,qbc,qaw,qat,qbg,zK,zL,zN,zO,zJ,zM,zI,Nat.reduceAdd,qab,qcz,qaX,qaQ,qb6,op_ld,qbt,qbf,zC,zB,zE,zQ,resVal_agg,aggV_some,qbP,qbm,zE,zB,qa2,Nat.reduceAdd,zj,zQ,zI,L43b0,h1,h2]
      rw[qcc 2 _ _ [] (by simp only[qaA,FUEL,qaH,qaD,qaE,qaK,zS,zW,zP,zV,zR,zF,zG,zY,za,zD,zt,zo,ze,zH,zU,zp,zzF,zC,zA,zd,zi,zm,zg,zl,ne_eq,z9,qab,qcP,h0,h01,qbF,qdb,qbh])]
      simp (disch:=first|omega|decide|simp only[qai,qag,qak,qaj,qah,qae,qac,qad,qan]) only[zG,zF,zI,qab,zD,false_and,zA,zi,qbM,qcM,zzC,zI,qaW,qcP,qbk,qbX,h0,h01,qcu]
end Sha
namespace Sha
open Go Go.LE
def pad (b:List (BitVec 8)):List (BitVec 8):=b++fb b.length 8
def dig (b:List (BitVec 8)):Nat→BitVec 8:=outB (absN (pad b) ini ((pad b).length / 64))
theorem chunk_front (b f:List (BitVec 8)) (i:Nat) (h:64*i+64≤b.length):chunk (b++f) i=chunk b i:=by
  funext j
  simp only[chunk]
  split
  · rw[List.getD_eq_getElem?_getD,List.getD_eq_getElem?_getD,List.getElem?_append_left (by omega)]
  · rfl
theorem chunk_drop (m:List (BitVec 8)) (q i:Nat):chunk (m.drop (64*q)) i=chunk m (q+i):=by
  funext j
  simp only[chunk]
  split
  · rw [List.getD_eq_getElem?_getD, List.getD_eq_getElem?_getD, List.getElem?_drop]
    congr 2; omega
  · rfl
theorem absN_front (b f:List (BitVec 8)) (s:Nat→BitVec 32):∀ i,64*i≤b.length→absN (b++f) s i=absN b s i:=by
  intro i
  induction i with
  | zero=>intro _; rfl
  | succ i ih=>intro h; rw[absN,absN,ih (by omega),chunk_front b f i (by omega)]
theorem absN_add (m:List (BitVec 8)) (s:Nat→BitVec 32) (q:Nat):∀ i,absN m s (q+i)=absN (m.drop (64*q)) (absN m s q) i:=by
  intro i
  induction i with
  | zero=>rfl
  | succ i ih=>rw[←Nat.add_assoc,absN,absN,ih,chunk_drop]
theorem absN_two (b f:List (BitVec 8)) (s:Nat→BitVec 32) (q:Nat) (hq:64*q≤b.length) :
    absN (b.drop (64*q)++f) (absN b s q) ((b.drop (64*q)++f).length / 64)=absN (b++f) s ((b++f).length / 64):=by
  have e1:(b++f).drop (64*q)=b.drop (64*q)++f:=List.drop_append_of_le_length hq
  have e2:(b++f).length / 64=q+(b.drop (64*q)++f).length / 64:=by
    rw[zzI,zzI,zzG]; omega
  rw[e2,absN_add,e1,absN_front b f s q hq]
theorem new_call (k b:Nat) (H:Heap):qb1 (envC C (k+2)) H b 41 []=some ⟨.ptr (b,0) 0,[HsC ini Nil 0],[]⟩:=by
  rw[qcB l41 rfl rfl,new_F]
  exact calK_ptr_new b _ 0 (by rw[qcu,qda])
end Sha
namespace Sha
open Go Go.LE
def zb (b:List (BitVec 8)) (i:Nat):List (BitVec 8):=b++128#8::List.replicate i 0#8
theorem zb_length (b:List (BitVec 8)) (i:Nat):(zb b i).length=b.length+1+i:=by simp[zb]; omega
theorem zb_succ (b:List (BitVec 8)) (i:Nat):zb b (i+1)=zb b i++[0#8]:=by simp[zb,List.replicate_succ']
def lb (b:List (BitVec 8)) (i:Nat):List (BitVec 8):=b++fb b.length i
theorem lb_length (b:List (BitVec 8)) (i:Nat):(lb b i).length=b.length+(zs b.length+1+i):=by simp[lb,fb_length]
theorem lb_succ (b:List (BitVec 8)) (i:Nat):lb b (i+1)=lb b i++[lenb b.length i]:=by simp[lb,fb_succ]
theorem lb_zero (b:List (BitVec 8)):lb b 0=zb b (zs b.length):=by simp[lb,zb,fb]
theorem app_one (bn:Nat) (H:Heap) (m:Nm) (x:BitVec 8) (l:List (BitVec 8)) (len:Nat) (hl:len=l.length) (h:H m=some (bs l)) (hb:len≤211106232532000) :
    appX bn 1 1 1 H [] (bs [x]) (.sl m 0 len none 1)=some ⟨.sl (bn,0) 0 (len+1) none 1,[bs (l++[x])],[(m,none)]⟩:=by
  rw[appX_none 1 1 _ _ _ _ _ (by omega),h,appN_bytes _ _ _ _ _ _ (by omega),z8,List.take_of_length_le (by omega)]
def u4 (b:List (BitVec 8)) (i:Nat) (st:St):Prop := ∃ (H:Heap),st=⟨[.isl (bs b) b.length,.undef,.ptr (1,0) 0,.sl (1,1) 0 (b.length+1+i) none 1,.undef,.undef,.undef,.undef,.undef,.undef,.undef,.undef,.undef,.undef,.undef,.undef,.undef,.undef,.undef,.undef,.undef,.undef,.undef,.undef,.undef,.undef,.undef,.undef,.undef,.undef,.undef,.undef,.undef,.undef,.undef,.undef,.undef,.undef,.undef,.undef,.undef,.undef,.undef,.undef,.undef,.undef,.undef,.undef,.undef,.undef,.undef,.undef,.undef,.undef,.undef,.undef,.undef,.undef,.undef,.undef,.undef,.undef,.undef,.undef,.undef,.undef,.undef,.undef,.undef,.undef,.undef,.undef,.undef,.undef,.undef,.undef,.undef,.undef,.undef,.undef],H,2,0⟩ ∧
  H (1,0)=some (aB 32 fun _=>0#8)∧H (1,1)=some (bs (zb b i))
set_option maxRecDepth 10000 in
theorem u4_round (K k0:Nat) (b:List (BitVec 8)) (hb:b.length≤211106232000000) (i:Nat) (hi:i < zs b.length) (st:St) (hI:u4 b i st) :
    ∃ st1,ev (envC C k0) K L32b4 st=some (.normal,st1)∧u4 b (i+1) (qby L32k4 st1):=by
  obtain ⟨H,rfl,h0,h1⟩:=hI
  have e1:(b.length+1+i) % 64≠56:=by unfold zs at hi; omega
  have hz:=zs_lt b.length
  have hl:=zb_length b i
  have hfr:front (upd H (7,0) (some (bs [0#8]))) 1 1 (.sl (7,0) 0 1 (some 1) 1)=some (bs [0#8]):=front_bytes (7,0) 0 1 (some 1) [0#8] (by simp only[qab,zC]) (by simp)
  have ha:=app_one 8 (upd H (7,0) (some (bs [0#8]))) (1,1) 0#8 (zb b i) (b.length+1+i) (by omega) (by simp only[qab,zD,Nat.reduceEqDiff,zX,zA,zd,h1]) (by omega)
  rw[←zb_succ] at ha
  apply Exists.intro
  apply And.intro
  · simp (disch := first | omega | decide | simp only [qai, qag, qak, qaj, qah, qae, qac, qad, qan]) only [qba, qau, qa3, qao, qap, qam, qaf, qaN, qaq, qaz, qaI, qar, qaF, qaB, qaa, qa4, qaw, qaY, zK, zL, zN, zO, zG, zF, zJ, zM, Nat.reduceAdd, qdh, zB, zE, zQ, zE, zB, N_rem, N_neq, decide_not, Nat.reduceAdd, zQ, zu, qbi, qaV, qbL, qbB, qb8, qb9, qcb, qbK, qbw, stepK_nm, L32b4, e1, fill1, hfr, ha]
    rfl
  · refine qaU [(1, 0), (8, 0)] rfl (by simp only [qaA, FUEL, qaH, qaD, qaE, qaP, qaK, qaL, zS, zW, zP, zV, zR, zk, zF, zY, za, zD, zt, zo, ze, Nat.reduceEqDiff, zH, zU, zp, zC, zA, zd, zi, zm, zg, zl, ne_eq, zq, qab, qaJ, qaC, qav, L32k4, h0, qbd, qbS, qbh]) ?_ ⟨_, rfl, ?_, ?_⟩
    · simp only [L32k4, zG, zF, qa8, qbT, qbk, qaC, qav, qaJ, qa9]
      rfl
    · exact qas (1,0) rfl (by simp only[qab,zD,Nat.reduceEqDiff,zH,zU,zA,zi,h0]) (qbj _ _ _)
    · exact qas (8,0) rfl (by simp only[qab,zD,Nat.reduceEqDiff,zH,zX,zC,zA,zi]) (qaW _ _)
def u3 (b:List (BitVec 8)) (i:Nat) (st:St):Prop := ∃ (H:Heap),st=⟨[.undef,.undef,.ptr (1,0) 0,.sl (1,1) 0 (b.length+(zs b.length+1+i)) none 1,B64 (BitVec.ofNat 64 b.length*8#64),N i,.undef,.undef,.undef,.undef,.undef,.undef,.undef,.undef,.undef,.undef,.undef,.undef,.undef,.undef,.undef,.undef,.undef,.undef,.undef,.undef,.undef,.undef,.undef,.undef,.undef,.undef,.undef,.undef,.undef,.undef,.undef,.undef,.undef,.undef,.undef,.undef,.undef,.undef,.undef,.undef,.undef,.undef,.undef,.undef,.undef,.undef,.undef,.undef,.undef,.undef,.undef,.undef,.undef,.undef,.undef,.undef,.undef,.undef,.undef,.undef,.undef,.undef,.undef,.undef,.undef,.undef,.undef,.undef,.undef,.undef,.undef,.undef,.undef,.undef],H,2,0⟩ ∧
  H (1,0)=some (aB 32 fun _=>0#8)∧H (1,1)=some (bs (lb b i))
set_option maxRecDepth 10000 in
theorem u3_round (K k0:Nat) (b:List (BitVec 8)) (hb:b.length≤211106232000000) (i:Nat) (hi:i < 8) (st:St) (hI:u3 b i st) :
    ∃ st1,ev (envC C k0) K L32b3 st=some (.normal,st1)∧u3 b (i+1) (qby L32k3 st1):=by
  obtain ⟨H,rfl,h0,h1⟩:=hI
  have hz:=zs_lt b.length
  have hl:=lb_length b i
  have hlen:((BitVec.ofNat 64 b.length*8#64) >>> (56 - 8*i)).setWidth 8=lenb b.length i:=rfl
  have hfr:front (upd H (11,0) (some (bs [lenb b.length i]))) 1 1 (.sl (11,0) 0 1 (some 1) 1)=some (bs [lenb b.length i]):=front_bytes (11,0) 0 1 (some 1) [lenb b.length i] (by simp only[qab,zC]) (by simp)
  have ha:=app_one 12 (upd H (11,0) (some (bs [lenb b.length i]))) (1,1) (lenb b.length i) (lb b i) (b.length+(zs b.length+1+i)) (by omega) (by simp only[qab,zD,Nat.reduceEqDiff,zX,zA,zd,h1]) (by omega)
  rw[←lb_succ] at ha
  apply Exists.intro
  apply And.intro
  · simp (disch := first | omega | decide | simp only [qai, qag, qak, qaj, qah, qae, qac, qad, qan]) only [qba, qau, qa3, qao, qap, qam, qaf, qaN, qaq, qaz, qaI, qar, qaF, qaB, op_cvt, qaa, qa4, qaw, qaY, zK, zL, zN, zO, zG, zF, zJ, zM, cvt_64_8, Nat.reduceAdd, qdh, zB, zE, zT, zE, zB, qbY, N_sub, N_mul, qa2, B64_shrN, Nat.reduceAdd, zT, qbB, qb8, qb9, qcb, qbK, qbw, stepK_nm, L32b3, hi, hlen, fill1, hfr, ha]
    rfl
  · refine qaU [(1, 0), (12, 0)] rfl (by simp only [qaA, FUEL, qaH, qaD, qaE, qaP, qaK, qcR, qaL, zS, zW, zP, zV, zR, zk, zF, zY, za, zD, zt, zo, ze, Nat.reduceEqDiff, zH, zU, zp, zC, zA, zd, zi, zm, zg, zl, ne_eq, zq, qab, qaJ, qaC, qav, qaO, L32k3, h0, qbS, qbh]) rfl ⟨_, rfl, ?_, ?_⟩
    · exact qas (1,0) rfl (by simp only[qab,zD,Nat.reduceEqDiff,zH,zU,zA,zi,h0]) (qbj _ _ _)
    · exact qas (12,0) rfl (by simp only[qab,zD,Nat.reduceEqDiff,zH,zX,zC,zA,zi]) (qaW _ _)
def cutP (c:Nat→BitVec 8) (j:Nat):Nat→BitVec 8:=fun x=>if x < j then c x else 0#8
theorem cutP_succ (c:Nat→BitVec 8) (j:Nat):cutP c (j+1)=set1 (cutP c j) j (c j):=by
  funext x
  simp only[cutP,set1]
  by_cases h:x=j
  · subst h; simp
  · rw [if_neg h]
    have:(x < j+1)↔(x < j):=by omega
    simp only[this]
def u1 (M:List (BitVec 8)) (s:Nat→BitVec 32) (i j:Nat) (st:St):Prop := ∃ (H:Heap),st=⟨[.undef,.undef,.ptr (1,0) 0,.sl (1,1) 0 M.length none 1,.undef,.undef,.ptr (1,2) 0,N (64*i),.ptr (1,3) 0,N j,.undef,.undef,.undef,.undef,.undef,.undef,.undef,.undef,.undef,.undef,.undef,.undef,.undef,.undef,.undef,.undef,.undef,.undef,.undef,.undef,.undef,.undef,.undef,.undef,.undef,.undef,.undef,.undef,.undef,.undef,.undef,.undef,.undef,.undef,.undef,.undef,.undef,.undef,.undef,.undef,.undef,.undef,.undef,.undef,.undef,.undef,.undef,.undef,.undef,.undef,.undef,.undef,.undef,.undef,.undef,.undef,.undef,.undef,.undef,.undef,.undef,.undef,.undef,.undef,.undef,.undef,.undef,.undef,.undef,.undef],H,2,0⟩ ∧
  H (1,0)=some (aB 32 fun _=>0#8)∧H (1,1)=some (bs M)∧H (1,2)=some (aW 8 s)∧H (1,3)=some (aB 64 (cutP (chunk M i) j))
set_option maxRecDepth 10000 in
theorem u1_round (K k0:Nat) (M:List (BitVec 8)) (hM:M.length≤211106232532992) (s:Nat→BitVec 32) (i:Nat) (hi:64*i+64≤M.length) (j:Nat) (hj:j < 64) (st:St) (hI:u1 M s i j st) :
    ∃ st1,ev (envC C k0) K L32b1 st=some (.normal,st1)∧u1 M s i (j+1) (qby L32k1 st1):=by
  obtain ⟨H,rfl,h0,h1,h2,h3⟩:=hI
  have hc:cellK (64*i+j) 1 (some (bs M))=some [B8 (chunk M i j)]:=by
    rw[bs_cell _ _ (by omega)]; simp only[chunk,if_pos hj]
  have e1:64*i+j < M.length:=by omega
  apply Exists.intro
  apply And.intro
  · simp (disch := first | omega | decide | simp only [qai, qag, qak, qaj, qah, qae, qac, qad, qan]) only [qba, qau, qa3, qao, qap, qam, qaf, qaN, qaq, qa7, qaz, qaI, qar, qaF, qaB, qaa, qa4, qaw, qaY, zK, zL, zN, zO, zJ, zM, Nat.reduceAdd, qcz, qdl, qaQ, qbe, qbx, qbt, qbf, op_iaA, iaV_lt, zB, zE, zT, aB_st, zZ, zE, zB, qbY, qa2, qbO, Nat.reduceAdd, zT, qb7, qbG, zZ, L32b1, hj, h1, h3, hc]
    rfl
  · refine qaU [(1, 0), (1, 1), (1, 2), (1, 3)] rfl (by simp only [qaA, FUEL, qaH, qaD, qaE, qaP, qaK, qaL, zS, zW, zP, zV, zR, zk, zF, zY, za, zD, zt, zo, ze, Nat.reduceEqDiff, zU, zp, zC, zA, zd, zm, zg, zl, ne_eq, zq, qab, qaJ, qaC, qav, qaO, L32k1, h0, h1, h2, h3, qbS, aW_nms, qbh]) rfl ⟨_, rfl, ?_, ?_, ?_, ?_⟩
    · exact qas (1,0) rfl (by simp only[qab,zD,Nat.reduceEqDiff,zU,zA,h0]) (qbj _ _ _)
    · exact qas (1,1) rfl (by simp only[qab,zD,Nat.reduceEqDiff,zU,zA,h1]) (qaW _ _)
    · exact qas (1,2) rfl (by simp only[qab,zD,Nat.reduceEqDiff,zU,zA,h2]) (qcA _ _ _)
    · rw[cutP_succ]; exact qas (1,3) rfl (by simp only[qab,zC]) (qbj _ _ _)
def u2 (M:List (BitVec 8)) (i:Nat) (st:St):Prop := ∃ (H:Heap),st=⟨[.undef,.undef,.ptr (1,0) 0,.sl (1,1) 0 M.length none 1,.undef,.undef,.ptr (1,2) 0,N (64*i),.undef,.undef,.undef,.undef,.undef,.undef,.undef,.undef,.undef,.undef,.undef,.undef,.undef,.undef,.undef,.undef,.undef,.undef,.undef,.undef,.undef,.undef,.undef,.undef,.undef,.undef,.undef,.undef,.undef,.undef,.undef,.undef,.undef,.undef,.undef,.undef,.undef,.undef,.undef,.undef,.undef,.undef,.undef,.undef,.undef,.undef,.undef,.undef,.undef,.undef,.undef,.undef,.undef,.undef,.undef,.undef,.undef,.undef,.undef,.undef,.undef,.undef,.undef,.undef,.undef,.undef,.undef,.undef,.undef,.undef,.undef,.undef],H,2,0⟩ ∧
  H (1,0)=some (aB 32 fun _=>0#8)∧H (1,1)=some (bs M)∧H (1,2)=some (aW 8 (absN M ini i))
set_option maxRecDepth 10000 in
theorem u2_round (K k0:Nat) (hK:64 < K) (hblk:∀ s p,F C k0 45 [.agg (aW 8 s),.agg (aB 64 p)] []=some (.agg (aW 8 (blk s p)),[],[])) (M:List (BitVec 8)) (hM:M.length≤211106232532992) (i:Nat) (hi:64*i+64≤M.length) (st:St) (hI:u2 M i st) :
    ∃ st1,ev (envC C k0) K L32b2 st=some (.normal,st1)∧u2 M (i+1) (qby L32k2 st1):=by
  obtain ⟨H,rfl,h0,h1,h2⟩:=hI
  have e1:64*i < M.length:=by omega
  obtain ⟨s,hs⟩:∃ s,s=absN M ini i:=⟨_,rfl⟩
  rw[←hs] at h2
  simp (disch:=first|omega|decide|simp only[qai,qag,qak,qaj,qah,qae,qac,qad,qan]) only[qba,qau,qa3,qao,qap,qam,qaf,qaN,qaq,qaz,qaI,qar,qaF,qaB,qaa,qaw,qaY,zK,zL,zN,zO,zJ,zM,qbZ,Nat.reduceAdd,qdh,qbR,zB,zE,zT,qbH,zE,zB,qa2,Nat.reduceAdd,zT,qbi,qaV,qbL,L32b2,e1]
  generalize hL:qca L32k1 _ _ _=r
  refine qbJ hL (u1 M s i) 64 hK (fun j st hj hI=>u1_round _ _ M hM s i hi j hj st hI) ?_ ?_ ?_
  · refine qaU [(1, 0), (1, 1), (1, 2), (6, 0)] rfl (by simp only [qaA, FUEL, qaH, qaD, qaE, qaP, qaK, qaL, zS, zW, zP, zV, zR, zk, zF, zY, za, zD, zt, zo, ze, Nat.reduceEqDiff, zH, zU, zp, zC, zA, zd, zi, zm, zg, zl, ne_eq, zq, qab, qaJ, qaC, qav, qaO, L32k1, h0, h1, h2, qbS, aW_nms, qbh]) rfl ⟨_, rfl, ?_, ?_, ?_, ?_⟩
    · exact qas (1,0) rfl (by simp only[qab,zD,Nat.reduceEqDiff,zH,zA,h0]) (qbj _ _ _)
    · exact qas (1,1) rfl (by simp only[qab,zD,Nat.reduceEqDiff,zX,zA,zd,h1]) (qaW _ _)
    · exact qas (1,2) rfl (by simp only[qab,zD,Nat.reduceEqDiff,zX,zA,h2]) (qcA _ _ _)
    · rw [show cutP (chunk M i) 0 = fun _ => 0#8 by funext x; simp [cutP]]
      exact qas (6,0) rfl (by simp only[qab,zC]) (qbj _ _ _)
  · rintro st ⟨H, rfl, h0, h1, h2, h3⟩
    apply qbs
    simp (disch:=first|omega|decide|simp only[qai,qag,qak,qaj,qah,qae,qac,qad,qan]) only[qa6,qau,qao,qap,qam,qaf,qaN,qaq,qaz,qaI,qar,qaF,qaB,qaa,qaG,qaw,qat,zK,zL,zN,zO,zJ,zM,Nat.reduceAdd,zB,zE,zQ,qa2,Nat.reduceAdd,zj,zQ,L32b1]
    rfl
  · clear h0 h1 h2 hL
    rintro st ⟨H,rfl,h0,h1,h2,h3⟩ rfl
    have e:aB 64 (cutP (chunk M i) 64)=aB 64 (chunk M i):=aB_ext 64 fun j hj=>by simp only[cutP,if_pos hj]
    rw[e] at h3
    apply Exists.intro
    apply And.intro
    · simp (disch := first | omega | decide | simp only [nms_B8, qcy, qcR, nms_I, qaO, nms_Bo, nms_Un, qaL, nms_Hf, qaP, qaK, qbF, qbU, qci, qck, zS, zW, zP, zR, ren_B8, qcX, qcY, ren_I, ren_N, ren_Bo, ren_Un, qa9, ren_Hf, qbM, qcd, qcj, qcl, zG, zF, ren7_I, ren7_N, qc0, qc1, qcE, qcF, nms7_I, nms7_N, qc2, qc3, qcG, qcH, qc4, qc5, implies_true, l44, l45, qai, qbh, qaW, qbd, qa8, qag, qak, qaj, qah, qae, qac, qad, qan]) only [qa6, qau, qao, qap, qam, qaf, qaN, qaq, qa7, qaz, qaI, qar, qaF, qaB, qa1, qaT, qaa, qaG, qa4, qbc, qaw, qat, zK, zL, zN, zO, zG, zF, zJ, zM, qcB, Nat.reduceAdd, qcz, qaX, qaQ, qb6, op_ld, qbt, qbf, zC, zB, zE, zQ, qbP, aW_cells, aW_st_all, aW_calK, zE, zB, qbY, qa2, Nat.reduceAdd, zj, zQ, L32b1, h2, h3, hblk, aW_st_all]
      rfl
    · refine qaU [(1, 0), (1, 1), (1, 2)] rfl (by simp only [qaA, FUEL, qaH, qaD, qaE, qaP, qaK, qaL, zS, zW, zP, zV, zR, zk, zF, zY, za, zD, zt, zo, ze, Nat.reduceEqDiff, zU, zp, zC, zA, zd, zm, zg, zl, ne_eq, zq, qab, qaJ, qaC, qav, qaO, L32k2, h0, h1, h2, qbS, aW_nms, qbh]) rfl ⟨_, rfl, ?_, ?_, ?_⟩
      · exact qas (1,0) rfl (by simp only[qab,zD,Nat.reduceEqDiff,zU,zA,h0]) (qbj _ _ _)
      · exact qas (1,1) rfl (by simp only[qab,zD,Nat.reduceEqDiff,zU,zA,h1]) (qaW _ _)
      · rw[absN,←hs]; exact qas (1,2) rfl (by simp only[qab,zC]) (qcA _ _ _)
def u0 (s:Nat→BitVec 32) (i:Nat) (st:St):Prop := ∃ (H:Heap),st=⟨[.undef,.undef,.ptr (1,0) 0,.undef,.undef,.undef,.ptr (1,1) 0,.undef,.undef,.undef,.ptr (1,2) 0,N i,.undef,.undef,.undef,.undef,.undef,.undef,.undef,.undef,.undef,.undef,.undef,.undef,.undef,.undef,.undef,.undef,.undef,.undef,.undef,.undef,.undef,.undef,.undef,.undef,.undef,.undef,.undef,.undef,.undef,.undef,.undef,.undef,.undef,.undef,.undef,.undef,.undef,.undef,.undef,.undef,.undef,.undef,.undef,.undef,.undef,.undef,.undef,.undef,.undef,.undef,.undef,.undef,.undef,.undef,.undef,.undef,.undef,.undef,.undef,.undef,.undef,.undef,.undef,.undef,.undef,.undef,.undef,.undef],H,2,0⟩ ∧
  H (1,0)=some (aB 32 fun _=>0#8)∧H (1,1)=some (aW 8 s)∧H (1,2)=some (aB 32 (cutP (outB s) i))
set_option maxRecDepth 10000 in
theorem u0_round (K k0:Nat) (s:Nat→BitVec 32) (i:Nat) (hi:i < 32) (st:St) (hI:u0 s i st) :
    ∃ st1,ev (envC C k0) K L32b0 st=some (.normal,st1)∧u0 s (i+1) (qby L32k0 st1):=by
  obtain ⟨H,rfl,h0,h1,h2⟩:=hI
  have ho:(s (i / 4) >>> (24 - 8*(i % 4))).setWidth 8=outB s i:=rfl
  apply Exists.intro
  apply And.intro
  · simp (disch := first | omega | decide | simp only [qai, qag, qak, qaj, qah, qae, qac, qad, qan]) only [qba, qau, qa3, qao, qap, qam, qaf, qaN, qaq, qa7, qaz, qaI, qar, qaF, qaB, op_cvt, qaa, qa4, qaw, qaY, zK, zL, zN, zO, zJ, zM, cvt_32_8, Nat.reduceAdd, qcz, qdl, qaQ, qbe, qbx, qbt, qbf, op_iaA, iaV_lt, zB, zE, zT, aB_st, aW_cell, zZ, zE, zB, qbY, N_sub, N_mul, N_quo, N_rem, qa2, qbO, B32_shrN, Nat.reduceAdd, zT, L32b0, hi, h1, h2, ho]
    rfl
  · refine qaU [(1, 0), (1, 1), (1, 2)] rfl (by simp only [qaA, FUEL, qaH, qaD, qaE, qaP, qaL, zS, zW, zP, zV, zR, zk, zF, zY, za, zD, zt, zo, ze, Nat.reduceEqDiff, zU, zp, zC, zA, zd, zm, zg, zl, ne_eq, zq, qab, qaJ, qaC, qav, qaO, L32k0, h0, h1, h2, qbS, aW_nms]) rfl ⟨_, rfl, ?_, ?_, ?_⟩
    · exact qas (1,0) rfl (by simp only[qab,zD,Nat.reduceEqDiff,zU,zA,h0]) (qbj _ _ _)
    · exact qas (1,1) rfl (by simp only[qab,zD,Nat.reduceEqDiff,zU,zA,h1]) (qcA _ _ _)
    · rw[cutP_succ]; exact qas (1,2) rfl (by simp only[qab,zC]) (qbj _ _ _)
set_option maxRecDepth 10000 in
theorem rsum_F (k:Nat) (b:List (BitVec 8)) (hb:b.length≤211106232000000):F C (k+b.length / 64+301) 32 [.isl (bs b) b.length] []=some (.agg (aB 32 (dig b)),[],[]):=by
  rw[qch f32]
  have hz:=zs_lt b.length
  obtain ⟨K,hK⟩:∃ K,K=k+b.length / 64+300:=⟨_,rfl⟩
  rw[←hK]
  have hblk:∀ s p,F C K 45 [.agg (aW 8 s),.agg (aB 64 p)] []=some (.agg (aW 8 (blk s p)),[],[]):=fun s p=>by
    have:=rblock_F (K - 80) s p
    rw[show K - 80+80=K by omega] at this
    exact this
  have hfirst:F C K 44 [] []=some (.agg (aW 8 ini),[],[]):=by
    have:=firstB (K - 1)
    rw[show K - 1+1=K by omega] at this
    exact this
  have hfr:∀ H:Heap,front H 1 b.length (.isl (bs b) b.length)=some (bs b):=fun H=>qdn b b.length rfl
  have hzb:zb b 0=b++[128#8]:=rfl
  have key : ∃ (n1 : Nm) (c : Option Nat) (news : List qaR) (ms ms2 : List (Nm × Option qaR)), (n1 = (3, 0) ∧ c = some 0 ∧ news = [] ∧ ms = [((3, 0), some (bs b))] ∧ ms2 = [] ∨ n1 = (5, 0) ∧ c = none ∧ news = [bs b] ∧ ms = [] ∧ ms2 = [((5, 0), none)]) ∧
      (∀ H:Heap,H (3,0)=some []→appX 5 1 1 b.length H [] (bs b) (.sl (3,0) 0 0 (some 0) 1)=some ⟨.sl n1 0 b.length c 1,news,ms⟩) ∧
      (∀ H:Heap,H n1=some (bs b)→appX 7 1 1 1 H [] (bs [128#8]) (.sl n1 0 b.length c 1)=some ⟨.sl (7,0) 0 (b.length+1) none 1,[bs (zb b 0)],ms2⟩):=by
    by_cases h0:b=[]
    · refine ⟨(3, 0), some 0, _, _, _, .inl ⟨rfl, rfl, rfl, rfl, rfl⟩, ?_, ?_⟩
      · intro H h; subst h0; simp only[appX,h,qb2]; rfl
      · intro H h; subst h0
        rw[appX_full 1 (3,0) 0 _ 0 [] [128#8] h (by simp) (by simp) (by simp)]; rfl
    · have hl : 0 < b.length := List.length_pos_iff.2 h0
      refine ⟨(5,0),none,_,_,_,.inr ⟨rfl,rfl,rfl,rfl,rfl⟩,?_,?_⟩
      · intro H h
        rw[appX_full b.length (3,0) 0 0 0 [] b h (by simp) (by omega) (by omega)]
        simp only[zzD,zzL,zP,zB]
      · intro H h
        rw[app_one 7 H (5,0) 128#8 b b.length rfl h (by omega),hzb]
  obtain ⟨n1,c,news,ms,ms2,hcase,ha1,ha2⟩:=key
  have ha1':=ha1 (upd (upd (qcV []) (2,0) (some (aB 32 fun _=>0#8))) (3,0) (some [])) rfl
  have e1:(b.length+1+zs b.length) % 64=56:=by unfold zs; omega
  have hz64:(b.length+(zs b.length+1+8)) % 64=0:=by unfold zs; omega
  rcases hcase with ⟨rfl,rfl,rfl,rfl,rfl⟩ | ⟨rfl,rfl,rfl,rfl,rfl⟩
  · have hfr2 := front_bytes (H := upd (upd (upd (upd (qcV []) (2, 0) (some (aB 32 fun _ => 0#8))) (3, 0) (some [])) (3, 0) (some (bs b))) (6, 0) (some (bs [128#8]))) (6, 0) 0 1 (some 1) [128#8] rfl (by simp)
    have ha2':=ha2 (upd (upd (upd (upd (qcV []) (2,0) (some (aB 32 fun _=>0#8))) (3,0) (some [])) (3,0) (some (bs b))) (6,0) (some (bs [128#8]))) rfl
    simp only[z8,zzK,zzB] at hfr2
    simp (disch:=first|omega|decide|simp only[qai,qag,qak,qaj,qah,qae,qac,qad,qan]) only[qbb,qau,qa3,qao,qap,qam,qaf,qaN,qaq,qaz,qaI,qaF,qaa,zK,zL,zN,zO,zG,zF,zP,zV,qa5,zy,zJ,zM,qbZ,Nat.reduceAdd,Nat.reduceSub,qdh,qcz,qbR,qbW,zB,zE,qbH,aW_rep,zE,zB,Nat.reduceAdd,qbB,qcT,qb8,qb9,qcb,qbK,qbw,L32,fill1,hfr,ha1',hfr2,ha2']
    generalize hL:qca L32k4 _ _ _=r
    refine qbJ hL (u4 b) (zs b.length) (by omega) (fun i st hi hI=>u4_round _ _ b hb i hi st hI) ?_ ?_ ?_
    · refine qaU [(2, 0), (7, 0)] rfl (by simp only [qaA, FUEL, qaH, qaD, qaE, qaP, qaK, qaL, zS, zW, zP, zV, zR, zk, zF, zY, za, zD, zt, zo, ze, Nat.reduceEqDiff, zH, zp, zC, zA, zm, zg, zl, ne_eq, zq, qab, qaJ, qaC, qav, qaZ, L32k4, qbd, qbS, qbh]) ?_ ⟨_, rfl, ?_, ?_⟩
      · simp only [L32k4, zG, zF, zE, qa8, qbT, qbk, qaC, qav, qaJ, qa9]
        rfl
      · exact qas (2,0) rfl (by simp only[qab,zD,Nat.reduceEqDiff,zH,zC,zA]) (qbj _ _ _)
      · exact qas (7,0) rfl (by simp only[qab,zD,Nat.reduceEqDiff,zH,zC,zA]) (qaW _ _)
    · rintro st ⟨H, rfl, h0, h1⟩
      apply qbs
      simp (disch:=first|omega|decide|simp only[qai,qag,qak,qaj,qah,qae,qac,qad,qan]) only[qa6,qau,qao,qap,qam,qaf,qaN,qaq,qaz,qaI,qar,qaF,qaB,qaa,qaG,qaw,qat,zK,zL,zN,zO,zJ,zM,Nat.reduceAdd,zB,zE,zT,N_rem,N_neq,decide_not,Nat.reduceAdd,zT,zf,qbi,qaV,qbL,L32b4,e1]
      rfl
    · clear hL
      rintro st ⟨H,rfl,h0,h1⟩ rfl
      rw[←lb_zero] at h1
      simp (disch:=first|omega|decide|simp only[qai,qag,qak,qaj,qah,qae,qac,qad,qan]) only[qa6,qau,qa3,qao,qap,qam,qaf,qaN,qaq,qaz,qaI,qar,qaF,qaB,op_cvt,qaa,qaG,qbc,qaw,qat,zK,zL,zN,zO,zJ,zM,B64_mul,qbZ,Nat.reduceAdd,zC,zB,zE,zT,zE,zB,N_rem,N_neq,cvt_N_64,decide_not,Nat.reduceAdd,zT,zf,qbi,qaV,qbL,qbD,L32b4,e1]
      generalize hL:qca L32k3 _ _ _=r
      refine qbJ hL (u3 b) 8 (by omega) (fun i st hi hI=>u3_round _ _ b hb i hi st hI) ?_ ?_ ?_
      · refine qaU [(1, 0), (1, 1)] rfl (by simp only [qaA, FUEL, qaH, qaD, qaE, qaP, qaK, qcR, qaL, zS, zW, zP, zV, zR, zk, zF, zY, za, zD, zt, zo, ze, zU, zp, zC, zA, zd, zm, zg, zl, ne_eq, zq, qaJ, qaC, qav, qaO, L32k3, h0, h1, qbS, qbh]) rfl ⟨_, by rw [show b.length + (zs b.length + 1 + 0) = b.length + 1 + zs b.length by omega]; rfl, ?_, ?_⟩
        · exact qas (1,0) rfl (by simp only[h0]) (qbj _ _ _)
        · exact qas (1,1) rfl (by simp only[h1]) (qaW _ _)
      · rintro st ⟨H, rfl, h0, h1⟩
        apply qbs
        simp (disch:=first|omega|decide|simp only[qai,qag,qak,qaj,qah,qae,qac,qad,qan]) only[qa6,qau,qao,qap,qam,qaf,qaN,qaq,qaz,qaI,qar,qaF,qaB,qaa,qaG,qaw,qat,zK,zL,zN,zO,zJ,zM,Nat.reduceAdd,zB,zE,zQ,qa2,Nat.reduceAdd,zj,zQ,L32b3]
        rfl
      · clear hL h0 h1
        rintro st ⟨H,rfl,h0,h1⟩ rfl
        have hl8:=lb_length b 8
        obtain ⟨M,hM⟩:∃ M,M=lb b 8:=⟨_,rfl⟩
        rw[←hM] at h1 hl8
        have hMd:dig b=outB (absN M ini (M.length / 64)):=by rw[hM]; rfl
        rw[←hl8]
        simp (disch:=first|omega|decide|simp only[nms_B8,qcy,qcR,nms_I,qaO,nms_Bo,nms_Un,qaL,nms_Hf,qaP,qaK,qbF,qbU,qci,qck,zS,zW,zP,zR,ren_B8,qcX,qcY,ren_I,ren_N,ren_Bo,ren_Un,qa9,ren_Hf,qbM,qcd,qcj,qcl,zG,zF,ren7_I,ren7_N,qc0,qc1,qcE,qcF,nms7_I,nms7_N,qc2,qc3,qcG,qcH,qc4,qc5,implies_true,l44,l45,qai,qbh,qaW,qbd,qa8,qag,qak,qaj,qah,qae,qac,qad,qan]) only[qa6,qau,qa3,qao,qap,qam,qaf,qaN,qaq,qa7,qaz,qaI,qar,qaF,qaB,qa1,qaT,qaa,qaG,qbc,qaw,qat,zK,zL,zN,zO,zF,zJ,zM,qcB,qbZ,Nat.reduceAdd,qab,qdh,qcz,qaX,qbR,qbt,qbf,zC,zB,zE,zQ,aW_st_all,aW_calK,zE,zB,qa2,Nat.reduceAdd,zj,zQ,L32b3,hfirst,aW_st_all]
        generalize hL:qca L32k2 _ _ _=r
        refine qbJ hL (u2 M) (M.length / 64) (by omega) (fun i st hi hI=>u2_round _ _ (by omega) hblk M (by omega) i (by omega) st hI) ?_ ?_ ?_
        · refine qaU [(1, 0), (1, 1), (5, 0)] rfl (by simp only [qaA, FUEL, qaH, qaD, qaE, qaP, qaK, qaL, zS, zW, zP, zV, zR, zk, zF, zY, za, zD, zt, zo, ze, Nat.reduceEqDiff, zH, zU, zp, zC, zA, zd, zi, zm, zg, zl, ne_eq, zq, qab, qaJ, qaC, qav, qaO, L32k2, h0, h1, qbS, aW_nms, qbh]) rfl ⟨_, rfl, ?_, ?_, ?_⟩
          · exact qas (1,0) rfl (by simp only[qab,zD,Nat.reduceEqDiff,zH,zA,h0]) (qbj _ _ _)
          · exact qas (1,1) rfl (by simp only[qab,zD,Nat.reduceEqDiff,zX,zA,zd,h1]) (qaW _ _)
          · exact qas (5,0) rfl (by simp only[qab,zC,absN]) (qcA _ _ _)
        · rintro st ⟨H, rfl, h0, h1, h2⟩
          have e2:¬ 64*(M.length / 64) < M.length:=by omega
          apply qbs
          simp (disch:=first|omega|decide|simp only[qai,qag,qak,qaj,qah,qae,qac,qad,qan]) only[qa6,qau,qao,qap,qam,qaf,qaN,qaq,qaz,qar,qaF,qaB,qaa,qaG,qaw,qat,zK,zL,zN,zO,zJ,zM,Nat.reduceAdd,zB,zE,zQ,qa2,Nat.reduceAdd,zQ,qbi,qaV,qbL,L32b2,e2]
          rfl
        · clear hL h0 h1
          rintro st ⟨H,rfl,h0,h1,h2⟩ rfl
          have e2:¬ 64*(M.length / 64) < M.length:=by omega
          rw[hMd]
          generalize absN M ini (M.length / 64)=s at *
          simp (disch:=first|omega|decide|simp only[qai,qag,qak,qaj,qah,qae,qac,qad,qan]) only[qa6,qau,qa3,qao,qap,qam,qaf,qaN,qaq,qaz,qaI,qar,qaF,qaB,qaa,qaG,qbc,qaw,qat,zK,zL,zN,zO,zJ,zM,qbZ,Nat.reduceAdd,qdh,qbR,zC,zB,zE,zQ,qbH,zE,zB,qa2,Nat.reduceAdd,zQ,qbi,qaV,qbL,L32b2,e2]
          generalize hL:qca L32k0 _ _ _=r
          refine qbJ hL (u0 s) 32 (by omega) (fun i st hi hI=>u0_round _ _ s i hi st hI) ?_ ?_ ?_
          · refine qaU [(1, 0), (1, 2), (6, 0)] rfl (by simp only [qaA, FUEL, qaH, qaD, qaE, qaP, qaL, zS, zW, zP, zV, zR, zk, zF, zY, za, zD, zt, zo, ze, Nat.reduceEqDiff, zH, zU, zp, zC, zA, zd, zm, zg, zl, ne_eq, zq, qab, qaJ, qaC, qav, qaO, L32k0, h0, h2, qbS, aW_nms]) rfl ⟨_, rfl, ?_, ?_, ?_⟩
            · exact qas (1,0) rfl (by simp only[qab,zD,Nat.reduceEqDiff,zH,zA,h0]) (qbj _ _ _)
            · exact qas (1,2) rfl (by simp only[qab,zD,Nat.reduceEqDiff,zX,zA,h2]) (qcA _ _ _)
            · rw [show cutP (outB s) 0 = fun _ => 0#8 by funext x; simp [cutP]]
              exact qas (6,0) rfl (by simp only[qab,zC]) (qbj _ _ _)
          · rintro st ⟨H, rfl, h0, h1, h2⟩
            apply qbs
            simp (disch:=first|omega|decide|simp only[qai,qag,qak,qaj,qah,qae,qac,qad,qan]) only[qa6,qau,qao,qap,qam,qaf,qaN,qaq,qaz,qaI,qar,qaF,qaB,qaa,qaG,qaw,qat,zK,zL,zN,zO,zJ,zM,Nat.reduceAdd,zB,zE,zQ,qa2,Nat.reduceAdd,zj,zQ,L32b0]
            rfl
          · rintro st ⟨H, rfl, h0, h1, h2⟩ rfl
            have e:aB 32 (cutP (outB s) 32)=aB 32 (outB s):=aB_ext 32 fun j hj=>by simp only[cutP,if_pos hj]
            rw[e] at h2
            simp (disch:=first|omega|decide|simp only[qai,qag,qak,qaj,qah,qae,qac,qad,qan]) only[qbp,qa6,qau,qao,qap,qam,qaf,qaN,qaq,qa7,qaz,qaI,qar,qaF,qaB,qaa,qaG,qbc,qaw,qat,qbg,zK,zL,zN,zO,zJ,zM,zI,Nat.reduceAdd,qab,qcz,qaX,qaQ,qb6,op_ld,qbt,qbf,zC,zB,zE,zQ,resVal_agg,aggV_some,qbP,qbm,aB_outOf,zE,zB,qa2,Nat.reduceAdd,zj,zQ,zI,L32b0,h0,h2]
  · have hfr2 := front_bytes (H := upd (upd (upd (upd (qcV []) (2, 0) (some (aB 32 fun _ => 0#8))) (3, 0) (some [])) (5, 0) (some (bs b))) (6, 0) (some (bs [128#8]))) (6, 0) 0 1 (some 1) [128#8] rfl (by simp)
    have ha2':=ha2 (upd (upd (upd (upd (qcV []) (2,0) (some (aB 32 fun _=>0#8))) (3,0) (some [])) (5,0) (some (bs b))) (6,0) (some (bs [128#8]))) rfl
    simp only[z8,zzK,zzB] at hfr2
    simp (disch:=first|omega|decide|simp only[qai,qag,qak,qaj,qah,qae,qac,qad,qan]) only[qbb,qau,qa3,qao,qap,qam,qaf,qaN,qaq,qaz,qaI,qaF,qaa,zK,zL,zN,zO,zG,zF,zP,zV,qa5,zy,zJ,zM,qbZ,Nat.reduceAdd,Nat.reduceSub,qdh,qbR,qbW,zB,zE,qbH,aW_rep,zE,zB,Nat.reduceAdd,qbB,qcT,qb8,qb9,qcb,qbK,qbw,stepK_nm,L32,fill1,hfr,ha1',hfr2,ha2']
    generalize hL:qca L32k4 _ _ _=r
    refine qbJ hL (u4 b) (zs b.length) (by omega) (fun i st hi hI=>u4_round _ _ b hb i hi st hI) ?_ ?_ ?_
    · refine qaU [(2, 0), (7, 0)] rfl (by simp only [qaA, FUEL, qaH, qaD, qaE, qaP, qaK, qaL, zS, zW, zP, zV, zR, zk, zF, zY, za, zD, zt, zo, ze, Nat.reduceEqDiff, zH, zp, zC, zA, zm, zg, zl, ne_eq, zq, qab, qaJ, qaC, qav, qaZ, L32k4, qbd, qbS, qbh]) ?_ ⟨_, rfl, ?_, ?_⟩
      · simp only [L32k4, zG, zF, zE, qa8, qbT, qbk, qaC, qav, qaJ, qa9]
        rfl
      · exact qas (2,0) rfl (by simp only[qab,zD,Nat.reduceEqDiff,zH,zC,zA]) (qbj _ _ _)
      · exact qas (7,0) rfl (by simp only[qab,zD,Nat.reduceEqDiff,zH,zC,zA]) (qaW _ _)
    · rintro st ⟨H, rfl, h0, h1⟩
      apply qbs
      simp (disch:=first|omega|decide|simp only[qai,qag,qak,qaj,qah,qae,qac,qad,qan]) only[qa6,qau,qao,qap,qam,qaf,qaN,qaq,qaz,qaI,qar,qaF,qaB,qaa,qaG,qaw,qat,zK,zL,zN,zO,zJ,zM,Nat.reduceAdd,zB,zE,zT,N_rem,N_neq,decide_not,Nat.reduceAdd,zT,zf,qbi,qaV,qbL,L32b4,e1]
      rfl
    · clear hL
      rintro st ⟨H,rfl,h0,h1⟩ rfl
      rw[←lb_zero] at h1
      simp (disch:=first|omega|decide|simp only[qai,qag,qak,qaj,qah,qae,qac,qad,qan]) only[qa6,qau,qa3,qao,qap,qam,qaf,qaN,qaq,qaz,qaI,qar,qaF,qaB,op_cvt,qaa,qaG,qbc,qaw,qat,zK,zL,zN,zO,zJ,zM,B64_mul,qbZ,Nat.reduceAdd,zC,zB,zE,zT,zE,zB,N_rem,N_neq,cvt_N_64,decide_not,Nat.reduceAdd,zT,zf,qbi,qaV,qbL,qbD,L32b4,e1]
      generalize hL:qca L32k3 _ _ _=r
      refine qbJ hL (u3 b) 8 (by omega) (fun i st hi hI=>u3_round _ _ b hb i hi st hI) ?_ ?_ ?_
      · refine qaU [(1, 0), (1, 1)] rfl (by simp only [qaA, FUEL, qaH, qaD, qaE, qaP, qaK, qcR, qaL, zS, zW, zP, zV, zR, zk, zF, zY, za, zD, zt, zo, ze, zU, zp, zC, zA, zd, zm, zg, zl, ne_eq, zq, qaJ, qaC, qav, qaO, L32k3, h0, h1, qbS, qbh]) rfl ⟨_, by rw [show b.length + (zs b.length + 1 + 0) = b.length + 1 + zs b.length by omega]; rfl, ?_, ?_⟩
        · exact qas (1,0) rfl (by simp only[h0]) (qbj _ _ _)
        · exact qas (1,1) rfl (by simp only[h1]) (qaW _ _)
      · rintro st ⟨H, rfl, h0, h1⟩
        apply qbs
        simp (disch:=first|omega|decide|simp only[qai,qag,qak,qaj,qah,qae,qac,qad,qan]) only[qa6,qau,qao,qap,qam,qaf,qaN,qaq,qaz,qaI,qar,qaF,qaB,qaa,qaG,qaw,qat,zK,zL,zN,zO,zJ,zM,Nat.reduceAdd,zB,zE,zQ,qa2,Nat.reduceAdd,zj,zQ,L32b3]
        rfl
      · clear hL h0 h1
        rintro st ⟨H,rfl,h0,h1⟩ rfl
        have hl8:=lb_length b 8
        obtain ⟨M,hM⟩:∃ M,M=lb b 8:=⟨_,rfl⟩
        rw[←hM] at h1 hl8
        have hMd:dig b=outB (absN M ini (M.length / 64)):=by rw[hM]; rfl
        rw[←hl8]
        simp (disch:=first|omega|decide|simp only[nms_B8,qcy,qcR,nms_I,qaO,nms_Bo,nms_Un,qaL,nms_Hf,qaP,qaK,qbF,qbU,qci,qck,zS,zW,zP,zR,ren_B8,qcX,qcY,ren_I,ren_N,ren_Bo,ren_Un,qa9,ren_Hf,qbM,qcd,qcj,qcl,zG,zF,ren7_I,ren7_N,qc0,qc1,qcE,qcF,nms7_I,nms7_N,qc2,qc3,qcG,qcH,qc4,qc5,implies_true,l44,l45,qai,qbh,qaW,qbd,qa8,qag,qak,qaj,qah,qae,qac,qad,qan]) only[qa6,qau,qa3,qao,qap,qam,qaf,qaN,qaq,qa7,qaz,qaI,qar,qaF,qaB,qa1,qaT,qaa,qaG,qbc,qaw,qat,zK,zL,zN,zO,zF,zJ,zM,qcB,qbZ,Nat.reduceAdd,qab,qdh,qcz,qaX,qbR,qbt,qbf,zC,zB,zE,zQ,aW_st_all,aW_calK,zE,zB,qa2,Nat.reduceAdd,zj,zQ,L32b3,hfirst,aW_st_all]
        generalize hL:qca L32k2 _ _ _=r
        refine qbJ hL (u2 M) (M.length / 64) (by omega) (fun i st hi hI=>u2_round _ _ (by omega) hblk M (by omega) i (by omega) st hI) ?_ ?_ ?_
        · refine qaU [(1, 0), (1, 1), (5, 0)] rfl (by simp only [qaA, FUEL, qaH, qaD, qaE, qaP, qaK, qaL, zS, zW, zP, zV, zR, zk, zF, zY, za, zD, zt, zo, ze, Nat.reduceEqDiff, zH, zU, zp, zC, zA, zd, zi, zm, zg, zl, ne_eq, zq, qab, qaJ, qaC, qav, qaO, L32k2, h0, h1, qbS, aW_nms, qbh]) rfl ⟨_, rfl, ?_, ?_, ?_⟩
          · exact qas (1,0) rfl (by simp only[qab,zD,Nat.reduceEqDiff,zH,zA,h0]) (qbj _ _ _)
          · exact qas (1,1) rfl (by simp only[qab,zD,Nat.reduceEqDiff,zX,zA,zd,h1]) (qaW _ _)
          · exact qas (5,0) rfl (by simp only[qab,zC,absN]) (qcA _ _ _)
        · rintro st ⟨H, rfl, h0, h1, h2⟩
          have e2:¬ 64*(M.length / 64) < M.length:=by omega
          apply qbs
          simp (disch:=first|omega|decide|simp only[qai,qag,qak,qaj,qah,qae,qac,qad,qan]) only[qa6,qau,qao,qap,qam,qaf,qaN,qaq,qaz,qar,qaF,qaB,qaa,qaG,qaw,qat,zK,zL,zN,zO,zJ,zM,Nat.reduceAdd,zB,zE,zQ,qa2,Nat.reduceAdd,zQ,qbi,qaV,qbL,L32b2,e2]
          rfl
        · clear hL h0 h1
          rintro st ⟨H,rfl,h0,h1,h2⟩ rfl
          have e2:¬ 64*(M.length / 64) < M.length:=by omega
          rw[hMd]
          generalize absN M ini (M.length / 64)=s at *
          simp (disch:=first|omega|decide|simp only[qai,qag,qak,qaj,qah,qae,qac,qad,qan]) only[qa6,qau,qa3,qao,qap,qam,qaf,qaN,qaq,qaz,qaI,qar,qaF,qaB,qaa,qaG,qbc,qaw,qat,zK,zL,zN,zO,zJ,zM,qbZ,Nat.reduceAdd,qdh,qbR,zC,zB,zE,zQ,qbH,zE,zB,qa2,Nat.reduceAdd,zQ,qbi,qaV,qbL,L32b2,e2]
          generalize hL:qca L32k0 _ _ _=r
          refine qbJ hL (u0 s) 32 (by omega) (fun i st hi hI=>u0_round _ _ s i hi st hI) ?_ ?_ ?_
          · refine qaU [(1, 0), (1, 2), (6, 0)] rfl (by simp only [qaA, FUEL, qaH, qaD, qaE, qaP, qaL, zS, zW, zP, zV, zR, zk, zF, zY, za, zD, zt, zo, ze, Nat.reduceEqDiff, zH, zU, zp, zC, zA, zd, zm, zg, zl, ne_eq, zq, qab, qaJ, qaC, qav, qaO, L32k0, h0, h2, qbS, aW_nms]) rfl ⟨_, rfl, ?_, ?_, ?_⟩
            · exact qas (1,0) rfl (by simp only[qab,zD,Nat.reduceEqDiff,zH,zA,h0]) (qbj _ _ _)
            · exact qas (1,2) rfl (by simp only[qab,zD,Nat.reduceEqDiff,zX,zA,h2]) (qcA _ _ _)
            · rw [show cutP (outB s) 0 = fun _ => 0#8 by funext x; simp [cutP]]
              exact qas (6,0) rfl (by simp only[qab,zC]) (qbj _ _ _)
          · rintro st ⟨H, rfl, h0, h1, h2⟩
            apply qbs
            simp (disch:=first|omega|decide|simp only[qai,qag,qak,qaj,qah,qae,qac,qad,qan]) only[qa6,qau,qao,qap,qam,qaf,qaN,qaq,qaz,qaI,qar,qaF,qaB,qaa,qaG,qaw,qat,zK,zL,zN,zO,zJ,zM,Nat.reduceAdd,zB,zE,zQ,qa2,Nat.reduceAdd,zj,zQ,L32b0]
            rfl
          · rintro st ⟨H, rfl, h0, h1, h2⟩ rfl
            have e:aB 32 (cutP (outB s) 32)=aB 32 (outB s):=aB_ext 32 fun j hj=>by simp only[cutP,if_pos hj]
            rw[e] at h2
            simp (disch:=first|omega|decide|simp only[qai,qag,qak,qaj,qah,qae,qac,qad,qan]) only[qbp,qa6,qau,qao,qap,qam,qaf,qaN,qaq,qa7,qaz,qaI,qar,qaF,qaB,qaa,qaG,qbc,qaw,qat,qbg,zK,zL,zN,zO,zJ,zM,zI,Nat.reduceAdd,qab,qcz,qaX,qaQ,qb6,op_ld,qbt,qbf,zC,zB,zE,zQ,resVal_agg,aggV_some,qbP,qbm,aB_outOf,zE,zB,qa2,Nat.reduceAdd,zj,zQ,zI,L32b0,h0,h2]
end Sha
namespace Sha
open Go Go.LE
def w0C (s:Nat→BitVec 32) (n:Nat) (i:Nat) (st:St):Prop := ∃ (H:Heap),st=⟨[.ptr (0,0) 0,.undef,.undef,.undef,N 0,.undef,.undef,.undef,.undef,.undef,.undef,.undef,.undef,.undef,.undef,.undef,.undef,.undef,.undef,.undef,.undef,.undef,.undef,.undef,.undef,.undef,.undef,.undef,.undef,.undef,.undef,.undef,.undef,.undef,.undef,.undef,.undef,.undef,.undef,.undef,.undef,.undef,.undef,.undef,.undef,.undef,.undef,.undef,.undef,.undef,.undef,.undef,.undef,.undef,.undef,.undef,.undef,.undef,.undef,.undef,.undef,.undef,.undef,.undef,.undef,.undef,.undef,.undef,.undef,.undef,.undef,.undef,.undef,.undef],H,2,2⟩∧H (0,0)=some (HsC s (.sl (0,1) 0 0 (some 0) 1) n)∧H (0,1)=some (bs [])
theorem write0C (k:Nat) (s:Nat→BitVec 32) (n:Nat) (hn:n≤4611686018427387904):F C (k+3) 42 [.ptr (0,0) 0,.isl (bs []) 0] [HsC s (.sl (0,1) 0 0 (some 0) 1) n,bs []]=some (.tup [],[some (HsC s (.sl (0,1) 0 0 (some 0) 1) n),some (bs [])],[]):=by
  rw[qch f42]
  have hfr:∀ H:Heap,front H 1 0 (.isl (bs []) 0)=some (bs []):=fun H=>qdn [] 0 rfl
  have ha:∀ (bn:Nat) (H:Heap),H (0,1)=some (bs [])→appX bn 1 1 0 H [] (bs []) (.sl (0,1) 0 0 (some 0) 1)=some ⟨.sl (0,1) 0 0 (some 0) 1,[],[((0,1),some (bs []))]⟩:=by
    intro bn H h
    simp only[appX,h,qb2]
    rfl
  have ha':=fun (bn:Nat) (x:qaR)=>ha bn (upd (qcV [HsC s (.sl (0,1) 0 0 (some 0) 1) n,bs []]) (0,0) (some x)) rfl
  simp (disch:=first|omega|decide|simp only[qai,qag,qak,qaj,qah,qae,qac,qad,qan]) only[qbb,qba,qau,qa3,qao,qap,qam,qaf,qaN,qaq,qa7,qaz,qaI,qar,qaF,qaB,qaa,qaw,qat,zK,zL,zN,zO,zP,zV,qa5,zy,zJ,zM,qbZ,Nat.reduceAdd,Nat.reduceSub,qab,qcz,qaQ,qbe,qbx,qbt,qbf,op_fa,faV_ptr,zD,zU,zC,zA,zB,zE,zi,zE,zB,qbY,cellsOf_N,Nat.reduceAdd,op_chk,chkV_ptr,eqp_ptr,qbi,qaV,qbD,qcT,qdi,qb8,qb9,qcb,qbn,List.getElem?_cons_zero,L42,Hs_n,Hs_rest,Hs_st9,Hs_st8,hfr,ha']
  generalize hL:qca L42k0 _ _ _=r
  refine qbJ hL (w0C s n) 0 (by omega) (fun i st hi hI=>by omega) ?_ ?_ ?_
  · refine qaU [] rfl (by simp only [qaA, FUEL, qaH, qaD, qaE, qaP, qaK, qaL, zS, zW, zP, zV, zR, zF, zG, zY, za, zD, zt, zo, ze, zU, zp, zzF, zC, zA, zd, zi, zm, zg, zl, ne_eq, z9, qab, qaJ, qaC, qav, qbn, qcP, List.getElem?_cons_zero, List.getElem?_cons_succ, qaO, L42k0, qdb, qbh]) rfl ⟨_, rfl, ?_, ?_⟩
    · rw [qcm]
      simp (disch:=first|omega|decide|simp only[qai,qag,qak,qaj,qah,qae,qac,qad,qan]) only[zI,qab,zD,zU,zC,zA,zi,qcM,zI,qbn,List.getElem?_cons_zero,qbk,qbX,qcu]
    · rw [qcm]
      simp (disch:=first|omega|decide|simp only[qai,qag,qak,qaj,qah,qae,qac,qad,qan]) only[zI,qab,zD,zU,zC,zA,zd,zI,qaW,qbn,List.getElem?_cons_zero,List.getElem?_cons_succ]
  · rintro st ⟨H, rfl, h0, h1⟩
    apply qbs
    simp (disch:=first|omega|decide|simp only[qai,qag,qak,qaj,qah,qae,qac,qad,qan]) only[qa6,qau,qao,qap,qam,qaf,qaN,qaq,qaz,qaI,qar,qaF,qaB,qaa,qaG,qaw,qat,zK,zL,zN,zO,zJ,zM,Nat.reduceAdd,qaQ,qbe,qbx,op_fa,faV_ptr,Nat.reduceLeDiff,zB,zE,zQ,N_sub,N_geq,Nat.reduceLeDiff,Nat.reduceAdd,zQ,op_chk,chkV_ptr,qbi,qaV,qbL,Nat.sub_zero,L42b0,h0,Hs_rest]
    rfl
  · rintro st ⟨H, rfl, h0, h1⟩ rfl
    have hcp:∀ H:Heap,cpK 1 H (.sl (0,1) 0 0 (some 0) 1) (.sl (0,1) 0 0 (some 0) 1) (some 0)=some ⟨N 0,[],[]⟩:=fun H=>rfl
    simp (disch:=first|omega|decide|simp only[qai,qag,qak,qaj,qah,qae,qac,qad,qan]) only[qa6,qau,qao,qap,qam,qaf,qaN,qaq,qa7,qaz,qaI,qar,qaF,qaB,qaa,qaG,qbc,qaw,qat,retK_normal,zK,zL,zN,zO,zP,zV,zJ,zM,zI,Nat.reduceAdd,Nat.reduceSub,qcz,qaQ,qbe,qbx,qbt,qbf,op_fa,faV_ptr,zw,zx,zh,Nat.reduceLeDiff,Nat.reduceLT,zC,zB,zE,zT,zQ,zZ,zE,zB,N_sub,N_geq,qbO,Nat.reduceLT,Nat.reduceLeDiff,Nat.reduceAdd,zQ,zT,zu,zf,op_chk,chkV_ptr,qbi,qaV,qbL,qbB,qdi,op_copy,qcw,qdc,op_slcS,slcV_cap,qdd,zI,Nat.sub_zero,zZ,resVal_none,qbz,qb3,ordK_pure,qbE,qcr,touch_copy,qaP,za,zY,zz,z6,z0,ordOk,qbv,zw,zx,Nat.testBit,Nat.reduceShiftRight,Nat.reduceAnd,Nat.reduceBEq,zf,zu,z7,zh,Nat.reduceSub,Nat.reduceLT,bne,qbN,qcp,qbI,qcf,isCall_copy,zh,L42b0,h0,Hs_rest,Hs_st8,hcp,qaK]
    rw[qcc 2 _ _ [] (by simp only[qaA,FUEL,qaH,qaD,qaE,qaK,zS,zW,zP,zV,zR,zF,zG,zY,za,zD,zt,zo,ze,zU,zp,zzF,zC,zA,zd,zm,zg,zl,ne_eq,z9,qab,qcP,qdb,qbh,nms_tup0,h0,h1])]
    simp (disch:=first|omega|decide|simp only[qai,qag,qak,qaj,qah,qae,qac,qad,qan]) only[zG,zF,zI,qab,zD,true_and,zC,zA,zd,qcM,zzC,zI,qaW,qcP,qbk,qbX,ren_tup0,qcu,h1]
structure RF (len:Nat) (c:Option Nat) (l rest:List (BitVec 8)):Prop where
  le:len≤l.length
  tk:l.take len=rest
  cap:c=none∨(c=some 0∧l=[])
def stN (b:List (BitVec 8)):Nat→BitVec 32:=absN b ini (b.length / 64)
def rsN (b:List (BitVec 8)):List (BitVec 8):=b.drop (64*(b.length / 64))
theorem rsN_length (b:List (BitVec 8)):(rsN b).length=b.length - 64*(b.length / 64):=zzG
theorem stN_append (b f:List (BitVec 8)):absN (rsN b++f) (stN b) ((rsN b++f).length / 64)=stN (b++f):=absN_two b f ini (b.length / 64) (by omega)
theorem rsN_append (b f:List (BitVec 8)):(rsN b++f).drop (64*((rsN b++f).length / 64))=rsN (b++f):=by
  have e1:(b++f).drop (64*(b.length / 64))=rsN b++f:=List.drop_append_of_le_length (by omega)
  have e2:(b++f).length / 64=b.length / 64+(rsN b++f).length / 64:=by
    rw[zzI,zzI,rsN_length]; omega
  show _=(b++f).drop (64*((b++f).length / 64))
  rw[e2,Nat.mul_add,←List.drop_drop,e1]
theorem dig_rs (b:List (BitVec 8)):dig b=outB (absN (rsN b++fb b.length 8) (stN b) ((rsN b++fb b.length 8).length / 64)):=by
  rw[stN_append]; rfl
structure HG (H:Heap) (fN rN:Nm) (b:List (BitVec 8)):Prop where
  ne:fN≠rN
  ex:∃ c l,RF (rsN b).length c l (rsN b)∧H fN=some (HsC (stN b) (.sl rN 0 (rsN b).length c 1) b.length)∧H rN=some (bs l)
theorem HG.congr {H H':Heap} {fN rN:Nm} {b:List (BitVec 8)} (h:HG H fN rN b) (h1:H' fN=H fN) (h2:H' rN=H rN):HG H' fN rN b:=by
  obtain ⟨hne,c,l,hr,e1,e2⟩:=h
  exact ⟨hne,c,l,hr,h1.trans e1,h2.trans e2⟩
theorem HG.upd {H:Heap} {fN rN n:Nm} {b:List (BitVec 8)} {x:Option qaR} (h:HG H fN rN b) (h1:fN≠n) (h2:rN≠n):HG (upd H n x) fN rN b :=
  h.congr (by rw[qab,if_neg h1]) (by rw[qab,if_neg h2])
def H0 (H:Heap) (fN:Nm):Prop:=H fN=some (HsC ini Nil 0)
theorem upd_id {H:Heap} {n:Nm} {x:Option qaR} (h:H n=x):upd H n x=H:=by
  funext m
  rw[qab]
  split
  · rename_i e; subst e; exact h.symm
  · rfl
theorem write_Z {K b:Nat} {H:Heap} {fN rN:Nm} {B:LV} {bb all:List (BitVec 8)} {r:Option Out} (hc:qb1 (envC C K) H b 42 [.ptr fN 0,B]=r) (h:HG H fN rN all) (hB:Lent H B bb [fN,rN])
    (hlen:all.length+bb.length≤211106232000000) (hK:(all.length+bb.length) / 64+200≤K) (hf:fN.1≠b) (hr:rN.1≠b) :
    ∃ rN' news ms H2,r=some ⟨.tup [],news,ms⟩∧updN b 0 news (modN ms H)=H2∧HG H2 fN rN' (all++bb)∧(rN'=(b,0)∨(rN'=rN∧bb=[]))∧(∃ z:Option (List (BitVec 8)),H2 rN=z.map bs)∧∀ m,m≠fN→m≠rN→m.1≠b→H2 m=H m:=by
  subst hc
  obtain ⟨hne,c,l,⟨hle,htk,hcap⟩,h1,h2⟩:=h
  have hrl:=rsN_length all
  have hal:(rsN all++bb).length=(rsN all).length+bb.length:=zzI
  have fin : ∀ (z : Option (List (BitVec 8))) (l' : List (BitVec 8)), l'.take ((rsN all ++ bb).length - 64 * ((rsN all ++ bb).length / 64)) = (rsN all ++ bb).drop (64 * ((rsN all ++ bb).length / 64)) → (rsN all ++ bb).length - 64 * ((rsN all ++ bb).length / 64) ≤ l'.length →
      F C K 42 [.ptr (0, 0) 0, .isl (bs bb) bb.length] [HsC (stN all) (.sl (0, 1) 0 (rsN all).length c 1) all.length, bs l] =
        some (.tup [],[some (HsC (absN (rsN all++bb) (stN all) ((rsN all++bb).length / 64)) (.sl (1,0) 0 ((rsN all++bb).length - 64*((rsN all++bb).length / 64)) none 1) (all.length+bb.length)),z.map bs],[bs l']) →
      ∃ rN' news ms H2,qb1 (envC C K) H b 42 [.ptr fN 0,B]=some ⟨.tup [],news,ms⟩∧updN b 0 news (modN ms H)=H2∧HG H2 fN rN' (all++bb)∧(rN'=(b,0)∨(rN'=rN∧bb=[]))∧(∃ z:Option (List (BitVec 8)),H2 rN=z.map bs)∧∀ m,m≠fN→m≠rN→m.1≠b→H2 m=H m:=by
    intro z l' ht hl hw
    have hcall:=write_callG K b H fN rN _ _ _ _ _ _ c B bb l l' z h1 h2 hne hB hw
    refine ⟨(b,0),_,_,_,hcall,rfl,⟨?_,none,l',?_,?_,?_⟩,.inl rfl,⟨z,?_⟩,?_⟩
    · intro e; exact hf (by rw[e])
    · rw[←rsN_append,zzG]; exact ⟨hl,ht,.inl rfl⟩
    · simp only [qaM, qax, qa0, qay, qab, if_neg (show fN ≠ (b, 0) by intro e; exact hf (by rw [e])), zC]
      rw[←stN_append,←rsN_append,zzG]
      simp only[zzI]
    · simp only[qaM,qax,qab,zC]
    · simp only[qaM,qax,qa0,qay,qab,if_neg (show rN≠(b,0) by intro e; exact hr (by rw[e])),if_neg (show rN≠fN from fun e=>hne e.symm),zC]
    · intro m a1 a2 a3
      simp only[qaM,qax,qa0,qay,qab,if_neg a1,if_neg a2,if_neg (show m≠(b,0) by intro e; exact a3 (by rw[e]))]
  rcases hcap with rfl | ⟨rfl,rfl⟩
  · obtain ⟨l', hw, ht, hl⟩ := writeB (K - (rsN all ++ bb).length / 64 - 100) (stN all) all.length (rsN all).length l hle bb (rsN all ++ bb) (by rw [htk]) (by omega) (by omega)
    rw[show K - (rsN all++bb).length / 64 - 100+(rsN all++bb).length / 64+100=K by omega] at hw
    exact fin none l' ht hl hw
  · have hr0 : rsN all = [] := by rw [← htk]; simp
    have hl0:(rsN all).length=0:=by rw[hr0]; rfl
    by_cases hb0:bb=[]
    · subst hb0
      have hw:=write0C (K - 3) (stN all) all.length (by omega)
      rw[show K - 3+3=K by omega] at hw
      obtain ⟨lent,hs,hln⟩:=hB.snap
      have hcc:([fN]:List Nm).contains rN=false:=by simp; exact fun e=>hne e.symm
      rw[hl0] at h1
      have hre:reach H FUEL [] [fN]=[fN,rN]:=by
        simp only[FUEL,qaH,zY,ze,zA,h1,qaD,qdb,qaK,zP,zV,hcc,h2,qbh,qaE]
      have hcall:qb1 (envC C K) H b 42 [.ptr fN 0,B]=some ⟨.tup [],[],[(fN,some (HsC (stN all) (.sl rN 0 0 (some 0) 1) all.length)),(rN,some (bs []))]⟩:=by
        rw[callOp_L,lend_w K H fN B [] lent hs,callL_some]
        have hn:([.ptr fN 0,.isl (bs []) ([]:List (BitVec 8)).length]:List LV).flatMap (nms D)=[fN]:=by
          simp only[zS,zW,qaP,qbd,zR]
        rw[hn,hre,callN_eq _ _ _ _ _ hln,show ([fN,rN]:List Nm).filterMap H=[HsC (stN all) (.sl rN 0 0 (some 0) 1) all.length,bs []] by simp[h1,h2]]
        have ha:([.ptr fN 0,.isl (bs []) ([]:List (BitVec 8)).length]:List LV).map (ren D (qc7 [fN,rN]))=[.ptr (0,0) 0,.isl (bs []) 0]:=by
          simp only[zG,zF,qbT,toCallee_eq,idx0,zI,ptrO_some,qa8,zM]
        have hp:plainRes (.tup [],[some (HsC (stN all) (.sl (0,1) 0 0 (some 0) 1) all.length),some (bs [])],[])=true:=by
          simp[plainRes,noImm_HsC,noImm_bs]; rfl
        rw[ha,zG,zG,zF,qcu,qbk,toCallee_eq,idx1 _ _ _ hne,zI,qbX,qaW,envC_cal,hw,resK_any _ _ _ _ hp,qc9]
        simp only[ren_tup0,qcu,qbk,toCaller_0,List.getElem?_cons_succ,List.getElem?_cons_zero,qbX,zF,qaW,List.zipWith_cons_cons,List.zipWith_nil_left,zI]
      refine ⟨rN,_,_,H,hcall,?_,⟨hne,some 0,[],?_,?_,?_⟩,.inr ⟨rfl,rfl⟩,⟨some [],h2⟩,fun _ _ _ _=>rfl⟩
      · simp only [qax, qa0, qay]
        rw[upd_id h2,upd_id h1]
      · rw[zR,hr0]; exact ⟨Nat.le_refl _,rfl,.inr ⟨rfl,rfl⟩⟩
      · rw[zR,hl0]; exact h1
      · exact h2
    · obtain ⟨l', hw, ht, hl⟩ := writeC (K - (rsN all ++ bb).length / 64 - 100) (stN all) all.length bb (rsN all ++ bb) (by rw [hr0, zP]) hb0 (by omega) (by omega)
      rw[show K - (rsN all++bb).length / 64 - 100+(rsN all++bb).length / 64+100=K by omega] at hw
      refine fin (some []) l' ht hl ?_
      rw[hl0]
      exact hw
theorem write_G {K b:Nat} {H:Heap} {fN rN:Nm} {B:LV} {bb all:List (BitVec 8)} {r:Option Out} (hc:qb1 (envC C K) H b 42 [.ptr fN 0,B]=r) (h:HG H fN rN all) (hB:Lent H B bb [fN,rN])
    (hlen:all.length+bb.length≤211106232000000) (hK:(all.length+bb.length) / 64+200≤K) (hf:fN.1≠b) (hr:rN.1≠b) :
    ∃ rN' news ms H2,r=some ⟨.tup [],news,ms⟩∧updN b 0 news (modN ms H)=H2∧HG H2 fN rN' (all++bb)∧(rN'=(b,0)∨(rN'=rN∧bb=[]))∧∀ m,m≠fN→m≠rN→m.1≠b→H2 m=H m:=by
  obtain ⟨rN',news,ms,H2,e1,e2,e3,e4,_,e5⟩:=write_Z hc h hB hlen hK hf hr
  exact ⟨rN',news,ms,H2,e1,e2,e3,e4,e5⟩
theorem write_1 {K b:Nat} {H:Heap} {fN:Nm} {B:LV} {bb:List (BitVec 8)} {r:Option Out} (hc:qb1 (envC C K) H b 42 [.ptr fN 0,B]=r) (h:H0 H fN) (hB:Lent H B bb [fN]) (hb:bb≠[])
    (hlen:bb.length≤211106232000000) (hK:bb.length / 64+200≤K) (hf:fN.1≠b) :
    ∃ news ms H2,r=some ⟨.tup [],news,ms⟩∧updN b 0 news (modN ms H)=H2∧HG H2 fN (b,0) bb∧∀ m,m≠fN→m.1≠b→H2 m=H m:=by
  subst hc
  obtain ⟨l',hw,ht,hl⟩:=writeA (K - bb.length / 64 - 100) ini 0 bb bb rfl hb (by omega) (by omega)
  rw[show K - bb.length / 64 - 100+bb.length / 64+100=K by omega] at hw
  simp only[zB] at hw
  have hcall:=write_callA K b H fN _ _ _ _ _ B bb l' h hB hw
  have hne:fN≠(b,0):=by intro e; exact hf (by rw[e])
  refine ⟨_,_,_,hcall,rfl,⟨hne,none,l',?_,?_,?_⟩,?_⟩
  · rw[rsN_length]; exact ⟨hl,ht,.inl rfl⟩
  · simp only [qaM, qax, qa0, qay, qab, if_neg hne, zC]
    rw[rsN_length]; rfl
  · simp only[qaM,qax,qab,zC]
  · intro m a1 a3
    simp only[qaM,qax,qa0,qay,qab,if_neg a1,if_neg (show m≠(b,0) by intro e; exact a3 (by rw[e]))]
theorem sum_G {K b:Nat} {H:Heap} {fN rN:Nm} {all:List (BitVec 8)} {r:Option Out} (hc:qb1 (envC C K) H b 43 [.ptr fN 0]=r) (h:HG H fN rN all) (hlen:all.length≤211106232000000) (hK:300≤K) :
    ∃ x y,r=some ⟨.agg (aB 32 (dig all)),[],[(fN,x),(rN,y)]⟩∧H fN=x∧H rN=y:=by
  subst hc
  obtain ⟨hne,c,l,⟨hle,htk,hcap⟩,h1,h2⟩:=h
  have hrl:=rsN_length all
  have hz:=zs_lt all.length
  have hfl:=fb_length all.length 8
  have hal:(rsN all++fb all.length 8).length=(rsN all).length+(zs all.length+1+8):=by rw[zzI,hfl]
  have hs:F C K 43 [.ptr (0,0) 0] [HsC (stN all) (.sl (0,1) 0 (rsN all).length c 1) all.length,bs l]=some (.agg (aB 32 (dig all)),[some (HsC (stN all) (.sl (0,1) 0 (rsN all).length c 1) all.length),some (bs l)],[]):=by
    rw[dig_rs]
    by_cases h0:rsN all=[]
    · rw [h0, zP, zM]
      have e:K - (fb all.length 8).length / 64 - 101+(fb all.length 8).length / 64+101=K:=by omega
      rcases hcap with rfl | ⟨rfl,rfl⟩
      · have := sumZ (K - (fb all.length 8).length / 64 - 101) (stN all) all.length l (by omega)
        rw[e] at this; exact this
      · have := sumC (K - (fb all.length 8).length / 64 - 101) (stN all) all.length [] (by omega) rfl
        rw[e] at this; exact this
    · rcases hcap with rfl | ⟨rfl, rfl⟩
      · have hp : 0 < (rsN all).length := List.length_pos_iff.2 h0
        have:=sumB (K - (rsN all++fb all.length 8).length / 64 - 101) (stN all) all.length (rsN all).length l (by omega) hle hp (by omega)
        rw[htk,show K - (rsN all++fb all.length 8).length / 64 - 101+(rsN all++fb all.length 8).length / 64+101=K by omega] at this
        exact this
      · exact absurd (by rw[←htk]; simp) h0
  exact ⟨_,_,ptr_callG K b 43 l43 H fN rN _ _ _ _ l h1 h2 hne _ _ [] [] hs (qbM _ _ _) rfl,h1,h2⟩
end Sha
