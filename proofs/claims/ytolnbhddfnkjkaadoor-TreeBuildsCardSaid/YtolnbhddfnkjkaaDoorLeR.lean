/- The document's Build: rounds. (Printed by wip/tools/mkrbuild.py.) -/
import Derived.Test.YtolnbhddfnkjkaaDoorLeZ
import Derived.Test.YtolnbhddfnkjkaaDoorLeY
set_option linter.unusedVariables false
set_option linter.unusedSimpArgs false
namespace Sha
open Go Go.LE
def bf (s:List (BitVec 8)) (i t:Nat):Nat→BitVec 8:=fun x=>if x < t then s.getD (512*i+x) 0#8 else 0#8
theorem bf_zero (s:List (BitVec 8)) (i:Nat):bf s i 0=fun _=>0#8:=by funext x; rw[bf,if_neg (by omega)]
theorem bf_set (s:List (BitVec 8)) (i t:Nat):set1 (bf s i t) t (s.getD (512*i+t) 0#8)=bf s i (t+1):=by
  funext x
  simp only[set1,bf]
  by_cases h:x=t
  · subst h; rw[if_pos rfl,if_pos (by omega)]
  · rw [if_neg h]
    by_cases h1:x < t
    · rw[if_pos h1,if_pos (by omega)]
    · rw[if_neg h1,if_neg (by omega)]
theorem bf_end {s:List (BitVec 8)} {m i ce:Nat} (hs:s.length=32*m) (hc:ce=16∨m≤16*i+ce) (hc2:ce≤16):aB 512 (bf s i (32*ce))=bs (Ab.nd s i):=by
  refine aB_list _ 512 (nd_length hs i) _ (fun x hx => ?_)
  rw[nd_getD _ _ _ hx,bf]
  split
  · rfl
  · rename_i h
    rw[List.getD_eq_getElem?_getD,List.getElem?_eq_none (by omega)]; rfl
theorem iaV_ipt (n size:Nat) (xs:List LV) (j:Nat) (h:j < n):iaV n size (.ipt xs) (some j)=some (.ipt (xs.drop (j*size))):=by simp only[iaV,if_pos h]
theorem byte_ipt (H:Heap) (s:List (BitVec 8)) (p:Nat) (hp:p < s.length):cellAt H 1 (.ipt ((bs s).drop p))=some [B8 (s.getD p 0#8)]:=by
  rw[cellAt_ipt,if_pos (by rw[zzG,qag]; omega),List.drop_eq_getElem_cons (by rw[qag]; exact hp)]
  simp[bs,List.getD_eq_getElem?_getD,List.getElem?_eq_getElem hp]
theorem mk512 (b:Nat):mkK b 1 1 [B8 0#8] (some 512) (some 512)=some ⟨.sl (b,0) 0 512 (some 512) 1,[aB 512 fun _=>0#8],[]⟩:=by
  have h:aB 512 (fun _=>0#8)=bs (List.replicate 512 0#8):=aB_list _ 512 List.length_replicate _ (fun x hx=>by rw[List.getD_eq_getElem?_getD,List.getElem?_replicate,if_pos hx]; rfl)
  rw[mk_bytes _ _ _ (by decide) (by decide) (by decide),h]
theorem napp0 (b:Nat) (H:Heap) (m:Nm) (q:List (BitVec 8)) (h:H m=some [.isl (bs q) 512]):appKz b 1 24 H Nil (.sl m 0 1 (some 1) 1) (some 1)=some ⟨.sl (b,0) 0 1 none 1,[[.isl (bs q) 512]],[]⟩:=by
  rw[appKz_isl _ m 512 (bs q) h,appX_nilz]
theorem napp1 (b:Nat) (H:Heap) (m r:Nm) (i:Nat) (cs:qaR) (q:List (BitVec 8)) (h:H m=some [.isl (bs q) 512]) (hr:H r=some cs) (hi:cs.length=i) (hi2:i≤1000000) :
    appKz b 1 24 H (.sl r 0 i none 1) (.sl m 0 1 (some 1) 1) (some 1)=some ⟨.sl (b,0) 0 (i+1) none 1,[cs++[.isl (bs q) 512]],[(r,none)]⟩:=by
  rw[appKz_isl _ m 512 (bs q) h,appX_rowz _ r i cs _ hr hi (by omega) rfl]
theorem isl1_ren (q:List (BitVec 8)) (π:Nm→Option Nm):([.isl (bs q) 512]:qaR).map (ren D π)=[.isl (bs q) 512]:=by rw[zG,qa8]; rfl
theorem byte_cell (s:List (BitVec 8)) (p:Nat) (hp:p < s.length):cellK p 1 (some (bs s))=some [B8 (s.getD p 0#8)]:=by
  rw[cellK_some,if_pos (by rw[qag]; omega),List.drop_eq_getElem_cons (by rw[qag]; exact hp)]
  simp[bs,List.getD_eq_getElem?_getD,List.getElem?_eq_getElem hp]
def mJ00 (l:List (BitVec 8)) (n Lc:Nat) (lv:List Nat) (s:List (BitVec 8)) (q k i:Nat) (c m:Nat) (st:St):Prop := ∃ (H:Heap),st=⟨[.isl (bs l) n,.undef,.undef,.ptr (1,0) 0,.undef,.sl (1,1) 0 Lc none 1,Nil,.isl (bs l) n,N k,Nil,Nil,N i,.sl (1,2) 0 512 (some 512) 1,N c,N m,.undef,.undef,.undef,.undef,.undef,.undef,.undef,.undef,.undef,.undef,.undef,.undef,.undef,.undef,.undef,.undef,.undef,.undef,.undef,.undef,.undef,.undef,.undef,.undef,.undef,.undef,.undef,.undef,.undef,.undef,.undef,.undef,.undef,.undef,.undef,.undef,.undef,.undef,.undef,.undef,.undef,.undef,.undef,.undef,.undef,.undef,.undef,.undef,.undef,.undef,.undef,.undef,.undef,.undef,.undef,.undef,.undef,.undef,.undef,.undef,.undef,.undef,.undef,.undef,.undef,.undef,.undef,.undef,.undef,.undef,.undef,.undef,.undef,.undef,.undef,.undef,.undef,.undef,.undef,.undef,.undef,.undef,.undef,.undef,.undef],H,2,0⟩∧H (1,0)=some (aB 32 fun _=>0#8)∧H (1,1)=some (ns lv)∧H (1,2)=some (aB 512 (bf s i (32*c+m)))
def cJ00 (l:List (BitVec 8)) (n Lc:Nat) (lv:List Nat) (s:List (BitVec 8)) (q k i:Nat) (c:Nat) (st:St):Prop := ∃ (H:Heap),st=⟨[.isl (bs l) n,.undef,.undef,.ptr (1,0) 0,.undef,.sl (1,1) 0 Lc none 1,Nil,.isl (bs l) n,N k,Nil,Nil,N i,.sl (1,2) 0 512 (some 512) 1,N c,.undef,.undef,.undef,.undef,.undef,.undef,.undef,.undef,.undef,.undef,.undef,.undef,.undef,.undef,.undef,.undef,.undef,.undef,.undef,.undef,.undef,.undef,.undef,.undef,.undef,.undef,.undef,.undef,.undef,.undef,.undef,.undef,.undef,.undef,.undef,.undef,.undef,.undef,.undef,.undef,.undef,.undef,.undef,.undef,.undef,.undef,.undef,.undef,.undef,.undef,.undef,.undef,.undef,.undef,.undef,.undef,.undef,.undef,.undef,.undef,.undef,.undef,.undef,.undef,.undef,.undef,.undef,.undef,.undef,.undef,.undef,.undef,.undef,.undef,.undef,.undef,.undef,.undef,.undef,.undef,.undef,.undef,.undef,.undef,.undef,.undef],H,2,0⟩∧H (1,0)=some (aB 32 fun _=>0#8)∧H (1,1)=some (ns lv)∧H (1,2)=some (aB 512 (bf s i (32*c)))
set_option maxRecDepth 20000 in
theorem m_round00 (K k0:Nat) (l:List (BitVec 8)) (n Lc:Nat) (lv:List Nat) (s:List (BitVec 8)) (q k i:Nat) (hs:s.length=32*q) (hsl:s=l∧q=n) (hi:i≤1000000) (c m:Nat) (hc:c < 16) (hci:16*i+c < q) (hm:m < 32) (st:St) (hI:mJ00 l n Lc lv s q k i c m st) :
    ∃ st1,ev (envC C k0) K L11b0 st=some (.normal,st1)∧mJ00 l n Lc lv s q k i c (m+1) (qby L11k0 st1):=by
  obtain ⟨H,rfl,g0,g1,gb⟩:=hI
  have hlt:32*c+m < 512:=by omega
  have hset:=bf_set s i (32*c+m)
  obtain ⟨rfl,rfl⟩:=hsl
  have hby:=fun (H:Heap)=>byte_ipt H s (512*i+(32*c+m)) (by omega)
  have e1:(16*i+c)*32+m=512*i+(32*c+m):=by omega
  apply Exists.intro
  apply And.intro
  · simp (disch := first | omega | decide | simp only [qai, qag, qak, qaj, qah, qae, qac, qad, qan]) only [qba, qau, qa3, qao, qap, qam, qaf, qaq, qa7, qaz, qaI, qar, qaF, qaB, qaa, qa4, qaw, qaY, zK, zL, zN, zO, zJ, zM, Nat.reduceAdd, qdl, qbe, qbx, qbt, qbf, op_iaA, zB, zE, zT, aB_st, zZ, zE, zB, qbY, N_mul, qa2, qbO, Nat.reduceAdd, zT, qb7, qbG, qbC, qax, qay, qa0, zZ, qal, L11b0, hm, gb, qbG, qbC, iaV_ipt, zZ, zB, List.drop_drop, e1, hby, hset, qal]
    rfl
  · refine qaU [(1, 0), (1, 1), (1, 2)] rfl (by simp only [qaA, FUEL, qaH, qaD, qaE, qaP, qaK, qaL, zS, zW, zP, zV, zR, zk, zF, zY, za, zD, zt, zo, ze, Nat.reduceEqDiff, zU, zp, zC, zA, zd, zm, zg, zl, ne_eq, zq, qab, qaJ, qaC, qav, qaO, qbu, L11k0, g0, g1, gb, qbS, ns_nms, qbd, qaK, qbu, qaO]) ?_ ⟨_, rfl, ?_, ?_, ?_⟩
    · simp only [L11k0, zG, zF, qda, qa8, qbT, qbk, qaC, qav, qaJ, qa9, qa8]
      rfl
    · exact qas (1,0) rfl (by simp only[qab,zD,Nat.reduceEqDiff,zU,zA,g0]) (qbj _ _ _)
    · exact qas (1,1) rfl (by simp only[qab,zD,Nat.reduceEqDiff,zU,zA,g1]) (ns_ren _ _)
    · exact qas (1,2) rfl (by simp only[qab,zC]; try rfl) (qbj _ _ _)
set_option maxRecDepth 20000 in
theorem c_round00 (K k0:Nat) (hK:100≤K) (l:List (BitVec 8)) (n Lc:Nat) (lv:List Nat) (s:List (BitVec 8)) (q k i:Nat) (hs:s.length=32*q) (hsl:s=l∧q=n) (hi:i≤1000000) (hq:q≤1000000) (c:Nat) (hc:c < 16) (hci:16*i+c < q) (st:St) (hI:cJ00 l n Lc lv s q k i c st) :
    ∃ st1,ev (envC C k0) K L11b1 st=some (.normal,st1)∧cJ00 l n Lc lv s q k i (c+1) (qby L11k1 st1):=by
  obtain ⟨H,rfl,g0,g1,gb⟩:=hI
  obtain ⟨rfl,rfl⟩:=hsl
  simp (disch:=first|omega|decide|simp only[qai,qag,qak,qaj,qah,qae,qac,qad,qan]) only[qba,qau,qa3,qao,qap,qam,qaf,qaS,qcC,qaq,qaz,qaI,qar,qb0,qaF,qbr,qaB,qaa,qaw,qaY,zK,zL,zN,zO,zJ,zM,qbZ,Nat.reduceAdd,zB,zE,zT,zE,zB,qbY,N_mul,qa2,Nat.reduceAdd,zT,qbi,qaV,qbD,qax,qay,qal,L11b1,hc,hci,zB,qal]
  generalize hLp:qca L11k0 _ _ _=r
  refine qbJ hLp (mJ00 s q Lc lv s q k i c) 32 (by omega) (fun m st hm hI=>m_round00 _ _ s q Lc lv s q k i hs ⟨rfl,rfl⟩ hi c m hc hci hm st hI) ?_ ?_ ?_
  · refine qaU [(1, 0), (1, 1), (1, 2)] rfl (by simp only [qaA, FUEL, qaH, qaD, qaE, qaP, qaK, qaL, zS, zW, zP, zV, zR, zk, zF, zY, za, zD, zt, zo, ze, Nat.reduceEqDiff, zU, zp, zC, zA, zd, zm, zg, zl, ne_eq, zq, qaJ, qaC, qav, qaO, qbu, L11k0, g0, g1, gb, qbS, ns_nms, qbd, qaK, qbu, qaO]) ?_ ⟨_, rfl, ?_, ?_, ?_⟩
    · simp only [L11k0, zG, zF, qda, qa8, qbT, qbk, qaC, qav, qaJ, qa9, qa8]
      rfl
    · exact qas (1,0) rfl (by simp only[g0]) (qbj _ _ _)
    · exact qas (1,1) rfl (by simp only[g1]) (ns_ren _ _)
    · exact qas (1,2) rfl (by simp only[zE,gb,zE]) (qbj _ _ _)
  · rintro st ⟨H, rfl, g0, g1, gb⟩
    apply qbs
    simp (disch:=first|omega|decide|simp only[qai,qag,qak,qaj,qah,qae,qac,qad,qan]) only[qa6,qau,qao,qap,qam,qaf,qaN,qaq,qaz,qaI,qar,qaF,qaB,qaa,qaG,qaw,qat,zK,zL,zN,zO,zJ,zM,Nat.reduceAdd,zB,zE,zQ,qa2,Nat.reduceAdd,zj,zQ,L11b0,zj]
    rfl
  · rintro st ⟨H, rfl, g0, g1, gb⟩ hr
    subst hr
    rw[show 32*c+32=32*(c+1) by omega] at gb
    simp (disch:=first|omega|decide|simp only[qai,qag,qak,qaj,qah,qae,qac,qad,qan]) only[qa6,qau,qao,qap,qam,qaf,qaN,qaq,qaz,qaI,qar,qaF,qaB,qaa,qaG,qa4,qbc,qaw,qat,zK,zL,zN,zO,zJ,zM,Nat.reduceAdd,zC,zB,zE,zQ,qbY,qa2,Nat.reduceAdd,zj,zQ,L11b0,zj]
    refine ⟨_,rfl,?_⟩
    refine qaU [(1,0),(1,1),(1,2)] rfl (by simp only[qaA,FUEL,qaH,qaD,qaE,qaP,qaK,qaL,zS,zW,zP,zV,zR,zk,zF,zY,za,zD,zt,zo,ze,Nat.reduceEqDiff,zU,zp,zC,zA,zd,zm,zg,zl,ne_eq,zq,qaJ,qaC,qav,qaO,qbu,L11k1,g0,g1,gb,qbS,ns_nms,qbd,qaK,qbu,qaO]) ?_ ⟨_,rfl,?_,?_,?_⟩
    · simp only [L11k1, zG, zF, qda, qa8, qbT, qbk, qaC, qav, qaJ, qa9, qa8]
      rfl
    · exact qas (1,0) rfl (by simp only[g0]) (qbj _ _ _)
    · exact qas (1,1) rfl (by simp only[g1]) (ns_ren _ _)
    · exact qas (1,2) rfl (by simp only[gb]) (qbj _ _ _)
def mJ01 (l:List (BitVec 8)) (n Lc:Nat) (lv:List Nat) (s:List (BitVec 8)) (q k i:Nat) (rn:qaR) (rx:List (BitVec 8)) (c m:Nat) (st:St):Prop := ∃ (H:Heap),st=⟨[.isl (bs l) n,.undef,.undef,.ptr (1,0) 0,.undef,.sl (1,1) 0 Lc none 1,Nil,.isl (bs l) n,N k,.sl (1,2) 0 i none 1,.sl (1,3) 0 i none 32,N i,.sl (1,4) 0 512 (some 512) 1,N c,N m,.undef,.undef,.undef,.undef,.undef,.undef,.undef,.undef,.undef,.undef,.undef,.undef,.undef,.undef,.undef,.undef,.undef,.undef,.undef,.undef,.undef,.undef,.undef,.undef,.undef,.undef,.undef,.undef,.undef,.undef,.undef,.undef,.undef,.undef,.undef,.undef,.undef,.undef,.undef,.undef,.undef,.undef,.undef,.undef,.undef,.undef,.undef,.undef,.undef,.undef,.undef,.undef,.undef,.undef,.undef,.undef,.undef,.undef,.undef,.undef,.undef,.undef,.undef,.undef,.undef,.undef,.undef,.undef,.undef,.undef,.undef,.undef,.undef,.undef,.undef,.undef,.undef,.undef,.undef,.undef,.undef,.undef,.undef,.undef,.undef],H,2,0⟩∧H (1,0)=some (aB 32 fun _=>0#8)∧H (1,1)=some (ns lv)∧H (1,2)=some (rn)∧H (1,3)=some (bs rx)∧H (1,4)=some (aB 512 (bf s i (32*c+m)))
def cJ01 (l:List (BitVec 8)) (n Lc:Nat) (lv:List Nat) (s:List (BitVec 8)) (q k i:Nat) (rn:qaR) (rx:List (BitVec 8)) (c:Nat) (st:St):Prop := ∃ (H:Heap),st=⟨[.isl (bs l) n,.undef,.undef,.ptr (1,0) 0,.undef,.sl (1,1) 0 Lc none 1,Nil,.isl (bs l) n,N k,.sl (1,2) 0 i none 1,.sl (1,3) 0 i none 32,N i,.sl (1,4) 0 512 (some 512) 1,N c,.undef,.undef,.undef,.undef,.undef,.undef,.undef,.undef,.undef,.undef,.undef,.undef,.undef,.undef,.undef,.undef,.undef,.undef,.undef,.undef,.undef,.undef,.undef,.undef,.undef,.undef,.undef,.undef,.undef,.undef,.undef,.undef,.undef,.undef,.undef,.undef,.undef,.undef,.undef,.undef,.undef,.undef,.undef,.undef,.undef,.undef,.undef,.undef,.undef,.undef,.undef,.undef,.undef,.undef,.undef,.undef,.undef,.undef,.undef,.undef,.undef,.undef,.undef,.undef,.undef,.undef,.undef,.undef,.undef,.undef,.undef,.undef,.undef,.undef,.undef,.undef,.undef,.undef,.undef,.undef,.undef,.undef,.undef,.undef,.undef,.undef],H,2,0⟩∧H (1,0)=some (aB 32 fun _=>0#8)∧H (1,1)=some (ns lv)∧H (1,2)=some (rn)∧H (1,3)=some (bs rx)∧H (1,4)=some (aB 512 (bf s i (32*c)))
set_option maxRecDepth 20000 in
theorem m_round01 (K k0:Nat) (l:List (BitVec 8)) (n Lc:Nat) (lv:List Nat) (s:List (BitVec 8)) (q k i:Nat) (rn:qaR) (rx:List (BitVec 8)) (hs:s.length=32*q) (hsl:s=l∧q=n) (hrn1:rn.flatMap (nms D)=[]) (hrn:∀ π,rn.map (ren D π)=rn) (hi:i≤1000000) (c m:Nat) (hc:c < 16) (hci:16*i+c < q) (hm:m < 32) (st:St) (hI:mJ01 l n Lc lv s q k i rn rx c m st) :
    ∃ st1,ev (envC C k0) K L11b0 st=some (.normal,st1)∧mJ01 l n Lc lv s q k i rn rx c (m+1) (qby L11k0 st1):=by
  obtain ⟨H,rfl,g0,g1,gn,gx,gb⟩:=hI
  have hlt:32*c+m < 512:=by omega
  have hset:=bf_set s i (32*c+m)
  obtain ⟨rfl,rfl⟩:=hsl
  have hby:=fun (H:Heap)=>byte_ipt H s (512*i+(32*c+m)) (by omega)
  have e1:(16*i+c)*32+m=512*i+(32*c+m):=by omega
  apply Exists.intro
  apply And.intro
  · simp (disch := first | omega | decide | simp only [qai, qag, qak, qaj, qah, qae, qac, qad, qan]) only [qba, qau, qa3, qao, qap, qam, qaf, qaq, qa7, qaz, qaI, qar, qaF, qaB, qaa, qa4, qaw, qaY, zK, zL, zN, zO, zJ, zM, Nat.reduceAdd, qdl, qbe, qbx, qbt, qbf, op_iaA, zB, zE, zT, aB_st, zZ, zE, zB, qbY, N_mul, qa2, qbO, Nat.reduceAdd, zT, qb7, qbG, qbC, qax, qay, qa0, zZ, qal, L11b0, hm, gb, qbG, qbC, iaV_ipt, zZ, zB, List.drop_drop, e1, hby, hset, qal]
    rfl
  · refine qaU [(1, 0), (1, 1), (1, 2), (1, 3), (1, 4)] rfl (by simp only [qaA, FUEL, qaH, qaD, qaE, qaP, qaK, qaL, zS, zW, zP, zV, zR, zk, zF, zY, za, zD, zt, zo, ze, Nat.reduceEqDiff, zU, zp, zC, zA, zd, zm, zg, zl, ne_eq, zq, qab, qaJ, qaC, qav, qaO, qbu, L11k0, g0, g1, gn, gx, gb, qbS, qbh, ns_nms, qbd, qaK, qbu, qaO, hrn1]) ?_ ⟨_, rfl, ?_, ?_, ?_, ?_, ?_⟩
    · simp only [L11k0, zG, zF, qda, qa8, qbT, qbk, qaC, qav, qaJ, qa9, qa8]
      rfl
    · exact qas (1,0) rfl (by simp only[qab,zD,Nat.reduceEqDiff,zU,zA,g0]) (qbj _ _ _)
    · exact qas (1,1) rfl (by simp only[qab,zD,Nat.reduceEqDiff,zU,zA,g1]) (ns_ren _ _)
    · exact qas (1,2) rfl (by simp only[qab,zD,Nat.reduceEqDiff,zU,zA,gn]) (hrn _)
    · exact qas (1,3) rfl (by simp only[qab,zD,Nat.reduceEqDiff,zU,zA,gx]) (qaW _ _)
    · exact qas (1,4) rfl (by simp only[qab,zC]; try rfl) (qbj _ _ _)
set_option maxRecDepth 20000 in
theorem c_round01 (K k0:Nat) (hK:100≤K) (l:List (BitVec 8)) (n Lc:Nat) (lv:List Nat) (s:List (BitVec 8)) (q k i:Nat) (rn:qaR) (rx:List (BitVec 8)) (hs:s.length=32*q) (hsl:s=l∧q=n) (hrn1:rn.flatMap (nms D)=[]) (hrn:∀ π,rn.map (ren D π)=rn) (hi:i≤1000000) (hq:q≤1000000) (c:Nat) (hc:c < 16) (hci:16*i+c < q) (st:St) (hI:cJ01 l n Lc lv s q k i rn rx c st) :
    ∃ st1,ev (envC C k0) K L11b1 st=some (.normal,st1)∧cJ01 l n Lc lv s q k i rn rx (c+1) (qby L11k1 st1):=by
  obtain ⟨H,rfl,g0,g1,gn,gx,gb⟩:=hI
  obtain ⟨rfl,rfl⟩:=hsl
  simp (disch:=first|omega|decide|simp only[qai,qag,qak,qaj,qah,qae,qac,qad,qan]) only[qba,qau,qa3,qao,qap,qam,qaf,qaS,qcC,qaq,qaz,qaI,qar,qb0,qaF,qbr,qaB,qaa,qaw,qaY,zK,zL,zN,zO,zJ,zM,qbZ,Nat.reduceAdd,zB,zE,zT,zE,zB,qbY,N_mul,qa2,Nat.reduceAdd,zT,qbi,qaV,qbD,qax,qay,qal,L11b1,hc,hci,zB,qal]
  generalize hLp:qca L11k0 _ _ _=r
  refine qbJ hLp (mJ01 s q Lc lv s q k i rn rx c) 32 (by omega) (fun m st hm hI=>m_round01 _ _ s q Lc lv s q k i rn rx hs ⟨rfl,rfl⟩ hrn1 hrn hi c m hc hci hm st hI) ?_ ?_ ?_
  · refine qaU [(1, 0), (1, 1), (1, 2), (1, 3), (1, 4)] rfl (by simp only [qaA, FUEL, qaH, qaD, qaE, qaP, qaK, qaL, zS, zW, zP, zV, zR, zk, zF, zY, za, zD, zt, zo, ze, Nat.reduceEqDiff, zU, zp, zC, zA, zd, zm, zg, zl, ne_eq, zq, qaJ, qaC, qav, qaO, qbu, L11k0, g0, g1, gn, gx, gb, qbS, qbh, ns_nms, qbd, qaK, qbu, qaO, hrn1]) ?_ ⟨_, rfl, ?_, ?_, ?_, ?_, ?_⟩
    · simp only [L11k0, zG, zF, qda, qa8, qbT, qbk, qaC, qav, qaJ, qa9, qa8]
      rfl
    · exact qas (1,0) rfl (by simp only[g0]) (qbj _ _ _)
    · exact qas (1,1) rfl (by simp only[g1]) (ns_ren _ _)
    · exact qas (1,2) rfl (by simp only[gn]) (hrn _)
    · exact qas (1,3) rfl (by simp only[gx]) (qaW _ _)
    · exact qas (1,4) rfl (by simp only[zE,gb,zE]) (qbj _ _ _)
  · rintro st ⟨H, rfl, g0, g1, gn, gx, gb⟩
    apply qbs
    simp (disch:=first|omega|decide|simp only[qai,qag,qak,qaj,qah,qae,qac,qad,qan]) only[qa6,qau,qao,qap,qam,qaf,qaN,qaq,qaz,qaI,qar,qaF,qaB,qaa,qaG,qaw,qat,zK,zL,zN,zO,zJ,zM,Nat.reduceAdd,zB,zE,zQ,qa2,Nat.reduceAdd,zj,zQ,L11b0,zj]
    rfl
  · rintro st ⟨H, rfl, g0, g1, gn, gx, gb⟩ hr
    subst hr
    rw[show 32*c+32=32*(c+1) by omega] at gb
    simp (disch:=first|omega|decide|simp only[qai,qag,qak,qaj,qah,qae,qac,qad,qan]) only[qa6,qau,qao,qap,qam,qaf,qaN,qaq,qaz,qaI,qar,qaF,qaB,qaa,qaG,qa4,qbc,qaw,qat,zK,zL,zN,zO,zJ,zM,Nat.reduceAdd,zC,zB,zE,zQ,qbY,qa2,Nat.reduceAdd,zj,zQ,L11b0,zj]
    refine ⟨_,rfl,?_⟩
    refine qaU [(1,0),(1,1),(1,2),(1,3),(1,4)] rfl (by simp only[qaA,FUEL,qaH,qaD,qaE,qaP,qaK,qaL,zS,zW,zP,zV,zR,zk,zF,zY,za,zD,zt,zo,ze,Nat.reduceEqDiff,zU,zp,zC,zA,zd,zm,zg,zl,ne_eq,zq,qaJ,qaC,qav,qaO,qbu,L11k1,g0,g1,gn,gx,gb,qbS,qbh,ns_nms,qbd,qaK,qbu,qaO,hrn1]) ?_ ⟨_,rfl,?_,?_,?_,?_,?_⟩
    · simp only [L11k1, zG, zF, qda, qa8, qbT, qbk, qaC, qav, qaJ, qa9, qa8]
      rfl
    · exact qas (1,0) rfl (by simp only[g0]) (qbj _ _ _)
    · exact qas (1,1) rfl (by simp only[g1]) (ns_ren _ _)
    · exact qas (1,2) rfl (by simp only[gn]) (hrn _)
    · exact qas (1,3) rfl (by simp only[gx]) (qaW _ _)
    · exact qas (1,4) rfl (by simp only[gb]) (qbj _ _ _)
def mJ10 (l:List (BitVec 8)) (n Lc:Nat) (lv:List Nat) (s:List (BitVec 8)) (q k i:Nat) (ro:qaR) (c m:Nat) (st:St):Prop := ∃ (H:Heap),st=⟨[.isl (bs l) n,.undef,.undef,.ptr (1,0) 0,.undef,.sl (1,1) 0 Lc none 1,.sl (1,2) 0 k none 1,.sl (1,3) 0 q none 32,N k,Nil,Nil,N i,.sl (1,4) 0 512 (some 512) 1,N c,N m,.undef,.undef,.undef,.undef,.undef,.undef,.undef,.undef,.undef,.undef,.undef,.undef,.undef,.undef,.undef,.undef,.undef,.undef,.undef,.undef,.undef,.undef,.undef,.undef,.undef,.undef,.undef,.undef,.undef,.undef,.undef,.undef,.undef,.undef,.undef,.undef,.undef,.undef,.undef,.undef,.undef,.undef,.undef,.undef,.undef,.undef,.undef,.undef,.undef,.undef,.undef,.undef,.undef,.undef,.undef,.undef,.undef,.undef,.undef,.undef,.undef,.undef,.undef,.undef,.undef,.undef,.undef,.undef,.undef,.undef,.undef,.undef,.undef,.undef,.undef,.undef,.undef,.undef,.undef,.undef,.undef,.undef,.undef,.undef,.undef],H,2,0⟩∧H (1,0)=some (aB 32 fun _=>0#8)∧H (1,1)=some (ns lv)∧H (1,2)=some (ro)∧H (1,3)=some (bs s)∧H (1,4)=some (aB 512 (bf s i (32*c+m)))
def cJ10 (l:List (BitVec 8)) (n Lc:Nat) (lv:List Nat) (s:List (BitVec 8)) (q k i:Nat) (ro:qaR) (c:Nat) (st:St):Prop := ∃ (H:Heap),st=⟨[.isl (bs l) n,.undef,.undef,.ptr (1,0) 0,.undef,.sl (1,1) 0 Lc none 1,.sl (1,2) 0 k none 1,.sl (1,3) 0 q none 32,N k,Nil,Nil,N i,.sl (1,4) 0 512 (some 512) 1,N c,.undef,.undef,.undef,.undef,.undef,.undef,.undef,.undef,.undef,.undef,.undef,.undef,.undef,.undef,.undef,.undef,.undef,.undef,.undef,.undef,.undef,.undef,.undef,.undef,.undef,.undef,.undef,.undef,.undef,.undef,.undef,.undef,.undef,.undef,.undef,.undef,.undef,.undef,.undef,.undef,.undef,.undef,.undef,.undef,.undef,.undef,.undef,.undef,.undef,.undef,.undef,.undef,.undef,.undef,.undef,.undef,.undef,.undef,.undef,.undef,.undef,.undef,.undef,.undef,.undef,.undef,.undef,.undef,.undef,.undef,.undef,.undef,.undef,.undef,.undef,.undef,.undef,.undef,.undef,.undef,.undef,.undef,.undef,.undef,.undef,.undef],H,2,0⟩∧H (1,0)=some (aB 32 fun _=>0#8)∧H (1,1)=some (ns lv)∧H (1,2)=some (ro)∧H (1,3)=some (bs s)∧H (1,4)=some (aB 512 (bf s i (32*c)))
set_option maxRecDepth 20000 in
theorem m_round10 (K k0:Nat) (l:List (BitVec 8)) (n Lc:Nat) (lv:List Nat) (s:List (BitVec 8)) (q k i:Nat) (ro:qaR) (hs:s.length=32*q) (hro1:ro.flatMap (nms D)=[]) (hro:∀ π,ro.map (ren D π)=ro) (hi:i≤1000000) (c m:Nat) (hc:c < 16) (hci:16*i+c < q) (hm:m < 32) (st:St) (hI:mJ10 l n Lc lv s q k i ro c m st) :
    ∃ st1,ev (envC C k0) K L11b0 st=some (.normal,st1)∧mJ10 l n Lc lv s q k i ro c (m+1) (qby L11k0 st1):=by
  obtain ⟨H,rfl,g0,g1,go,gh,gb⟩:=hI
  have hlt:32*c+m < 512:=by omega
  have hset:=bf_set s i (32*c+m)
  have hby:=byte_cell s (512*i+(32*c+m)) (by omega)
  have e1:(16*i+c)*32+m=512*i+(32*c+m):=by omega
  have e2:16*i+c < q:=hci
  apply Exists.intro
  apply And.intro
  · simp (disch := first | omega | decide | simp only [qai, qag, qak, qaj, qah, qae, qac, qad, qan]) only [qba, qau, qa3, qao, qap, qam, qaf, qaq, qa7, qaz, qaI, qar, qaF, qaB, qaa, qa4, qaw, qaY, zK, zL, zN, zO, zJ, zM, Nat.reduceAdd, qdl, qaQ, qbe, qbx, qbt, qbf, op_iaA, iaV_lt, zB, zE, zT, aB_st, zZ, zE, zB, qbY, N_mul, qa2, qbO, Nat.reduceAdd, zT, qb7, qbG, qax, qay, qa0, zZ, qal, L11b0, hm, gh, gb, qbG, zZ, zB, e1, hby, hset, qal]
    rfl
  · refine qaU [(1, 0), (1, 1), (1, 2), (1, 3), (1, 4)] rfl (by simp only [qaA, FUEL, qaH, qaD, qaE, qaP, qaK, qaL, zS, zW, zP, zV, zR, zk, zF, zY, za, zD, zt, zo, ze, Nat.reduceEqDiff, zU, zp, zC, zA, zd, zm, zg, zl, ne_eq, zq, qab, qaJ, qaC, qav, qaO, qbu, L11k0, g0, g1, go, gh, gb, qbS, qbh, ns_nms, qbd, qaK, qbu, qaO, hro1]) ?_ ⟨_, rfl, ?_, ?_, ?_, ?_, ?_⟩
    · simp only [L11k0, zG, zF, qda, qa8, qbT, qbk, qaC, qav, qaJ, qa9, qa8]
      rfl
    · exact qas (1,0) rfl (by simp only[qab,zD,Nat.reduceEqDiff,zU,zA,g0]) (qbj _ _ _)
    · exact qas (1,1) rfl (by simp only[qab,zD,Nat.reduceEqDiff,zU,zA,g1]) (ns_ren _ _)
    · exact qas (1,2) rfl (by simp only[qab,zD,Nat.reduceEqDiff,zU,zA,go]) (hro _)
    · exact qas (1,3) rfl (by simp only[qab,zD,Nat.reduceEqDiff,zU,zA,gh]) (qaW _ _)
    · exact qas (1,4) rfl (by simp only[qab,zC]; try rfl) (qbj _ _ _)
set_option maxRecDepth 20000 in
theorem c_round10 (K k0:Nat) (hK:100≤K) (l:List (BitVec 8)) (n Lc:Nat) (lv:List Nat) (s:List (BitVec 8)) (q k i:Nat) (ro:qaR) (hs:s.length=32*q) (hro1:ro.flatMap (nms D)=[]) (hro:∀ π,ro.map (ren D π)=ro) (hi:i≤1000000) (hq:q≤1000000) (c:Nat) (hc:c < 16) (hci:16*i+c < q) (st:St) (hI:cJ10 l n Lc lv s q k i ro c st) :
    ∃ st1,ev (envC C k0) K L11b1 st=some (.normal,st1)∧cJ10 l n Lc lv s q k i ro (c+1) (qby L11k1 st1):=by
  obtain ⟨H,rfl,g0,g1,go,gh,gb⟩:=hI
  simp (disch:=first|omega|decide|simp only[qai,qag,qak,qaj,qah,qae,qac,qad,qan]) only[qba,qau,qa3,qao,qap,qam,qaf,qaS,qcC,qaq,qaz,qaI,qar,qb0,qaF,qbr,qaB,qaa,qaw,qaY,zK,zL,zN,zO,zJ,zM,qbZ,Nat.reduceAdd,zB,zE,zT,zE,zB,qbY,N_mul,qa2,Nat.reduceAdd,zT,qbi,qaV,qbL,qax,qay,qal,L11b1,hc,hci,zB,qal]
  generalize hLp:qca L11k0 _ _ _=r
  refine qbJ hLp (mJ10 l n Lc lv s q k i ro c) 32 (by omega) (fun m st hm hI=>m_round10 _ _ l n Lc lv s q k i ro hs hro1 hro hi c m hc hci hm st hI) ?_ ?_ ?_
  · refine qaU [(1, 0), (1, 1), (1, 2), (1, 3), (1, 4)] rfl (by simp only [qaA, FUEL, qaH, qaD, qaE, qaP, qaK, qaL, zS, zW, zP, zV, zR, zk, zF, zY, za, zD, zt, zo, ze, Nat.reduceEqDiff, zU, zp, zC, zA, zd, zm, zg, zl, ne_eq, zq, qaJ, qaC, qav, qaO, qbu, L11k0, g0, g1, go, gh, gb, qbS, qbh, ns_nms, qbd, qaK, qbu, qaO, hro1]) ?_ ⟨_, rfl, ?_, ?_, ?_, ?_, ?_⟩
    · simp only [L11k0, zG, zF, qda, qa8, qbT, qbk, qaC, qav, qaJ, qa9, qa8]
      rfl
    · exact qas (1,0) rfl (by simp only[g0]) (qbj _ _ _)
    · exact qas (1,1) rfl (by simp only[g1]) (ns_ren _ _)
    · exact qas (1,2) rfl (by simp only[go]) (hro _)
    · exact qas (1,3) rfl (by simp only[gh]) (qaW _ _)
    · exact qas (1,4) rfl (by simp only[zE,gb,zE]) (qbj _ _ _)
  · rintro st ⟨H, rfl, g0, g1, go, gh, gb⟩
    apply qbs
    simp (disch:=first|omega|decide|simp only[qai,qag,qak,qaj,qah,qae,qac,qad,qan]) only[qa6,qau,qao,qap,qam,qaf,qaN,qaq,qaz,qaI,qar,qaF,qaB,qaa,qaG,qaw,qat,zK,zL,zN,zO,zJ,zM,Nat.reduceAdd,zB,zE,zQ,qa2,Nat.reduceAdd,zj,zQ,L11b0,zj]
    rfl
  · rintro st ⟨H, rfl, g0, g1, go, gh, gb⟩ hr
    subst hr
    rw[show 32*c+32=32*(c+1) by omega] at gb
    simp (disch:=first|omega|decide|simp only[qai,qag,qak,qaj,qah,qae,qac,qad,qan]) only[qa6,qau,qao,qap,qam,qaf,qaN,qaq,qaz,qaI,qar,qaF,qaB,qaa,qaG,qa4,qbc,qaw,qat,zK,zL,zN,zO,zJ,zM,Nat.reduceAdd,zC,zB,zE,zQ,qbY,qa2,Nat.reduceAdd,zj,zQ,L11b0,zj]
    refine ⟨_,rfl,?_⟩
    refine qaU [(1,0),(1,1),(1,2),(1,3),(1,4)] rfl (by simp only[qaA,FUEL,qaH,qaD,qaE,qaP,qaK,qaL,zS,zW,zP,zV,zR,zk,zF,zY,za,zD,zt,zo,ze,Nat.reduceEqDiff,zU,zp,zC,zA,zd,zm,zg,zl,ne_eq,zq,qaJ,qaC,qav,qaO,qbu,L11k1,g0,g1,go,gh,gb,qbS,qbh,ns_nms,qbd,qaK,qbu,qaO,hro1]) ?_ ⟨_,rfl,?_,?_,?_,?_,?_⟩
    · simp only [L11k1, zG, zF, qda, qa8, qbT, qbk, qaC, qav, qaJ, qa9, qa8]
      rfl
    · exact qas (1,0) rfl (by simp only[g0]) (qbj _ _ _)
    · exact qas (1,1) rfl (by simp only[g1]) (ns_ren _ _)
    · exact qas (1,2) rfl (by simp only[go]) (hro _)
    · exact qas (1,3) rfl (by simp only[gh]) (qaW _ _)
    · exact qas (1,4) rfl (by simp only[gb]) (qbj _ _ _)
def mJ11 (l:List (BitVec 8)) (n Lc:Nat) (lv:List Nat) (s:List (BitVec 8)) (q k i:Nat) (ro:qaR) (rn:qaR) (rx:List (BitVec 8)) (c m:Nat) (st:St):Prop := ∃ (H:Heap),st=⟨[.isl (bs l) n,.undef,.undef,.ptr (1,0) 0,.undef,.sl (1,1) 0 Lc none 1,.sl (1,2) 0 k none 1,.sl (1,3) 0 q none 32,N k,.sl (1,4) 0 i none 1,.sl (1,5) 0 i none 32,N i,.sl (1,6) 0 512 (some 512) 1,N c,N m,.undef,.undef,.undef,.undef,.undef,.undef,.undef,.undef,.undef,.undef,.undef,.undef,.undef,.undef,.undef,.undef,.undef,.undef,.undef,.undef,.undef,.undef,.undef,.undef,.undef,.undef,.undef,.undef,.undef,.undef,.undef,.undef,.undef,.undef,.undef,.undef,.undef,.undef,.undef,.undef,.undef,.undef,.undef,.undef,.undef,.undef,.undef,.undef,.undef,.undef,.undef,.undef,.undef,.undef,.undef,.undef,.undef,.undef,.undef,.undef,.undef,.undef,.undef,.undef,.undef,.undef,.undef,.undef,.undef,.undef,.undef,.undef,.undef,.undef,.undef,.undef,.undef,.undef,.undef,.undef,.undef,.undef,.undef,.undef,.undef],H,2,0⟩∧H (1,0)=some (aB 32 fun _=>0#8)∧H (1,1)=some (ns lv)∧H (1,2)=some (ro)∧H (1,3)=some (bs s)∧H (1,4)=some (rn)∧H (1,5)=some (bs rx)∧H (1,6)=some (aB 512 (bf s i (32*c+m)))
def cJ11 (l:List (BitVec 8)) (n Lc:Nat) (lv:List Nat) (s:List (BitVec 8)) (q k i:Nat) (ro:qaR) (rn:qaR) (rx:List (BitVec 8)) (c:Nat) (st:St):Prop := ∃ (H:Heap),st=⟨[.isl (bs l) n,.undef,.undef,.ptr (1,0) 0,.undef,.sl (1,1) 0 Lc none 1,.sl (1,2) 0 k none 1,.sl (1,3) 0 q none 32,N k,.sl (1,4) 0 i none 1,.sl (1,5) 0 i none 32,N i,.sl (1,6) 0 512 (some 512) 1,N c,.undef,.undef,.undef,.undef,.undef,.undef,.undef,.undef,.undef,.undef,.undef,.undef,.undef,.undef,.undef,.undef,.undef,.undef,.undef,.undef,.undef,.undef,.undef,.undef,.undef,.undef,.undef,.undef,.undef,.undef,.undef,.undef,.undef,.undef,.undef,.undef,.undef,.undef,.undef,.undef,.undef,.undef,.undef,.undef,.undef,.undef,.undef,.undef,.undef,.undef,.undef,.undef,.undef,.undef,.undef,.undef,.undef,.undef,.undef,.undef,.undef,.undef,.undef,.undef,.undef,.undef,.undef,.undef,.undef,.undef,.undef,.undef,.undef,.undef,.undef,.undef,.undef,.undef,.undef,.undef,.undef,.undef,.undef,.undef,.undef,.undef],H,2,0⟩∧H (1,0)=some (aB 32 fun _=>0#8)∧H (1,1)=some (ns lv)∧H (1,2)=some (ro)∧H (1,3)=some (bs s)∧H (1,4)=some (rn)∧H (1,5)=some (bs rx)∧H (1,6)=some (aB 512 (bf s i (32*c)))
set_option maxRecDepth 20000 in
theorem m_round11 (K k0:Nat) (l:List (BitVec 8)) (n Lc:Nat) (lv:List Nat) (s:List (BitVec 8)) (q k i:Nat) (ro:qaR) (rn:qaR) (rx:List (BitVec 8)) (hs:s.length=32*q) (hro1:ro.flatMap (nms D)=[]) (hro:∀ π,ro.map (ren D π)=ro) (hrn1:rn.flatMap (nms D)=[]) (hrn:∀ π,rn.map (ren D π)=rn) (hi:i≤1000000) (c m:Nat) (hc:c < 16) (hci:16*i+c < q) (hm:m < 32) (st:St) (hI:mJ11 l n Lc lv s q k i ro rn rx c m st) :
    ∃ st1,ev (envC C k0) K L11b0 st=some (.normal,st1)∧mJ11 l n Lc lv s q k i ro rn rx c (m+1) (qby L11k0 st1):=by
  obtain ⟨H,rfl,g0,g1,go,gh,gn,gx,gb⟩:=hI
  have hlt:32*c+m < 512:=by omega
  have hset:=bf_set s i (32*c+m)
  have hby:=byte_cell s (512*i+(32*c+m)) (by omega)
  have e1:(16*i+c)*32+m=512*i+(32*c+m):=by omega
  have e2:16*i+c < q:=hci
  apply Exists.intro
  apply And.intro
  · simp (disch := first | omega | decide | simp only [qai, qag, qak, qaj, qah, qae, qac, qad, qan]) only [qba, qau, qa3, qao, qap, qam, qaf, qaq, qa7, qaz, qaI, qar, qaF, qaB, qaa, qa4, qaw, qaY, zK, zL, zN, zO, zJ, zM, Nat.reduceAdd, qdl, qaQ, qbe, qbx, qbt, qbf, op_iaA, iaV_lt, zB, zE, zT, aB_st, zZ, zE, zB, qbY, N_mul, qa2, qbO, Nat.reduceAdd, zT, qb7, qbG, qax, qay, qa0, zZ, qal, L11b0, hm, gh, gb, qbG, zZ, zB, e1, hby, hset, qal]
    rfl
  · refine qaU [(1, 0), (1, 1), (1, 2), (1, 3), (1, 4), (1, 5), (1, 6)] rfl (by simp only [qaA, FUEL, qaH, qaD, qaE, qaP, qaK, qaL, zS, zW, zP, zV, zR, zk, zF, zY, za, zD, zt, zo, ze, Nat.reduceEqDiff, zU, zp, zC, zA, zd, zm, zg, zl, ne_eq, zq, qab, qaJ, qaC, qav, qaO, L11k0, g0, g1, go, gh, gn, gx, gb, qbS, qbh, ns_nms, qbd, qaK, qaO, hro1, hrn1]) ?_ ⟨_, rfl, ?_, ?_, ?_, ?_, ?_, ?_, ?_⟩
    · simp only [L11k0, zG, zF, qa8, qbT, qbk, qaC, qav, qaJ, qa9, qa8]
      rfl
    · exact qas (1,0) rfl (by simp only[qab,zD,Nat.reduceEqDiff,zU,zA,g0]) (qbj _ _ _)
    · exact qas (1,1) rfl (by simp only[qab,zD,Nat.reduceEqDiff,zU,zA,g1]) (ns_ren _ _)
    · exact qas (1,2) rfl (by simp only[qab,zD,Nat.reduceEqDiff,zU,zA,go]) (hro _)
    · exact qas (1,3) rfl (by simp only[qab,zD,Nat.reduceEqDiff,zU,zA,gh]) (qaW _ _)
    · exact qas (1,4) rfl (by simp only[qab,zD,Nat.reduceEqDiff,zU,zA,gn]) (hrn _)
    · exact qas (1,5) rfl (by simp only[qab,zD,Nat.reduceEqDiff,zU,zA,gx]) (qaW _ _)
    · exact qas (1,6) rfl (by simp only[qab,zC]; try rfl) (qbj _ _ _)
set_option maxRecDepth 20000 in
theorem c_round11 (K k0:Nat) (hK:100≤K) (l:List (BitVec 8)) (n Lc:Nat) (lv:List Nat) (s:List (BitVec 8)) (q k i:Nat) (ro:qaR) (rn:qaR) (rx:List (BitVec 8)) (hs:s.length=32*q) (hro1:ro.flatMap (nms D)=[]) (hro:∀ π,ro.map (ren D π)=ro) (hrn1:rn.flatMap (nms D)=[]) (hrn:∀ π,rn.map (ren D π)=rn) (hi:i≤1000000) (hq:q≤1000000) (c:Nat) (hc:c < 16) (hci:16*i+c < q) (st:St) (hI:cJ11 l n Lc lv s q k i ro rn rx c st) :
    ∃ st1,ev (envC C k0) K L11b1 st=some (.normal,st1)∧cJ11 l n Lc lv s q k i ro rn rx (c+1) (qby L11k1 st1):=by
  obtain ⟨H,rfl,g0,g1,go,gh,gn,gx,gb⟩:=hI
  simp (disch:=first|omega|decide|simp only[qai,qag,qak,qaj,qah,qae,qac,qad,qan]) only[qba,qau,qa3,qao,qap,qam,qaf,qaS,qcC,qaq,qaz,qaI,qar,qb0,qaF,qbr,qaB,qaa,qaw,qaY,zK,zL,zN,zO,zJ,zM,qbZ,Nat.reduceAdd,zB,zE,zT,zE,zB,qbY,N_mul,qa2,Nat.reduceAdd,zT,qbi,qaV,qbL,qax,qay,qal,L11b1,hc,hci,zB,qal]
  generalize hLp:qca L11k0 _ _ _=r
  refine qbJ hLp (mJ11 l n Lc lv s q k i ro rn rx c) 32 (by omega) (fun m st hm hI=>m_round11 _ _ l n Lc lv s q k i ro rn rx hs hro1 hro hrn1 hrn hi c m hc hci hm st hI) ?_ ?_ ?_
  · refine qaU [(1, 0), (1, 1), (1, 2), (1, 3), (1, 4), (1, 5), (1, 6)] rfl (by simp only [qaA, FUEL, qaH, qaD, qaE, qaP, qaK, qaL, zS, zW, zP, zV, zR, zk, zF, zY, za, zD, zt, zo, ze, Nat.reduceEqDiff, zU, zp, zC, zA, zd, zm, zg, zl, ne_eq, zq, qaJ, qaC, qav, qaO, L11k0, g0, g1, go, gh, gn, gx, gb, qbS, qbh, ns_nms, qbd, qaK, qaO, hro1, hrn1]) ?_ ⟨_, rfl, ?_, ?_, ?_, ?_, ?_, ?_, ?_⟩
    · simp only [L11k0, zG, zF, qa8, qbT, qbk, qaC, qav, qaJ, qa9, qa8]
      rfl
    · exact qas (1,0) rfl (by simp only[g0]) (qbj _ _ _)
    · exact qas (1,1) rfl (by simp only[g1]) (ns_ren _ _)
    · exact qas (1,2) rfl (by simp only[go]) (hro _)
    · exact qas (1,3) rfl (by simp only[gh]) (qaW _ _)
    · exact qas (1,4) rfl (by simp only[gn]) (hrn _)
    · exact qas (1,5) rfl (by simp only[gx]) (qaW _ _)
    · exact qas (1,6) rfl (by simp only[zE,gb,zE]) (qbj _ _ _)
  · rintro st ⟨H, rfl, g0, g1, go, gh, gn, gx, gb⟩
    apply qbs
    simp (disch:=first|omega|decide|simp only[qai,qag,qak,qaj,qah,qae,qac,qad,qan]) only[qa6,qau,qao,qap,qam,qaf,qaN,qaq,qaz,qaI,qar,qaF,qaB,qaa,qaG,qaw,qat,zK,zL,zN,zO,zJ,zM,Nat.reduceAdd,zB,zE,zQ,qa2,Nat.reduceAdd,zj,zQ,L11b0,zj]
    rfl
  · rintro st ⟨H, rfl, g0, g1, go, gh, gn, gx, gb⟩ hr
    subst hr
    rw[show 32*c+32=32*(c+1) by omega] at gb
    simp (disch:=first|omega|decide|simp only[qai,qag,qak,qaj,qah,qae,qac,qad,qan]) only[qa6,qau,qao,qap,qam,qaf,qaN,qaq,qaz,qaI,qar,qaF,qaB,qaa,qaG,qa4,qbc,qaw,qat,zK,zL,zN,zO,zJ,zM,Nat.reduceAdd,zC,zB,zE,zQ,qbY,qa2,Nat.reduceAdd,zj,zQ,L11b0,zj]
    refine ⟨_,rfl,?_⟩
    refine qaU [(1,0),(1,1),(1,2),(1,3),(1,4),(1,5),(1,6)] rfl (by simp only[qaA,FUEL,qaH,qaD,qaE,qaP,qaK,qaL,zS,zW,zP,zV,zR,zk,zF,zY,za,zD,zt,zo,ze,Nat.reduceEqDiff,zU,zp,zC,zA,zd,zm,zg,zl,ne_eq,zq,qaJ,qaC,qav,qaO,L11k1,g0,g1,go,gh,gn,gx,gb,qbS,qbh,ns_nms,qbd,qaK,qaO,hro1,hrn1]) ?_ ⟨_,rfl,?_,?_,?_,?_,?_,?_,?_⟩
    · simp only [L11k1, zG, zF, qa8, qbT, qbk, qaC, qav, qaJ, qa9, qa8]
      rfl
    · exact qas (1,0) rfl (by simp only[g0]) (qbj _ _ _)
    · exact qas (1,1) rfl (by simp only[g1]) (ns_ren _ _)
    · exact qas (1,2) rfl (by simp only[go]) (hro _)
    · exact qas (1,3) rfl (by simp only[gh]) (qaW _ _)
    · exact qas (1,4) rfl (by simp only[gn]) (hrn _)
    · exact qas (1,5) rfl (by simp only[gx]) (qaW _ _)
    · exact qas (1,6) rfl (by simp only[gb]) (qbj _ _ _)
def iJ00 (l:List (BitVec 8)) (n Lc:Nat) (lv:List Nat) (s:List (BitVec 8)) (q k i:Nat) (st:St):Prop := ∃ (H:Heap),st=⟨[.isl (bs l) n,.undef,.undef,.ptr (1,0) 0,.undef,.sl (1,1) 0 Lc none 1,Nil,.isl (bs l) n,N k,Nil,Nil,N i,.undef,.undef,.undef,.undef,.undef,.undef,.undef,.undef,.undef,.undef,.undef,.undef,.undef,.undef,.undef,.undef,.undef,.undef,.undef,.undef,.undef,.undef,.undef,.undef,.undef,.undef,.undef,.undef,.undef,.undef,.undef,.undef,.undef,.undef,.undef,.undef,.undef,.undef,.undef,.undef,.undef,.undef,.undef,.undef,.undef,.undef,.undef,.undef,.undef,.undef,.undef,.undef,.undef,.undef,.undef,.undef,.undef,.undef,.undef,.undef,.undef,.undef,.undef,.undef,.undef,.undef,.undef,.undef,.undef,.undef,.undef,.undef,.undef,.undef,.undef,.undef,.undef,.undef,.undef,.undef,.undef,.undef,.undef,.undef,.undef,.undef,.undef,.undef],H,2,0⟩∧H (1,0)=some (aB 32 fun _=>0#8)∧H (1,1)=some (ns lv)
def iJ01 (l:List (BitVec 8)) (n Lc:Nat) (lv:List Nat) (s:List (BitVec 8)) (q k i:Nat) (rn:qaR) (rx:List (BitVec 8)) (st:St):Prop := ∃ (H:Heap),st=⟨[.isl (bs l) n,.undef,.undef,.ptr (1,0) 0,.undef,.sl (1,1) 0 Lc none 1,Nil,.isl (bs l) n,N k,.sl (1,2) 0 i none 1,.sl (1,3) 0 i none 32,N i,.undef,.undef,.undef,.undef,.undef,.undef,.undef,.undef,.undef,.undef,.undef,.undef,.undef,.undef,.undef,.undef,.undef,.undef,.undef,.undef,.undef,.undef,.undef,.undef,.undef,.undef,.undef,.undef,.undef,.undef,.undef,.undef,.undef,.undef,.undef,.undef,.undef,.undef,.undef,.undef,.undef,.undef,.undef,.undef,.undef,.undef,.undef,.undef,.undef,.undef,.undef,.undef,.undef,.undef,.undef,.undef,.undef,.undef,.undef,.undef,.undef,.undef,.undef,.undef,.undef,.undef,.undef,.undef,.undef,.undef,.undef,.undef,.undef,.undef,.undef,.undef,.undef,.undef,.undef,.undef,.undef,.undef,.undef,.undef,.undef,.undef,.undef,.undef],H,2,0⟩∧H (1,0)=some (aB 32 fun _=>0#8)∧H (1,1)=some (ns lv)∧H (1,2)=some (rn)∧H (1,3)=some (bs rx)
def iJ10 (l:List (BitVec 8)) (n Lc:Nat) (lv:List Nat) (s:List (BitVec 8)) (q k i:Nat) (ro:qaR) (st:St):Prop := ∃ (H:Heap),st=⟨[.isl (bs l) n,.undef,.undef,.ptr (1,0) 0,.undef,.sl (1,1) 0 Lc none 1,.sl (1,2) 0 k none 1,.sl (1,3) 0 q none 32,N k,Nil,Nil,N i,.undef,.undef,.undef,.undef,.undef,.undef,.undef,.undef,.undef,.undef,.undef,.undef,.undef,.undef,.undef,.undef,.undef,.undef,.undef,.undef,.undef,.undef,.undef,.undef,.undef,.undef,.undef,.undef,.undef,.undef,.undef,.undef,.undef,.undef,.undef,.undef,.undef,.undef,.undef,.undef,.undef,.undef,.undef,.undef,.undef,.undef,.undef,.undef,.undef,.undef,.undef,.undef,.undef,.undef,.undef,.undef,.undef,.undef,.undef,.undef,.undef,.undef,.undef,.undef,.undef,.undef,.undef,.undef,.undef,.undef,.undef,.undef,.undef,.undef,.undef,.undef,.undef,.undef,.undef,.undef,.undef,.undef,.undef,.undef,.undef,.undef,.undef,.undef],H,2,0⟩∧H (1,0)=some (aB 32 fun _=>0#8)∧H (1,1)=some (ns lv)∧H (1,2)=some (ro)∧H (1,3)=some (bs s)
def iJ11 (l:List (BitVec 8)) (n Lc:Nat) (lv:List Nat) (s:List (BitVec 8)) (q k i:Nat) (ro:qaR) (rn:qaR) (rx:List (BitVec 8)) (st:St):Prop := ∃ (H:Heap),st=⟨[.isl (bs l) n,.undef,.undef,.ptr (1,0) 0,.undef,.sl (1,1) 0 Lc none 1,.sl (1,2) 0 k none 1,.sl (1,3) 0 q none 32,N k,.sl (1,4) 0 i none 1,.sl (1,5) 0 i none 32,N i,.undef,.undef,.undef,.undef,.undef,.undef,.undef,.undef,.undef,.undef,.undef,.undef,.undef,.undef,.undef,.undef,.undef,.undef,.undef,.undef,.undef,.undef,.undef,.undef,.undef,.undef,.undef,.undef,.undef,.undef,.undef,.undef,.undef,.undef,.undef,.undef,.undef,.undef,.undef,.undef,.undef,.undef,.undef,.undef,.undef,.undef,.undef,.undef,.undef,.undef,.undef,.undef,.undef,.undef,.undef,.undef,.undef,.undef,.undef,.undef,.undef,.undef,.undef,.undef,.undef,.undef,.undef,.undef,.undef,.undef,.undef,.undef,.undef,.undef,.undef,.undef,.undef,.undef,.undef,.undef,.undef,.undef,.undef,.undef,.undef,.undef,.undef,.undef],H,2,0⟩∧H (1,0)=some (aB 32 fun _=>0#8)∧H (1,1)=some (ns lv)∧H (1,2)=some (ro)∧H (1,3)=some (bs s)∧H (1,4)=some (rn)∧H (1,5)=some (bs rx)
set_option maxRecDepth 20000 in
theorem i_round00 (K k0:Nat) (hK:500≤K) (hk0:500≤k0) (l:List (BitVec 8)) (n Lc:Nat) (lv:List Nat) (s:List (BitVec 8)) (q k i:Nat) (hs:s.length=32*q) (hsl:s=l∧q=n) (hi0:i=0) (hi:i≤500) (hq:q≤1000000) (hk3:k≤3) (mk:Nat) (hlk:cellK k 1 (some (ns lv))=some [N mk]) (hkL:k < Lc) (him:i < mk) (st:St) (hI:iJ00 l n Lc lv s q k i st) :
    ∃ st1,ev (envC C k0) K L11b2 st=some (.normal,st1)∧iJ01 l n Lc lv s q k (i+1) [.isl (bs (Ab.nd s i)) 512] (dl (nodeB k (Ab.nd s i))) (qby L11k2 st1):=by
  obtain ⟨H,rfl,g0,g1⟩:=hI
  obtain ⟨rfl,rfl⟩:=hsl
  obtain ⟨ce,hc16,hcl,hcs⟩:∃ ce,ce≤16∧(∀ c,c < ce→16*i+c < q)∧(ce < 16→¬ 16*i+ce < q):=⟨min 16 (q - 16*i),by omega,by intro c hc; omega,by intro h; omega⟩
  have hnl:=nd_length hs i
  have hmk:=mk512 8
  simp (disch:=first|omega|decide|simp only[qai,qag,qak,qaj,qah,qae,qac,qad,qan]) only[qba,qau,qa3,qao,qap,qam,qaf,qaq,qaz,qaI,qar,qaF,qaB,qaa,qaw,qaY,zK,zL,zN,zO,zJ,zM,qbZ,Nat.reduceAdd,qaQ,qbe,qbx,zB,zE,zT,qbH,zZ,zE,zB,qa2,qbO,Nat.reduceAdd,zT,qb7,qbG,op_mkslice,qax,qaM,qay,zZ,qal,L11b2,ev_seqz,g1,hlk,him,hmk,qbG,zZ,zB,qal]
  generalize hLp:qca L11k1 _ _ _=r
  refine qbJ hLp (cJ00 s q Lc lv s q k i) ce (by omega) (fun c st hc hI=>c_round00 _ _ (by omega) s q Lc lv s q k i hs ⟨rfl,rfl⟩ (by omega) hq c (by omega) (hcl c hc) st hI) ?_ ?_ ?_
  · refine qaU [(1, 0), (1, 1), (8, 0)] rfl (by simp only [qaA, FUEL, qaH, qaD, qaE, qaP, qaK, qaL, zS, zW, zP, zV, zR, zk, zF, zY, za, zD, zt, zo, ze, Nat.reduceEqDiff, zH, zU, zp, zC, zA, zd, zi, zm, zg, zl, ne_eq, zq, qab, qaJ, qaC, qav, qaO, qbu, L11k1, g0, g1, qbS, ns_nms, qbd, qaK, qbu, qaO]) ?_ ⟨_, rfl, ?_, ?_, ?_⟩
    · simp only [L11k1, zG, zF, qda, qa8, qbT, qbk, qaC, qav, qaJ, qa9, qa8]
      rfl
    · exact qas (1,0) rfl (by simp only[qab,zD,Nat.reduceEqDiff,zH,zA,g0]) (qbj _ _ _)
    · exact qas (1,1) rfl (by simp only[qab,zD,Nat.reduceEqDiff,zX,zA,zd,g1]) (ns_ren _ _)
    · exact qas (8,0) rfl (by simp only[qab,zC,Nat.mul_zero,bf_zero]) (qbj _ _ _)
  · rintro st ⟨H, rfl, g0, g1, gb⟩
    by_cases h16:ce < 16
    · have hcs := hcs h16
      apply qbs
      simp (disch:=first|omega|decide|simp only[qai,qag,qak,qaj,qah,qae,qac,qad,qan]) only[qa6,qau,qao,qap,qam,qaf,qaS,qaN,qcC,qaq,qaz,qaI,qar,qb0,qaF,qbr,qaB,qaa,qaG,qaw,qat,zK,zL,zN,zO,zJ,zM,Nat.reduceAdd,zB,zE,zT,zQ,qbY,N_mul,qa2,Nat.reduceAdd,zQ,zT,qbi,qaV,qbD,L11b1,h16,hcs]
      rfl
    · apply qbs
      simp (disch:=first|omega|decide|simp only[qai,qag,qak,qaj,qah,qae,qac,qad,qan]) only[qa6,qau,qao,qap,qam,qaf,qaS,qaN,guardK_false,qaq,qaz,qaI,qar,qbq,qaF,qbr,qaB,qaa,qaG,qaw,qat,zK,zL,zN,zO,zJ,zM,Nat.reduceAdd,zB,zE,zQ,qa2,Nat.reduceAdd,zQ,L11b1,h16]
      rfl
  · rintro st ⟨H, rfl, g0, g1, gb⟩ hr
    subst hr
    rw[bf_end hs (by omega) hc16] at gb
    have hnc:=fun (b:Nat) (H:Heap)=>qdj k0 b 16 (.inr rfl) H k _ (Ab.nd s i) (lent_512 H _ hnl) (by omega) (by omega)
    by_cases h16:ce < 16
    · have hcs := hcs h16
      simp (disch:=first|omega|decide|simp only[qai,qag,qak,qaj,qah,qae,qac,qad,qan]) only[qa6,qau,qao,qap,qam,qaf,qaS,qcC,qaq,qaz,qaI,qar,qb0,qaF,qbr,qaB,qaa,qaG,qbc,qaw,qat,zK,zL,zN,zO,zJ,zM,Nat.reduceAdd,zC,zB,zE,zT,zQ,zE,zB,qbY,N_mul,qa2,Nat.reduceAdd,zQ,zT,qbi,qaV,qbD,qax,qay,qal,L11b1,h16,hcs,qal]
      rw[fzSt_sl 12 _ _ _ _ (1,2) 512 (some 512) (Ab.nd s i) rfl (by simp only[gb]) (by decide) hnl]
      simp (disch:=first|omega|decide|simp only[qai,qag,qak,qaj,qah,qae,qac,qad,qan]) only[qao,qaf,qaq,qaz,qaF,zK,zL,zN,zO,zG,zF,zP,zR,zJ,zM,Nat.reduceAdd,qbW,qcx,qco,qb2,zzB,zzE,zzD,zX,zC,zB,zE,Nat.le_refl,zE,zB,Nat.reduceAdd,qbB,qbK,qbw,qax,qaM,qay,qal,qdp,qdf,qal]
      subst hi0
      rw[napp0 16 _ (15,0) (Ab.nd s 0) (by simp only[qab,zD,Nat.reduceEqDiff,zX,zC,zA])]
      simp (disch:=first|omega|decide|simp only[qai,qag,qak,qaj,qah,qae,qac,qad,qan]) only[qao,qap,qam,qaf,qaq,qaz,qaI,qar,qaF,qaB,qa1,qaT,qaa,qa4,zK,zL,zN,zO,zG,zF,zJ,zM,Nat.reduceAdd,qab,zD,Nat.reduceEqDiff,zH,zX,zC,zA,zB,zE,zE,zB,qbY,Nat.reduceEqDiff,Nat.reduceMul,Nat.reduceAdd,qbB,qb8,qb9,qcb,appX_nil,qbK,qbw,qax,qaM,qay,qcI,qal,hnc,fill32,aB_dl,front32d,qal]
      refine ⟨_,rfl,?_⟩
      refine qaU [(1,0),(1,1),(16,0),(23,0)] rfl (by simp only[qaA,FUEL,qaH,qaD,qaE,qaP,qaK,qaL,zS,zW,zP,zV,zR,zk,zF,zY,za,zD,zt,zo,ze,Nat.reduceEqDiff,zH,zU,zp,zC,zA,zd,zi,zm,zg,zl,ne_eq,zq,qab,qaJ,qaC,qav,qaO,qbu,L11k2,g0,g1,qbS,qbh,ns_nms,qbd,qaK,qbu,qaO]) ?_ ⟨_,rfl,?_,?_,?_,?_⟩
      · simp only [L11k2, zG, zF, qda, qa8, qbT, qbk, qaC, qav, qaJ, qa9, qa8]
        rfl
      · exact qas (1,0) rfl (by simp only[qab,zD,Nat.reduceEqDiff,zH,zU,zA,g0]) (qbj _ _ _)
      · exact qas (1,1) rfl (by simp only[qab,zD,Nat.reduceEqDiff,zU,zX,zA,zd,g1]) (ns_ren _ _)
      · exact qas (16,0) rfl (by simp only[qab,zD,Nat.reduceEqDiff,zH,zX,zC,zA]; try rfl) (isl1_ren _ _)
      · exact qas (23,0) rfl (by simp only[qab,zD,Nat.reduceEqDiff,zH,zX,zC,zA]; try rfl) (qaW _ _)
    · skip
      simp (disch:=first|omega|decide|simp only[qai,qag,qak,qaj,qah,qae,qac,qad,qan]) only[qa6,qau,qao,qap,qam,qaf,qaS,guardK_false,qaq,qaz,qaI,qar,qbq,qaF,qbr,qaB,qaa,qaG,qbc,qaw,qat,zK,zL,zN,zO,zJ,zM,Nat.reduceAdd,zC,zB,zE,zQ,zE,zB,qa2,Nat.reduceAdd,zQ,qax,qay,qal,L11b1,h16,zE,qal]
      rw[fzSt_sl 12 _ _ _ _ (1,2) 512 (some 512) (Ab.nd s i) rfl (by simp only[gb]) (by decide) hnl]
      simp (disch:=first|omega|decide|simp only[qai,qag,qak,qaj,qah,qae,qac,qad,qan]) only[qao,qaf,qaq,qaz,qaF,zK,zL,zN,zO,zG,zF,zP,zR,zJ,zM,Nat.reduceAdd,qbW,qcx,qco,qb2,zzB,zzE,zzD,zX,zC,zB,zE,Nat.le_refl,zE,zB,Nat.reduceAdd,qbB,qbK,qbw,qax,qaM,qay,qal,qdp,qdf,qal]
      subst hi0
      rw[napp0 16 _ (15,0) (Ab.nd s 0) (by simp only[qab,zD,Nat.reduceEqDiff,zX,zC,zA])]
      simp (disch:=first|omega|decide|simp only[qai,qag,qak,qaj,qah,qae,qac,qad,qan]) only[qao,qap,qam,qaf,qaq,qaz,qaI,qar,qaF,qaB,qa1,qaT,qaa,qa4,zK,zL,zN,zO,zG,zF,zJ,zM,Nat.reduceAdd,qab,zD,Nat.reduceEqDiff,zH,zX,zC,zA,zB,zE,zE,zB,qbY,Nat.reduceEqDiff,Nat.reduceAdd,qbB,qb8,qb9,qcb,appX_nil,qbK,qbw,qax,qaM,qay,qcI,qal,hnc,fill32,aB_dl,front32d,qal]
      refine ⟨_,rfl,?_⟩
      refine qaU [(1,0),(1,1),(16,0),(23,0)] rfl (by simp only[qaA,FUEL,qaH,qaD,qaE,qaP,qaK,qaL,zS,zW,zP,zV,zR,zk,zF,zY,za,zD,zt,zo,ze,Nat.reduceEqDiff,zH,zU,zp,zC,zA,zd,zi,zm,zg,zl,ne_eq,zq,qab,qaJ,qaC,qav,qaO,qbu,L11k2,g0,g1,qbS,qbh,ns_nms,qbd,qaK,qbu,qaO]) ?_ ⟨_,rfl,?_,?_,?_,?_⟩
      · simp only [L11k2, zG, zF, qda, qa8, qbT, qbk, qaC, qav, qaJ, qa9, qa8]
        rfl
      · exact qas (1,0) rfl (by simp only[qab,zD,Nat.reduceEqDiff,zH,zU,zA,g0]) (qbj _ _ _)
      · exact qas (1,1) rfl (by simp only[qab,zD,Nat.reduceEqDiff,zU,zX,zA,zd,g1]) (ns_ren _ _)
      · exact qas (16,0) rfl (by simp only[qab,zD,Nat.reduceEqDiff,zH,zX,zC,zA]; try rfl) (isl1_ren _ _)
      · exact qas (23,0) rfl (by simp only[qab,zD,Nat.reduceEqDiff,zH,zX,zC,zA]; try rfl) (qaW _ _)
set_option maxRecDepth 20000 in
theorem i_round01 (K k0:Nat) (hK:500≤K) (hk0:500≤k0) (l:List (BitVec 8)) (n Lc:Nat) (lv:List Nat) (s:List (BitVec 8)) (q k i:Nat) (rn:qaR) (rx:List (BitVec 8)) (hs:s.length=32*q) (hsl:s=l∧q=n) (hrn1:rn.flatMap (nms D)=[]) (hrn:∀ π,rn.map (ren D π)=rn) (hi0:0 < i) (hrl:rn.length=i) (hxl:rx.length=32*i) (hi:i≤500) (hq:q≤1000000) (hk3:k≤3) (mk:Nat) (hlk:cellK k 1 (some (ns lv))=some [N mk]) (hkL:k < Lc) (him:i < mk) (st:St) (hI:iJ01 l n Lc lv s q k i rn rx st) :
    ∃ st1,ev (envC C k0) K L11b2 st=some (.normal,st1)∧iJ01 l n Lc lv s q k (i+1) (rn++[.isl (bs (Ab.nd s i)) 512]) (rx++dl (nodeB k (Ab.nd s i))) (qby L11k2 st1):=by
  obtain ⟨H,rfl,g0,g1,gn,gx⟩:=hI
  obtain ⟨rfl,rfl⟩:=hsl
  obtain ⟨ce,hc16,hcl,hcs⟩:∃ ce,ce≤16∧(∀ c,c < ce→16*i+c < q)∧(ce < 16→¬ 16*i+ce < q):=⟨min 16 (q - 16*i),by omega,by intro c hc; omega,by intro h; omega⟩
  have hnl:=nd_length hs i
  have hmk:=mk512 8
  simp (disch:=first|omega|decide|simp only[qai,qag,qak,qaj,qah,qae,qac,qad,qan]) only[qba,qau,qa3,qao,qap,qam,qaf,qaq,qaz,qaI,qar,qaF,qaB,qaa,qaw,qaY,zK,zL,zN,zO,zJ,zM,qbZ,Nat.reduceAdd,qaQ,qbe,qbx,zB,zE,zT,qbH,zZ,zE,zB,qa2,qbO,Nat.reduceAdd,zT,qb7,qbG,op_mkslice,qax,qaM,qay,zZ,qal,L11b2,ev_seqz,g1,hlk,him,hmk,qbG,zZ,zB,qal]
  generalize hLp:qca L11k1 _ _ _=r
  refine qbJ hLp (cJ01 s q Lc lv s q k i rn rx) ce (by omega) (fun c st hc hI=>c_round01 _ _ (by omega) s q Lc lv s q k i rn rx hs ⟨rfl,rfl⟩ hrn1 hrn (by omega) hq c (by omega) (hcl c hc) st hI) ?_ ?_ ?_
  · refine qaU [(1, 0), (1, 1), (1, 2), (1, 3), (8, 0)] rfl (by simp only [qaA, FUEL, qaH, qaD, qaE, qaP, qaK, qaL, zS, zW, zP, zV, zR, zk, zF, zY, za, zD, zt, zo, ze, Nat.reduceEqDiff, zH, zU, zp, zC, zA, zd, zi, zm, zg, zl, ne_eq, zq, qab, qaJ, qaC, qav, qaO, qbu, L11k1, g0, g1, gn, gx, qbS, qbh, ns_nms, qbd, qaK, qbu, qaO, hrn1]) ?_ ⟨_, rfl, ?_, ?_, ?_, ?_, ?_⟩
    · simp only [L11k1, zG, zF, qda, qa8, qbT, qbk, qaC, qav, qaJ, qa9, qa8]
      rfl
    · exact qas (1,0) rfl (by simp only[qab,zD,Nat.reduceEqDiff,zH,zA,g0]) (qbj _ _ _)
    · exact qas (1,1) rfl (by simp only[qab,zD,Nat.reduceEqDiff,zX,zA,zd,g1]) (ns_ren _ _)
    · exact qas (1,2) rfl (by simp only[qab,zD,Nat.reduceEqDiff,zX,zA,gn]) (hrn _)
    · exact qas (1,3) rfl (by simp only[qab,zD,Nat.reduceEqDiff,zX,zA,gx]) (qaW _ _)
    · exact qas (8,0) rfl (by simp only[qab,zC,Nat.mul_zero,bf_zero]) (qbj _ _ _)
  · rintro st ⟨H, rfl, g0, g1, gn, gx, gb⟩
    by_cases h16:ce < 16
    · have hcs := hcs h16
      apply qbs
      simp (disch:=first|omega|decide|simp only[qai,qag,qak,qaj,qah,qae,qac,qad,qan]) only[qa6,qau,qao,qap,qam,qaf,qaS,qaN,qcC,qaq,qaz,qaI,qar,qb0,qaF,qbr,qaB,qaa,qaG,qaw,qat,zK,zL,zN,zO,zJ,zM,Nat.reduceAdd,zB,zE,zT,zQ,qbY,N_mul,qa2,Nat.reduceAdd,zQ,zT,qbi,qaV,qbD,L11b1,h16,hcs]
      rfl
    · apply qbs
      simp (disch:=first|omega|decide|simp only[qai,qag,qak,qaj,qah,qae,qac,qad,qan]) only[qa6,qau,qao,qap,qam,qaf,qaS,qaN,guardK_false,qaq,qaz,qaI,qar,qbq,qaF,qbr,qaB,qaa,qaG,qaw,qat,zK,zL,zN,zO,zJ,zM,Nat.reduceAdd,zB,zE,zQ,qa2,Nat.reduceAdd,zQ,L11b1,h16]
      rfl
  · rintro st ⟨H, rfl, g0, g1, gn, gx, gb⟩ hr
    subst hr
    rw[bf_end hs (by omega) hc16] at gb
    have hnc:=fun (b:Nat) (H:Heap)=>qdj k0 b 16 (.inr rfl) H k _ (Ab.nd s i) (lent_512 H _ hnl) (by omega) (by omega)
    by_cases h16:ce < 16
    · have hcs := hcs h16
      simp (disch:=first|omega|decide|simp only[qai,qag,qak,qaj,qah,qae,qac,qad,qan]) only[qa6,qau,qao,qap,qam,qaf,qaS,qcC,qaq,qaz,qaI,qar,qb0,qaF,qbr,qaB,qaa,qaG,qbc,qaw,qat,zK,zL,zN,zO,zJ,zM,Nat.reduceAdd,zC,zB,zE,zT,zQ,zE,zB,qbY,N_mul,qa2,Nat.reduceAdd,zQ,zT,qbi,qaV,qbD,qax,qay,qal,L11b1,h16,hcs,qal]
      rw[fzSt_sl 12 _ _ _ _ (1,4) 512 (some 512) (Ab.nd s i) rfl (by simp only[gb]) (by decide) hnl]
      simp (disch:=first|omega|decide|simp only[qai,qag,qak,qaj,qah,qae,qac,qad,qan]) only[qao,qaf,qaq,qaz,qaF,zK,zL,zN,zO,zG,zF,zP,zR,zJ,zM,Nat.reduceAdd,qbW,qcx,qco,qb2,zzB,zzE,zzD,zX,zC,zB,zE,Nat.le_refl,zE,zB,Nat.reduceAdd,qbB,qbK,qbw,qax,qaM,qay,qal,qdp,qdf,qal]
      rw[napp1 16 _ (15,0) (1,2) i rn (Ab.nd s i) (by simp only[qab,zD,Nat.reduceEqDiff,zX,zC,zA]) (by simp only[qab,zD,Nat.reduceEqDiff,zU,zX,zA,gn]) hrl (by omega)]
      simp (disch:=first|omega|decide|simp only[qai,qag,qak,qaj,qah,qae,qac,qad,qan]) only[qao,qap,qam,qaf,qaq,qaz,qaI,qaF,qa1,qaT,qaa,zK,zL,zN,zO,zG,zF,zJ,zM,Nat.reduceAdd,qab,zD,Nat.reduceEqDiff,zH,zX,zC,zA,zB,zE,zE,zB,Nat.reduceEqDiff,Nat.reduceAdd,qbB,qb8,qb9,qcb,qbK,qbw,qax,qaM,qay,qa0,qcI,qal,hnc,fill32,aB_dl,front32d,qal]
      rw[app32_row 23 _ (1,3) i rx (dl (nodeB k (Ab.nd s i))) (by simp only[qab,zD,Nat.reduceEqDiff,zU,zX,zA,gx]) hxl (by omega)]
      simp (disch:=first|omega|decide|simp only[qai,qag,qak,qaj,qah,qae,qac,qad,qan]) only[qao,qap,qam,qaf,qaq,qaz,qaI,qar,qaF,qaB,qaa,qa4,zK,zL,zN,zO,zJ,zM,Nat.reduceAdd,zB,zE,zE,zB,qbY,Nat.reduceAdd,qax,qaM,qay,qa0,qal,qal]
      refine ⟨_,rfl,?_⟩
      refine qaU [(1,0),(1,1),(16,0),(23,0)] rfl (by simp only[qaA,FUEL,qaH,qaD,qaE,qaP,qaK,qaL,zS,zW,zP,zV,zR,zk,zF,zY,za,zD,zt,zo,ze,Nat.reduceEqDiff,zH,zU,zp,zC,zA,zd,zi,zm,zg,zl,ne_eq,zq,qab,qaJ,qaC,qav,qaO,qbu,L11k2,g0,g1,qbS,qbh,ns_nms,qbd,qaK,qbu,qaO,hrn1,List.flatMap_append]) ?_ ⟨_,rfl,?_,?_,?_,?_⟩
      · simp only [L11k2, zG, zF, qda, qa8, qbT, qbk, qaC, qav, qaJ, qa9, qa8]
        rfl
      · exact qas (1,0) rfl (by simp only[qab,zD,Nat.reduceEqDiff,zH,zU,zA,g0]) (qbj _ _ _)
      · exact qas (1,1) rfl (by simp only[qab,zD,Nat.reduceEqDiff,zU,zX,zA,zd,g1]) (ns_ren _ _)
      · exact qas (16,0) rfl (by simp only[qab,zD,Nat.reduceEqDiff,zH,zX,zC,zA]; try rfl) (by rw[List.map_append,hrn,isl1_ren])
      · exact qas (23,0) rfl (by simp only[qab,zD,Nat.reduceEqDiff,zH,zX,zC,zA]; try rfl) (qaW _ _)
    · skip
      simp (disch:=first|omega|decide|simp only[qai,qag,qak,qaj,qah,qae,qac,qad,qan]) only[qa6,qau,qao,qap,qam,qaf,qaS,guardK_false,qaq,qaz,qaI,qar,qbq,qaF,qbr,qaB,qaa,qaG,qbc,qaw,qat,zK,zL,zN,zO,zJ,zM,Nat.reduceAdd,zC,zB,zE,zQ,zE,zB,qa2,Nat.reduceAdd,zQ,qax,qay,qal,L11b1,h16,zE,qal]
      rw[fzSt_sl 12 _ _ _ _ (1,4) 512 (some 512) (Ab.nd s i) rfl (by simp only[gb]) (by decide) hnl]
      simp (disch:=first|omega|decide|simp only[qai,qag,qak,qaj,qah,qae,qac,qad,qan]) only[qao,qaf,qaq,qaz,qaF,zK,zL,zN,zO,zG,zF,zP,zR,zJ,zM,Nat.reduceAdd,qbW,qcx,qco,qb2,zzB,zzE,zzD,zX,zC,zB,zE,Nat.le_refl,zE,zB,Nat.reduceAdd,qbB,qbK,qbw,qax,qaM,qay,qal,qdp,qdf,qal]
      rw[napp1 16 _ (15,0) (1,2) i rn (Ab.nd s i) (by simp only[qab,zD,Nat.reduceEqDiff,zX,zC,zA]) (by simp only[qab,zD,Nat.reduceEqDiff,zU,zX,zA,gn]) hrl (by omega)]
      simp (disch:=first|omega|decide|simp only[qai,qag,qak,qaj,qah,qae,qac,qad,qan]) only[qao,qap,qam,qaf,qaq,qaz,qaI,qaF,qa1,qaT,qaa,zK,zL,zN,zO,zG,zF,zJ,zM,Nat.reduceAdd,qab,zD,Nat.reduceEqDiff,zH,zX,zC,zA,zB,zE,zE,zB,Nat.reduceEqDiff,Nat.reduceAdd,qbB,qb8,qb9,qcb,qbK,qbw,qax,qaM,qay,qa0,qcI,qal,hnc,fill32,aB_dl,front32d,qal]
      rw[app32_row 23 _ (1,3) i rx (dl (nodeB k (Ab.nd s i))) (by simp only[qab,zD,Nat.reduceEqDiff,zU,zX,zA,gx]) hxl (by omega)]
      simp (disch:=first|omega|decide|simp only[qai,qag,qak,qaj,qah,qae,qac,qad,qan]) only[qao,qap,qam,qaf,qaq,qaz,qaI,qar,qaF,qaB,qaa,qa4,zK,zL,zN,zO,zJ,zM,Nat.reduceAdd,zB,zE,zE,zB,qbY,Nat.reduceAdd,qax,qaM,qay,qa0,qal,qal]
      refine ⟨_,rfl,?_⟩
      refine qaU [(1,0),(1,1),(16,0),(23,0)] rfl (by simp only[qaA,FUEL,qaH,qaD,qaE,qaP,qaK,qaL,zS,zW,zP,zV,zR,zk,zF,zY,za,zD,zt,zo,ze,Nat.reduceEqDiff,zH,zU,zp,zC,zA,zd,zi,zm,zg,zl,ne_eq,zq,qab,qaJ,qaC,qav,qaO,qbu,L11k2,g0,g1,qbS,qbh,ns_nms,qbd,qaK,qbu,qaO,hrn1,List.flatMap_append]) ?_ ⟨_,rfl,?_,?_,?_,?_⟩
      · simp only [L11k2, zG, zF, qda, qa8, qbT, qbk, qaC, qav, qaJ, qa9, qa8]
        rfl
      · exact qas (1,0) rfl (by simp only[qab,zD,Nat.reduceEqDiff,zH,zU,zA,g0]) (qbj _ _ _)
      · exact qas (1,1) rfl (by simp only[qab,zD,Nat.reduceEqDiff,zU,zX,zA,zd,g1]) (ns_ren _ _)
      · exact qas (16,0) rfl (by simp only[qab,zD,Nat.reduceEqDiff,zH,zX,zC,zA]; try rfl) (by rw[List.map_append,hrn,isl1_ren])
      · exact qas (23,0) rfl (by simp only[qab,zD,Nat.reduceEqDiff,zH,zX,zC,zA]; try rfl) (qaW _ _)
set_option maxRecDepth 20000 in
theorem i_round10 (K k0:Nat) (hK:500≤K) (hk0:500≤k0) (l:List (BitVec 8)) (n Lc:Nat) (lv:List Nat) (s:List (BitVec 8)) (q k i:Nat) (ro:qaR) (hs:s.length=32*q) (hro1:ro.flatMap (nms D)=[]) (hro:∀ π,ro.map (ren D π)=ro) (hi0:i=0) (hi:i≤500) (hq:q≤1000000) (hk3:k≤3) (mk:Nat) (hlk:cellK k 1 (some (ns lv))=some [N mk]) (hkL:k < Lc) (him:i < mk) (st:St) (hI:iJ10 l n Lc lv s q k i ro st) :
    ∃ st1,ev (envC C k0) K L11b2 st=some (.normal,st1)∧iJ11 l n Lc lv s q k (i+1) ro [.isl (bs (Ab.nd s i)) 512] (dl (nodeB k (Ab.nd s i))) (qby L11k2 st1):=by
  obtain ⟨H,rfl,g0,g1,go,gh⟩:=hI
  obtain ⟨ce,hc16,hcl,hcs⟩:∃ ce,ce≤16∧(∀ c,c < ce→16*i+c < q)∧(ce < 16→¬ 16*i+ce < q):=⟨min 16 (q - 16*i),by omega,by intro c hc; omega,by intro h; omega⟩
  have hnl:=nd_length hs i
  have hmk:=mk512 8
  simp (disch:=first|omega|decide|simp only[qai,qag,qak,qaj,qah,qae,qac,qad,qan]) only[qba,qau,qa3,qao,qap,qam,qaf,qaq,qaz,qaI,qar,qaF,qaB,qaa,qaw,qaY,zK,zL,zN,zO,zJ,zM,qbZ,Nat.reduceAdd,qaQ,qbe,qbx,zB,zE,zT,qbH,zZ,zE,zB,qa2,qbO,Nat.reduceAdd,zT,qb7,qbG,op_mkslice,qax,qaM,qay,zZ,qal,L11b2,ev_seqz,g1,hlk,him,hmk,qbG,zZ,zB,qal]
  generalize hLp:qca L11k1 _ _ _=r
  refine qbJ hLp (cJ10 l n Lc lv s q k i ro) ce (by omega) (fun c st hc hI=>c_round10 _ _ (by omega) l n Lc lv s q k i ro hs hro1 hro (by omega) hq c (by omega) (hcl c hc) st hI) ?_ ?_ ?_
  · refine qaU [(1, 0), (1, 1), (1, 2), (1, 3), (8, 0)] rfl (by simp only [qaA, FUEL, qaH, qaD, qaE, qaP, qaK, qaL, zS, zW, zP, zV, zR, zk, zF, zY, za, zD, zt, zo, ze, Nat.reduceEqDiff, zH, zU, zp, zC, zA, zd, zi, zm, zg, zl, ne_eq, zq, qab, qaJ, qaC, qav, qaO, qbu, L11k1, g0, g1, go, gh, qbS, qbh, ns_nms, qbd, qaK, qbu, qaO, hro1]) ?_ ⟨_, rfl, ?_, ?_, ?_, ?_, ?_⟩
    · simp only [L11k1, zG, zF, qda, qa8, qbT, qbk, qaC, qav, qaJ, qa9, qa8]
      rfl
    · exact qas (1,0) rfl (by simp only[qab,zD,Nat.reduceEqDiff,zH,zA,g0]) (qbj _ _ _)
    · exact qas (1,1) rfl (by simp only[qab,zD,Nat.reduceEqDiff,zX,zA,zd,g1]) (ns_ren _ _)
    · exact qas (1,2) rfl (by simp only[qab,zD,Nat.reduceEqDiff,zX,zA,go]) (hro _)
    · exact qas (1,3) rfl (by simp only[qab,zD,Nat.reduceEqDiff,zX,zA,gh]) (qaW _ _)
    · exact qas (8,0) rfl (by simp only[qab,zC,Nat.mul_zero,bf_zero]) (qbj _ _ _)
  · rintro st ⟨H, rfl, g0, g1, go, gh, gb⟩
    by_cases h16:ce < 16
    · have hcs := hcs h16
      apply qbs
      simp (disch:=first|omega|decide|simp only[qai,qag,qak,qaj,qah,qae,qac,qad,qan]) only[qa6,qau,qao,qap,qam,qaf,qaS,qaN,qcC,qaq,qaz,qaI,qar,qb0,qaF,qbr,qaB,qaa,qaG,qaw,qat,zK,zL,zN,zO,zJ,zM,Nat.reduceAdd,zB,zE,zT,zQ,qbY,N_mul,qa2,Nat.reduceAdd,zQ,zT,qbi,qaV,qbL,L11b1,h16,hcs]
      rfl
    · apply qbs
      simp (disch:=first|omega|decide|simp only[qai,qag,qak,qaj,qah,qae,qac,qad,qan]) only[qa6,qau,qao,qap,qam,qaf,qaS,qaN,guardK_false,qaq,qaz,qaI,qar,qbq,qaF,qbr,qaB,qaa,qaG,qaw,qat,zK,zL,zN,zO,zJ,zM,Nat.reduceAdd,zB,zE,zQ,qa2,Nat.reduceAdd,zQ,L11b1,h16]
      rfl
  · rintro st ⟨H, rfl, g0, g1, go, gh, gb⟩ hr
    subst hr
    rw[bf_end hs (by omega) hc16] at gb
    have hnc:=fun (b:Nat) (H:Heap)=>qdj k0 b 16 (.inr rfl) H k _ (Ab.nd s i) (lent_512 H _ hnl) (by omega) (by omega)
    by_cases h16:ce < 16
    · have hcs := hcs h16
      simp (disch:=first|omega|decide|simp only[qai,qag,qak,qaj,qah,qae,qac,qad,qan]) only[qa6,qau,qao,qap,qam,qaf,qaS,qcC,qaq,qaz,qaI,qar,qb0,qaF,qbr,qaB,qaa,qaG,qbc,qaw,qat,zK,zL,zN,zO,zJ,zM,Nat.reduceAdd,zC,zB,zE,zT,zQ,zE,zB,qbY,N_mul,qa2,Nat.reduceAdd,zQ,zT,qbi,qaV,qbL,qax,qay,qal,L11b1,h16,hcs,qal]
      rw[fzSt_sl 12 _ _ _ _ (1,4) 512 (some 512) (Ab.nd s i) rfl (by simp only[gb]) (by decide) hnl]
      simp (disch:=first|omega|decide|simp only[qai,qag,qak,qaj,qah,qae,qac,qad,qan]) only[qao,qaf,qaq,qaz,qaF,zK,zL,zN,zO,zG,zF,zP,zR,zJ,zM,Nat.reduceAdd,qbW,qcx,qco,qb2,zzB,zzE,zzD,zX,zC,zB,zE,Nat.le_refl,zE,zB,Nat.reduceAdd,qbB,qbK,qbw,qax,qaM,qay,qal,qdp,qdf,qal]
      subst hi0
      rw[napp0 16 _ (15,0) (Ab.nd s 0) (by simp only[qab,zD,Nat.reduceEqDiff,zX,zC,zA])]
      simp (disch:=first|omega|decide|simp only[qai,qag,qak,qaj,qah,qae,qac,qad,qan]) only[qao,qap,qam,qaf,qaq,qaz,qaI,qar,qaF,qaB,qa1,qaT,qaa,qa4,zK,zL,zN,zO,zG,zF,zJ,zM,Nat.reduceAdd,qab,zD,Nat.reduceEqDiff,zH,zX,zC,zA,zB,zE,zE,zB,qbY,Nat.reduceEqDiff,Nat.reduceMul,Nat.reduceAdd,qbB,qb8,qb9,qcb,appX_nil,qbK,qbw,qax,qaM,qay,qcI,qal,hnc,fill32,aB_dl,front32d,qal]
      refine ⟨_,rfl,?_⟩
      refine qaU [(1,0),(1,1),(1,2),(1,3),(16,0),(23,0)] rfl (by simp only[qaA,FUEL,qaH,qaD,qaE,qaP,qaK,qaL,zS,zW,zP,zV,zR,zk,zF,zY,za,zD,zt,zo,ze,Nat.reduceEqDiff,zH,zU,zp,zC,zA,zd,zi,zm,zg,zl,ne_eq,zq,qab,qaJ,qaC,qav,qaO,L11k2,g0,g1,go,gh,qbS,qbh,ns_nms,qbd,qaK,qaO,hro1]) ?_ ⟨_,rfl,?_,?_,?_,?_,?_,?_⟩
      · simp only [L11k2, zG, zF, qa8, qbT, qbk, qaC, qav, qaJ, qa9, qa8]
        rfl
      · exact qas (1,0) rfl (by simp only[qab,zD,Nat.reduceEqDiff,zH,zU,zA,g0]) (qbj _ _ _)
      · exact qas (1,1) rfl (by simp only[qab,zD,Nat.reduceEqDiff,zU,zX,zA,zd,g1]) (ns_ren _ _)
      · exact qas (1,2) rfl (by simp only[qab,zD,Nat.reduceEqDiff,zU,zX,zA,go]) (hro _)
      · exact qas (1,3) rfl (by simp only[qab,zD,Nat.reduceEqDiff,zU,zX,zA,gh]) (qaW _ _)
      · exact qas (16,0) rfl (by simp only[qab,zD,Nat.reduceEqDiff,zH,zX,zC,zA]; try rfl) (isl1_ren _ _)
      · exact qas (23,0) rfl (by simp only[qab,zD,Nat.reduceEqDiff,zH,zX,zC,zA]; try rfl) (qaW _ _)
    · skip
      simp (disch:=first|omega|decide|simp only[qai,qag,qak,qaj,qah,qae,qac,qad,qan]) only[qa6,qau,qao,qap,qam,qaf,qaS,guardK_false,qaq,qaz,qaI,qar,qbq,qaF,qbr,qaB,qaa,qaG,qbc,qaw,qat,zK,zL,zN,zO,zJ,zM,Nat.reduceAdd,zC,zB,zE,zQ,zE,zB,qa2,Nat.reduceAdd,zQ,qax,qay,qal,L11b1,h16,zE,qal]
      rw[fzSt_sl 12 _ _ _ _ (1,4) 512 (some 512) (Ab.nd s i) rfl (by simp only[gb]) (by decide) hnl]
      simp (disch:=first|omega|decide|simp only[qai,qag,qak,qaj,qah,qae,qac,qad,qan]) only[qao,qaf,qaq,qaz,qaF,zK,zL,zN,zO,zG,zF,zP,zR,zJ,zM,Nat.reduceAdd,qbW,qcx,qco,qb2,zzB,zzE,zzD,zX,zC,zB,zE,Nat.le_refl,zE,zB,Nat.reduceAdd,qbB,qbK,qbw,qax,qaM,qay,qal,qdp,qdf,qal]
      subst hi0
      rw[napp0 16 _ (15,0) (Ab.nd s 0) (by simp only[qab,zD,Nat.reduceEqDiff,zX,zC,zA])]
      simp (disch:=first|omega|decide|simp only[qai,qag,qak,qaj,qah,qae,qac,qad,qan]) only[qao,qap,qam,qaf,qaq,qaz,qaI,qar,qaF,qaB,qa1,qaT,qaa,qa4,zK,zL,zN,zO,zG,zF,zJ,zM,Nat.reduceAdd,qab,zD,Nat.reduceEqDiff,zH,zX,zC,zA,zB,zE,zE,zB,qbY,Nat.reduceEqDiff,Nat.reduceAdd,qbB,qb8,qb9,qcb,appX_nil,qbK,qbw,qax,qaM,qay,qcI,qal,hnc,fill32,aB_dl,front32d,qal]
      refine ⟨_,rfl,?_⟩
      refine qaU [(1,0),(1,1),(1,2),(1,3),(16,0),(23,0)] rfl (by simp only[qaA,FUEL,qaH,qaD,qaE,qaP,qaK,qaL,zS,zW,zP,zV,zR,zk,zF,zY,za,zD,zt,zo,ze,Nat.reduceEqDiff,zH,zU,zp,zC,zA,zd,zi,zm,zg,zl,ne_eq,zq,qab,qaJ,qaC,qav,qaO,L11k2,g0,g1,go,gh,qbS,qbh,ns_nms,qbd,qaK,qaO,hro1]) ?_ ⟨_,rfl,?_,?_,?_,?_,?_,?_⟩
      · simp only [L11k2, zG, zF, qa8, qbT, qbk, qaC, qav, qaJ, qa9, qa8]
        rfl
      · exact qas (1,0) rfl (by simp only[qab,zD,Nat.reduceEqDiff,zH,zU,zA,g0]) (qbj _ _ _)
      · exact qas (1,1) rfl (by simp only[qab,zD,Nat.reduceEqDiff,zU,zX,zA,zd,g1]) (ns_ren _ _)
      · exact qas (1,2) rfl (by simp only[qab,zD,Nat.reduceEqDiff,zU,zX,zA,go]) (hro _)
      · exact qas (1,3) rfl (by simp only[qab,zD,Nat.reduceEqDiff,zU,zX,zA,gh]) (qaW _ _)
      · exact qas (16,0) rfl (by simp only[qab,zD,Nat.reduceEqDiff,zH,zX,zC,zA]; try rfl) (isl1_ren _ _)
      · exact qas (23,0) rfl (by simp only[qab,zD,Nat.reduceEqDiff,zH,zX,zC,zA]; try rfl) (qaW _ _)
set_option maxRecDepth 20000 in
theorem i_round11 (K k0:Nat) (hK:500≤K) (hk0:500≤k0) (l:List (BitVec 8)) (n Lc:Nat) (lv:List Nat) (s:List (BitVec 8)) (q k i:Nat) (ro:qaR) (rn:qaR) (rx:List (BitVec 8)) (hs:s.length=32*q) (hro1:ro.flatMap (nms D)=[]) (hro:∀ π,ro.map (ren D π)=ro) (hrn1:rn.flatMap (nms D)=[]) (hrn:∀ π,rn.map (ren D π)=rn) (hi0:0 < i) (hrl:rn.length=i) (hxl:rx.length=32*i) (hi:i≤500) (hq:q≤1000000) (hk3:k≤3) (mk:Nat) (hlk:cellK k 1 (some (ns lv))=some [N mk]) (hkL:k < Lc) (him:i < mk) (st:St) (hI:iJ11 l n Lc lv s q k i ro rn rx st) :
    ∃ st1,ev (envC C k0) K L11b2 st=some (.normal,st1)∧iJ11 l n Lc lv s q k (i+1) ro (rn++[.isl (bs (Ab.nd s i)) 512]) (rx++dl (nodeB k (Ab.nd s i))) (qby L11k2 st1):=by
  obtain ⟨H,rfl,g0,g1,go,gh,gn,gx⟩:=hI
  obtain ⟨ce,hc16,hcl,hcs⟩:∃ ce,ce≤16∧(∀ c,c < ce→16*i+c < q)∧(ce < 16→¬ 16*i+ce < q):=⟨min 16 (q - 16*i),by omega,by intro c hc; omega,by intro h; omega⟩
  have hnl:=nd_length hs i
  have hmk:=mk512 8
  simp (disch:=first|omega|decide|simp only[qai,qag,qak,qaj,qah,qae,qac,qad,qan]) only[qba,qau,qa3,qao,qap,qam,qaf,qaq,qaz,qaI,qar,qaF,qaB,qaa,qaw,qaY,zK,zL,zN,zO,zJ,zM,qbZ,Nat.reduceAdd,qaQ,qbe,qbx,zB,zE,zT,qbH,zZ,zE,zB,qa2,qbO,Nat.reduceAdd,zT,qb7,qbG,op_mkslice,qax,qaM,qay,zZ,qal,L11b2,ev_seqz,g1,hlk,him,hmk,qbG,zZ,zB,qal]
  generalize hLp:qca L11k1 _ _ _=r
  refine qbJ hLp (cJ11 l n Lc lv s q k i ro rn rx) ce (by omega) (fun c st hc hI=>c_round11 _ _ (by omega) l n Lc lv s q k i ro rn rx hs hro1 hro hrn1 hrn (by omega) hq c (by omega) (hcl c hc) st hI) ?_ ?_ ?_
  · refine qaU [(1, 0), (1, 1), (1, 2), (1, 3), (1, 4), (1, 5), (8, 0)] rfl (by simp only [qaA, FUEL, qaH, qaD, qaE, qaP, qaK, qaL, zS, zW, zP, zV, zR, zk, zF, zY, za, zD, zt, zo, ze, Nat.reduceEqDiff, zH, zU, zp, zC, zA, zd, zi, zm, zg, zl, ne_eq, zq, qab, qaJ, qaC, qav, qaO, L11k1, g0, g1, go, gh, gn, gx, qbS, qbh, ns_nms, qbd, qaK, qaO, hro1, hrn1]) ?_ ⟨_, rfl, ?_, ?_, ?_, ?_, ?_, ?_, ?_⟩
    · simp only [L11k1, zG, zF, qa8, qbT, qbk, qaC, qav, qaJ, qa9, qa8]
      rfl
    · exact qas (1,0) rfl (by simp only[qab,zD,Nat.reduceEqDiff,zH,zA,g0]) (qbj _ _ _)
    · exact qas (1,1) rfl (by simp only[qab,zD,Nat.reduceEqDiff,zX,zA,zd,g1]) (ns_ren _ _)
    · exact qas (1,2) rfl (by simp only[qab,zD,Nat.reduceEqDiff,zX,zA,go]) (hro _)
    · exact qas (1,3) rfl (by simp only[qab,zD,Nat.reduceEqDiff,zX,zA,gh]) (qaW _ _)
    · exact qas (1,4) rfl (by simp only[qab,zD,Nat.reduceEqDiff,zX,zA,gn]) (hrn _)
    · exact qas (1,5) rfl (by simp only[qab,zD,Nat.reduceEqDiff,zX,zA,gx]) (qaW _ _)
    · exact qas (8,0) rfl (by simp only[qab,zC,Nat.mul_zero,bf_zero]) (qbj _ _ _)
  · rintro st ⟨H, rfl, g0, g1, go, gh, gn, gx, gb⟩
    by_cases h16:ce < 16
    · have hcs := hcs h16
      apply qbs
      simp (disch:=first|omega|decide|simp only[qai,qag,qak,qaj,qah,qae,qac,qad,qan]) only[qa6,qau,qao,qap,qam,qaf,qaS,qaN,qcC,qaq,qaz,qaI,qar,qb0,qaF,qbr,qaB,qaa,qaG,qaw,qat,zK,zL,zN,zO,zJ,zM,Nat.reduceAdd,zB,zE,zT,zQ,qbY,N_mul,qa2,Nat.reduceAdd,zQ,zT,qbi,qaV,qbL,L11b1,h16,hcs]
      rfl
    · apply qbs
      simp (disch:=first|omega|decide|simp only[qai,qag,qak,qaj,qah,qae,qac,qad,qan]) only[qa6,qau,qao,qap,qam,qaf,qaS,qaN,guardK_false,qaq,qaz,qaI,qar,qbq,qaF,qbr,qaB,qaa,qaG,qaw,qat,zK,zL,zN,zO,zJ,zM,Nat.reduceAdd,zB,zE,zQ,qa2,Nat.reduceAdd,zQ,L11b1,h16]
      rfl
  · rintro st ⟨H, rfl, g0, g1, go, gh, gn, gx, gb⟩ hr
    subst hr
    rw[bf_end hs (by omega) hc16] at gb
    have hnc:=fun (b:Nat) (H:Heap)=>qdj k0 b 16 (.inr rfl) H k _ (Ab.nd s i) (lent_512 H _ hnl) (by omega) (by omega)
    by_cases h16:ce < 16
    · have hcs := hcs h16
      simp (disch:=first|omega|decide|simp only[qai,qag,qak,qaj,qah,qae,qac,qad,qan]) only[qa6,qau,qao,qap,qam,qaf,qaS,qcC,qaq,qaz,qaI,qar,qb0,qaF,qbr,qaB,qaa,qaG,qbc,qaw,qat,zK,zL,zN,zO,zJ,zM,Nat.reduceAdd,zC,zB,zE,zT,zQ,zE,zB,qbY,N_mul,qa2,Nat.reduceAdd,zQ,zT,qbi,qaV,qbL,qax,qay,qal,L11b1,h16,hcs,qal]
      rw[fzSt_sl 12 _ _ _ _ (1,6) 512 (some 512) (Ab.nd s i) rfl (by simp only[gb]) (by decide) hnl]
      simp (disch:=first|omega|decide|simp only[qai,qag,qak,qaj,qah,qae,qac,qad,qan]) only[qao,qaf,qaq,qaz,qaF,zK,zL,zN,zO,zG,zF,zP,zR,zJ,zM,Nat.reduceAdd,qbW,qcx,qco,qb2,zzB,zzE,zzD,zX,zC,zB,zE,Nat.le_refl,zE,zB,Nat.reduceAdd,qbB,qbK,qbw,qax,qaM,qay,qal,qdp,qdf,qal]
      rw[napp1 16 _ (15,0) (1,4) i rn (Ab.nd s i) (by simp only[qab,zD,Nat.reduceEqDiff,zX,zC,zA]) (by simp only[qab,zD,Nat.reduceEqDiff,zU,zX,zA,gn]) hrl (by omega)]
      simp (disch:=first|omega|decide|simp only[qai,qag,qak,qaj,qah,qae,qac,qad,qan]) only[qao,qap,qam,qaf,qaq,qaz,qaI,qaF,qa1,qaT,qaa,zK,zL,zN,zO,zG,zF,zJ,zM,Nat.reduceAdd,qab,zD,Nat.reduceEqDiff,zH,zX,zC,zA,zB,zE,zE,zB,Nat.reduceEqDiff,Nat.reduceAdd,qbB,qb8,qb9,qcb,qbK,qbw,qax,qaM,qay,qa0,qcI,qal,hnc,fill32,aB_dl,front32d,qal]
      rw[app32_row 23 _ (1,5) i rx (dl (nodeB k (Ab.nd s i))) (by simp only[qab,zD,Nat.reduceEqDiff,zU,zX,zA,gx]) hxl (by omega)]
      simp (disch:=first|omega|decide|simp only[qai,qag,qak,qaj,qah,qae,qac,qad,qan]) only[qao,qap,qam,qaf,qaq,qaz,qaI,qar,qaF,qaB,qaa,qa4,zK,zL,zN,zO,zJ,zM,Nat.reduceAdd,zB,zE,zE,zB,qbY,Nat.reduceAdd,qax,qaM,qay,qa0,qal,qal]
      refine ⟨_,rfl,?_⟩
      refine qaU [(1,0),(1,1),(1,2),(1,3),(16,0),(23,0)] rfl (by simp only[qaA,FUEL,qaH,qaD,qaE,qaP,qaK,qaL,zS,zW,zP,zV,zR,zk,zF,zY,za,zD,zt,zo,ze,Nat.reduceEqDiff,zH,zU,zp,zC,zA,zd,zi,zm,zg,zl,ne_eq,zq,qab,qaJ,qaC,qav,qaO,L11k2,g0,g1,go,gh,qbS,qbh,ns_nms,qbd,qaK,qaO,hro1,hrn1,List.flatMap_append]) ?_ ⟨_,rfl,?_,?_,?_,?_,?_,?_⟩
      · simp only [L11k2, zG, zF, qa8, qbT, qbk, qaC, qav, qaJ, qa9, qa8]
        rfl
      · exact qas (1,0) rfl (by simp only[qab,zD,Nat.reduceEqDiff,zH,zU,zA,g0]) (qbj _ _ _)
      · exact qas (1,1) rfl (by simp only[qab,zD,Nat.reduceEqDiff,zU,zX,zA,zd,g1]) (ns_ren _ _)
      · exact qas (1,2) rfl (by simp only[qab,zD,Nat.reduceEqDiff,zU,zX,zA,go]) (hro _)
      · exact qas (1,3) rfl (by simp only[qab,zD,Nat.reduceEqDiff,zU,zX,zA,gh]) (qaW _ _)
      · exact qas (16,0) rfl (by simp only[qab,zD,Nat.reduceEqDiff,zH,zX,zC,zA]; try rfl) (by rw[List.map_append,hrn,isl1_ren])
      · exact qas (23,0) rfl (by simp only[qab,zD,Nat.reduceEqDiff,zH,zX,zC,zA]; try rfl) (qaW _ _)
    · skip
      simp (disch:=first|omega|decide|simp only[qai,qag,qak,qaj,qah,qae,qac,qad,qan]) only[qa6,qau,qao,qap,qam,qaf,qaS,guardK_false,qaq,qaz,qaI,qar,qbq,qaF,qbr,qaB,qaa,qaG,qbc,qaw,qat,zK,zL,zN,zO,zJ,zM,Nat.reduceAdd,zC,zB,zE,zQ,zE,zB,qa2,Nat.reduceAdd,zQ,qax,qay,qal,L11b1,h16,zE,qal]
      rw[fzSt_sl 12 _ _ _ _ (1,6) 512 (some 512) (Ab.nd s i) rfl (by simp only[gb]) (by decide) hnl]
      simp (disch:=first|omega|decide|simp only[qai,qag,qak,qaj,qah,qae,qac,qad,qan]) only[qao,qaf,qaq,qaz,qaF,zK,zL,zN,zO,zG,zF,zP,zR,zJ,zM,Nat.reduceAdd,qbW,qcx,qco,qb2,zzB,zzE,zzD,zX,zC,zB,zE,Nat.le_refl,zE,zB,Nat.reduceAdd,qbB,qbK,qbw,qax,qaM,qay,qal,qdp,qdf,qal]
      rw[napp1 16 _ (15,0) (1,4) i rn (Ab.nd s i) (by simp only[qab,zD,Nat.reduceEqDiff,zX,zC,zA]) (by simp only[qab,zD,Nat.reduceEqDiff,zU,zX,zA,gn]) hrl (by omega)]
      simp (disch:=first|omega|decide|simp only[qai,qag,qak,qaj,qah,qae,qac,qad,qan]) only[qao,qap,qam,qaf,qaq,qaz,qaI,qaF,qa1,qaT,qaa,zK,zL,zN,zO,zG,zF,zJ,zM,Nat.reduceAdd,qab,zD,Nat.reduceEqDiff,zH,zX,zC,zA,zB,zE,zE,zB,Nat.reduceEqDiff,Nat.reduceAdd,qbB,qb8,qb9,qcb,qbK,qbw,qax,qaM,qay,qa0,qcI,qal,hnc,fill32,aB_dl,front32d,qal]
      rw[app32_row 23 _ (1,5) i rx (dl (nodeB k (Ab.nd s i))) (by simp only[qab,zD,Nat.reduceEqDiff,zU,zX,zA,gx]) hxl (by omega)]
      simp (disch:=first|omega|decide|simp only[qai,qag,qak,qaj,qah,qae,qac,qad,qan]) only[qao,qap,qam,qaf,qaq,qaz,qaI,qar,qaF,qaB,qaa,qa4,zK,zL,zN,zO,zJ,zM,Nat.reduceAdd,zB,zE,zE,zB,qbY,Nat.reduceAdd,qax,qaM,qay,qa0,qal,qal]
      refine ⟨_,rfl,?_⟩
      refine qaU [(1,0),(1,1),(1,2),(1,3),(16,0),(23,0)] rfl (by simp only[qaA,FUEL,qaH,qaD,qaE,qaP,qaK,qaL,zS,zW,zP,zV,zR,zk,zF,zY,za,zD,zt,zo,ze,Nat.reduceEqDiff,zH,zU,zp,zC,zA,zd,zi,zm,zg,zl,ne_eq,zq,qab,qaJ,qaC,qav,qaO,L11k2,g0,g1,go,gh,qbS,qbh,ns_nms,qbd,qaK,qaO,hro1,hrn1,List.flatMap_append]) ?_ ⟨_,rfl,?_,?_,?_,?_,?_,?_⟩
      · simp only [L11k2, zG, zF, qa8, qbT, qbk, qaC, qav, qaJ, qa9, qa8]
        rfl
      · exact qas (1,0) rfl (by simp only[qab,zD,Nat.reduceEqDiff,zH,zU,zA,g0]) (qbj _ _ _)
      · exact qas (1,1) rfl (by simp only[qab,zD,Nat.reduceEqDiff,zU,zX,zA,zd,g1]) (ns_ren _ _)
      · exact qas (1,2) rfl (by simp only[qab,zD,Nat.reduceEqDiff,zU,zX,zA,go]) (hro _)
      · exact qas (1,3) rfl (by simp only[qab,zD,Nat.reduceEqDiff,zU,zX,zA,gh]) (qaW _ _)
      · exact qas (16,0) rfl (by simp only[qab,zD,Nat.reduceEqDiff,zH,zX,zC,zA]; try rfl) (by rw[List.map_append,hrn,isl1_ren])
      · exact qas (23,0) rfl (by simp only[qab,zD,Nat.reduceEqDiff,zH,zX,zC,zA]; try rfl) (qaW _ _)
end Sha
namespace Sha
open Go Go.LE
theorem lvs_cell (n k:Nat) (hk:k < nl n+1):cellK k 1 (some (ns (lvs n)))=some [N (cn n (k+1))]:=by rw[ns_cell n k hk,su_cn]
def kJ0 (l:List (BitVec 8)) (n:Nat) (st:St):Prop := ∃ (H:Heap),st=⟨[.isl (bs l) n,.undef,.undef,.ptr (1,0) 0,.undef,.sl (1,1) 0 (nl n+1) none 1,Nil,.isl (bs l) n,N 0,.undef,.undef,.undef,.undef,.undef,.undef,.undef,.undef,.undef,.undef,.undef,.undef,.undef,.undef,.undef,.undef,.undef,.undef,.undef,.undef,.undef,.undef,.undef,.undef,.undef,.undef,.undef,.undef,.undef,.undef,.undef,.undef,.undef,.undef,.undef,.undef,.undef,.undef,.undef,.undef,.undef,.undef,.undef,.undef,.undef,.undef,.undef,.undef,.undef,.undef,.undef,.undef,.undef,.undef,.undef,.undef,.undef,.undef,.undef,.undef,.undef,.undef,.undef,.undef,.undef,.undef,.undef,.undef,.undef,.undef,.undef,.undef,.undef,.undef,.undef,.undef,.undef,.undef,.undef,.undef,.undef,.undef,.undef,.undef,.undef,.undef,.undef,.undef,.undef,.undef,.undef],H,2,0⟩∧H (1,0)=some (aB 32 fun _=>0#8)∧H (1,1)=some (ns (lvs n))
def kJ1 (l:List (BitVec 8)) (n k:Nat) (st:St):Prop := ∃ (H:Heap),st=⟨[.isl (bs l) n,.undef,.undef,.ptr (1,0) 0,.undef,.sl (1,1) 0 (nl n+1) none 1,.sl (1,2) 0 k none 1,.sl (1,3) 0 (cn n k) none 32,N k,.undef,.undef,.undef,.undef,.undef,.undef,.undef,.undef,.undef,.undef,.undef,.undef,.undef,.undef,.undef,.undef,.undef,.undef,.undef,.undef,.undef,.undef,.undef,.undef,.undef,.undef,.undef,.undef,.undef,.undef,.undef,.undef,.undef,.undef,.undef,.undef,.undef,.undef,.undef,.undef,.undef,.undef,.undef,.undef,.undef,.undef,.undef,.undef,.undef,.undef,.undef,.undef,.undef,.undef,.undef,.undef,.undef,.undef,.undef,.undef,.undef,.undef,.undef,.undef,.undef,.undef,.undef,.undef,.undef,.undef,.undef,.undef,.undef,.undef,.undef,.undef,.undef,.undef,.undef,.undef,.undef,.undef,.undef,.undef,.undef,.undef,.undef,.undef,.undef,.undef,.undef],H,2,0⟩∧H (1,0)=some (aB 32 fun _=>0#8)∧H (1,1)=some (ns (lvs n))∧H (1,2)=some (outC l n k)∧H (1,3)=some (bs (lay l n k))
set_option maxRecDepth 20000 in
theorem k_round0 (K k0:Nat) (hK:600≤K) (hk0:600≤k0) (l:List (BitVec 8)) (n:Nat) (hl:l.length=32*n) (hn:1≤n∧n≤4096) (st:St) (hI:kJ0 l n st) :
    ∃ st1,ev (envC C k0) K L11b3 st=some (.normal,st1)∧kJ1 l n (0+1) (qby L11k3 st1):=by
  obtain ⟨H,rfl,g0,g1⟩:=hI
  have hs:=lay_length hl 0
  have hn2:=nl_le n
  have hcn:=cn_le hn 0
  have hcn1:=cn_le hn (0+1)
  have hub:=ups_le hn 0
  have hkl:0 < nl n+1:=by omega
  have hcell:=lvs_cell n 0 hkl
  simp (disch:=first|omega|decide|simp only[qai,qag,qak,qaj,qah,qae,qac,qad,qan]) only[qba,qau,qa3,qao,qap,qam,qaf,qaq,qaz,qaI,qar,qaF,qaB,qaa,qaw,qaY,zK,zL,zN,zO,zJ,zM,qbZ,Nat.reduceAdd,zB,zE,zT,zE,zB,qa2,Nat.reduceAdd,zT,qbi,qaV,qbL,qax,qay,qal,L11b3,hkl,qal]
  generalize hLp:qca L11k2 _ _ _=r
  refine qbJ hLp (fun i st=>(i=0∧iJ00 l n (nl n+1) (lvs n) (lay l n 0) (cn n 0) 0 0 st)∨(0 < i∧iJ01 l n (nl n+1) (lvs n) (lay l n 0) (cn n 0) 0 i (Ab.ndC (lay l n 0) i) (dgs 0 (lay l n 0) i) st)) (cn n (0+1)) (by omega) (fun i st hi hI => ?_) ?_ ?_ ?_
  · have hv:∃ st1,ev (envC C k0) K L11b2 st=some (.normal,st1)∧iJ01 l n (nl n+1) (lvs n) (lay l n 0) (cn n 0) 0 (i+1) (Ab.ndC (lay l n 0) (i+1)) (dgs 0 (lay l n 0) (i+1)) (qby L11k2 st1):=by
      rcases hI with ⟨rfl,hI⟩ | ⟨hi0,hI⟩
      · exact i_round00 _ _ (by omega) (by omega) l n (nl n+1) (lvs n) (lay l n 0) (cn n 0) 0 0 hs ⟨rfl,rfl⟩ rfl (by omega) (by omega) (by omega) _ hcell hkl hi st hI
      · rw [Ab.ndC_succ]
        exact i_round01 _ _ (by omega) (by omega) l n (nl n+1) (lvs n) (lay l n 0) (cn n 0) 0 i _ _ hs ⟨rfl,rfl⟩ (Ab.ndC_nms _ _) (fun π=>Ab.ndC_ren _ _ π) hi0 (Ab.ndC_length _ _) (dgs_length _ _ _) (by omega) (by omega) (by omega) _ hcell hkl hi st hI
    obtain ⟨st1,q1,q2⟩:=hv
    exact ⟨st1,q1,.inr ⟨by omega,q2⟩⟩
  · refine .inl ⟨rfl, qaU [(1, 0), (1, 1)] rfl (by simp only [qaA, FUEL, qaH, qaD, qaE, qaP, qaK, qaL, zS, zW, zP, zV, zR, zk, zF, zY, za, zD, zt, zo, ze, zU, zp, zC, zA, zd, zm, zg, zl, ne_eq, zq, qaJ, qaC, qav, qaO, qbu, L11k2, g0, g1, qbS, ns_nms, qbd, qaK, qbu, qaO]) ?_ ⟨_, rfl, ?_, ?_⟩⟩
    · simp only [L11k2, zG, zF, qda, qa8, qbT, qbk, qaC, qav, qaJ, qa9, qa8]
      rfl
    · exact qas (1,0) rfl (by simp only[g0]) (qbj _ _ _)
    · exact qas (1,1) rfl (by simp only[g1]) (ns_ren _ _)
  · rintro st (⟨he, _⟩ | ⟨_, H, rfl, g0, g1, gn, gx⟩)
    · omega
    · apply qbs
      simp (disch:=first|omega|decide|simp only[qai,qag,qak,qaj,qah,qae,qac,qad,qan]) only[qa6,qau,qao,qap,qam,qaf,qaN,qaq,qaz,qar,qaF,qaB,qaa,qaG,qaw,qat,zK,zL,zN,zO,zJ,zM,Nat.reduceAdd,qaQ,qbe,qbx,zB,zE,zQ,qa2,qbO,Nat.reduceAdd,zj,zQ,qb7,qbG,zZ,L11b2,zj,g1,hcell,qbG,zZ,zB]
      rfl
  · rintro st (⟨he, _⟩ | ⟨_, H, rfl, g0, g1, gn, gx⟩) hr
    · omega
    · subst hr
      have hz:appKz 11 1 24 (upd H (10,0) (some [.sl (1,2) 0 (cn n (0+1)) none 1])) (Nil) (.sl (10,0) 0 1 (some 1) 1) (some 1)=some ⟨.sl (11,0) 0 (0+1) none 1,[outC l n (0+1)],[((1,2),none)]⟩:=by
        rw[appKz_row _ _ _ (10,0) (1,2) (cn n (0+1)) none (Ab.ndC (lay l n 0) (cn n (0+1))) (by simp only[qab,zC,zB]) (by simp only[qab,zD,Nat.reduceEqDiff,zX,zA,zB,gn]) (by omega) (Ab.ndC_length _ _),outC_succ]
        exact appX_nilz _ _
      simp (disch:=first|omega|decide|simp only[qai,qag,qak,qaj,qah,qae,qac,qad,qan]) only[qa6,qau,qao,qap,qam,qaf,qaq,qaz,qaI,qar,qaF,qaB,qaa,qaG,qa4,qbc,qaw,qat,zK,zL,zN,zO,zG,zF,zP,zR,zJ,zM,Nat.reduceAdd,qaQ,qbe,qbx,qbW,qcx,qco,qb2,zzB,zzE,zzD,zX,zC,zB,zE,Nat.le_refl,zQ,qbH,zZ,zE,zB,qbY,qa2,qbO,Nat.reduceAdd,zj,zQ,qbB,qdi,qb7,qbG,qbK,qbw,qax,qaM,qay,qa0,zZ,qal,L11b2,zj,g1,hcell,qbG,qdf,hz,qal]
      refine ⟨_,rfl,?_⟩
      refine qaU [(1,0),(1,1),(11,0),(1,3)] rfl (by simp only[qaA,FUEL,qaH,qaD,qaE,qaP,qaK,qaL,zS,zW,zP,zV,zR,zk,zF,zY,za,zD,zt,zo,ze,Nat.reduceEqDiff,zH,zU,zp,zC,zA,zd,zi,zm,zg,zl,ne_eq,zq,qab,Nat.reduceAdd,qaJ,qaC,qav,qaO,L11k3,g0,g1,gx,qbS,qbh,ns_nms,qbd,outC_nms,qaK,qaO]) ?_ ⟨_,rfl,?_,?_,?_,?_⟩
      · simp only [L11k3, zG, zF, qa8, qbT, qbk, qaC, qav, qaJ, qa9, qa8]
        rfl
      · exact qas (1,0) rfl (by simp only[qab,zD,Nat.reduceEqDiff,zH,zU,zA,g0]) (qbj _ _ _)
      · exact qas (1,1) rfl (by simp only[qab,zD,Nat.reduceEqDiff,zU,zX,zA,zd,g1]) (ns_ren _ _)
      · exact qas (11,0) rfl (by simp only[qab,zD,Nat.reduceEqDiff,zH,zX,zC,zA]) (qcN _ _ _ _)
      · exact qas (1,3) rfl (by simp only[qab,zD,Nat.reduceEqDiff,zU,zX,zA,zB,gx]; try rfl) (qaW _ _)
set_option maxRecDepth 20000 in
theorem k_round1 (K k0:Nat) (hK:600≤K) (hk0:600≤k0) (l:List (BitVec 8)) (n:Nat) (hl:l.length=32*n) (hn:1≤n∧n≤4096) (k:Nat) (hk0:0 < k) (hk:k < nl n+1) (st:St) (hI:kJ1 l n k st) :
    ∃ st1,ev (envC C k0) K L11b3 st=some (.normal,st1)∧kJ1 l n (k+1) (qby L11k3 st1):=by
  obtain ⟨H,rfl,g0,g1,go,gh⟩:=hI
  have hs:=lay_length hl k
  have hn2:=nl_le n
  have hcn:=cn_le hn k
  have hcn1:=cn_le hn (k+1)
  have hub:=ups_le hn k
  have hkl:k < nl n+1:=by omega
  have hcell:=lvs_cell n k hkl
  simp (disch:=first|omega|decide|simp only[qai,qag,qak,qaj,qah,qae,qac,qad,qan]) only[qba,qau,qa3,qao,qap,qam,qaf,qaq,qaz,qaI,qar,qaF,qaB,qaa,qaw,qaY,zK,zL,zN,zO,zJ,zM,qbZ,Nat.reduceAdd,zB,zE,zT,zE,zB,qa2,Nat.reduceAdd,zT,qbi,qaV,qbL,qax,qay,qal,L11b3,hkl,qal]
  generalize hLp:qca L11k2 _ _ _=r
  refine qbJ hLp (fun i st=>(i=0∧iJ10 l n (nl n+1) (lvs n) (lay l n k) (cn n k) k 0 (outC l n k) st)∨(0 < i∧iJ11 l n (nl n+1) (lvs n) (lay l n k) (cn n k) k i (outC l n k) (Ab.ndC (lay l n k) i) (dgs k (lay l n k) i) st)) (cn n (k+1)) (by omega) (fun i st hi hI => ?_) ?_ ?_ ?_
  · have hv:∃ st1,ev (envC C k0) K L11b2 st=some (.normal,st1)∧iJ11 l n (nl n+1) (lvs n) (lay l n k) (cn n k) k (i+1) (outC l n k) (Ab.ndC (lay l n k) (i+1)) (dgs k (lay l n k) (i+1)) (qby L11k2 st1):=by
      rcases hI with ⟨rfl,hI⟩ | ⟨hi0,hI⟩
      · exact i_round10 _ _ (by omega) (by omega) l n (nl n+1) (lvs n) (lay l n k) (cn n k) k 0 (outC l n k) hs (outC_nms _ _ _) (qcN _ _ _) rfl (by omega) (by omega) (by omega) _ hcell hkl hi st hI
      · rw [Ab.ndC_succ]
        exact i_round11 _ _ (by omega) (by omega) l n (nl n+1) (lvs n) (lay l n k) (cn n k) k i (outC l n k) _ _ hs (outC_nms _ _ _) (qcN _ _ _) (Ab.ndC_nms _ _) (fun π=>Ab.ndC_ren _ _ π) hi0 (Ab.ndC_length _ _) (dgs_length _ _ _) (by omega) (by omega) (by omega) _ hcell hkl hi st hI
    obtain ⟨st1,q1,q2⟩:=hv
    exact ⟨st1,q1,.inr ⟨by omega,q2⟩⟩
  · refine .inl ⟨rfl, qaU [(1, 0), (1, 1), (1, 2), (1, 3)] rfl (by simp only [qaA, FUEL, qaH, qaD, qaE, qaP, qaK, qaL, zS, zW, zP, zV, zR, zk, zF, zY, za, zD, zt, zo, ze, Nat.reduceEqDiff, zU, zp, zC, zA, zd, zm, zg, zl, ne_eq, zq, qaJ, qaC, qav, qaO, qbu, L11k2, g0, g1, go, gh, qbS, qbh, ns_nms, qbd, outC_nms, qaK, qbu, qaO]) ?_ ⟨_, rfl, ?_, ?_, ?_, ?_⟩⟩
    · simp only [L11k2, zG, zF, qda, qa8, qbT, qbk, qaC, qav, qaJ, qa9, qa8]
      rfl
    · exact qas (1,0) rfl (by simp only[g0]) (qbj _ _ _)
    · exact qas (1,1) rfl (by simp only[g1]) (ns_ren _ _)
    · exact qas (1,2) rfl (by simp only[go]) (qcN _ _ _ _)
    · exact qas (1,3) rfl (by simp only[gh]) (qaW _ _)
  · rintro st (⟨he, _⟩ | ⟨_, H, rfl, g0, g1, go, gh, gn, gx⟩)
    · omega
    · apply qbs
      simp (disch:=first|omega|decide|simp only[qai,qag,qak,qaj,qah,qae,qac,qad,qan]) only[qa6,qau,qao,qap,qam,qaf,qaN,qaq,qaz,qar,qaF,qaB,qaa,qaG,qaw,qat,zK,zL,zN,zO,zJ,zM,Nat.reduceAdd,qaQ,qbe,qbx,zB,zE,zQ,qa2,qbO,Nat.reduceAdd,zj,zQ,qb7,qbG,zZ,L11b2,zj,g1,hcell,qbG,zZ,zB]
      rfl
  · rintro st (⟨he, _⟩ | ⟨_, H, rfl, g0, g1, go, gh, gn, gx⟩) hr
    · omega
    · subst hr
      have hz:appKz 11 1 24 (upd H (10,0) (some [.sl (1,4) 0 (cn n (k+1)) none 1])) (.sl (1,2) 0 k none 1) (.sl (10,0) 0 1 (some 1) 1) (some 1)=some ⟨.sl (11,0) 0 (k+1) none 1,[outC l n (k+1)],((1,2),none)::[((1,4),none)]⟩:=by
        rw[appKz_row _ _ _ (10,0) (1,4) (cn n (k+1)) none (Ab.ndC (lay l n k) (cn n (k+1))) (by simp only[qab,zC]) (by simp only[qab,zD,Nat.reduceEqDiff,zX,zA,gn]) (by omega) (Ab.ndC_length _ _),outC_succ]
        exact appX_rowz _ (1,2) k (outC l n k) _ (by simp only[qab,zD,Nat.reduceEqDiff,zX,zA,go]) (outC_length _ _ _) (by omega) rfl
      simp (disch:=first|omega|decide|simp only[qai,qag,qak,qaj,qah,qae,qac,qad,qan]) only[qa6,qau,qao,qap,qam,qaf,qaq,qaz,qaI,qar,qaF,qaB,qaa,qaG,qa4,qbc,qaw,qat,zK,zL,zN,zO,zG,zF,zP,zR,zJ,zM,Nat.reduceAdd,qaQ,qbe,qbx,qbW,qcx,qco,qb2,zzB,zzE,zzD,zX,zC,zB,zE,Nat.le_refl,zQ,qbH,zZ,zE,zB,qbY,qa2,qbO,Nat.reduceAdd,zj,zQ,qbB,qdi,qb7,qbG,qbK,qbw,qax,qaM,qay,qa0,zZ,qal,L11b2,zj,g1,hcell,qbG,qdf,hz,qal]
      refine ⟨_,rfl,?_⟩
      refine qaU [(1,0),(1,1),(11,0),(1,5)] rfl (by simp only[qaA,FUEL,qaH,qaD,qaE,qaP,qaK,qaL,zS,zW,zP,zV,zR,zk,zF,zY,za,zD,zt,zo,ze,Nat.reduceEqDiff,zH,zU,zp,zC,zA,zd,zi,zm,zg,zl,ne_eq,zq,qab,qaJ,qaC,qav,qaO,L11k3,g0,g1,gx,qbS,qbh,ns_nms,qbd,outC_nms,qaK,qaO]) ?_ ⟨_,rfl,?_,?_,?_,?_⟩
      · simp only [L11k3, zG, zF, qa8, qbT, qbk, qaC, qav, qaJ, qa9, qa8]
        rfl
      · exact qas (1,0) rfl (by simp only[qab,zD,Nat.reduceEqDiff,zH,zU,zA,g0]) (qbj _ _ _)
      · exact qas (1,1) rfl (by simp only[qab,zD,Nat.reduceEqDiff,zU,zX,zA,zd,g1]) (ns_ren _ _)
      · exact qas (11,0) rfl (by simp only[qab,zD,Nat.reduceEqDiff,zH,zX,zC,zA]) (qcN _ _ _ _)
      · exact qas (1,5) rfl (by simp only[qab,zD,Nat.reduceEqDiff,zU,zX,zA,gx]; try rfl) (qaW _ _)
set_option maxRecDepth 20000 in
theorem rbuild_F (k:Nat) (l:List (BitVec 8)) (n:Nat) (hl:l.length=32*n) (hn:1≤n∧n≤4096) :
    F C (k+2000) 11 [.isl (bs l) n] []=some (.tup [.sl (1,0) 0 (nl n+1) none 1,.agg (aB 32 (buildR l n)),N 0],[],[outC l n (nl n+1)]):=by
  rw[qch f11]
  have hlv:=rlevels_F (k+1989) n hn
  have hlc:=fun (b:Nat) (H:Heap)=>row_new (k+1999) b 19 H n l19 _ _ _ hlv
  have hn2:=nl_le n
  simp (disch:=first|omega|decide|simp only[qai,qag,qak,qaj,qah,qae,qac,qad,qan]) only[qbb,qba,qau,qa3,qao,qap,qam,qaf,qaq,qaz,qaI,qar,qaF,qaB,qa1,qaT,qaa,qaw,qat,zK,zL,zN,zO,zG,zF,zP,zV,qa5,zy,zJ,zM,qbZ,Nat.reduceAdd,Nat.reduceSub,qbR,Nat.reduceEqDiff,zB,zE,zQ,qbH,zE,zB,N_eql,Nat.reduceEqDiff,Nat.reduceAdd,zQ,qbi,qaV,qbL,qbD,qax,qaM,qay,qal,L11,hlc,qal]
  generalize hL:qca L11k3 _ _ _=r
  refine qbJ hL (fun j st=>(j=0∧kJ0 l n st)∨(0 < j∧kJ1 l n j st)) (nl n+1) (by omega) (fun j st hj hI => ?_) ?_ ?_ ?_
  · have hv:∃ st1,ev (envC C (k+1999)) (k+1999) L11b3 st=some (.normal,st1)∧kJ1 l n (j+1) (qby L11k3 st1):=by
      rcases hI with ⟨rfl,hI⟩ | ⟨hj0,hI⟩
      · exact k_round0 _ _ (by omega) (by omega) l n hl hn st hI
      · exact k_round1 _ _ (by omega) (by omega) l n hl hn j hj0 hj st hI
    obtain ⟨st1,q1,q2⟩:=hv
    exact ⟨st1,q1,.inr ⟨by omega,q2⟩⟩
  · refine .inl ⟨rfl, qaU [(3, 0), (7, 0)] rfl (by simp only [qaA, FUEL, qaH, qaD, qaE, qaP, qaK, qaL, zS, zW, zP, zV, zR, zk, zF, zY, za, zD, zt, zo, ze, Nat.reduceEqDiff, zH, zp, zC, zA, zm, zg, zl, ne_eq, zq, qab, qaJ, qaC, qav, qaZ, qaO, qbu, L11k3, qbS, ns_nms, qbd, qaK, qbu, qaO]) ?_ ⟨_, rfl, ?_, ?_⟩⟩
    · simp only [L11k3, zG, zF, qda, qa8, qbT, qbk, qaC, qav, qaJ, qa9, qa8]
      rfl
    · exact qas (3,0) rfl (by simp only[qab,zD,Nat.reduceEqDiff,zH,zC,zA]) (qbj _ _ _)
    · exact qas (7,0) rfl (by simp only[qab,zD,Nat.reduceEqDiff,zH,zC,zA]) (ns_ren _ _)
  · rintro st (⟨he, _⟩ | ⟨_, H, rfl, h0, h1, ho, hh⟩)
    · omega
    · apply qbs
      simp (disch:=first|omega|decide|simp only[qai,qag,qak,qaj,qah,qae,qac,qad,qan]) only[qa6,qau,qao,qap,qam,qaf,qaN,qaq,qaz,qar,qaF,qaB,qaa,qaG,qaw,qat,zK,zL,zN,zO,zJ,zM,Nat.reduceAdd,zB,zE,zQ,qa2,Nat.reduceAdd,zj,zQ,qbi,qaV,qbL,L11b3,zj]
      rfl
  · rintro st (⟨he, _⟩ | ⟨_, H, rfl, h0, h1, ho, hh⟩) hr
    · omega
    · subst hr
      have hc1:=outC_cell l n (nl n+1) (nl n) (by omega)
      have ht:=cn_top hn
      have hc2:=fun (H:Heap)=>ndC_cell0 H (lay l n (nl n)) (cn n (nl n+1)) (by omega)
      have hll:=lay_length hl (nl n)
      have hnd:=nd_length hll 0
      have hrt:=top_F (k+1998) n (nl n) (Ab.nd (lay l n (nl n)) 0) (by omega) (by omega)
      have hia:iaSV 1 (some 0) (.isl (Ab.ndC (lay l n (nl n)) (cn n (nl n+1))) (cn n (nl n+1)))=some (.ipt (Ab.ndC (lay l n (nl n)) (cn n (nl n+1)))):=by rw[qbC _ _ _ _ (by omega)]; rfl
      rw[hnd] at hrt
      have htc:=fun (b:Nat) (H:Heap)=>call_isl (k+1999) b 30 H _ _ rfl (by rw[zS,zS,zS,qbd]; rfl) (by rw[zG,zG,zG,qa8]; rfl) hrt (by intro π; exact qbM _ _ _)
      have e1:nl n+1 - 1=nl n:=by omega
      have e2:nl n < nl n+1:=by omega
      simp (disch:=first|omega|decide|simp only[qai,qag,qak,qaj,qah,qae,qac,qad,qan]) only[qbp,qa6,qau,qao,qap,qam,qaf,qaq,qa7,qaz,qaI,qar,qaF,qaB,qa1,qaT,qaa,qaG,qbc,qaw,qat,qbg,zK,zL,zN,zO,zG,zF,zJ,zM,zI,Nat.reduceAdd,qab,qaX,qaQ,qbe,qbx,qbt,qbf,zC,zB,zE,zQ,qbP,qbm,zZ,zE,zB,N_sub,qa2,qbO,Nat.reduceAdd,zj,zQ,qbi,qaV,qbL,qbD,qb7,qbG,qax,qay,qa0,zI,zZ,qal,L11b3,zj,h0,ho,hc1,hc2,hia,htc,e1,qbG,zZ,zB,resVal_3,tup3K_some,qal]
      rw[qcc 0 _ _ [(1,2)] (by simp only[qaA,FUEL,qaH,qaD,qaE,zS,zW,zP,zR,zk,zF,zY,zD,ze,Nat.reduceEqDiff,zU,zC,zA,zd,zm,zg,zl,ne_eq,zq,qab,tup3_nms,outC_nms,ho])]
      rw[tup3_ren (qdg [(1,2)]) (1,2) (1,0) _ _ _ _ _ rfl]
      simp (disch:=first|omega|decide|simp only[qai,qag,qak,qaj,qah,qae,qac,qad,qan]) only[zG,zF,qab,zD,Nat.reduceEqDiff,zU,false_and,zA,zi,zzC,List.filterMap_cons,zk,ho,qcN]
      rfl
theorem rbuild_no (k:Nat) (l:List (BitVec 8)) (n:Nat) (hn:¬ (1≤n∧n≤4096)) (hn2:n < 9000000000000):F C (k+2000) 11 [.isl (bs l) n] []=some (.tup [Nil,.agg (aB 32 zero32),N 1],[],[]):=by
  rw[qch f11]
  have hlv:=rlevels_no (k+1989) n (by omega)
  have hlc:∀ (b:Nat) (H:Heap),qb1 (envC C (k+1999)) H b 19 [N n]=some ⟨Nil,[],[]⟩:=fun (b:Nat) (H:Heap)=>call_isl (k+1999) b 19 H [I n] _ rfl rfl rfl hlv (fun _=>rfl)
  simp (disch:=first|omega|decide|simp only[qai,qag,qak,qaj,qah,qae,qac,qad,qan]) only[qbb,qbp,qau,qao,qap,qam,qaf,qaq,qa7,qaz,qaI,qar,qaF,qaB,qa1,qaT,qaa,qbQ,qaw,qaY,qbg,zK,zL,zN,zO,zG,zF,zP,zV,qa5,zy,zJ,zM,zI,Nat.reduceAdd,Nat.reduceSub,qab,qaX,qaQ,qbR,qbt,qbf,qbW,aggR_some,op_build,zC,zB,zE,zT,qbH,qbP,qbm,zE,zB,N_eql,Nat.reduceAdd,zT,qbi,qaV,qbD,lenS_nil,qax,qaM,qay,qa0,zI,qaZ,qal,L11,hlc,resVal_3,tup3K_some,qal]
  rw[qcc 0 _ _ [] (by simp only[qaA,FUEL,qaE,zS,zW,zR,zk,zF,zg,tup3n_nms])]
  simp (disch:=first|omega|decide|simp only[qai,qag,qak,qaj,qah,qae,qac,qad,qan]) only[zF,qab,zD,Nat.reduceEqDiff,false_and,zA,zzC,qbn,zk,tup3n_ren]
  rfl
end Sha
namespace Sha
open Go Go.LE
theorem rbuild_call (k b:Nat) (H:Heap) (l:List (BitVec 8)) (n:Nat) (hl:l.length=32*n) (hn:1≤n∧n≤4096) :
    qb1 (envC C (k+2000)) H b 11 [.isl (bs l) n]=some ⟨.tup [.sl (b,0) 0 (nl n+1) none 1,.agg (aB 32 (buildR l n)),N 0],[outC l n (nl n+1)],[]⟩:=by
  rw[qcB l11 (by rw[zS,qbd]; rfl) (by rw[zG,qa8]; rfl),rbuild_F k l n hl hn]
  simp only[calK,qc9,zG,zF,qcN,List.zipWith_nil_left]
  rw[tup3_ren _ (1,0) (b,0) _ _ _ _ _ (toCaller_1 _ _ _ _ (by simp))]
theorem rbuild_callNo (k b:Nat) (H:Heap) (l:List (BitVec 8)) (n:Nat) (hn:¬ (1≤n∧n≤4096)) (hn2:n < 9000000000000) :
    qb1 (envC C (k+2000)) H b 11 [.isl (bs l) n]=some ⟨.tup [Nil,.agg (aB 32 zero32),N 1],[],[]⟩:=by
  rw[qcB l11 (by rw[zS,qbd]; rfl) (by rw[zG,qa8]; rfl),rbuild_no k l n hn hn2]
  simp only[calK,qc9,zF,List.zipWith_nil_left,tup3n_ren]
def tbkJ (l:List (BitVec 8)) (n:Nat) (z:Int) (j:Nat) (st:St):Prop := ∃ (H:Heap),st=⟨[.undef,.undef,.undef,I z,.undef,.undef,.undef,.undef,.undef,.sl (1,0) 0 (nl n+1) none 1,.undef,.undef,.sl (1,1) 0 (nl n+1) none 1,.undef,.undef,N j,.undef,.undef,.undef,.undef,.undef,.undef,.undef,.undef,.undef,.undef,.undef,.undef,.undef,.undef,.undef,.undef,.undef,.undef,.undef,.undef,.undef,.undef,.undef,.undef,.undef,.undef,.undef,.undef,.undef,.undef,.undef,.undef,.undef,.undef,.undef,.undef,.undef,.undef,.undef,.undef,.undef,.undef,.undef,.undef,.undef,.undef,.undef,.undef,.undef,.undef,.undef,.undef,.undef,.undef,.undef,.undef,.undef,.undef,.undef,.undef,.undef,.undef,.undef,.undef,.undef,.undef,.undef,.undef,.undef,.undef,.undef,.undef,.undef,.undef,.undef,.undef,.undef,.undef,.undef,.undef,.undef,.undef,.undef,.undef,.undef,.undef,.undef,.undef,.undef,.undef,.undef,.undef],H,2,0⟩∧H (1,0)=some (outC l n (nl n+1))∧H (1,1)=some (outC l n (nl n+1))
theorem path_lvN (H:Heap) {l:List (BitVec 8)} {n:Nat} (hl:l.length=32*n) (j:Nat):PathIs H (.isl (Ab.ndC (lay l n j) (cn n (j+1))) (cn n (j+1))) (lvN l n j):=by
  rw[ndC_sls hl j]
  have:=path_isl H (lvN l n j)
  rwa [lvN_length] at this
set_option maxRecDepth 20000 in
theorem tbk_round (K k0 n:Nat) (hk0:2001≤k0) (z:Int) (l:List (BitVec 8)) (hl:l.length=32*n) (hn:1≤n∧n≤4096) (j:Nat) (hj:j < nl n+1) (st:St) (hI:tbkJ l n z j st) :
    ∃ st1,ev (envC C k0) K L3b1 st=some (.normal,st1)∧tbkJ l n z (j+1) (qby L3k1 st1):=by
  obtain ⟨H,rfl,g0,g1⟩:=hI
  obtain ⟨k1,rfl⟩:∃ k1,k0=k1+2000:=⟨k0 - 2000,by omega⟩
  have hc:=outC_cell l n (nl n+1) j hj
  have hub:=ups_le hn j
  have hn2:=nl_le n
  have hsm:∀ (b:Nat) (H:Heap),qb1 (envC C (k1+2000)) H b 17 [.isl (Ab.ndC (lay l n j) (cn n (j+1))) (cn n (j+1)),.isl (Ab.ndC (lay l n j) (cn n (j+1))) (cn n (j+1))]=some ⟨Bo true,[],[]⟩:=fun b H=>by
    have:=same_call k1 b H _ _ (lvN l n j) (lvN l n j) (by rw[lvN_length]; omega) (by rw[lvN_length]; omega) (path_lvN H hl j) (path_lvN H hl j)
    rw[decide_eq_true rfl] at this
    exact this
  apply Exists.intro
  apply And.intro
  · simp (disch := first | omega | decide | simp only [qai, qag, qak, qaj, qah, qae, qac, qad, qan]) only [qba, qau, qa3, qao, qap, qam, qaf, qaq, qaz, qaI, qar, qaF, qaB, op_un, qa1, qaT, qaa, qa4, qaw, qaY, qat, zK, zL, zN, zO, zG, zF, zS, zW, zR, zJ, zM, qcU, Nat.reduceAdd, Nat.reduceSub, qaQ, qbe, qbx, zw, zx, zh, Nat.reduceLT, zC, zB, zE, zT, zZ, zE, zB, qbY, qa2, qbO, Nat.reduceLT, Nat.reduceAdd, zT, zu, zf, qbi, qaV, qbL, qb7, qbG, qax, qay, zZ, qbz, qb3, qbE, qcr, qcL, nms_fn, qaP, za, zY, zz, z6, z0, ordOk, qbv, zw, zx, Nat.testBit, Nat.reduceShiftRight, Nat.reduceAnd, Nat.reduceBEq, zf, zu, z7, zh, Nat.reduceSub, Nat.reduceLT, bne, qbN, qcp, qbI, qcf, qcv, zh, qbo, qal, L3b1, hj, hc, g0, g1, hsm, qbG, zZ, zB, indC_nms, qaE, qal, qbo]
    rfl
  · refine qaU [(1, 0), (1, 1)] rfl (by simp only [qaA, FUEL, qaH, qaD, qaE, qaK, nms_I, qaL, zS, zW, zP, zV, zR, zk, zF, zY, za, zD, zt, zo, ze, zU, zp, zC, zA, zd, zm, zg, zl, ne_eq, zq, qaJ, qaC, qav, qaO, L3k1, g0, g1, outC_nms, qaK, qaO]) rfl ⟨_, rfl, ?_, ?_⟩
    · exact qas (1,0) rfl (by simp only[g0]) (qcN _ _ _ _)
    · exact qas (1,1) rfl (by simp only[g1]) (qcN _ _ _ _)
def tbnJ (n:Nat) (c:Option Nat) (j:Nat) (st:St):Prop := ∃ (H:Heap),st=⟨[.undef,.undef,.undef,.undef,.undef,.undef,.undef,.undef,.undef,.undef,.undef,.undef,.undef,.undef,.undef,.undef,.sl (1,0) 0 (nl n+1) c 1,.sl (1,1) 0 (nl n+1) none 1,N j,.undef,.undef,.undef,.undef,.undef,.undef,.undef,.undef,.undef,.undef,.undef,.undef,.undef,.undef,.undef,.undef,.undef,.undef,.undef,.undef,.undef,.undef,.undef,.undef,.undef,.undef,.undef,.undef,.undef,.undef,.undef,.undef,.undef,.undef,.undef,.undef,.undef,.undef,.undef,.undef,.undef,.undef,.undef,.undef,.undef,.undef,.undef,.undef,.undef,.undef,.undef,.undef,.undef,.undef,.undef,.undef,.undef,.undef,.undef,.undef,.undef,.undef,.undef,.undef,.undef,.undef,.undef,.undef,.undef,.undef,.undef,.undef,.undef,.undef,.undef,.undef,.undef,.undef,.undef,.undef,.undef,.undef,.undef,.undef,.undef,.undef,.undef,.undef,.undef],H,2,0⟩∧H (1,0)=some (ns (lvs n))∧H (1,1)=some (ns (lvs n))
set_option maxRecDepth 20000 in
theorem tbn_round (K k0 n:Nat) (c:Option Nat) (j:Nat) (hj:j < nl n+1) (st:St) (hI:tbnJ n c j st) :
    ∃ st1,ev (envC C k0) K L3b0 st=some (.normal,st1)∧tbnJ n c (j+1) (qby L3k0 st1):=by
  obtain ⟨H,rfl,g0,g1⟩:=hI
  have hc:=ns_cell n j hj
  have hn2:=nl_le n
  apply Exists.intro
  apply And.intro
  · simp (disch := first | omega | decide | simp only [qai, qag, qak, qaj, qah, qae, qac, qad, qan]) only [qba, qau, qa3, qao, qap, qam, qaf, qaq, qaz, qaI, qar, qaF, qaB, qaa, qa4, qaw, qaY, qat, zK, zL, zN, zO, zF, zJ, zM, Nat.reduceAdd, Nat.reduceSub, qaQ, qbe, qbx, zw, zx, zh, Nat.reduceLT, zC, zB, zE, zT, zZ, zE, zB, qbY, N_neq, qa2, qbO, decide_not, Nat.reduceLT, Nat.reduceAdd, zT, zu, zf, qbi, qaV, qbL, qb7, qbG, qax, qay, zZ, qbz, qb3, qbE, qcr, qaP, za, zY, zz, z6, z0, ordOk, qbv, zw, zx, Nat.testBit, Nat.reduceShiftRight, Nat.reduceAnd, Nat.reduceBEq, zf, zu, z7, zh, Nat.reduceSub, Nat.reduceLT, bne, qbN, qcp, qbI, qcf, zh, qbo, qal, L3b0, hj, hc, g0, g1, qbG, zZ, zB, qal, qbo]
    rfl
  · refine qaU [(1, 0), (1, 1)] rfl (by simp only [qaA, FUEL, qaH, qaD, qaE, qaK, qaL, zS, zW, zP, zV, zR, zk, zF, zY, za, zD, zt, zo, ze, zU, zp, zC, zA, zd, zm, zg, zl, ne_eq, zq, qaJ, qaC, qav, qaO, L3k0, g0, g1, ns_nms, qaK, qaO]) rfl ⟨_, rfl, ?_, ?_⟩
    · exact qas (1,0) rfl (by simp only[g0]) (ns_ren _ _)
    · exact qas (1,1) rfl (by simp only[g1]) (ns_ren _ _)
end Sha
namespace Sha
open Go Go.LE
def tbnZ (_:Nat) (st:St):Prop := ∃ (H:Heap),st=⟨[.undef,.undef,.undef,.undef,.undef,.undef,.undef,.undef,.undef,.undef,.undef,.undef,.undef,.undef,.undef,.undef,Nil,Nil,N 0,.undef,.undef,.undef,.undef,.undef,.undef,.undef,.undef,.undef,.undef,.undef,.undef,.undef,.undef,.undef,.undef,.undef,.undef,.undef,.undef,.undef,.undef,.undef,.undef,.undef,.undef,.undef,.undef,.undef,.undef,.undef,.undef,.undef,.undef,.undef,.undef,.undef,.undef,.undef,.undef,.undef,.undef,.undef,.undef,.undef,.undef,.undef,.undef,.undef,.undef,.undef,.undef,.undef,.undef,.undef,.undef,.undef,.undef,.undef,.undef,.undef,.undef,.undef,.undef,.undef,.undef,.undef,.undef,.undef,.undef,.undef,.undef,.undef,.undef,.undef,.undef,.undef,.undef,.undef,.undef,.undef,.undef,.undef,.undef,.undef,.undef,.undef,.undef,.undef],H,2,0⟩
def tbkZ (z:Int) (_:Nat) (st:St):Prop := ∃ (H:Heap),st=⟨[.undef,.undef,.undef,I z,.undef,.undef,.undef,.undef,.undef,Nil,.undef,.undef,Nil,.undef,.undef,N 0,.undef,.undef,.undef,.undef,.undef,.undef,.undef,.undef,.undef,.undef,.undef,.undef,.undef,.undef,.undef,.undef,.undef,.undef,.undef,.undef,.undef,.undef,.undef,.undef,.undef,.undef,.undef,.undef,.undef,.undef,.undef,.undef,.undef,.undef,.undef,.undef,.undef,.undef,.undef,.undef,.undef,.undef,.undef,.undef,.undef,.undef,.undef,.undef,.undef,.undef,.undef,.undef,.undef,.undef,.undef,.undef,.undef,.undef,.undef,.undef,.undef,.undef,.undef,.undef,.undef,.undef,.undef,.undef,.undef,.undef,.undef,.undef,.undef,.undef,.undef,.undef,.undef,.undef,.undef,.undef,.undef,.undef,.undef,.undef,.undef,.undef,.undef,.undef,.undef,.undef,.undef,.undef],H,2,0⟩
theorem app_leaves0 (b:Nat) (H:Heap) (a:Nm) (h:H a=some []):appX b 32 32 0 H [] (bs []) (.sl a 0 0 (some 0) 32)=some ⟨.sl a 0 0 (some 0) 32,[],[(a,some (bs []))]⟩:=by
  rw[appX,if_pos ⟨rfl,by omega,rfl⟩,if_pos (by omega),h]
  rfl
set_option maxRecDepth 20000 in
theorem treeBuilds_F (k:Nat) (l:List (BitVec 8)) (n:Nat) (hl:l.length=32*n) (hb:n≤4398046511104) (lev:Int) (b:List (BitVec 8)) (hbb:b.length≤140737488351300) (z:Int) :
    F C (k+b.length / 64+4000) 3 [.isl (bs l) n,I lev,.isl (bs b) b.length,I z] []=some (Bo true,[],[]):=by
  obtain ⟨K,hK⟩:∃ K,k+b.length / 64=K:=⟨_,rfl⟩
  have hKb:b.length / 64≤K:=by omega
  rw[hK,qch f3]
  have hlv:=fun (b:Nat) (H:Heap)=>lives_call (K+999) b H
  have hfr:=fun (H:Heap)=>front_leaves H l n hl
  have d1:=fun (b':Nat) (H:Heap)=>leaf_call (K+3999) b' 13 (.inl rfl) H _ b (lent_isl H b []) hbb (by omega)
  have d2:=fun (b':Nat) (H:Heap)=>leaf_call (K+3999) b' 14 (.inr rfl) H _ b (lent_isl H b []) hbb (by omega)
  have d3:=fun (b':Nat) (H:Heap)=>node_call (K+3999) b' 15 (.inl rfl) H lev _ b (lent_isl H b []) hbb (by omega)
  have d4:=fun (b':Nat) (H:Heap)=>node_call (K+3999) b' 16 (.inr rfl) H lev _ b (lent_isl H b []) hbb (by omega)
  have s1:=fun (f:Nat→BitVec 8)=>aB_self 32 f
  by_cases hn:1≤n∧n≤4096
  · have hbc := fun (b : Nat) (H : Heap) => rbuild_call (K + 1999) b H l n hl hn
    have hn2:=nl_le n
    simp (disch:=first|omega|decide|simp only[qai,qag,qak,qaj,qah,qae,qac,qad,qan]) only[qbb,qau,qao,qap,qam,qaf,qaq,qaz,qaI,qaF,qaa,zK,zL,zN,zO,zF,zP,zV,qa5,zy,zJ,zM,Nat.reduceAdd,Nat.reduceSub,qbW,zB,zE,qbH,zE,zB,Nat.reduceAdd,qcT,qb8,qb9,qcb,qbK,qbw,qax,qaM,qay,qal,L3,hfr,qal]
    rw[app_leaves _ _ (3,0) l n hl (by omega) (by omega) (by simp only[qab,zC])]
    simp (disch:=first|omega|decide|simp only[qai,qag,qak,qaj,qah,qae,qac,qad,qan]) only[qaf,qaq,qaz,qaI,qa1,qaT,zK,zL,zN,zO,zG,zF,Nat.reduceAdd,zB,zB,Nat.reduceAdd,qax,qaM,qay,qal,qal]
    rw[build_callB (K+1999) _ _ (5,0) l n none hl hn (by simp only[qab,zD,Nat.reduceEqDiff,zH,zC,zA])]
    simp (disch:=first|omega|decide|simp only[qai,qag,qak,qaj,qah,qae,qac,qad,qan]) only[qba,qau,qa3,qao,qap,qam,qaf,qaS,qbA,qaq,qa7,qaz,qaI,qar,qbq,qaF,qbr,qaB,op_un,qa1,qaT,qaa,qaw,qat,zK,zL,zN,zO,zG,zF,zJ,zM,qcU,qbZ,Nat.reduceAdd,qab,qaX,qaQ,qb6,op_ld,qbR,qbt,qbf,zD,Nat.reduceEqDiff,zH,zC,zA,zB,zE,zT,qbP,qbm,zE,zB,N_neq,decide_not,Nat.reduceEqDiff,Nat.reduceAdd,zT,zf,qbi,qaV,qbL,qax,qaM,qay,qa0,qaZ,List.getElem?_cons_zero,List.getElem?_cons_succ,qal,qcZ,qcD,List.getElem?_cons_zero,List.getElem?_cons_succ,hbc,hlv,d1,d2,d3,d4,s1,aB_neq,qal]
    generalize hLp:qca L3k1 _ _ _=r
    refine qbJ hLp (tbkJ l n z) (nl n+1) (by omega) (fun j st hj hI=>tbk_round _ _ n (by omega) z l hl hn j hj st hI) ?_ ?_ ?_
    · refine qaU [(6, 0), (16, 0)] rfl (by simp only [qaA, FUEL, qaH, qaD, qaE, qaK, nms_I, qaL, zS, zW, zP, zV, zR, zk, zF, zY, za, zD, zt, zo, ze, Nat.reduceEqDiff, zH, zp, zC, zA, zm, zg, zl, ne_eq, zq, qab, qaJ, qaC, qav, qaZ, qaO, L3k1, outC_nms, qaK, qaO]) rfl ⟨_, rfl, ?_, ?_⟩
      · exact qas (6,0) rfl (by simp only[qab,zD,Nat.reduceEqDiff,zH,zC,zA]) (qcN _ _ _ _)
      · exact qas (16,0) rfl (by simp only[qab,zD,Nat.reduceEqDiff,zH,zC,zA]) (qcN _ _ _ _)
    · rintro st ⟨H, rfl, _, _⟩
      apply qbs
      simp (disch:=first|omega|decide|simp only[qai,qag,qak,qaj,qah,qae,qac,qad,qan]) only[qa6,qau,qao,qap,qam,qaf,qaN,qaq,qaz,qar,qaF,qaB,qaa,qaG,qaw,qat,zK,zL,zN,zO,zJ,zM,Nat.reduceAdd,zB,zE,zQ,qa2,Nat.reduceAdd,zj,zQ,qbi,qaV,qbL,L3b1,zj]
      rfl
    · rintro st ⟨H, rfl, _, _⟩ hr
      subst hr
      by_cases hz:1≤z∧z≤4096
      · obtain ⟨zn, hzn⟩ : ∃ zn : Nat, z = (zn : Int) := ⟨z.toNat, by omega⟩
        have hzn2:1≤zn∧zn≤4096:=by omega
        have hnz:=nl_le zn
        obtain ⟨c,hl18,_⟩:=levels_F (K+3989) zn hzn2
        have hl19:=rlevels_F (K+3989) zn hzn2
        have hc18:∀ (b:Nat) (H:Heap),qb1 (envC C (K+3999)) H b 18 [I z]=some ⟨.sl (b,0) 0 (nl zn+1) c 1,[ns (lvs zn)],[]⟩:=fun b H=>by rw[hzn]; exact row_new (K+3999) b 18 H zn l18 _ _ _ hl18
        have hc19:∀ (b:Nat) (H:Heap),qb1 (envC C (K+3999)) H b 19 [I z]=some ⟨.sl (b,0) 0 (nl zn+1) none 1,[ns (lvs zn)],[]⟩:=fun b H=>by rw[hzn]; exact row_new (K+3999) b 19 H zn l19 _ _ _ hl19
        simp (disch:=first|omega|decide|simp only[qai,qag,qak,qaj,qah,qae,qac,qad,qan]) only[qba,qa6,qau,qa3,qao,qap,qam,qaf,qaq,qaz,qaI,qar,qaF,qaB,qa1,qaT,qaa,qaG,qbc,qaw,qat,zK,zL,zN,zO,zG,zF,zJ,zM,qbZ,Nat.reduceAdd,zC,zB,zE,zT,zQ,zE,zB,N_neq,qa2,decide_not,Nat.reduceAdd,zj,zQ,zT,zf,qbi,qaV,qbL,qax,qaM,qay,qal,L3b1,zj,hc18,hc19,qal]
        generalize hLq:qca L3k0 _ _ _=r2
        refine qbJ hLq (tbnJ zn c) (nl zn+1) (by omega) (fun j st hj hI=>tbn_round _ _ zn c j hj st hI) ?_ ?_ ?_
        · refine qaU [(7, 0), (9, 0)] rfl (by simp only [qaA, FUEL, qaH, qaD, qaE, qaK, qaL, zS, zW, zP, zV, zR, zk, zF, zY, za, zD, zt, zo, ze, Nat.reduceEqDiff, zH, zp, zC, zA, zm, zg, zl, ne_eq, zq, qab, qaJ, qaC, qav, qaO, L3k0, ns_nms, qaK, qaO]) rfl ⟨_, rfl, ?_, ?_⟩
          · exact qas (7,0) rfl (by simp only[qab,zD,Nat.reduceEqDiff,zH,zC,zA]) (ns_ren _ _)
          · exact qas (9,0) rfl (by simp only[qab,zD,Nat.reduceEqDiff,zH,zC,zA]) (ns_ren _ _)
        · rintro st ⟨H, rfl, _, _⟩
          apply qbs
          simp (disch:=first|omega|decide|simp only[qai,qag,qak,qaj,qah,qae,qac,qad,qan]) only[qa6,qau,qao,qap,qam,qaf,qaN,qaq,qaz,qar,qaF,qaB,qaa,qaG,qaw,qat,zK,zL,zN,zO,zJ,zM,Nat.reduceAdd,zB,zE,zQ,qa2,Nat.reduceAdd,zj,zQ,qbi,qaV,qbL,L3b0,zj]
          rfl
        · rintro st ⟨H, rfl, _, _⟩ hr
          subst hr
          simp (disch:=first|omega|decide|simp only[qai,qag,qak,qaj,qah,qae,qac,qad,qan]) only[qbp,qa6,qau,qao,qap,qam,qaf,qaN,qaq,qaz,qaI,qar,qaF,qaB,qaa,qaG,qbc,qaw,qat,qbg,qbl,zK,zL,zN,zO,zJ,zM,qct,zI,Nat.reduceAdd,zC,zB,zE,zQ,qa2,Nat.reduceAdd,zj,zQ,qbi,qaV,qbL,zI,L3b0,zj]
      · have hc18 : ∀ (b : Nat) (H : Heap), qb1 (envC C (K + 3999)) H b 18 [I z] = some ⟨Nil, [], []⟩ := fun b H => call_isl (K + 3999) b 18 H [I z] _ rfl rfl rfl (levels_no (K + 3989) z hz) (fun _ => rfl)
        have hc19:∀ (b:Nat) (H:Heap),qb1 (envC C (K+3999)) H b 19 [I z]=some ⟨Nil,[],[]⟩:=fun b H=>call_isl (K+3999) b 19 H [I z] _ rfl rfl rfl (rlevels_no (K+3989) z hz) (fun _=>rfl)
        simp (disch:=first|omega|decide|simp only[qai,qag,qak,qaj,qah,qae,qac,qad,qan]) only[qba,qa6,qau,qa3,qao,qap,qam,qaf,qaq,qaz,qaI,qar,qaF,qaB,qa1,qaT,qaa,qaG,qbc,qaw,qat,zK,zL,zN,zO,zG,zF,zJ,zM,qbZ,Nat.reduceAdd,zC,zB,zE,zT,zQ,zE,zB,N_neq,qa2,decide_not,Nat.reduceAdd,zj,zQ,zT,zf,qbi,qaV,qbL,lenS_nil,qax,qay,qal,L3b1,zj,hc18,hc19,qal]
        generalize hLq:qca L3k0 _ _ _=r2
        refine qbJ hLq tbnZ 0 (by omega) (fun j st hj hI=>absurd hj (by omega)) ?_ ?_ ?_
        · refine qaU [] rfl (by simp only[qaA,FUEL,qaE,qaL,zS,zW,zR,zk,zF,zg,qaJ,qaC,qav,qaO,qbu,L3k0,qbu,qaO]) rfl ⟨_,rfl⟩
        · rintro st ⟨H, rfl⟩
          apply qbs
          simp (disch:=first|omega|decide|simp only[qai,qag,qak,qaj,qah,qae,qac,qad,qan]) only[qa6,qau,qao,qap,qam,qaf,qaN,qaq,qaz,qar,qaF,qaB,qaa,qaG,qaw,qat,zK,zL,zN,zO,zJ,zM,Nat.reduceAdd,zB,zE,zQ,qa2,Nat.reduceAdd,zj,zQ,qbi,qaV,lenS_nil,L3b0,zj]
          rfl
        · rintro st ⟨H, rfl⟩ hr
          subst hr
          simp (disch:=first|omega|decide|simp only[qai,qag,qak,qaj,qah,qae,qac,qad,qan]) only[qbp,qa6,qau,qao,qap,qam,qaf,qaN,qaq,qaz,qaI,qar,qaF,qaB,qaa,qaG,qbc,qaw,qat,qbg,qbl,zK,zL,zN,zO,zJ,zM,qct,zI,Nat.reduceAdd,zC,zB,zE,zQ,qa2,Nat.reduceAdd,zj,zQ,qbi,qaV,lenS_nil,zI,L3b0,zj]
  · have hbc := fun (b : Nat) (H : Heap) => rbuild_callNo (K + 1999) b H l n hn (by omega)
    by_cases h0:n=0
    · subst h0
      have hl0:l=[]:=List.eq_nil_of_length_eq_zero (by omega)
      subst hl0
      simp (disch:=first|omega|decide|simp only[qai,qag,qak,qaj,qah,qae,qac,qad,qan]) only[qbb,qau,qao,qap,qam,qaf,qaq,qaz,qaI,qaF,qaa,zK,zL,zN,zO,zF,zP,zV,qa5,zy,zJ,zM,Nat.reduceAdd,Nat.reduceSub,qbW,zB,zE,qbH,zE,zB,Nat.reduceAdd,qcT,qb8,qb9,qcb,qbK,qbw,qax,qaM,qay,qal,L3,hfr,qal]
      rw[app_leaves0 _ _ (3,0) (by simp only[qab,zC])]
      simp (disch:=first|omega|decide|simp only[qai,qag,qak,qaj,qah,qae,qac,qad,qan]) only[qaf,qaq,qaz,qaI,qa1,qaT,zK,zL,zN,zO,zG,zF,Nat.reduceAdd,Nat.reduceAdd,qax,qay,qa0,qal,qal]
      rw[build_call_noB (K+1999) _ _ (3,0) [] 0 (some 0) hn (by omega) (by simp only[qab,zC])]
      simp (disch:=first|omega|decide|simp only[qai,qag,qak,qaj,qah,qae,qac,qad,qan]) only[qba,qau,qa3,qao,qap,qam,qaf,qaS,qbA,qaq,qa7,qaz,qaI,qar,qbq,qaF,qbr,qaB,op_un,qa1,qaT,qaa,qaw,qat,zK,zL,zN,zO,zG,zF,zJ,zM,qcU,qbZ,Nat.reduceAdd,qab,qaX,qaQ,qb6,op_ld,qbR,qbt,qbf,zD,Nat.reduceEqDiff,zH,zC,zA,zB,zE,zT,qbP,qbm,zE,zB,N_neq,decide_not,Nat.reduceEqDiff,Nat.reduceAdd,zT,zf,qbi,qaV,lenS_nil,qax,qaM,qay,qa0,qaZ,List.getElem?_cons_zero,List.getElem?_cons_succ,qal,qcZ,qcD,List.getElem?_cons_zero,List.getElem?_cons_succ,hbc,hlv,d1,d2,d3,d4,s1,aB_neq,qal]
      generalize hLp:qca L3k1 _ _ _=r
      refine qbJ hLp (tbkZ z) 0 (by omega) (fun j st hj hI=>absurd hj (by omega)) ?_ ?_ ?_
      · refine qaU [] rfl (by simp only[qaA,FUEL,qaE,nms_I,qaL,zS,zW,zR,zk,zF,zg,qaJ,qaC,qav,qaO,qbu,L3k1,qbu,qaO]) rfl ⟨_,rfl⟩
      · rintro st ⟨H, rfl⟩
        apply qbs
        simp (disch:=first|omega|decide|simp only[qai,qag,qak,qaj,qah,qae,qac,qad,qan]) only[qa6,qau,qao,qap,qam,qaf,qaN,qaq,qaz,qar,qaF,qaB,qaa,qaG,qaw,qat,zK,zL,zN,zO,zJ,zM,Nat.reduceAdd,zB,zE,zQ,qa2,Nat.reduceAdd,zj,zQ,qbi,qaV,lenS_nil,L3b1,zj]
        rfl
      · rintro st ⟨H, rfl⟩ hr
        subst hr
        by_cases hz:1≤z∧z≤4096
        · obtain ⟨zn, hzn⟩ : ∃ zn : Nat, z = (zn : Int) := ⟨z.toNat, by omega⟩
          have hzn2:1≤zn∧zn≤4096:=by omega
          have hnz:=nl_le zn
          obtain ⟨c,hl18,_⟩:=levels_F (K+3989) zn hzn2
          have hl19:=rlevels_F (K+3989) zn hzn2
          have hc18:∀ (b:Nat) (H:Heap),qb1 (envC C (K+3999)) H b 18 [I z]=some ⟨.sl (b,0) 0 (nl zn+1) c 1,[ns (lvs zn)],[]⟩:=fun b H=>by rw[hzn]; exact row_new (K+3999) b 18 H zn l18 _ _ _ hl18
          have hc19:∀ (b:Nat) (H:Heap),qb1 (envC C (K+3999)) H b 19 [I z]=some ⟨.sl (b,0) 0 (nl zn+1) none 1,[ns (lvs zn)],[]⟩:=fun b H=>by rw[hzn]; exact row_new (K+3999) b 19 H zn l19 _ _ _ hl19
          simp (disch:=first|omega|decide|simp only[qai,qag,qak,qaj,qah,qae,qac,qad,qan]) only[qba,qa6,qau,qa3,qao,qap,qam,qaf,qaq,qaz,qaI,qar,qaF,qaB,qa1,qaT,qaa,qaG,qbc,qaw,qat,zK,zL,zN,zO,zG,zF,zJ,zM,qbZ,Nat.reduceAdd,zC,zB,zE,zT,zQ,zE,zB,N_neq,qa2,decide_not,Nat.reduceAdd,zj,zQ,zT,zf,qbi,qaV,qbL,lenS_nil,qax,qaM,qay,qal,L3b1,zj,hc18,hc19,qal]
          generalize hLq:qca L3k0 _ _ _=r2
          refine qbJ hLq (tbnJ zn c) (nl zn+1) (by omega) (fun j st hj hI=>tbn_round _ _ zn c j hj st hI) ?_ ?_ ?_
          · refine qaU [(7, 0), (9, 0)] rfl (by simp only [qaA, FUEL, qaH, qaD, qaE, qaK, qaL, zS, zW, zP, zV, zR, zk, zF, zY, za, zD, zt, zo, ze, Nat.reduceEqDiff, zH, zp, zC, zA, zm, zg, zl, ne_eq, zq, qab, qaJ, qaC, qav, qaO, L3k0, ns_nms, qaK, qaO]) rfl ⟨_, rfl, ?_, ?_⟩
            · exact qas (7,0) rfl (by simp only[qab,zD,Nat.reduceEqDiff,zH,zC,zA]) (ns_ren _ _)
            · exact qas (9,0) rfl (by simp only[qab,zD,Nat.reduceEqDiff,zH,zC,zA]) (ns_ren _ _)
          · rintro st ⟨H, rfl, _, _⟩
            apply qbs
            simp (disch:=first|omega|decide|simp only[qai,qag,qak,qaj,qah,qae,qac,qad,qan]) only[qa6,qau,qao,qap,qam,qaf,qaN,qaq,qaz,qar,qaF,qaB,qaa,qaG,qaw,qat,zK,zL,zN,zO,zJ,zM,Nat.reduceAdd,zB,zE,zQ,qa2,Nat.reduceAdd,zj,zQ,qbi,qaV,qbL,L3b0,zj]
            rfl
          · rintro st ⟨H, rfl, _, _⟩ hr
            subst hr
            simp (disch:=first|omega|decide|simp only[qai,qag,qak,qaj,qah,qae,qac,qad,qan]) only[qbp,qa6,qau,qao,qap,qam,qaf,qaN,qaq,qaz,qaI,qar,qaF,qaB,qaa,qaG,qbc,qaw,qat,qbg,qbl,zK,zL,zN,zO,zJ,zM,qct,zI,Nat.reduceAdd,zC,zB,zE,zQ,qa2,Nat.reduceAdd,zj,zQ,qbi,qaV,qbL,zI,L3b0,zj]
        · have hc18 : ∀ (b : Nat) (H : Heap), qb1 (envC C (K + 3999)) H b 18 [I z] = some ⟨Nil, [], []⟩ := fun b H => call_isl (K + 3999) b 18 H [I z] _ rfl rfl rfl (levels_no (K + 3989) z hz) (fun _ => rfl)
          have hc19:∀ (b:Nat) (H:Heap),qb1 (envC C (K+3999)) H b 19 [I z]=some ⟨Nil,[],[]⟩:=fun b H=>call_isl (K+3999) b 19 H [I z] _ rfl rfl rfl (rlevels_no (K+3989) z hz) (fun _=>rfl)
          simp (disch:=first|omega|decide|simp only[qai,qag,qak,qaj,qah,qae,qac,qad,qan]) only[qba,qa6,qau,qa3,qao,qap,qam,qaf,qaq,qaz,qaI,qar,qaF,qaB,qa1,qaT,qaa,qaG,qbc,qaw,qat,zK,zL,zN,zO,zG,zF,zJ,zM,qbZ,Nat.reduceAdd,zC,zB,zE,zT,zQ,zE,zB,N_neq,qa2,decide_not,Nat.reduceAdd,zj,zQ,zT,zf,qbi,qaV,lenS_nil,qax,qay,qal,L3b1,zj,hc18,hc19,qal]
          generalize hLq:qca L3k0 _ _ _=r2
          refine qbJ hLq tbnZ 0 (by omega) (fun j st hj hI=>absurd hj (by omega)) ?_ ?_ ?_
          · refine qaU [] rfl (by simp only[qaA,FUEL,qaE,qaL,zS,zW,zR,zk,zF,zg,qaJ,qaC,qav,qaO,qbu,L3k0,qbu,qaO]) rfl ⟨_,rfl⟩
          · rintro st ⟨H, rfl⟩
            apply qbs
            simp (disch:=first|omega|decide|simp only[qai,qag,qak,qaj,qah,qae,qac,qad,qan]) only[qa6,qau,qao,qap,qam,qaf,qaN,qaq,qaz,qar,qaF,qaB,qaa,qaG,qaw,qat,zK,zL,zN,zO,zJ,zM,Nat.reduceAdd,zB,zE,zQ,qa2,Nat.reduceAdd,zj,zQ,qbi,qaV,lenS_nil,L3b0,zj]
            rfl
          · rintro st ⟨H, rfl⟩ hr
            subst hr
            simp (disch:=first|omega|decide|simp only[qai,qag,qak,qaj,qah,qae,qac,qad,qan]) only[qbp,qa6,qau,qao,qap,qam,qaf,qaN,qaq,qaz,qaI,qar,qaF,qaB,qaa,qaG,qbc,qaw,qat,qbg,qbl,zK,zL,zN,zO,zJ,zM,qct,zI,Nat.reduceAdd,zC,zB,zE,zQ,qa2,Nat.reduceAdd,zj,zQ,qbi,qaV,lenS_nil,zI,L3b0,zj]
    · simp (disch := first | omega | decide | simp only [qai, qag, qak, qaj, qah, qae, qac, qad, qan]) only [qbb, qau, qao, qap, qam, qaf, qaq, qaz, qaI, qaF, qaa, zK, zL, zN, zO, zF, zP, zV, qa5, zy, zJ, zM, Nat.reduceAdd, Nat.reduceSub, qbW, zB, zE, qbH, zE, zB, Nat.reduceAdd, qcT, qb8, qb9, qcb, qbK, qbw, qax, qaM, qay, qal, L3, hfr, qal]
      rw[app_leaves _ _ (3,0) l n hl (by omega) (by omega) (by simp only[qab,zC])]
      simp (disch:=first|omega|decide|simp only[qai,qag,qak,qaj,qah,qae,qac,qad,qan]) only[qaf,qaq,qaz,qaI,qa1,qaT,zK,zL,zN,zO,zG,zF,Nat.reduceAdd,zB,zB,Nat.reduceAdd,qax,qaM,qay,qal,qal]
      rw[build_call_noB (K+1999) _ _ (5,0) l n none hn (by omega) (by simp only[qab,zD,Nat.reduceEqDiff,zH,zC,zA])]
      simp (disch:=first|omega|decide|simp only[qai,qag,qak,qaj,qah,qae,qac,qad,qan]) only[qba,qau,qa3,qao,qap,qam,qaf,qaS,qbA,qaq,qa7,qaz,qaI,qar,qbq,qaF,qbr,qaB,op_un,qa1,qaT,qaa,qaw,qat,zK,zL,zN,zO,zG,zF,zJ,zM,qcU,qbZ,Nat.reduceAdd,qab,qaX,qaQ,qb6,op_ld,qbR,qbt,qbf,zD,Nat.reduceEqDiff,zH,zC,zA,zB,zE,zT,qbP,qbm,zE,zB,N_neq,decide_not,Nat.reduceEqDiff,Nat.reduceAdd,zT,zf,qbi,qaV,lenS_nil,qax,qaM,qay,qa0,qaZ,List.getElem?_cons_zero,List.getElem?_cons_succ,qal,qcZ,qcD,List.getElem?_cons_zero,List.getElem?_cons_succ,hbc,hlv,d1,d2,d3,d4,s1,aB_neq,qal]
      generalize hLp:qca L3k1 _ _ _=r
      refine qbJ hLp (tbkZ z) 0 (by omega) (fun j st hj hI=>absurd hj (by omega)) ?_ ?_ ?_
      · refine qaU [] rfl (by simp only[qaA,FUEL,qaE,nms_I,qaL,zS,zW,zR,zk,zF,zg,qaJ,qaC,qav,qaO,qbu,L3k1,qbu,qaO]) rfl ⟨_,rfl⟩
      · rintro st ⟨H, rfl⟩
        apply qbs
        simp (disch:=first|omega|decide|simp only[qai,qag,qak,qaj,qah,qae,qac,qad,qan]) only[qa6,qau,qao,qap,qam,qaf,qaN,qaq,qaz,qar,qaF,qaB,qaa,qaG,qaw,qat,zK,zL,zN,zO,zJ,zM,Nat.reduceAdd,zB,zE,zQ,qa2,Nat.reduceAdd,zj,zQ,qbi,qaV,lenS_nil,L3b1,zj]
        rfl
      · rintro st ⟨H, rfl⟩ hr
        subst hr
        by_cases hz:1≤z∧z≤4096
        · obtain ⟨zn, hzn⟩ : ∃ zn : Nat, z = (zn : Int) := ⟨z.toNat, by omega⟩
          have hzn2:1≤zn∧zn≤4096:=by omega
          have hnz:=nl_le zn
          obtain ⟨c,hl18,_⟩:=levels_F (K+3989) zn hzn2
          have hl19:=rlevels_F (K+3989) zn hzn2
          have hc18:∀ (b:Nat) (H:Heap),qb1 (envC C (K+3999)) H b 18 [I z]=some ⟨.sl (b,0) 0 (nl zn+1) c 1,[ns (lvs zn)],[]⟩:=fun b H=>by rw[hzn]; exact row_new (K+3999) b 18 H zn l18 _ _ _ hl18
          have hc19:∀ (b:Nat) (H:Heap),qb1 (envC C (K+3999)) H b 19 [I z]=some ⟨.sl (b,0) 0 (nl zn+1) none 1,[ns (lvs zn)],[]⟩:=fun b H=>by rw[hzn]; exact row_new (K+3999) b 19 H zn l19 _ _ _ hl19
          simp (disch:=first|omega|decide|simp only[qai,qag,qak,qaj,qah,qae,qac,qad,qan]) only[qba,qa6,qau,qa3,qao,qap,qam,qaf,qaq,qaz,qaI,qar,qaF,qaB,qa1,qaT,qaa,qaG,qbc,qaw,qat,zK,zL,zN,zO,zG,zF,zJ,zM,qbZ,Nat.reduceAdd,zC,zB,zE,zT,zQ,zE,zB,N_neq,qa2,decide_not,Nat.reduceAdd,zj,zQ,zT,zf,qbi,qaV,qbL,lenS_nil,qax,qaM,qay,qal,L3b1,zj,hc18,hc19,qal]
          generalize hLq:qca L3k0 _ _ _=r2
          refine qbJ hLq (tbnJ zn c) (nl zn+1) (by omega) (fun j st hj hI=>tbn_round _ _ zn c j hj st hI) ?_ ?_ ?_
          · refine qaU [(7, 0), (9, 0)] rfl (by simp only [qaA, FUEL, qaH, qaD, qaE, qaK, qaL, zS, zW, zP, zV, zR, zk, zF, zY, za, zD, zt, zo, ze, Nat.reduceEqDiff, zH, zp, zC, zA, zm, zg, zl, ne_eq, zq, qab, qaJ, qaC, qav, qaO, L3k0, ns_nms, qaK, qaO]) rfl ⟨_, rfl, ?_, ?_⟩
            · exact qas (7,0) rfl (by simp only[qab,zD,Nat.reduceEqDiff,zH,zC,zA]) (ns_ren _ _)
            · exact qas (9,0) rfl (by simp only[qab,zD,Nat.reduceEqDiff,zH,zC,zA]) (ns_ren _ _)
          · rintro st ⟨H, rfl, _, _⟩
            apply qbs
            simp (disch:=first|omega|decide|simp only[qai,qag,qak,qaj,qah,qae,qac,qad,qan]) only[qa6,qau,qao,qap,qam,qaf,qaN,qaq,qaz,qar,qaF,qaB,qaa,qaG,qaw,qat,zK,zL,zN,zO,zJ,zM,Nat.reduceAdd,zB,zE,zQ,qa2,Nat.reduceAdd,zj,zQ,qbi,qaV,qbL,L3b0,zj]
            rfl
          · rintro st ⟨H, rfl, _, _⟩ hr
            subst hr
            simp (disch:=first|omega|decide|simp only[qai,qag,qak,qaj,qah,qae,qac,qad,qan]) only[qbp,qa6,qau,qao,qap,qam,qaf,qaN,qaq,qaz,qaI,qar,qaF,qaB,qaa,qaG,qbc,qaw,qat,qbg,qbl,zK,zL,zN,zO,zJ,zM,qct,zI,Nat.reduceAdd,zC,zB,zE,zQ,qa2,Nat.reduceAdd,zj,zQ,qbi,qaV,qbL,zI,L3b0,zj]
        · have hc18 : ∀ (b : Nat) (H : Heap), qb1 (envC C (K + 3999)) H b 18 [I z] = some ⟨Nil, [], []⟩ := fun b H => call_isl (K + 3999) b 18 H [I z] _ rfl rfl rfl (levels_no (K + 3989) z hz) (fun _ => rfl)
          have hc19:∀ (b:Nat) (H:Heap),qb1 (envC C (K+3999)) H b 19 [I z]=some ⟨Nil,[],[]⟩:=fun b H=>call_isl (K+3999) b 19 H [I z] _ rfl rfl rfl (rlevels_no (K+3989) z hz) (fun _=>rfl)
          simp (disch:=first|omega|decide|simp only[qai,qag,qak,qaj,qah,qae,qac,qad,qan]) only[qba,qa6,qau,qa3,qao,qap,qam,qaf,qaq,qaz,qaI,qar,qaF,qaB,qa1,qaT,qaa,qaG,qbc,qaw,qat,zK,zL,zN,zO,zG,zF,zJ,zM,qbZ,Nat.reduceAdd,zC,zB,zE,zT,zQ,zE,zB,N_neq,qa2,decide_not,Nat.reduceAdd,zj,zQ,zT,zf,qbi,qaV,lenS_nil,qax,qay,qal,L3b1,zj,hc18,hc19,qal]
          generalize hLq:qca L3k0 _ _ _=r2
          refine qbJ hLq tbnZ 0 (by omega) (fun j st hj hI=>absurd hj (by omega)) ?_ ?_ ?_
          · refine qaU [] rfl (by simp only[qaA,FUEL,qaE,qaL,zS,zW,zR,zk,zF,zg,qaJ,qaC,qav,qaO,qbu,L3k0,qbu,qaO]) rfl ⟨_,rfl⟩
          · rintro st ⟨H, rfl⟩
            apply qbs
            simp (disch:=first|omega|decide|simp only[qai,qag,qak,qaj,qah,qae,qac,qad,qan]) only[qa6,qau,qao,qap,qam,qaf,qaN,qaq,qaz,qar,qaF,qaB,qaa,qaG,qaw,qat,zK,zL,zN,zO,zJ,zM,Nat.reduceAdd,zB,zE,zQ,qa2,Nat.reduceAdd,zj,zQ,qbi,qaV,lenS_nil,L3b0,zj]
            rfl
          · rintro st ⟨H, rfl⟩ hr
            subst hr
            simp (disch:=first|omega|decide|simp only[qai,qag,qak,qaj,qah,qae,qac,qad,qan]) only[qbp,qa6,qau,qao,qap,qam,qaf,qaN,qaq,qaz,qaI,qar,qaF,qaB,qaa,qaG,qbc,qaw,qat,qbg,qbl,zK,zL,zN,zO,zJ,zM,qct,zI,Nat.reduceAdd,zC,zB,zE,zQ,qa2,Nat.reduceAdd,zj,zQ,qbi,qaV,lenS_nil,zI,L3b0,zj]
end Sha
