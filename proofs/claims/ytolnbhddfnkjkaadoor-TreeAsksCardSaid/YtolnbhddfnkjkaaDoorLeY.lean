/- TreeCounts. -/
import Derived.Test.YtolnbhddfnkjkaaDoorLeX
set_option linter.unusedVariables false
set_option linter.unusedSimpArgs false
namespace Sha
open Go Go.LE
theorem ns_cell (n j:Nat) (hj:j < nl n+1):cellK j 1 (some (ns (lvs n)))=some [N (su n j)]:=by
  rw[cellK_some,if_pos (by simp[ns,lvs]; omega)]
  simp only[ns,lvs,←List.map_drop]
  rw[List.drop_eq_getElem_cons (by simpa using hj)]
  simp
def tcJ (n:Nat) (c:Option Nat) (j:Nat) (st:St):Prop := ∃ (x34 x35 x36 x37 x38 x39 x40 x41:LV) (H:Heap),st=⟨[.undef,.undef,.undef,.sl (1,0) 0 (nl n+1) c 1,N (cn n j),N j,.undef,.undef,.undef,.undef,.undef,.undef,.undef,.undef,.undef,.undef,.undef,.undef,.undef,.undef,.undef,.undef,.undef,.undef,.undef,.undef,.undef,.undef,.undef,.undef,.undef,.undef,.undef,.undef,x34,x35,x36,x37,x38,x39,x40,x41,.undef,.undef,.undef,.undef,.undef,.undef,.undef],H,2,0⟩∧H (1,0)=some (ns (lvs n))
set_option maxRecDepth 20000 in
theorem tc_round (K k0 n:Nat) (c:Option Nat) (hn:1≤n∧n≤4096) (j:Nat) (hj:j < nl n+1) (st:St) (hI:tcJ n c j st):∃ st1,ev (envC C k0) K L6b0 st=some (.normal,st1)∧tcJ n c (j+1) (qby L6k0 st1):=by
  obtain ⟨x34,x35,x36,x37,x38,x39,x40,x41, H,rfl,h0⟩:=hI
  have hc:=ns_cell n j hj
  have hs:=su_le hn j
  have hcn:=cn_le hn j
  have hsc:su n j=(cn n j+15) / 16:=su_cn n j
  have e1:¬ su n j*16 < cn n j:=by omega
  have e2:¬ cn n j≤(su n j - 1)*16:=by omega
  have hn2:=nl_le n
  apply Exists.intro
  apply And.intro
  · simp (disch := first | omega | decide | simp only [qai, qag, qak, qaj, qah, qae, qac, qad, qan]) only [qba, qau, qa3, qao, qap, qam, qaf, qaS, qbA, qaq, qaz, qaI, qar, qbq, qaF, qbr, qaB, qaa, qa4, qaw, qaY, qat, zK, zL, zN, zO, zJ, zM, Nat.reduceAdd, qaQ, qbe, qbx, zB, zE, zT, zQ, zZ, zE, zB, qbY, N_sub, N_mul, qa2, N_geq, qbO, Nat.reduceAdd, zQ, zT, qbi, qaV, qbL, qb7, qbG, qax, qay, zZ, qal, L6b0, hj, hc, h0, e1, e2, qbG, zZ, zB, qal]
    rfl
  · refine qaU [(1, 0)] rfl (by simp only [qaA, FUEL, qaH, qaD, qaE, qaP, qaK, nms_Bo, qaL, zS, zW, zP, zV, zR, zk, zF, zY, za, zt, zo, ze, zp, zzF, zC, zA, zd, zm, zg, zl, ne_eq, zq, qaJ, qaC, qav, qaO, L6k0, h0, ns_nms, qaK, qaO]) rfl ⟨_, _, _, _, _, _, _, _,  _, by rw [hsc]; rfl, ?_⟩
    exact qas (1,0) rfl (by simp only[h0]) (ns_ren _ _)
set_option maxRecDepth 20000 in
theorem treeCounts_F (k:Nat) (z:Int):F C (k+4000) 6 [I z] []=some (Bo true,[],[]):=by
  rw[qch f6]
  have hlv:=fun (b:Nat) (H:Heap)=>lives_call (k+999) b H
  by_cases hz:1≤z∧z≤4096
  · obtain ⟨n, rfl⟩ : ∃ n : Nat, z = (n : Int) := ⟨z.toNat, by omega⟩
    have hn:1≤n∧n≤4096:=by omega
    obtain ⟨c,hl,_⟩:=levels_F (k+3989) n hn
    have hlc:=fun (b:Nat) (H:Heap)=>row_new (k+3999) b 18 H n l18 _ _ _ hl
    have e1:¬ n < 1:=by omega
    have e2:¬ 4096 < n:=by omega
    have hn2:=nl_le n
    rw[show I (n:Int)=N n from rfl]
    simp (disch:=first|omega|decide|simp only[qai,qag,qak,qaj,qah,qae,qac,qad,qan]) only[qbb,qba,qau,qa3,qao,qap,qam,qaf,qaS,qbA,qaq,qaz,qaI,qar,qbq,qaF,qbr,qaB,op_un,qa1,qaT,qaa,qaw,qat,zK,zL,zN,zO,zG,zF,zP,zV,qa5,zy,zJ,zM,qcU,qbZ,Nat.reduceAdd,Nat.reduceSub,zB,zE,zQ,zE,zB,qa2,N_gtr,Nat.reduceAdd,zQ,zf,qax,qaM,qay,qal,L6,hlc,hlv,e1,e2,qal]
    generalize hL:qca L6k0 _ _ _=r
    refine qbJ hL (tcJ n c) (nl n+1) (by omega) (fun j st hj hI=>tc_round _ _ n c hn j hj st hI) ?_ ?_ ?_
    · refine qaU [(4, 0)] rfl (by simp only [qaA, FUEL, qaH, qaD, qaE, qaK, nms_Un, qaL, zS, zW, zP, zR, zk, zF, zY, ze, Nat.reduceEqDiff, zC, zA, zm, zg, zl, ne_eq, zq, qab, qaJ, qaC, qav, qaZ, qaO, L6k0, ns_nms, qaK, qaO]) rfl ⟨_, _, _, _, _, _, _, _,  _, rfl, ?_⟩
      exact qas (4,0) rfl (by simp only[qab,zC]) (ns_ren _ _)
    · rintro st ⟨x34, x35, x36, x37, x38, x39, x40, x41,  H, rfl, h0⟩
      apply qbs
      simp (disch:=first|omega|decide|simp only[qai,qag,qak,qaj,qah,qae,qac,qad,qan]) only[qa6,qau,qao,qap,qam,qaf,qaN,qaq,qaz,qar,qaF,qaB,qaa,qaG,qaw,qat,zK,zL,zN,zO,zJ,zM,Nat.reduceAdd,zB,zE,zQ,qa2,Nat.reduceAdd,zj,zQ,qbi,qaV,qbL,L6b0,zj]
      rfl
    · rintro st ⟨x34, x35, x36, x37, x38, x39, x40, x41,  H, rfl, h0⟩ rfl
      rw[cn_top hn]
      simp (disch:=first|omega|decide|simp only[qai,qag,qak,qaj,qah,qae,qac,qad,qan]) only[qbp,qa6,qau,qao,qap,qam,qaf,qaN,qaq,qaz,qaI,qar,qaF,qaB,qaa,qaG,qbc,qaw,qat,qbg,qbl,zK,zL,zN,zO,zJ,zM,qct,zI,Nat.reduceAdd,zC,zB,zE,zT,zQ,N_eql,qa2,Nat.reduceAdd,zj,zQ,zT,qbi,qaV,qbL,zI,L6b0,zj]
  · have hl := levels_no (k + 3989) z hz
    have hlc:=fun (b:Nat) (H:Heap)=>call_isl (k+3999) b 18 H [I z] _ rfl rfl rfl hl (fun _=>rfl)
    by_cases h1:z < 1
    · have e1 : decide (z < ((1 : Nat) : Int)) = true := by simp; omega
      simp (disch:=first|omega|decide|simp only[qai,qag,qak,qaj,qah,qae,qac,qad,qan]) only[qbb,qba,qbp,qau,qao,qap,qam,qaf,qaS,qcO,qaq,qaz,qaI,qar,qb0,qaF,qbr,qaB,op_un,qa1,qaT,qaa,qbQ,qaw,qaY,qat,qbg,qbl,zK,zL,zN,zO,zG,zF,zP,zV,qa5,zy,zJ,zM,qcU,qct,zI,Nat.reduceAdd,Nat.reduceSub,zB,zE,zT,zE,zB,N_eql,Nat.reduceAdd,zT,zf,qbi,qaV,lenS_nil,qax,qay,zI,qal,L6,hlc,hlv,I_lssN,e1,qal]
    · have e1 : decide (z < ((1 : Nat) : Int)) = false := by simp; omega
      have e2:decide (((4096:Nat):Int) < z)=true:=by simp; omega
      simp (disch:=first|omega|decide|simp only[qai,qag,qak,qaj,qah,qae,qac,qad,qan]) only[qbb,qba,qbp,qau,qao,qap,qam,qaf,qaS,qbA,qaq,qaz,qaI,qar,qbq,qaF,qbr,qaB,op_un,qa1,qaT,qaa,qbQ,qaw,qaY,qat,qbg,qbl,zK,zL,zN,zO,zG,zF,zP,zV,qa5,zy,zJ,zM,qcU,qct,zI,Nat.reduceAdd,Nat.reduceSub,zB,zE,zT,zE,zB,N_eql,Nat.reduceAdd,zT,zf,qbi,qaV,lenS_nil,qax,qay,zI,qal,L6,hlc,hlv,I_lssN,I_gtrN,e1,e2,qal]
end Sha
namespace Sha
open Go Go.LE
def sameAt (P Q:List (List (BitVec 8))) (i:Nat):Bool:=decide (P.getD i []=Q.getD i [])
theorem same_all {P Q:List (List (BitVec 8))} (h:P.length=Q.length):(List.range P.length).all (sameAt P Q)=decide (P=Q):=by
  by_cases e:P=Q
  · subst e; simp[sameAt]
  · rw [decide_eq_false e, List.all_eq_false]
    apply Classical.byContradiction
    intro hn
    apply e
    apply List.ext_getElem h
    intro i h1 h2
    have:sameAt P Q i=true:=by
      apply Classical.byContradiction
      intro hf
      exact hn ⟨i,by simpa using h1,by simpa using hf⟩
    simpa [sameAt,List.getD_eq_getElem?_getD,List.getElem?_eq_getElem h1,List.getElem?_eq_getElem h2] using this
def sJ (P Q:List (List (BitVec 8))) (m i:Nat) (st:St):Prop := ∃ (H:Heap),st=⟨[.isl (sls P) m,.isl (sls Q) m,.undef,.undef,.undef,N i,.undef,.undef,.undef,.undef,.undef,.undef,.undef,.undef,.undef,.undef,.undef,.undef,.undef,.undef,.undef,.undef,.undef,.undef,.undef,.undef,.undef,.undef],H,2,0⟩
theorem same_both (K k0:Nat) (P Q:List (List (BitVec 8))) (m:Nat) (hp:P.length=m) (hq:Q.length=m) (hP:m≤1000) (i:Nat) (hi:i < m) (st:St) (hI:sJ P Q m i st) :
    (sameAt P Q i=true→∃ st1,ev (envC C k0) K L17b0 st=some (.normal,st1)∧sJ P Q m (i+1) (qby L17k0 st1)) ∧
    (sameAt P Q i=false→∃ st1,ev (envC C k0) K L17b0 st=some (.ret,st1)∧resVal st1 [.tmp 4]=some (Bo false)∧st1.np=0):=by
  obtain ⟨H,rfl⟩:=hI
  have hc:=fun (H:Heap)=>sls_cell (H:=H) P i (by omega)
  have hc2:=fun (H:Heap)=>sls_cell (H:=H) Q i (by omega)
  have hf:=fun (H:Heap)=>qdn (H:=H) (P.getD i []) _ rfl
  have hf2:=fun (H:Heap)=>qdn (H:=H) (Q.getD i []) _ rfl
  refine ⟨fun hb => ?_,fun hb => ?_⟩
  · simp only [sameAt] at hb
    apply Exists.intro
    apply And.intro
    · simp (disch := first | omega | decide | simp only [qai, qag, qak, qaj, qah, qae, qac, qad, qan]) only [qba, qau, qa3, qao, qap, qam, qaf, qaq, qaz, qaI, qar, qaF, qaB, qaa, qa4, qaw, qaY, qat, zK, zL, zN, zO, zF, zJ, zM, Nat.reduceAdd, qbe, qbx, zw, zx, zh, zC, zB, zE, zT, zZ, zE, zB, qbY, qa2, qbO, Nat.reduceAdd, zT, zu, zf, qbi, qaV, qbD, qcT, qb7, qbC, qax, qay, qbd, zZ, qbz, qb3, qcr, touch_b2s, zY, zz, z6, ordOk, qbv, zw, zx, Nat.testBit, Nat.reduceShiftRight, Nat.reduceAnd, Nat.reduceBEq, zf, zu, z7, zh, bne, qbN, qcp, qbI, qcf, isCall_b2s, zh, qbo, qal, L17b0, hi, qbC, zZ, hc, hc2, hf, hf2, qal, qbo, op_b2s, b2sV_isl, b2sK_bs, txt_nq, hb, ipts_nms, qbd]
      rfl
    · refine qaU [] rfl (by simp only [qaA, FUEL, qaE, qaL, zS, zW, zR, zk, zF, zg, qaJ, qaC, qav, qaO, L17k0, qcJ, qaO]) ?_ ⟨_, rfl⟩
      simp only[L17k0,zG,zF,qaC,qav,qaJ,qa9,qc6]
      rfl
  · simp only [sameAt] at hb
    apply Exists.intro
    apply And.intro
    · simp (disch := first | omega | decide | simp only [qai, qag, qak, qaj, qah, qae, qac, qad, qan]) only [qba, qbp, qau, qa3, qao, qap, qam, qaf, qaq, qaz, qaI, qar, qaF, qaB, qaa, qbQ, qdm, qaw, qaY, zK, zL, zN, zO, zF, zJ, zM, Nat.reduceAdd, qbe, qbx, zw, zx, zh, zC, zB, zE, zT, zZ, zE, zB, qa2, qbO, Nat.reduceAdd, zT, zu, zf, qbi, qaV, qbD, qcT, qb7, qbC, qax, qay, qbd, zZ, qbz, qb3, qcr, touch_b2s, zY, zz, z6, ordOk, qbv, zw, zx, Nat.testBit, Nat.reduceShiftRight, Nat.reduceAnd, Nat.reduceBEq, zf, zu, z7, zh, bne, qbN, qcp, qbI, qcf, isCall_b2s, zh, qbo, qal, L17b0, hi, qbC, zZ, hc, hc2, hf, hf2, qal, qbo, op_b2s, b2sV_isl, b2sK_bs, txt_nq, hb, ipts_nms, qbd]
      rfl
    · exact ⟨rfl,rfl⟩
theorem same_F (k:Nat) (P Q:List (List (BitVec 8))) (hP:P.length≤1000) (hQ:Q.length≤1000000):F C (k+2000) 17 [.isl (sls P) P.length,.isl (sls Q) Q.length] []=some (Bo (decide (P=Q)),[],[]):=by
  rw[qch f17]
  by_cases hl:P.length=Q.length
  · obtain ⟨q, hq, hg, hb, he⟩ := first_no (sameAt P Q) P.length
    rw[←same_all hl,he]
    clear he
    obtain ⟨m,hp⟩:∃ m,P.length=m:=⟨_,rfl⟩
    have hqm:Q.length=m:=by omega
    rw[hp] at hq hb hP ⊢
    rw[hqm]
    obtain ⟨v,hvv⟩:∃ v,decide (¬ q < m)=v:=⟨_,rfl⟩
    rw[hvv]
    simp (disch:=first|omega|decide|simp only[qai,qag,qak,qaj,qah,qae,qac,qad,qan]) only[qbb,qba,qau,qa3,qao,qap,qam,qaf,qaq,qaz,qaI,qar,qaF,qaB,qaa,qaw,qat,zK,zL,zN,zO,zP,zV,qa5,zy,zJ,zM,qbZ,Nat.reduceAdd,Nat.reduceSub,zB,zE,zT,zE,zB,N_neq,decide_not,Nat.reduceAdd,zT,zf,qbi,qaV,qbD,qax,qay,qal,L17,qal]
    generalize hLp:qca L17k0 _ _ _=r
    refine qbJ hLp (sJ P Q m) q (by omega) (fun j st hj hI=>(same_both _ _ P Q m hp hqm hP j (by omega) st hI).1 (hg j hj)) ?_ ?_ ?_
    · refine qaU [] rfl (by simp only [qaA, FUEL, qaE, qaL, zS, zW, zR, zk, zF, zg, qaJ, qaC, qav, qaO, L17k0, qcJ, qaO]) ?_ ⟨_, rfl⟩
      simp only[L17k0,zG,zF,qaC,qav,qaJ,qa9,qc6]
      rfl
    · rintro st hJ
      by_cases hlt:q < m
      · obtain ⟨st1, h, _⟩ := (same_both (k + 1999) (k + 1999) P Q m hp hqm hP q hlt st hJ).2 (hb hlt)
        exact stop_ret h
      · obtain ⟨H, rfl⟩ := hJ
        apply qbs
        simp (disch:=first|omega|decide|simp only[qai,qag,qak,qaj,qah,qae,qac,qad,qan]) only[qa6,qau,qao,qap,qam,qaf,qaN,qaq,qaz,qar,qaF,qaB,qaa,qaG,qaw,qat,zK,zL,zN,zO,zJ,zM,Nat.reduceAdd,zB,zE,zQ,qa2,Nat.reduceAdd,zQ,qbi,qaV,qbD,L17b0,hlt]
        rfl
    · rintro st hJ hr
      by_cases hlt:q < m
      · obtain ⟨st1, h, hv, hnp⟩ := (same_both (k + 1999) (k + 1999) P Q m hp hqm hP q hlt st hJ).2 (hb hlt)
        rw[hr,h,←hvv,decide_eq_false (by omega)]
        obtain ⟨tm,H,nx,np⟩:=st1
        simp only[inBlock,andThen,qbg,hv,zI]
        simp only at hnp
        subst hnp
        rw[qcc 0 _ _ [] (by simp only[qaA,FUEL,qaE,nms_Bo,zS,zW,zR,zk,zF,zg])]
        rfl
      · obtain ⟨H, rfl⟩ := hJ
        subst hr
        rw[←hvv,decide_eq_true hlt]
        simp (disch:=first|omega|decide|simp only[qai,qag,qak,qaj,qah,qae,qac,qad,qan]) only[qbp,qa6,qau,qao,qap,qam,qaf,qaN,qaq,qaz,qaI,qar,qaF,qaB,qaa,qaG,qbc,qaw,qat,qbg,qbl,zK,zL,zN,zO,zJ,zM,qct,zI,Nat.reduceAdd,zC,zB,zE,zQ,qa2,Nat.reduceAdd,zQ,qbi,qaV,qbD,zI,L17b0,hlt]
  · rw [decide_eq_false (fun e : P = Q => hl (by rw [e]))]
    simp (disch:=first|omega|decide|simp only[qai,qag,qak,qaj,qah,qae,qac,qad,qan]) only[qbb,qbp,qau,qao,qap,qam,qaf,qaq,qaz,qaI,qar,qaF,qaB,qaa,qbQ,qaw,qaY,qbg,qbl,zK,zL,zN,zO,zP,zV,qa5,zy,zJ,zM,qct,zI,Nat.reduceAdd,Nat.reduceSub,zB,zE,zQ,zE,zB,N_neq,decide_not,Nat.reduceAdd,zQ,zu,qbi,qaV,qbD,qax,qay,zI,qal,L17,qal,hl,zQ]
theorem same_call (k b:Nat) (H:Heap) (X Y:LV) (P Q:List (List (BitVec 8))) (hP:P.length≤1000) (hQ:Q.length≤1000000) (hX:PathIs H X P) (hY:PathIs H Y Q) :
    qb1 (envC C (k+2000)) H b 17 [X,Y]=some ⟨Bo (decide (P=Q)),[],[]⟩:=by
  obtain ⟨l1,h1⟩:=hX
  obtain ⟨l2,h2⟩:=hY
  exact lent_call _ _ _ H _ [.isl (sls P) P.length, .isl (sls Q) Q.length] (l1 ++ (l2 ++ [])) _ (by rw [qde, qde, lend_nil, if_pos (show lentF 17 0 = true from rfl), if_pos (show lentF 17 (0 + 1) = true from rfl), h1, h2]; simp [lendC_some]) (by simp only [zS, qcJ, zW, zR]) (by simp only [zG, qc6, zF])
    (same_F k P Q hP hQ) rfl (fun _=>rfl)
end Sha
namespace Sha
open Go Go.LE
theorem ndC_drop (H:Heap) (l:List (BitVec 8)) (m q:Nat) (hq:q < m):cellAt H 1 (.ipt ((Ab.ndC l m).drop q))=some [.isl (bs (Ab.nd l q)) 512]:=by
  rw[cellAt_ipt,if_pos (by rw[zzG,Ab.ndC_length]; omega)]
  simp only[Ab.ndC,←List.map_drop]
  rw[List.drop_eq_getElem_cons (by simpa using hq)]
  simp
theorem sls_renD (L:List (List (BitVec 8))) (π:Nm→Option Nm):(sls L).map (ren D π)=sls L:=by
  simp only[sls,List.map_map]; apply List.map_congr_left; intro x _; exact qa8 π _ _
theorem sls_nmsD (L:List (List (BitVec 8))):(sls L).flatMap (nms D)=[]:=by
  rw[List.flatMap_eq_nil_iff]; intro x hx; simp only[sls,List.mem_map] at hx; obtain ⟨y,_,rfl⟩:=hx; exact qbd _ _
theorem sls_snoc (L:List (List (BitVec 8))) (q:List (BitVec 8)) (h:q.length=512):sls L++[.isl (bs q) 512]=sls (L++[q]):=by simp[sls,h]
theorem pth_take (l:List (BitVec 8)) (n i j:Nat) (hj:j < nl n+1):(pth l n i).take (j+1)=(pth l n i).take j++[Ab.nd (lay l n j) (i / 16 ^ (j+1))]:=by
  rw[List.take_add_one,pth,List.getElem?_map,List.getElem?_range hj]; rfl
def ptJ (l:List (BitVec 8)) (n i j:Nat) (st:St):Prop := ∃ (x18 x19 x20 x21 x22 x23 x24 V:LV) (H:Heap),st=⟨[.sl (0,0) 0 (nl n+1) none 1,N (i / 16 ^ j),.undef,.undef,.undef,V,N j,.undef,.undef,.undef,.undef,.undef,.undef,.undef,.undef,.undef,.undef,.undef,x18,x19,x20,x21,x22,x23,x24,.undef,.undef,.undef,.undef,.undef,.undef,.undef,.undef,.undef,.undef,.undef,.undef],H,2,1⟩∧H (0,0)=some (outC l n (nl n+1)) ∧
  ((j=0∧V=Nil)∨(0 < j∧V = .sl (1,0) 0 j none 1∧H (1,0)=some (sls ((pth l n i).take j))))
theorem pt_app (l:List (BitVec 8)) (n i j:Nat) (hl:l.length=32*n) (hj:j < nl n+1) (V:LV) (H:Heap)
    (hV:(j=0∧V=Nil)∨(0 < j∧V = .sl (1,0) 0 j none 1∧H (1,0)=some (sls ((pth l n i).take j)))) :
    ∃ ms, appKz 29 1 24 (upd H (28, 0) (some [.isl (bs (Ab.nd (lay l n j) (i / 16 ^ (j + 1)))) 512])) V (.sl (28, 0) 0 1 (some 1) 1) (some 1) = some ⟨.sl (29, 0) 0 (j + 1) none 1, [sls ((pth l n i).take (j + 1))], ms⟩ ∧
      (ms=[]∨ms=[((1,0),none)]):=by
  have hq:=nd_length (lay_length hl j) (i / 16 ^ (j+1))
  rw[appKz_isl _ (28,0) 512 (bs (Ab.nd (lay l n j) (i / 16 ^ (j+1)))) (by simp only[qab,zC])]
  rw[pth_take _ _ _ _ hj,←sls_snoc _ _ hq]
  rcases hV with ⟨rfl,rfl⟩ | ⟨h0,rfl,h1⟩
  · exact ⟨[],by rw[appX_nilz]; rfl,.inl rfl⟩
  · refine ⟨[((1, 0), none)], ?_, .inr rfl⟩
    have hn2:=nl_le n
    rw[appX_rowz _ (1,0) j (sls ((pth l n i).take j)) _ (by simp only[qab,zD,Nat.reduceEqDiff,zH,zA,h1]) (by simp[sls,pth_length]; omega) (by omega) rfl]
set_option maxRecDepth 20000 in
theorem pt_round (K k0 n i:Nat) (l:List (BitVec 8)) (hl:l.length=32*n) (hn:1≤n∧n≤4096) (hi:i < n) (j:Nat) (hj:j < nl n+1) (st:St) (hI:ptJ l n i j st) :
    ∃ st1,ev (envC C k0) K L20b0 st=some (.normal,st1)∧ptJ l n i (j+1) (qby L20k0 st1):=by
  obtain ⟨x18,x19,x20,x21,x22,x23,x24, V,H,rfl,h0,hV⟩:=hI
  have hcell:=outC_cell l n (nl n+1) j hj
  have hdiv:i / 16 ^ j / 16=i / 16 ^ (j+1):=by rw[Nat.div_div_eq_div_mul,Nat.pow_succ]
  have hlt:=cn_div hi (j+1)
  have hnlt:¬ cn n (j+1)≤i / 16 ^ (j+1):=by omega
  have hnd:=fun (H:Heap)=>ndC_drop H (lay l n j) (cn n (j+1)) _ hlt
  have hile:i / 16 ^ j≤i:=Nat.div_le_self _ _
  have hile2:i / 16 ^ (j+1)≤i:=Nat.div_le_self _ _
  have hn2:=nl_le n
  have hcn:=cn_le hn (j+1)
  obtain ⟨ms,hap,hms⟩:=pt_app l n i j hl hj V H hV
  have hm0:∀ X:Heap,modN ms X (0,0)=X (0,0):=by
    intro X; rcases hms with rfl | rfl <;> rfl
  apply Exists.intro
  apply And.intro
  · simp (disch := first | omega | decide | simp only [qai, qag, qak, qaj, qah, qae, qac, qad, qan]) only [qba, qau, qa3, qao, qap, qam, qaf, qaS, qbA, qaq, qaz, qaI, qar, qbq, qaF, qbr, qaB, qaa, qa4, qaw, qaY, qat, zK, zL, zN, zO, zG, zF, zP, zR, zJ, zM, Nat.reduceAdd, qaQ, qbe, qbx, qbW, qcx, qco, qb2, zzB, zzE, zzD, zX, zC, zB, zE, Nat.le_refl, zT, zQ, zZ, zE, zB, qbY, N_quo, qa2, N_geq, qbO, Nat.reduceAdd, zQ, zT, qbi, qaV, qbL, qbD, qbB, qb7, qbG, qbC, qbK, qbw, qax, qaM, qay, zZ, qal, qdp, L20b0, hj, h0, hcell, hdiv, hnlt, hnd, qbG, qbC, zZ, zB, Nat.not_lt_zero, qdf, hap, qal]
    rfl
  · refine qaU [(29, 0)] rfl (by simp only [qaA, FUEL, qaH, qaD, qaE, qaP, qaK, nms_Bo, qaL, zS, zW, zP, zV, zR, zF, zG, zY, za, zD, zt, zo, ze, Nat.reduceEqDiff, zH, zp, zzF, zC, zA, zm, zg, zl, ne_eq, zq, z9, qab, qaJ, qaC, qav, qce, qaO, L20k0, hm0, h0, outC_nms, sls_nmsD, indC_nms, qaK, qaO]) rfl ⟨_, _, _, _, _, _, _,  _, _, rfl, ?_, .inr ⟨by omega, rfl, ?_⟩⟩
    · rw [qcm]
      simp (disch:=first|omega|decide|simp only[qai,qag,qak,qaj,qah,qae,qac,qad,qan]) only[zI,qab,zD,Nat.reduceEqDiff,zH,zA,hm0,h0,qcN]
    · exact qas (29,0) rfl (by simp only[qab,zC]) (sls_renD _ _)
set_option maxRecDepth 20000 in
theorem path_F (k n i:Nat) (l:List (BitVec 8)) (hl:l.length=32*n) (hn:1≤n∧n≤4096) (hi:i < n) :
    F C (k+100) 20 [.sl (0,0) 0 (nl n+1) none 1,N i] [outC l n (nl n+1)]=some (.sl (1,0) 0 (nl n+1) none 1,[some (outC l n (nl n+1))],[sls (pth l n i)]):=by
  rw[qch f20]
  have hn2:=nl_le n
  simp (disch:=first|omega|decide|simp only[qai,qag,qak,qaj,qah,qae,qac,qad,qan]) only[qbb,qau,qa3,qao,qap,qam,qaf,qaq,qaI,qaF,qaa,zK,zL,zP,zV,qa5,zy,zJ,zM,qbZ,Nat.reduceAdd,Nat.reduceSub,zB,zE,zE,zB,Nat.reduceAdd,qax,qay,qal,L20,qal]
  generalize hLp:qca L20k0 _ _ _=r
  refine qbJ hLp (ptJ l n i) (nl n+1) (by omega) (fun j st hj hI=>pt_round _ _ n i l hl hn hi j hj st hI) ?_ ?_ ?_
  · refine qaU [] rfl (by simp only [qaA, FUEL, qaH, qaD, qaE, qaK, nms_Un, qaL, zS, zW, zP, zV, zR, zF, zG, zY, za, zt, zo, ze, zp, zC, zA, zm, zg, zl, ne_eq, z9, qaJ, qaC, qav, qbn, qce, List.getElem?_cons_zero, qaO, qbu, L20k0, outC_nms, qaK, qbu, qaO, qbn, List.getElem?_cons_zero]) rfl ⟨_, _, _, _, _, _, _,  Nil, _, by rw [Nat.pow_zero, Nat.div_one]; rfl, ?_, .inl ⟨rfl, rfl⟩⟩
    · rw [qcm]
      simp (disch:=first|omega|decide|simp only[qai,qag,qak,qaj,qah,qae,qac,qad,qan]) only[zI,zI,qbn,List.getElem?_cons_zero,qbn,List.getElem?_cons_zero,qcN]
  · rintro st ⟨x18, x19, x20, x21, x22, x23, x24,  V, H, rfl, h0, hV⟩
    apply qbs
    simp (disch:=first|omega|decide|simp only[qai,qag,qak,qaj,qah,qae,qac,qad,qan]) only[qa6,qau,qao,qap,qam,qaf,qaN,qaq,qaz,qar,qaF,qaB,qaa,qaG,qaw,qat,zK,zL,zN,zO,zJ,zM,Nat.reduceAdd,zB,zE,zQ,qa2,Nat.reduceAdd,zj,zQ,qbi,qaV,qbL,L20b0,zj]
    rfl
  · rintro st ⟨x18, x19, x20, x21, x22, x23, x24,  V, H, rfl, h0, hV⟩ rfl
    rcases hV with ⟨h,_⟩ | ⟨_,rfl,h1⟩
    · omega
    · rw [List.take_of_length_le (by rw [pth_length]; omega)] at h1
      simp (disch:=first|omega|decide|simp only[qai,qag,qak,qaj,qah,qae,qac,qad,qan]) only[qbp,qa6,qau,qao,qap,qam,qaf,qaN,qaq,qaz,qar,qaF,qaB,qaa,qaG,qbc,qaw,qat,qbg,qbl,zK,zL,zN,zO,zJ,zM,zI,Nat.reduceAdd,zC,zB,zE,zQ,qa2,Nat.reduceAdd,zj,zQ,qbi,qaV,qbL,zI,L20b0,zj]
      rw[qcc 1 _ _ [(1,0)] (by simp only[qaA,FUEL,qaH,qaD,qaE,qaK,zS,zW,zP,zV,zR,zF,zG,zY,za,zD,zt,zo,ze,zH,zp,zC,zA,zd,zm,zg,zl,ne_eq,zq,z9,qce,qaK,outC_nms,sls_nmsD,h0,h1])]
      simp (disch:=first|omega|decide|simp only[qai,qag,qak,qaj,qah,qae,qac,qad,qan]) only[zG,zF,zI,zC,zB,idx_cons,qdo,zzC,zI,qce,List.filterMap_cons,qbk,qbX,h0,h1,qcN,sls_renD]
theorem path_call (k b n i:Nat) (H:Heap) (r:Nm) (l:List (BitVec 8)) (hl:l.length=32*n) (hn:1≤n∧n≤4096) (hi:i < n) (h:H r=some (outC l n (nl n+1))) :
    qb1 (envC C (k+100)) H b 20 [.sl r 0 (nl n+1) none 1,N i]=some ⟨.sl (b,0) 0 (nl n+1) none 1,[sls (pth l n i)],[(r,some (outC l n (nl n+1)))]⟩:=by
  have hr:reach H FUEL [] [r]=[r]:=by
    simp only[FUEL,qaH,zY,ze,zA,h,qaD,outC_nms,zP,qaE]
  have hl':lend H ((envC C (k+100)).borrow 20) 0 [.sl r 0 (nl n+1) none 1,N i]=some ([.sl r 0 (nl n+1) none 1,N i],[]):=rfl
  rw[callOp_L,hl',callL_some]
  rw[show ([LV.sl r 0 (nl n+1) none 1,N i]:List LV).flatMap (nms D)=[r] from rfl,hr,callN_eq _ _ _ _ _ rfl]
  rw[show ([r]:List Nm).filterMap H=[outC l n (nl n+1)] by simp[h]]
  have ha:([LV.sl r 0 (nl n+1) none 1,N i]:List LV).map (ren D (qc7 [r]))=[.sl (0,0) 0 (nl n+1) none 1,N i]:=by
    simp only[zG,zF,qbk,toCallee_eq,idx,zC,zI,qbX]
    rfl
  rw[ha,zG,zF,qcN,envC_cal,path_F k n i l hl hn hi,show ([]:List Nm).isEmpty=true from rfl,resK_sc]
  simp only[qc9,zG,zF,qcN,sls_renD,List.zipWith_cons_cons,List.zipWith_nil_left,zI,qbk,toCaller_1,zJ,zM,zB,Nat.lt_one_iff,qbX]
end Sha
namespace Sha
open Go Go.LE
theorem eqs_islS (xs:List LV) (len:Nat) (h:0 < len):binV .eql .slice (.isl xs len) Nil=some (Bo false):=by
  show (eqV .slice (.isl xs len) Nil).map _=_
  show ((if nilCS Nil then nilS (.isl xs len) else none):Option Bool).map _=_
  rw[show nilCS Nil=true from rfl,if_pos rfl,nilS,if_pos h]
  rfl
theorem clone_isl (k:Nat) (b:List (BitVec 8)) (hb:b.length=512):F C (k+1) 38 [.isl (bs b) 512] []=some (.sl (1,0) 0 512 none 1,[],[bs b]):=by
  rw[qch f38]
  have hf:∀ H:Heap,front H 1 512 (.isl (bs b) 512)=some (bs b):=fun H=>qdn b 512 hb
  have he:=eqs_islS (bs b) 512 (by decide)
  have ha:=appX_full (b:=7) (H:=upd (qcV []) (5,0) (some [])) 512 (5,0) 0 0 0 [] b (by simp only[qab,zC]; rfl) (by simp) (by omega) (by omega)
  simp only[zzD,zzL,zP,zB] at ha
  simp (disch:=first|omega|decide|simp only[qai,qag,qak,qaj,qah,qae,qac,qad,qan]) only[qbb,qba,qbp,qau,qao,qap,qam,qaf,qaq,qaz,qaI,qar,qaF,qaB,qaa,qaw,qat,qbg,qbl,zK,zL,zN,zO,zF,zP,zV,qa5,zy,zJ,zM,zI,Nat.reduceAdd,Nat.reduceSub,qbW,zB,zE,zE,zB,Nat.reduceAdd,qcT,qb8,qb9,qcb,qbK,qbw,qax,qaM,qay,zI,qal,L38,hf,he,ha]
  rw[qcc 0 _ _ [(7,0)] (by simp only[qaA,FUEL,qaH,qaD,qaE,qaK,zS,zW,zP,zR,zk,zF,zY,zD,ze,Nat.reduceEqDiff,zH,zC,zA,zm,zg,zl,ne_eq,zq,qab,qaZ,qbh])]
  simp only[zG,zF,qab,zD,Nat.reduceEqDiff,zH,false_and,zC,zA,zzC,qaW,qbn,List.filterMap_cons,zk,qbk]
  rfl
theorem child_sl (k:Nat) (b:List (BitVec 8)) (hb:b.length=512) (j:Nat) (hj:j < 1000000):F C (k+1) 35 [.sl (0,0) 0 512 none 1,N j] [bs b]=some (.sl (0,0) (32*(j % 16)) 32 none 1,[some (bs b)],[]):=by
  rw[qch f35]
  have hm:j % 16 < 16:=Nat.mod_lt _ (by omega)
  have e:32*(j % 16)+32 - 32*(j % 16)=32:=by omega
  simp (disch:=first|omega|decide|simp only[qai,qag,qak,qaj,qah,qae,qac,qad,qan]) only[qbb,qbp,qau,qao,qap,qam,qaf,qaq,qaz,qaI,qar,qaF,qaB,qaa,qbg,qbl,zK,zL,zN,zO,zP,zV,qa5,zy,zJ,zM,zI,Nat.reduceAdd,Nat.reduceSub,zB,zE,zZ,zE,zB,qbY,N_mul,N_rem,qbO,Nat.reduceAdd,qbL,qdc,op_slcS,slcV_none,qdd,qax,qay,zI,zZ,qal,L35,qal,e]
  rw[qcc 1 _ _ [] (by simp only[qaA,FUEL,qaH,qaD,qaE,qaK,zS,zW,zP,zV,zR,zF,zG,zY,za,zt,zo,ze,zp,zC,zA,zm,zg,zl,ne_eq,z9,qbn,qce,List.getElem?_cons_zero,qbn,List.getElem?_cons_zero,qaK,qbh])]
  simp (disch:=first|omega|decide|simp only[qai,qag,qak,qaj,qah,qae,qac,qad,qan]) only[zG,zF,zI,qcM,zzC,zI,qaW,qbn,qce,List.getElem?_cons_zero,qbk,qbX,qaW]
theorem clone_call (k b:Nat) (H:Heap) (q:List (BitVec 8)) (hq:q.length=512):qb1 (envC C (k+1)) H b 38 [.isl (bs q) 512]=some ⟨.sl (b,0) 0 512 none 1,[bs q],[]⟩:=by
  rw[qcB l38 (by rw[zS,qbd]; rfl) (by rw[zG,qa8]; rfl),clone_isl k q hq]
  simp only[calK,qc9,zG,zF,qaW,List.zipWith_nil_left,qbk,toCaller_1,zJ,zM,zB,Nat.lt_one_iff,qbX]
theorem child_callS (k b:Nat) (H:Heap) (r:Nm) (q:List (BitVec 8)) (hq:q.length=512) (j:Nat) (hj:j < 1000000) (h:H r=some (bs q)) :
    qb1 (envC C (k+1)) H b 35 [.sl r 0 512 none 1,N j]=some ⟨.sl r (32*(j % 16)) 32 none 1,[],[(r,some (bs q))]⟩:=by
  have hr:reach H FUEL [] [r]=[r]:=by
    simp only[FUEL,qaH,zY,ze,zA,h,qaD,qbh,zP,qaE]
  have hl':lend H ((envC C (k+1)).borrow 35) 0 [.sl r 0 512 none 1,N j]=some ([.sl r 0 512 none 1,N j],[]):=rfl
  rw[callOp_L,hl',callL_some]
  rw[show ([LV.sl r 0 512 none 1,N j]:List LV).flatMap (nms D)=[r] from rfl,hr,callN_eq _ _ _ _ _ rfl]
  rw[show ([r]:List Nm).filterMap H=[bs q] by simp[h]]
  have ha:([LV.sl r 0 512 none 1,N j]:List LV).map (ren D (qc7 [r]))=[.sl (0,0) 0 512 none 1,N j]:=by
    simp only[zG,zF,qbk,toCallee_eq,idx,zC,zI,qbX]
    rfl
  rw[ha,zG,zF,qaW,envC_cal,child_sl k q hq j hj,show ([]:List Nm).isEmpty=true from rfl,resK_sc]
  simp only[qc9,zF,qaW,List.zipWith_cons_cons,List.zipWith_nil_left,zI,qbk,toCaller_0,List.getElem?_cons_zero,qbX]
def putC (b:List (BitVec 8)) (j:Nat) (x:List (BitVec 8)):List (BitVec 8):=b.take (32*(j % 16))++x++b.drop (32*(j % 16)+32)
theorem putC_length {b x:List (BitVec 8)} (hb:b.length=512) (hx:x.length=32) (j:Nat):(putC b j x).length=512:=by
  have hm:j % 16 < 16:=Nat.mod_lt _ (by omega)
  simp only[putC,zzI,zzJ,zzG]; omega
theorem lb32_length (f:Nat→BitVec 8):(lb32 f).length=32:=by simp[lb32]
def chD (i:Nat) (leaf:Nat→BitVec 8) (L:List (List (BitVec 8))):Nat→Nat→BitVec 8
  | 0=>leaf
  | k+1=>dig (nodeB k (putC (L.getD k []) (i / 16 ^ k) (lb32 (chD i leaf L k))))
def chN (i:Nat) (leaf:Nat→BitVec 8) (L:List (List (BitVec 8))) (k:Nat):List (BitVec 8):=putC (L.getD k []) (i / 16 ^ k) (lb32 (chD i leaf L k))
def chL (i:Nat) (leaf:Nat→BitVec 8) (L:List (List (BitVec 8))) (k:Nat):List (List (BitVec 8)):=(List.range k).map (chN i leaf L)
theorem chL_succ (i:Nat) (leaf:Nat→BitVec 8) (L:List (List (BitVec 8))) (k:Nat):chL i leaf L (k+1)=chL i leaf L k++[chN i leaf L k]:=by simp[chL,List.range_succ]
theorem chL_length (i:Nat) (leaf:Nat→BitVec 8) (L:List (List (BitVec 8))) (k:Nat):(chL i leaf L k).length=k:=by simp[chL]
theorem chD_succ (i:Nat) (leaf:Nat→BitVec 8) (L:List (List (BitVec 8))) (k:Nat):chD i leaf L (k+1)=dig (nodeB k (chN i leaf L k)):=rfl
theorem chN_length {L:List (List (BitVec 8))} (h5:∀ b ∈ L,b.length=512) (i:Nat) (leaf:Nat→BitVec 8) (k:Nat) (hk:k < L.length):(chN i leaf L k).length=512 :=
  putC_length (h5 _ (getD_mem hk)) (lb32_length _) _
theorem cp_child (H:Heap) (r t:Nm) (q:List (BitVec 8)) (f:Nat→BitVec 8) (j:Nat) (hq:q.length=512) (h1:H r=some (bs q)) (h2:H t=some (aB 32 f)) :
    cpK 1 H (.sl r (32*(j % 16)) 32 none 1) (.sl t 0 32 (some 32) 1) (some 32)=some ⟨N 32,[],[(r,some (bs (putC q j (lb32 f))))]⟩:=by
  have hm:j % 16 < 16:=Nat.mod_lt _ (by omega)
  have hf:front H 1 (min 32 32) (.sl t 0 32 (some 32) 1)=some (bs (lb32 f)):=by
    rw[qcI _ _ _ _ _ _ _ (by omega) (by omega),h2]
    exact frontK_lb f
  rw[cp_bytes 32 r (32*(j % 16)) 32 none _ q (lb32 f) (by decide) hf h1 (by rw[hq]; omega),lb32_length]
  rfl
theorem zapp0 (b:Nat) (H:Heap) (rn:Nm) (q:List (BitVec 8)) (hq:q.length=512) (h:H rn=some [.isl (bs q) 512]):appKz b 1 24 H Nil (.sl rn 0 1 (some 1) 1) (some 1)=some ⟨.sl (b,0) 0 1 none 1,[sls [q]],[]⟩:=by
  rw[appKz_isl _ rn 512 (bs q) h,appX_nilz]
  simp[sls,hq]
theorem zapp1 (b:Nat) (H:Heap) (rn m:Nm) (j:Nat) (L:List (List (BitVec 8))) (q:List (BitVec 8)) (hq:q.length=512) (h:H rn=some [.isl (bs q) 512]) (hm:H m=some (sls L)) (hj:L.length=j) (hj2:j≤1000000) :
    appKz b 1 24 H (.sl m 0 j none 1) (.sl rn 0 1 (some 1) 1) (some 1)=some ⟨.sl (b,0) 0 (j+1) none 1,[sls (L++[q])],[(m,none)]⟩:=by
  rw[appKz_isl _ rn 512 (bs q) h,appX_rowz _ m j (sls L) _ hm (by rw[sls_length]; exact hj) (by omega) rfl,sls_snoc L q hq]
theorem lent_512 (H:Heap) (q:List (BitVec 8)) (hq:q.length=512):Lent H (.isl (bs q) 512) q []:=by
  have:=lent_isl H q []
  rwa [hq] at this
end Sha
namespace Sha
open Go Go.LE
theorem sls_cellK (L:List (List (BitVec 8))) (k:Nat) (hk:k < L.length):cellK k 1 (some (sls L))=some [.isl (bs (L.getD k [])) (L.getD k []).length]:=by
  rw[cellK_some,if_pos (by rw[sls_length]; omega),List.drop_eq_getElem_cons (by rw[sls_length]; exact hk)]
  simp[sls,List.getD_eq_getElem?_getD,List.getElem?_eq_getElem hk]
def hJA0 (n i:Nat) (leaf:Nat→BitVec 8) (L:List (List (BitVec 8))) (m:Nat) (st:St):Prop := ∃ (H:Heap),st=⟨[N n,N i,.undef,.undef,.undef,.undef,.undef,.undef,.undef,.ptr (1,0) 0,.undef,Nil,.ptr (1,1) 0,.undef,.undef,.undef,.undef,.undef,.undef,.undef,.undef,.undef,.undef,.undef,.undef,.undef,.undef,.undef,.undef,.undef,.undef,.undef,.undef,.undef,.undef,.undef,.undef,.undef,.undef,.isl (sls L) m,N m,N 0,.undef,.undef,.undef,.undef,.undef,.undef,.undef,.undef,.undef,.undef,.undef,.undef,.undef,.undef,.undef,.undef,.undef,.undef,.undef,.undef,.undef,.undef,.undef,.undef,.undef,.undef,.undef,.undef,.undef,.undef],H,2,0⟩∧H (1,0)=some (aB 32 fun _=>0#8)∧H (1,1)=some (aB 32 leaf)
def hJA1 (n i:Nat) (leaf:Nat→BitVec 8) (L:List (List (BitVec 8))) (m k:Nat) (st:St):Prop := ∃ (H:Heap),st=⟨[N n,N (i / 16 ^ k),.undef,.undef,.undef,.undef,.undef,.undef,.undef,.ptr (1,0) 0,.undef,.sl (1,1) 0 k none 1,.ptr (1,2) 0,.undef,.undef,.undef,.undef,.undef,.undef,.undef,.undef,.undef,.undef,.undef,.undef,.undef,.undef,.undef,.undef,.undef,.undef,.undef,.undef,.undef,.undef,.undef,.undef,.undef,.undef,.isl (sls L) m,N m,N k,.undef,.undef,.undef,.undef,.undef,.undef,.undef,.undef,.undef,.undef,.undef,.undef,.undef,.undef,.undef,.undef,.undef,.undef,.undef,.undef,.undef,.undef,.undef,.undef,.undef,.undef,.undef,.undef,.undef,.undef],H,2,0⟩∧H (1,0)=some (aB 32 fun _=>0#8)∧H (1,1)=some (sls (chL i leaf L k))∧H (1,2)=some (aB 32 (chD i leaf L k))
set_option maxRecDepth 20000 in
theorem h_roundA0 (K k0:Nat) (hk0:600≤k0) (n i:Nat) (hi:i < 1000000) (leaf:Nat→BitVec 8) (L:List (List (BitVec 8))) (m:Nat) (hm:L.length=m) (hm2:m≤3) (h0:0 < m) (h5:∀ b ∈ L,b.length=512) (st:St) (hI:hJA0 n i leaf L m st) :
    ∃ st1,ev (envC C k0) K L24b0 st=some (.normal,st1)∧hJA1 n i leaf L m (0+1) (qby L24k0 st1):=by
  obtain ⟨H,rfl,g0,g1⟩:=hI
  obtain ⟨k1,rfl⟩:∃ k1,k0=k1+1:=⟨k0 - 1,by omega⟩
  have hq:=h5 _ (getD_mem (show 0 < L.length by omega))
  have hq2:=chN_length h5 i leaf 0 (by omega)
  have hc:∀ H:Heap,cellAt H 1 (.ipt ((sls L).drop 0))=some [.isl (bs (L.getD 0 [])) 512]:=by
    intro H
    have:=sls_cell (H:=H) L 0 (by omega)
    rwa [hq] at this
  have hcl:=fun (b:Nat) (H:Heap)=>clone_call k1 b H (L.getD 0 []) hq
  have hrch:reach (upd H (9,0) (some (bs (L.getD 0 [])))) FUEL [] [(9,0)]=[(9,0)]:=by simp only[qab,zC,zA,FUEL,qaH,qaD,qaE,zP,zR,zY,ze,zC,zA,qab,qbh]
  have hcc:=child_callS k1 13 (only [(9,0)] (upd H (9,0) (some (bs (L.getD 0 []))))) (9,0) (L.getD 0 []) hq i (by omega) (by simp only[qab,zC,qbE,za,zY,zz,z0])
  have hcp:=cp_child (only [(9,0),(1,1)] (upd (upd H (9,0) (some (bs (L.getD 0 [])))) (9,0) (some (bs (L.getD 0 []))))) (9,0) (1,1) (L.getD 0 []) leaf i hq (by simp only[qab,zC,qbE,za,zY,zz,Bool.true_or,z0]) (by simp only[qab,zD,Nat.reduceEqDiff,zX,zC,zA,zd,qbE,za,zY,zz,z6,z0,g1])
  have hc':∀ H:Heap,cellAt H 1 (.ipt (sls L))=some [.isl (bs (L.getD 0 [])) 512]:=hc
  simp (disch:=first|omega|decide|simp only[qai,qag,qak,qaj,qah,qae,qac,qad,qan]) only[qba,qau,qa3,qao,qap,qam,qaf,qaq,qaz,qaI,qar,qaF,qaB,qa1,qaT,qaa,qaw,qaY,zK,zL,zN,zO,zG,zF,zS,zW,zP,zV,zR,zJ,zM,Nat.reduceAdd,Nat.reduceSub,qbe,qbx,z8,zw,zx,zh,Nat.reduceLT,zC,zB,zE,zT,zZ,zE,zB,qa2,qbO,qaO,Nat.reduceLT,Nat.reduceAdd,zT,nm_beq,zu,zf,qbB,op_copy,qcw,qb7,qbC,op_slcAV,slcAV_ptr,qax,qaM,qay,qa0,Nat.sub_zero,zZ,qbo,qal,qbz,qb3,qcL,touch_copy,nms_fn,za,zY,zz,z6,z0,ordOk,qbv,zw,zx,Nat.testBit,Nat.reduceShiftRight,Nat.reduceAnd,Nat.reduceBEq,zf,zu,z7,zh,Nat.reduceSub,Nat.reduceLT,bne,qbN,qcp,trimO_f,isCall_copy,qcv,zh,L24b0,ev_seqz,h0,hc',hcl,hrch,hcc,hcp,qbC,zZ,zB,qal,qbo,qaK]
  rw[fzSt_sl 14 _ _ _ _ (9,0) 512 none (chN i leaf L 0) rfl (by simp only[qab,zC,chN,Nat.pow_zero,Nat.div_one]; try rfl) (by decide) hq2]
  simp (disch:=first|omega|decide|simp only[qai,qag,qak,qaj,qah,qae,qac,qad,qan]) only[qao,qaf,qaq,qaz,qaF,zK,zL,zN,zO,zG,zF,zP,zR,zJ,zM,Nat.reduceAdd,qbW,qcx,qco,qb2,zzB,zzE,zzD,zX,zC,zB,zE,Nat.le_refl,zE,zB,Nat.reduceAdd,qbB,qbK,qbw,qax,qaM,qay,qal,qdp,qdf,qal]
  rw[zapp0 19 _ (18,0) (chN i leaf L 0) hq2 (by simp only[qab,zD,Nat.reduceEqDiff,zH,zC,zA])]
  have hnc:=fun (b:Nat) (H:Heap)=>qdj (k1+1) b 15 (.inl rfl) H 0 _ (chN i leaf L 0) (lent_512 H _ hq2) (by omega) (by omega)
  simp (disch:=first|omega|decide|simp only[qai,qag,qak,qaj,qah,qae,qac,qad,qan]) only[qau,qao,qap,qam,qaf,qaq,qa7,qaz,qaI,qar,qaF,qaB,qa1,qaT,qaa,qa4,zK,zL,zN,zO,zG,zF,zJ,zM,Nat.reduceAdd,qab,qaX,qbt,qbf,zD,Nat.reduceEqDiff,zX,zA,zB,zE,zd,qbm,zE,zB,qbY,N_quo,Nat.reduceEqDiff,Nat.reduceAdd,qax,qaM,qay,qa0,qal,hnc,qal,g1]
  refine ⟨_,rfl,?_⟩
  refine qaU [(1,0),(19,0),(1,1)] rfl (by simp only[qaA,FUEL,qaH,qaD,qaE,qaP,qaK,qaL,zS,zW,zP,zV,zR,zk,zF,zY,za,zD,zt,zo,ze,Nat.reduceEqDiff,zH,zU,zp,zC,zA,zd,zi,zm,zg,zl,ne_eq,zq,qab,qaJ,qaC,qav,qaO,L24k0,g0,g1,sls_nmsD,qcJ,qbS,qaK,qaO]) ?_ ⟨_,rfl,?_,?_,?_⟩
  · simp only [L24k0, zG, zF, Nat.reducePow, qbT, qbk, qaC, qav, qaJ, qa9, qc6]
    rfl
  · exact qas (1,0) rfl (by simp only[qab,zD,Nat.reduceEqDiff,zH,zU,zA,zi,g0]) (qbj _ _ _)
  · exact qas (19,0) rfl (by simp only[qab,zD,Nat.reduceEqDiff,zH,zX,zC,zA,zi]; try rfl) (sls_renD _ _)
  · exact qas (1,1) rfl (by simp only[qab,zD,Nat.reduceEqDiff,zX,zC,zA,zd]; try rfl) (qbj _ _ _)
set_option maxRecDepth 20000 in
theorem h_roundA1 (K k0:Nat) (hk0:600≤k0) (n i:Nat) (hi:i < 1000000) (leaf:Nat→BitVec 8) (L:List (List (BitVec 8))) (m:Nat) (hm:L.length=m) (hm2:m≤3) (k:Nat) (h0:k < m) (hk0:0 < k) (h5:∀ b ∈ L,b.length=512) (st:St) (hI:hJA1 n i leaf L m k st) :
    ∃ st1,ev (envC C k0) K L24b0 st=some (.normal,st1)∧hJA1 n i leaf L m (k+1) (qby L24k0 st1):=by
  obtain ⟨H,rfl,g0,g1,g2⟩:=hI
  obtain ⟨k1,rfl⟩:∃ k1,k0=k1+1:=⟨k0 - 1,by omega⟩
  have hq:=h5 _ (getD_mem (show k < L.length by omega))
  have hq2:=chN_length h5 i leaf k (by omega)
  have hil:i / 16 ^ k≤i:=Nat.div_le_self _ _
  have hdv:i / 16 ^ k / 16=i / 16 ^ (k+1):=by rw[Nat.div_div_eq_div_mul,Nat.pow_succ]
  have hc:∀ H:Heap,cellAt H 1 (.ipt ((sls L).drop k))=some [.isl (bs (L.getD k [])) 512]:=by
    intro H
    have:=sls_cell (H:=H) L k (by omega)
    rwa [hq] at this
  have hcl:=fun (b:Nat) (H:Heap)=>clone_call k1 b H (L.getD k []) hq
  have hrch:reach (upd H (9,0) (some (bs (L.getD k [])))) FUEL [] [(9,0)]=[(9,0)]:=by simp only[qab,zC,zA,FUEL,qaH,qaD,qaE,zP,zR,zY,ze,zC,zA,qab,qbh]
  have hcc:=child_callS k1 13 (only [(9,0)] (upd H (9,0) (some (bs (L.getD k []))))) (9,0) (L.getD k []) hq (i / 16 ^ k) (by omega) (by simp only[qab,zC,qbE,za,zY,zz,z0])
  have hcp:=cp_child (only [(9,0),(1,2)] (upd (upd H (9,0) (some (bs (L.getD k [])))) (9,0) (some (bs (L.getD k []))))) (9,0) (1,2) (L.getD k []) (chD i leaf L k) (i / 16 ^ k) hq (by simp only[qab,zC,qbE,za,zY,zz,Bool.true_or,z0]) (by simp only[qab,zD,Nat.reduceEqDiff,zX,zC,zA,qbE,za,zY,zz,z6,z0,g2])
  simp (disch:=first|omega|decide|simp only[qai,qag,qak,qaj,qah,qae,qac,qad,qan]) only[qba,qau,qa3,qao,qap,qam,qaf,qaq,qaz,qaI,qar,qaF,qaB,qa1,qaT,qaa,qaw,qaY,zK,zL,zN,zO,zG,zF,zS,zW,zP,zV,zR,zJ,zM,Nat.reduceAdd,Nat.reduceSub,qbe,qbx,zw,zx,zh,Nat.reduceLT,zC,zB,zE,zT,zZ,zE,zB,qa2,qbO,qaO,Nat.reduceLT,Nat.reduceAdd,zT,nm_beq,zu,zf,qbB,op_copy,qcw,qb7,qbC,op_slcAV,slcAV_ptr,qax,qaM,qay,qa0,Nat.sub_zero,zZ,qbo,qal,qbz,qb3,qcL,touch_copy,nms_fn,za,zY,zz,z6,z0,ordOk,qbv,zw,zx,Nat.testBit,Nat.reduceShiftRight,Nat.reduceAnd,Nat.reduceBEq,zf,zu,z7,zh,Nat.reduceSub,Nat.reduceLT,bne,qbN,qcp,trimO_f,isCall_copy,qcv,zh,L24b0,ev_seqz,h0,hc,hcl,hrch,hcc,hcp,qbC,zZ,zB,qal,qbo,qaK]
  rw[fzSt_sl 14 _ _ _ _ (9,0) 512 none (chN i leaf L k) rfl (by simp only[qab,zC,chN]; try rfl) (by decide) hq2]
  simp (disch:=first|omega|decide|simp only[qai,qag,qak,qaj,qah,qae,qac,qad,qan]) only[qao,qaf,qaq,qaz,qaF,zK,zL,zN,zO,zG,zF,zP,zR,zJ,zM,Nat.reduceAdd,qbW,qcx,qco,qb2,zzB,zzE,zzD,zX,zC,zB,zE,Nat.le_refl,zE,zB,Nat.reduceAdd,qbB,qbK,qbw,qax,qaM,qay,qal,qdp,qdf,qal]
  rw[zapp1 19 _ (18,0) (1,1) k (chL i leaf L k) (chN i leaf L k) hq2 (by simp only[qab,zD,Nat.reduceEqDiff,zH,zC,zA]) (by simp only[qab,zD,Nat.reduceEqDiff,zX,zA,zd,g1]) (chL_length _ _ _ _) (by omega),←chL_succ]
  have hnc:=fun (b:Nat) (H:Heap)=>qdj (k1+1) b 15 (.inl rfl) H k _ (chN i leaf L k) (lent_512 H _ hq2) (by omega) (by omega)
  simp (disch:=first|omega|decide|simp only[qai,qag,qak,qaj,qah,qae,qac,qad,qan]) only[qau,qao,qap,qam,qaf,qaq,qa7,qaz,qaI,qar,qaF,qaB,qa1,qaT,qaa,qa4,zK,zL,zN,zO,zG,zF,zJ,zM,Nat.reduceAdd,qab,qaX,qbt,qbf,zD,Nat.reduceEqDiff,zU,zX,zA,zB,zE,qbm,zE,zB,qbY,N_quo,Nat.reduceEqDiff,Nat.reduceAdd,qax,qaM,qay,qa0,qal,hnc,qal,g2,hdv]
  refine ⟨_,rfl,?_⟩
  refine qaU [(1,0),(19,0),(1,2)] rfl (by simp only[qaA,FUEL,qaH,qaD,qaE,qaP,qaK,qaL,zS,zW,zP,zV,zR,zk,zF,zY,za,zD,zt,zo,ze,Nat.reduceEqDiff,zH,zU,zp,zC,zA,zd,zi,zm,zg,zl,ne_eq,zq,qab,qaJ,qaC,qav,qaO,L24k0,g0,g2,sls_nmsD,qcJ,qbS,qaK,qaO]) ?_ ⟨_,rfl,?_,?_,?_⟩
  · simp only [L24k0, zG, zF, qbT, qbk, qaC, qav, qaJ, qa9, qc6]
    rfl
  · exact qas (1,0) rfl (by simp only[qab,zD,Nat.reduceEqDiff,zH,zU,zA,zi,g0]) (qbj _ _ _)
  · exact qas (19,0) rfl (by simp only[qab,zD,Nat.reduceEqDiff,zH,zX,zC,zA,zi]; try rfl) (sls_renD _ _)
  · exact qas (1,2) rfl (by simp only[qab,zD,Nat.reduceEqDiff,zU,zX,zC,zA]; try rfl) (qbj _ _ _)
def hJB0 (n i:Nat) (leaf:Nat→BitVec 8) (L:List (List (BitVec 8))) (m:Nat) (st:St):Prop := ∃ (H:Heap),st=⟨[N n,N i,.undef,.undef,.undef,.undef,.undef,.undef,.undef,.ptr (1,0) 0,.undef,Nil,.ptr (1,1) 0,.undef,.undef,.undef,.undef,.undef,.undef,.undef,.undef,.undef,.undef,.undef,.undef,.undef,.undef,.undef,.undef,.undef,.undef,.undef,.undef,.undef,.undef,.undef,.undef,.undef,.undef,.sl (0,0) 0 m none 1,N m,N 0,.undef,.undef,.undef,.undef,.undef,.undef,.undef,.undef,.undef,.undef,.undef,.undef,.undef,.undef,.undef,.undef,.undef,.undef,.undef,.undef,.undef,.undef,.undef,.undef,.undef,.undef,.undef,.undef,.undef,.undef],H,2,1⟩∧H (1,0)=some (aB 32 fun _=>0#8)∧H (1,1)=some (aB 32 leaf)∧H (0,0)=some (sls L)
def hJB1 (n i:Nat) (leaf:Nat→BitVec 8) (L:List (List (BitVec 8))) (m k:Nat) (st:St):Prop := ∃ (H:Heap),st=⟨[N n,N (i / 16 ^ k),.undef,.undef,.undef,.undef,.undef,.undef,.undef,.ptr (1,0) 0,.undef,.sl (1,1) 0 k none 1,.ptr (1,2) 0,.undef,.undef,.undef,.undef,.undef,.undef,.undef,.undef,.undef,.undef,.undef,.undef,.undef,.undef,.undef,.undef,.undef,.undef,.undef,.undef,.undef,.undef,.undef,.undef,.undef,.undef,.sl (0,0) 0 m none 1,N m,N k,.undef,.undef,.undef,.undef,.undef,.undef,.undef,.undef,.undef,.undef,.undef,.undef,.undef,.undef,.undef,.undef,.undef,.undef,.undef,.undef,.undef,.undef,.undef,.undef,.undef,.undef,.undef,.undef,.undef,.undef],H,2,1⟩∧H (1,0)=some (aB 32 fun _=>0#8)∧H (1,1)=some (sls (chL i leaf L k))∧H (1,2)=some (aB 32 (chD i leaf L k))∧H (0,0)=some (sls L)
set_option maxRecDepth 20000 in
theorem h_roundB0 (K k0:Nat) (hk0:600≤k0) (n i:Nat) (hi:i < 1000000) (leaf:Nat→BitVec 8) (L:List (List (BitVec 8))) (m:Nat) (hm:L.length=m) (hm2:m≤3) (h0:0 < m) (h5:∀ b ∈ L,b.length=512) (st:St) (hI:hJB0 n i leaf L m st) :
    ∃ st1,ev (envC C k0) K L24b0 st=some (.normal,st1)∧hJB1 n i leaf L m (0+1) (qby L24k0 st1):=by
  obtain ⟨H,rfl,g0,g1,g00⟩:=hI
  obtain ⟨k1,rfl⟩:∃ k1,k0=k1+1:=⟨k0 - 1,by omega⟩
  have hq:=h5 _ (getD_mem (show 0 < L.length by omega))
  have hq2:=chN_length h5 i leaf 0 (by omega)
  have hc:cellK 0 1 (some (sls L))=some [.isl (bs (L.getD 0 [])) 512]:=by
    have:=sls_cellK L 0 (by omega)
    rwa [hq] at this
  have hcl:=fun (b:Nat) (H:Heap)=>clone_call k1 b H (L.getD 0 []) hq
  have hrch:reach (upd H (9,0) (some (bs (L.getD 0 [])))) FUEL [] [(9,0)]=[(9,0)]:=by simp only[qab,zC,zA,FUEL,qaH,qaD,qaE,zP,zR,zY,ze,zC,zA,qab,qbh]
  have hcc:=child_callS k1 13 (only [(9,0)] (upd H (9,0) (some (bs (L.getD 0 []))))) (9,0) (L.getD 0 []) hq i (by omega) (by simp only[qab,zC,qbE,za,zY,zz,z0])
  have hcp:=cp_child (only [(9,0),(1,1)] (upd (upd H (9,0) (some (bs (L.getD 0 [])))) (9,0) (some (bs (L.getD 0 []))))) (9,0) (1,1) (L.getD 0 []) leaf i hq (by simp only[qab,zC,qbE,za,zY,zz,Bool.true_or,z0]) (by simp only[qab,zD,Nat.reduceEqDiff,zX,zC,zA,zd,qbE,za,zY,zz,z6,z0,g1])
  simp (disch:=first|omega|decide|simp only[qai,qag,qak,qaj,qah,qae,qac,qad,qan]) only[qba,qau,qa3,qao,qap,qam,qaf,qaq,qaz,qaI,qar,qaF,qaB,qa1,qaT,qaa,qaw,qaY,zK,zL,zN,zO,zG,zF,zS,zW,zP,zV,zR,zJ,zM,Nat.reduceAdd,Nat.reduceSub,qaQ,qbe,qbx,zw,zx,zh,Nat.reduceLT,zC,zB,zE,zT,zZ,zE,zB,qa2,qbO,qaO,Nat.reduceLT,Nat.reduceAdd,zT,nm_beq,zu,zf,qbB,op_copy,qcw,qb7,qbG,op_slcAV,slcAV_ptr,qax,qaM,qay,qa0,Nat.sub_zero,zZ,qbo,qal,qbz,qb3,qcL,touch_copy,nms_fn,za,zY,zz,z6,z0,ordOk,qbv,zw,zx,Nat.testBit,Nat.reduceShiftRight,Nat.reduceAnd,Nat.reduceBEq,zf,zu,z7,zh,Nat.reduceSub,Nat.reduceLT,bne,qbN,qcp,trimO_f,isCall_copy,qcv,zh,L24b0,ev_seqz,h0,hc,hcl,hrch,hcc,hcp,g00,qbG,zZ,zB,qal,qbo,qaK]
  rw[fzSt_sl 14 _ _ _ _ (9,0) 512 none (chN i leaf L 0) rfl (by simp only[qab,zC,chN,Nat.pow_zero,Nat.div_one]; try rfl) (by decide) hq2]
  simp (disch:=first|omega|decide|simp only[qai,qag,qak,qaj,qah,qae,qac,qad,qan]) only[qao,qaf,qaq,qaz,qaF,zK,zL,zN,zO,zG,zF,zP,zR,zJ,zM,Nat.reduceAdd,qbW,qcx,qco,qb2,zzB,zzE,zzD,zX,zC,zB,zE,Nat.le_refl,zE,zB,Nat.reduceAdd,qbB,qbK,qbw,qax,qaM,qay,qal,qdp,qdf,qal]
  rw[zapp0 19 _ (18,0) (chN i leaf L 0) hq2 (by simp only[qab,zD,Nat.reduceEqDiff,zH,zC,zA])]
  have hnc:=fun (b:Nat) (H:Heap)=>qdj (k1+1) b 15 (.inl rfl) H 0 _ (chN i leaf L 0) (lent_512 H _ hq2) (by omega) (by omega)
  simp (disch:=first|omega|decide|simp only[qai,qag,qak,qaj,qah,qae,qac,qad,qan]) only[qau,qao,qap,qam,qaf,qaq,qa7,qaz,qaI,qar,qaF,qaB,qa1,qaT,qaa,qa4,zK,zL,zN,zO,zG,zF,zJ,zM,Nat.reduceAdd,qab,qaX,qbt,qbf,zD,Nat.reduceEqDiff,zX,zA,zB,zE,zd,qbm,zE,zB,qbY,N_quo,Nat.reduceEqDiff,Nat.reduceAdd,qax,qaM,qay,qa0,qal,hnc,qal,g1]
  refine ⟨_,rfl,?_⟩
  refine qaU [(1,0),(19,0),(1,1)] rfl (by simp only[qaA,FUEL,qaH,qaD,qaE,qaP,qaK,qaL,zS,zW,zP,zV,zR,zF,zG,zY,za,zD,zt,zo,ze,Nat.reduceEqDiff,zH,zU,zp,zC,zA,zd,zi,zm,zg,zl,ne_eq,zq,z9,qab,qaJ,qaC,qav,qce,qaO,L24k0,g0,g1,g00,sls_nmsD,qbS,qaK,qaO]) ?_ ⟨_,rfl,?_,?_,?_,?_⟩
  · simp only [L24k0, zG, zF, Nat.reducePow, qcM, qbT, qbk, qbX, qaC, qav, qaJ, qa9]
    rfl
  · exact qas (1,0) rfl (by simp only[qab,zD,Nat.reduceEqDiff,zH,zU,zA,zi,g0]) (qbj _ _ _)
  · exact qas (19,0) rfl (by simp only[qab,zD,Nat.reduceEqDiff,zH,zX,zC,zA,zi]; try rfl) (sls_renD _ _)
  · exact qas (1,1) rfl (by simp only[qab,zD,Nat.reduceEqDiff,zX,zC,zA,zd]; try rfl) (qbj _ _ _)
  · rw [qcm]
    simp (disch:=first|omega|decide|simp only[qai,qag,qak,qaj,qah,qae,qac,qad,qan]) only[zI,qab,zD,Nat.reduceEqDiff,zH,zX,zA,zi,g00,sls_renD]
set_option maxRecDepth 20000 in
theorem h_roundB1 (K k0:Nat) (hk0:600≤k0) (n i:Nat) (hi:i < 1000000) (leaf:Nat→BitVec 8) (L:List (List (BitVec 8))) (m:Nat) (hm:L.length=m) (hm2:m≤3) (k:Nat) (h0:k < m) (hk0:0 < k) (h5:∀ b ∈ L,b.length=512) (st:St) (hI:hJB1 n i leaf L m k st) :
    ∃ st1,ev (envC C k0) K L24b0 st=some (.normal,st1)∧hJB1 n i leaf L m (k+1) (qby L24k0 st1):=by
  obtain ⟨H,rfl,g0,g1,g2,g00⟩:=hI
  obtain ⟨k1,rfl⟩:∃ k1,k0=k1+1:=⟨k0 - 1,by omega⟩
  have hq:=h5 _ (getD_mem (show k < L.length by omega))
  have hq2:=chN_length h5 i leaf k (by omega)
  have hil:i / 16 ^ k≤i:=Nat.div_le_self _ _
  have hdv:i / 16 ^ k / 16=i / 16 ^ (k+1):=by rw[Nat.div_div_eq_div_mul,Nat.pow_succ]
  have hc:cellK k 1 (some (sls L))=some [.isl (bs (L.getD k [])) 512]:=by
    have:=sls_cellK L k (by omega)
    rwa [hq] at this
  have hcl:=fun (b:Nat) (H:Heap)=>clone_call k1 b H (L.getD k []) hq
  have hrch:reach (upd H (9,0) (some (bs (L.getD k [])))) FUEL [] [(9,0)]=[(9,0)]:=by simp only[qab,zC,zA,FUEL,qaH,qaD,qaE,zP,zR,zY,ze,zC,zA,qab,qbh]
  have hcc:=child_callS k1 13 (only [(9,0)] (upd H (9,0) (some (bs (L.getD k []))))) (9,0) (L.getD k []) hq (i / 16 ^ k) (by omega) (by simp only[qab,zC,qbE,za,zY,zz,z0])
  have hcp:=cp_child (only [(9,0),(1,2)] (upd (upd H (9,0) (some (bs (L.getD k [])))) (9,0) (some (bs (L.getD k []))))) (9,0) (1,2) (L.getD k []) (chD i leaf L k) (i / 16 ^ k) hq (by simp only[qab,zC,qbE,za,zY,zz,Bool.true_or,z0]) (by simp only[qab,zD,Nat.reduceEqDiff,zX,zC,zA,qbE,za,zY,zz,z6,z0,g2])
  simp (disch:=first|omega|decide|simp only[qai,qag,qak,qaj,qah,qae,qac,qad,qan]) only[qba,qau,qa3,qao,qap,qam,qaf,qaq,qaz,qaI,qar,qaF,qaB,qa1,qaT,qaa,qaw,qaY,zK,zL,zN,zO,zG,zF,zS,zW,zP,zV,zR,zJ,zM,Nat.reduceAdd,Nat.reduceSub,qaQ,qbe,qbx,zw,zx,zh,Nat.reduceLT,zC,zB,zE,zT,zZ,zE,zB,qa2,qbO,qaO,Nat.reduceLT,Nat.reduceAdd,zT,nm_beq,zu,zf,qbB,op_copy,qcw,qb7,qbG,op_slcAV,slcAV_ptr,qax,qaM,qay,qa0,Nat.sub_zero,zZ,qbo,qal,qbz,qb3,qcL,touch_copy,nms_fn,za,zY,zz,z6,z0,ordOk,qbv,zw,zx,Nat.testBit,Nat.reduceShiftRight,Nat.reduceAnd,Nat.reduceBEq,zf,zu,z7,zh,Nat.reduceSub,Nat.reduceLT,bne,qbN,qcp,trimO_f,isCall_copy,qcv,zh,L24b0,ev_seqz,h0,hc,hcl,hrch,hcc,hcp,g00,qbG,zZ,zB,qal,qbo,qaK]
  rw[fzSt_sl 14 _ _ _ _ (9,0) 512 none (chN i leaf L k) rfl (by simp only[qab,zC,chN]; try rfl) (by decide) hq2]
  simp (disch:=first|omega|decide|simp only[qai,qag,qak,qaj,qah,qae,qac,qad,qan]) only[qao,qaf,qaq,qaz,qaF,zK,zL,zN,zO,zG,zF,zP,zR,zJ,zM,Nat.reduceAdd,qbW,qcx,qco,qb2,zzB,zzE,zzD,zX,zC,zB,zE,Nat.le_refl,zE,zB,Nat.reduceAdd,qbB,qbK,qbw,qax,qaM,qay,qal,qdp,qdf,qal]
  rw[zapp1 19 _ (18,0) (1,1) k (chL i leaf L k) (chN i leaf L k) hq2 (by simp only[qab,zD,Nat.reduceEqDiff,zH,zC,zA]) (by simp only[qab,zD,Nat.reduceEqDiff,zX,zA,zd,g1]) (chL_length _ _ _ _) (by omega),←chL_succ]
  have hnc:=fun (b:Nat) (H:Heap)=>qdj (k1+1) b 15 (.inl rfl) H k _ (chN i leaf L k) (lent_512 H _ hq2) (by omega) (by omega)
  simp (disch:=first|omega|decide|simp only[qai,qag,qak,qaj,qah,qae,qac,qad,qan]) only[qau,qao,qap,qam,qaf,qaq,qa7,qaz,qaI,qar,qaF,qaB,qa1,qaT,qaa,qa4,zK,zL,zN,zO,zG,zF,zJ,zM,Nat.reduceAdd,qab,qaX,qbt,qbf,zD,Nat.reduceEqDiff,zU,zX,zA,zB,zE,qbm,zE,zB,qbY,N_quo,Nat.reduceEqDiff,Nat.reduceAdd,qax,qaM,qay,qa0,qal,hnc,qal,g2,hdv]
  refine ⟨_,rfl,?_⟩
  refine qaU [(1,0),(19,0),(1,2)] rfl (by simp only[qaA,FUEL,qaH,qaD,qaE,qaP,qaK,qaL,zS,zW,zP,zV,zR,zF,zG,zY,za,zD,zt,zo,ze,Nat.reduceEqDiff,zH,zU,zp,zC,zA,zd,zi,zm,zg,zl,ne_eq,zq,z9,qab,qaJ,qaC,qav,qce,qaO,L24k0,g0,g2,g00,sls_nmsD,qbS,qaK,qaO]) ?_ ⟨_,rfl,?_,?_,?_,?_⟩
  · simp only [L24k0, zG, zF, qcM, qbT, qbk, qbX, qaC, qav, qaJ, qa9]
    rfl
  · exact qas (1,0) rfl (by simp only[qab,zD,Nat.reduceEqDiff,zH,zU,zA,zi,g0]) (qbj _ _ _)
  · exact qas (19,0) rfl (by simp only[qab,zD,Nat.reduceEqDiff,zH,zX,zC,zA,zi]; try rfl) (sls_renD _ _)
  · exact qas (1,2) rfl (by simp only[qab,zD,Nat.reduceEqDiff,zU,zX,zC,zA]; try rfl) (qbj _ _ _)
  · rw [qcm]
    simp (disch:=first|omega|decide|simp only[qai,qag,qak,qaj,qah,qae,qac,qad,qan]) only[zI,qab,zD,Nat.reduceEqDiff,zH,zX,zA,zi,g00,sls_renD]
end Sha
namespace Sha
open Go Go.LE
theorem rgt_call (k b g:Nat) (hg:g=34∨g=37) (H:Heap) (z:Int) (X:LV) (L:List (List (BitVec 8))) (hX:PathIs H X L):qb1 (envC C (k+30)) H b g [I z,X]=some ⟨Bo (rightB z L),[],[]⟩:=by
  obtain ⟨lent,hs⟩:=hX
  rcases hg with rfl | rfl
  · exact lent_call _ _ _ H _ [I z, .isl (sls L) L.length] lent _ (by rw [qde, qde, lend_nil, if_pos (show lentF 34 (0 + 1) = true from rfl), hs]; simp [lentF, lendC_some]) (by simp only [zS, qcJ, zW, zR]; rfl) (by simp only [zG, qc6, zF]; rfl)
      (rgt_F k z L) rfl (fun _=>rfl)
  · exact lent_call _ _ _ H _ [I z, .isl (sls L) L.length] lent _ (by rw [qde, qde, lend_nil, if_pos (show lentF 37 (0 + 1) = true from rfl), hs]; simp [lentF, lendC_some]) (by simp only [zS, qcJ, zW, zR]; rfl) (by simp only [zG, qc6, zF]; rfl)
      (rrgt_F k z L) rfl (fun _=>rfl)
theorem joined_call (k b g:Nat) (hg:g=36∨g=39) (H:Heap) (i:Nat) (hi:i < 1000000) (X:LV) (L:List (List (BitVec 8))) (h1:1≤L.length) (hL:L.length≤500) (h5:∀ b ∈ L,b.length=512) (hX:PathIs H X L) :
    qb1 (envC C (k+1000)) H b g [N i,X]=some ⟨Bo (joinedB i L),[],[]⟩:=by
  obtain ⟨lent,hs⟩:=hX
  rcases hg with rfl | rfl
  · exact lent_call _ _ _ H _ [N i, .isl (sls L) L.length] lent _ (by rw [qde, qde, lend_nil, if_pos (show lentF 36 (0 + 1) = true from rfl), hs]; simp [lentF, lendC_some]) (by simp only [zS, qcJ, zW, zR]; rfl) (by simp only [zG, qc6, zF]; rfl)
      (joined_F k i hi L h1 hL h5) rfl (fun _=>rfl)
  · exact lent_call _ _ _ H _ [N i, .isl (sls L) L.length] lent _ (by rw [qde, qde, lend_nil, if_pos (show lentF 39 (0 + 1) = true from rfl), hs]; simp [lentF, lendC_some]) (by simp only [zS, qcJ, zW, zR]; rfl) (by simp only [zG, qc6, zF]; rfl)
      (rjoined_F k i hi L h1 hL h5) rfl (fun _=>rfl)
theorem chL_right {z:Int} {L:List (List (BitVec 8))} (h:rightB z L=true) (i:Nat) (leaf:Nat→BitVec 8):rightB z (chL i leaf L L.length)=true:=by
  obtain ⟨n,rfl,n1,n2,n3,n4⟩:=right_of h
  have h1:(1:Int)≤n∧(n:Int)≤4096:=by omega
  rw[rightB,decide_eq_true h1,Int.toNat_natCast,chL_length,decide_eq_true n3,Bool.true_and,Bool.true_and,Bool.not_eq_true',List.any_eq_false]
  intro b hb
  simp only[chL,List.mem_map,List.mem_range] at hb
  obtain ⟨k,hk,rfl⟩:=hb
  rw[bad,chN_length n4 i leaf k hk]
  decide
def chgE (z i:Int) (L:List (List (BitVec 8))):Nat:=if rightB z L && decide (0≤i∧i < z) then (if joinedB i.toNat L then 0 else 160) else 1
set_option maxRecDepth 20000 in
theorem change_noA (k:Nat) (z i:Int) (leaf:Nat→BitVec 8) (L:List (List (BitVec 8))) (he:chgE z i L≠0) :
    F C (k+2000) 24 [I z,I i,.agg (aB 32 leaf),.isl (sls L) L.length] []=some (.tup [Nil,.agg (aB 32 zero32),N (chgE z i L)],[],[]):=by
  rw[qch f24]
  have hrc:=fun (b:Nat) (H:Heap)=>rgt_call (k+1969) b 34 (.inl rfl) H z _ L (path_isl H L)
  cases h:rightB z L with
  | false =>
    rw[chgE,h,Bool.false_and]
    simp only[h] at hrc
    simp (disch:=first|omega|decide|simp only[qai,qag,qak,qaj,qah,qae,qac,qad,qan]) only[qbb,qbp,qau,qa3,qao,qap,qam,qaf,qaS,qcO,qaq,qa7,qaz,qaI,qar,qb0,qaF,qbr,op_un,qa1,qaT,qaa,qbQ,qdm,qaw,qaY,qbg,zK,zL,zN,zO,zG,zF,zP,zV,qa5,zy,zJ,zM,qcU,zI,Nat.reduceAdd,Nat.reduceSub,qab,qaX,qaQ,qbR,op_box,qcg,qbt,qbf,qbW,aggR_some,op_build,zD,Nat.reduceEqDiff,zH,zC,zA,zB,zE,qbH,qbP,qbm,zE,zB,Nat.reduceEqDiff,Nat.reduceAdd,zu,qax,qaM,qay,qa0,zI,qaZ,qal,L24,hrc,resVal_3,tup3K_some,qal]
    rw[qcc 0 _ _ [] (by simp only[qaA,FUEL,qaE,zS,zW,zR,zk,zF,zg,tup3n_nms])]
    simp (disch:=first|omega|decide|simp only[qai,qag,qak,qaj,qah,qae,qac,qad,qan]) only[zF,qab,zD,Nat.reduceEqDiff,false_and,zA,zzC,qbn,zk,tup3n_ren]
    rfl
  | true =>
    simp only[h] at hrc
    obtain ⟨n,rfl,n1,n2,n3,n4⟩:=right_of h
    rw[chgE,h,Bool.true_and] at he ⊢
    rw[show I (n:Int)=N n from rfl] at hrc ⊢
    by_cases h0:0≤i
    · have e0 : decide (i < ((0 : Nat) : Int)) = false := by simpa using h0
      by_cases h1:i < n
      · obtain ⟨j, rfl⟩ : ∃ j : Nat, i = (j : Int) := ⟨i.toNat, by omega⟩
        have hjn:j < n:=by omega
        have hnj:¬ n≤j:=by omega
        rw[decide_eq_true (⟨h0,h1⟩:(0:Int)≤j∧(j:Int) < n),if_pos rfl,Int.toNat_natCast] at he ⊢
        rw[show I (j:Int)=N j from rfl]
        have hn2:=nl_le n
        have hjj:=fun (b:Nat) (H:Heap)=>joined_call (k+999) b 36 (.inl rfl) H j (by omega) _ L (by omega) (by omega) n4 (path_isl H L)
        cases hj:joinedB j L with
        | true=>rw[hj] at he; exact absurd rfl he
        | false =>
          simp only[hj] at hjj
          simp (disch:=first|omega|decide|simp only[qai,qag,qak,qaj,qah,qae,qac,qad,qan]) only[qbb,qbp,qau,qa3,qao,qap,qam,qaf,qaS,qbA,qaq,qa7,qaz,qaI,qar,qbq,qaF,qbr,qaB,op_un,qa1,qaT,qaa,qbQ,qdm,qaw,qaY,qat,qbg,zK,zL,zN,zO,zG,zF,zP,zV,qa5,zy,zJ,zM,qcU,zI,Nat.reduceAdd,Nat.reduceSub,qab,qaX,qaQ,qbR,op_box,qcg,qbt,qbf,qbW,aggR_some,op_build,zD,Nat.reduceEqDiff,zH,zC,zA,zB,zE,zQ,qbH,qbP,qbm,zE,zB,qa2,N_geq,Nat.reduceEqDiff,Nat.reduceAdd,zQ,zu,zf,qax,qaM,qay,qa0,zI,qaZ,qal,L24,hrc,hjj,hnj,Nat.not_lt_zero,zQ,resVal_3,tup3K_some,qal]
          rw[qcc 0 _ _ [] (by simp only[qaA,FUEL,qaE,zS,zW,zR,zk,zF,zg,tup3n_nms])]
          simp (disch:=first|omega|decide|simp only[qai,qag,qak,qaj,qah,qae,qac,qad,qan]) only[zF,qab,zD,Nat.reduceEqDiff,false_and,zA,zzC,qbn,zk,tup3n_ren]
          rfl
      · have e1 : decide (((n : Nat) : Int) ≤ i) = true := by simp; omega
        rw[decide_eq_false (fun h:(0:Int)≤i∧i < (n:Int)=>h1 h.2)]
        simp (disch:=first|omega|decide|simp only[qai,qag,qak,qaj,qah,qae,qac,qad,qan]) only[qbb,qbp,qau,qa3,qao,qap,qam,qaf,qaS,qbA,qaq,qa7,qaz,qaI,qar,qbq,qaF,qbr,qaB,op_un,qa1,qaT,qaa,qbQ,qdm,qaw,qaY,qbg,zK,zL,zN,zO,zG,zF,zP,zV,qa5,zy,zJ,zM,qcU,zI,Nat.reduceAdd,Nat.reduceSub,qab,qaX,qaQ,qbR,op_box,qcg,qbt,qbf,qbW,aggR_some,op_build,zD,Nat.reduceEqDiff,zH,zC,zA,zB,zE,qbH,qbP,qbm,zE,zB,Nat.reduceEqDiff,Nat.reduceAdd,zf,qax,qaM,qay,qa0,zI,qaZ,qal,L24,hrc,I_lssN,I_geqN,e0,e1,resVal_3,tup3K_some,qal]
        rw[qcc 0 _ _ [] (by simp only[qaA,FUEL,qaE,zS,zW,zR,zk,zF,zg,tup3n_nms])]
        simp (disch:=first|omega|decide|simp only[qai,qag,qak,qaj,qah,qae,qac,qad,qan]) only[zF,qab,zD,Nat.reduceEqDiff,false_and,zA,zzC,qbn,zk,tup3n_ren]
        rfl
    · have e0 : decide (i < ((0 : Nat) : Int)) = true := by simp; omega
      rw[decide_eq_false (fun h:(0:Int)≤i∧i < (n:Int)=>h0 h.1)]
      simp (disch:=first|omega|decide|simp only[qai,qag,qak,qaj,qah,qae,qac,qad,qan]) only[qbb,qbp,qau,qa3,qao,qap,qam,qaf,qaS,qbA,qcO,qaq,qa7,qaz,qaI,qar,qb0,qbq,qaF,qbr,qaB,op_un,qa1,qaT,qaa,qbQ,qdm,qaw,qaY,qbg,zK,zL,zN,zO,zG,zF,zP,zV,qa5,zy,zJ,zM,qcU,zI,Nat.reduceAdd,Nat.reduceSub,qab,qaX,qaQ,qbR,op_box,qcg,qbt,qbf,qbW,aggR_some,op_build,zD,Nat.reduceEqDiff,zH,zC,zA,zB,zE,qbH,qbP,qbm,zE,zB,Nat.reduceEqDiff,Nat.reduceAdd,zf,qax,qaM,qay,qa0,zI,qaZ,qal,L24,hrc,I_lssN,e0,resVal_3,tup3K_some,qal]
      rw[qcc 0 _ _ [] (by simp only[qaA,FUEL,qaE,zS,zW,zR,zk,zF,zg,tup3n_nms])]
      simp (disch:=first|omega|decide|simp only[qai,qag,qak,qaj,qah,qae,qac,qad,qan]) only[zF,qab,zD,Nat.reduceEqDiff,false_and,zA,zzC,qbn,zk,tup3n_ren]
      rfl
set_option maxRecDepth 20000 in
theorem change_okA (k:Nat) (n i:Nat) (leaf:Nat→BitVec 8) (L:List (List (BitVec 8))) (h:rightB n L=true) (hi:i < n) (hj:joinedB i L=true) :
    F C (k+2000) 24 [N n,N i,.agg (aB 32 leaf),.isl (sls L) L.length] []=some (.tup [.sl (1,0) 0 L.length none 1,.agg (aB 32 (rootF n (chL i leaf L L.length))),N 0],[],[sls (chL i leaf L L.length)]):=by
  rw[qch f24]
  obtain ⟨n',hn',n1,n2,n3,n4⟩:=right_of h
  have hnn:n'=n:=by omega
  subst hnn
  have hn2:=nl_le n'
  have hrc:∀ (b:Nat) (H:Heap),qb1 (envC C (k+1999)) H b 34 [N n',.isl (sls L) L.length]=some ⟨Bo (rightB (n':Int) L),[],[]⟩:=fun (b:Nat) (H:Heap)=>rgt_call (k+1969) b 34 (.inl rfl) H n' _ L (path_isl H L)
  have hjj:=fun (b:Nat) (H:Heap)=>joined_call (k+999) b 36 (.inl rfl) H i (by omega) _ L (by omega) (by omega) n4 (path_isl H L)
  simp only[h] at hrc
  simp only[hj] at hjj
  have hnj:¬ n'≤i:=by omega
  obtain ⟨m,hm⟩:∃ m,L.length=m:=⟨_,rfl⟩
  rw[hm] at hrc hjj ⊢
  simp (disch:=first|omega|decide|simp only[qai,qag,qak,qaj,qah,qae,qac,qad,qan]) only[qbb,qba,qau,qa3,qao,qap,qam,qaf,qaS,qbA,qaq,qa7,qaz,qaI,qar,qbq,qaF,qbr,qaB,op_un,qa1,qaT,qaa,qa4,qaw,qat,zK,zL,zN,zO,zG,zF,zP,zV,qa5,zy,zJ,zM,qcU,qbZ,Nat.reduceAdd,Nat.reduceSub,qab,qaX,qaQ,qb6,op_ld,qbR,op_box,qcg,qbt,qbf,zD,Nat.reduceEqDiff,zH,zC,zA,zB,zE,zQ,qbH,qbP,qbm,zE,zB,qa2,N_geq,Nat.reduceEqDiff,Nat.reduceAdd,zQ,zf,qbi,qaV,qbD,qax,qaM,qay,qa0,qaZ,qal,L24,hrc,hjj,hnj,Nat.not_lt_zero,zQ,qal]
  generalize hLp:qca L24k0 _ _ _=r
  refine qbJ hLp (fun j st=>(j=0∧hJA0 n' i leaf L m st)∨(0 < j∧hJA1 n' i leaf L m j st)) m (by omega) (fun j st hj hI => ?_) ?_ ?_ ?_
  · have hv:∃ st1,ev (envC C (k+1999)) (k+1999) L24b0 st=some (.normal,st1)∧hJA1 n' i leaf L m (j+1) (qby L24k0 st1):=by
      rcases hI with ⟨rfl,hI⟩ | ⟨hj0,hI⟩
      · exact h_roundA0 _ _ (by omega) n' i (by omega) leaf L m hm (by omega) (by omega) n4 st hI
      · exact h_roundA1 _ _ (by omega) n' i (by omega) leaf L m hm (by omega) j hj hj0 n4 st hI
    obtain ⟨st1,q1,q2⟩:=hv
    exact ⟨st1,q1,.inr ⟨by omega,q2⟩⟩
  · refine .inl ⟨rfl, qaU [(4, 0), (27, 0)] rfl (by simp only [qaA, FUEL, qaH, qaD, qaE, qaP, qaL, zS, zW, zP, zV, zR, zk, zF, zY, za, zD, zt, zo, ze, Nat.reduceEqDiff, zH, zp, zC, zA, zm, zg, zl, ne_eq, zq, qab, qaJ, qaC, qav, qaZ, qaO, qbu, L24k0, qbS, qcJ, qbu, qaO]) ?_ ⟨_, rfl, ?_, ?_⟩⟩
    · simp only [L24k0, zG, zF, qda, qbT, qaC, qav, qaJ, qa9, qc6]
      rfl
    · exact qas (4,0) rfl (by simp only[qab,zD,Nat.reduceEqDiff,zH,zC,zA]; try rfl) (qbj _ _ _)
    · exact qas (27,0) rfl (by simp only[qab,zD,Nat.reduceEqDiff,zH,zC,zA]; try rfl) (qbj _ _ _)
  · rintro st (⟨he, _⟩ | ⟨_, H, rfl, g0, g1, g2⟩)
    · omega
    · apply qbs
      simp (disch:=first|omega|decide|simp only[qai,qag,qak,qaj,qah,qae,qac,qad,qan]) only[qa6,qau,qao,qap,qam,qaf,qaN,qaq,qaz,qar,qaB,qaa,qaG,qaw,qat,zK,zL,zN,zO,zJ,zM,Nat.reduceAdd,zB,zE,zQ,qa2,Nat.reduceAdd,zj,zQ,L24b0,zj]
      rfl
  · rintro st (⟨he, _⟩ | ⟨_, H, rfl, g0, g1, g2⟩) hr
    · omega
    · subst hr
      have hcr:=chL_right h i leaf
      rw[hm] at hcr
      have hrt:=fun (b:Nat)=>root_call (k+1499) b 21 (.inl rfl) H n' _ (chL i leaf L m) (path_sl H (1,1) none (chL i leaf L m) m (chL_length _ _ _ _) (by omega) g1)
      rw[rootE_pos hcr,show I ((n':Nat):Int)=N n' from rfl] at hrt
      simp (disch:=first|omega|decide|simp only[qai,qag,qak,qaj,qah,qae,qac,qad,qan]) only[qbp,qa6,qau,qao,qap,qam,qaf,qaq,qa7,qaz,qaI,qar,qaF,qaB,qa1,qaT,qaa,qaG,qbc,qaw,qat,qbg,zK,zL,zN,zO,zG,zF,zR,zJ,zM,zI,Nat.reduceAdd,Nat.reduceSub,qab,qaX,qaQ,qb6,op_ld,qbR,qbt,qbf,zw,zx,zh,zD,Nat.reduceEqDiff,Nat.reduceLT,zH,zC,zA,zB,zE,zT,zQ,qbP,qbm,qbF,zE,zB,qa2,Nat.reduceLT,Nat.reduceEqDiff,Nat.reduceAdd,zj,zQ,zT,nm_beq,zu,zf,qax,qaM,qay,qa0,zI,List.getElem?_cons_zero,List.getElem?_cons_succ,qbo,qal,qcZ,qcD,List.getElem?_cons_zero,List.getElem?_cons_succ,qbz,qb3,qbE,touch_ld,touch_st,qaP,za,zY,zz,z6,z0,ordOk,qbv,zw,zx,Nat.testBit,Nat.reduceShiftRight,Nat.reduceAnd,Nat.reduceBEq,zf,zu,z7,zh,Nat.reduceSub,Nat.reduceLT,bne,qbN,qcp,trimO_f,qbI,qdk,isCall_st,zh,L24b0,zj,g0,hrt,resVal_3,tup3K_some,qal,qbo]
      rw[qcc 0 _ _ [(1,1)] (by simp only[qaA,FUEL,qaH,qaD,qaE,zS,zW,zP,zR,zk,zF,zY,zD,ze,Nat.reduceEqDiff,zU,zC,zA,zd,zm,zg,zl,ne_eq,zq,qab,tup3_nms,sls_nmsD,g1])]
      rw[tup3_ren (qdg [(1,1)]) (1,1) (1,0) _ _ _ _ _ rfl]
      simp (disch:=first|omega|decide|simp only[qai,qag,qak,qaj,qah,qae,qac,qad,qan]) only[zG,zF,qab,zD,Nat.reduceEqDiff,zU,false_and,zX,zA,zd,zi,zzC,List.filterMap_cons,zk,g1,sls_renD]
set_option maxRecDepth 20000 in
theorem change_okB (k:Nat) (n i:Nat) (leaf:Nat→BitVec 8) (L:List (List (BitVec 8))) (h:rightB n L=true) (hi:i < n) (hj:joinedB i L=true) :
    F C (k+2000) 24 [N n,N i,.agg (aB 32 leaf),.sl (0,0) 0 L.length none 1] [sls L]=some (.tup [.sl (1,0) 0 L.length none 1,.agg (aB 32 (rootF n (chL i leaf L L.length))),N 0],[some (sls L)],[sls (chL i leaf L L.length)]):=by
  rw[qch f24]
  obtain ⟨n',hn',n1,n2,n3,n4⟩:=right_of h
  have hnn:n'=n:=by omega
  subst hnn
  have hn2:=nl_le n'
  obtain ⟨m,hm⟩:∃ m,L.length=m:=⟨_,rfl⟩
  have hrc:∀ (b:Nat) (H:Heap),H (0,0)=some (sls L)→qb1 (envC C (k+1999)) H b 34 [N n',.sl (0,0) 0 m none 1]=some ⟨Bo true,[],[]⟩:=fun (b:Nat) (H:Heap) h0=>by
    have:=rgt_call (k+1969) b 34 (.inl rfl) H n' _ L (path_sl H (0,0) none L m hm (by omega) h0)
    rw[h] at this
    exact this
  have hjj:∀ (b:Nat) (H:Heap),H (0,0)=some (sls L)→qb1 (envC C (k+1999)) H b 36 [N i,.sl (0,0) 0 m none 1]=some ⟨Bo true,[],[]⟩:=fun b H h0=>by
    have:=joined_call (k+999) b 36 (.inl rfl) H i (by omega) _ L (by omega) (by omega) n4 (path_sl H (0,0) none L m hm (by omega) h0)
    rw[hj] at this
    exact this
  have hnj:¬ n'≤i:=by omega
  rw[hm]
  simp (disch:=first|omega|decide|simp only[qai,qag,qak,qaj,qah,qae,qac,qad,qan]) only[qbb,qau,qa3,qao,qap,qam,qaf,qaq,qaz,qaI,qaF,qa1,qaT,qaa,zK,zL,zN,zO,zG,zF,zP,zV,qa5,zy,zJ,zM,Nat.reduceAdd,Nat.reduceSub,qaX,qbR,op_box,qcg,zB,zE,qbH,zE,zB,Nat.reduceAdd,qax,qaM,qay,qal,L24,qal]
  rw[hrc _ _ (by simp only[qab,zD,Nat.reduceEqDiff,zH,zA,qbn,List.getElem?_cons_zero])]
  simp (disch:=first|omega|decide|simp only[qai,qag,qak,qaj,qah,qae,qac,qad,qan]) only[qau,qao,qap,qam,qaf,qaS,qbA,qaq,qaz,qaI,qar,qbq,qaF,qbr,qaB,op_un,qa1,qaT,qaa,qaw,qat,zK,zL,zN,zO,zG,zF,zJ,zM,qcU,Nat.reduceAdd,zB,zE,zQ,zE,zB,qa2,N_geq,Nat.reduceAdd,zQ,zf,qax,qay,qal,hnj,Nat.not_lt_zero,zQ,qal]
  rw[hjj _ _ (by simp only[qab,zD,Nat.reduceEqDiff,zH,zA,qbn,List.getElem?_cons_zero])]
  simp (disch:=first|omega|decide|simp only[qai,qag,qak,qaj,qah,qae,qac,qad,qan]) only[qba,qau,qa3,qao,qap,qam,qaf,qaq,qa7,qaz,qaI,qar,qaF,op_un,qaa,qa4,qaw,qat,zK,zL,zN,zO,zJ,zM,qcU,qbZ,Nat.reduceAdd,qab,qaX,qaQ,qb6,op_ld,qbR,qbt,qbf,zD,Nat.reduceEqDiff,zH,zC,zA,zB,zE,qbP,qbm,zE,zB,Nat.reduceEqDiff,Nat.reduceAdd,zf,qbi,qaV,qbL,qax,qaM,qay,qa0,qaZ,qal,qal]
  generalize hLp:qca L24k0 _ _ _=r
  refine qbJ hLp (fun j st=>(j=0∧hJB0 n' i leaf L m st)∨(0 < j∧hJB1 n' i leaf L m j st)) m (by omega) (fun j st hj hI => ?_) ?_ ?_ ?_
  · have hv:∃ st1,ev (envC C (k+1999)) (k+1999) L24b0 st=some (.normal,st1)∧hJB1 n' i leaf L m (j+1) (qby L24k0 st1):=by
      rcases hI with ⟨rfl,hI⟩ | ⟨hj0,hI⟩
      · exact h_roundB0 _ _ (by omega) n' i (by omega) leaf L m hm (by omega) (by omega) n4 st hI
      · exact h_roundB1 _ _ (by omega) n' i (by omega) leaf L m hm (by omega) j hj hj0 n4 st hI
    obtain ⟨st1,q1,q2⟩:=hv
    exact ⟨st1,q1,.inr ⟨by omega,q2⟩⟩
  · refine .inl ⟨rfl, qaU [(4, 0), (27, 0)] rfl (by simp only [qaA, FUEL, qaH, qaD, qaE, qaP, qaK, qaL, zS, zW, zP, zV, zR, zF, zG, zY, za, zD, zt, zo, ze, Nat.reduceEqDiff, zH, zp, zC, zA, zm, zg, zl, ne_eq, zq, z9, qab, qaJ, qaC, qav, qbn, qaZ, qce, List.getElem?_cons_zero, qaO, qbu, L24k0, qbS, sls_nmsD, qaK, qbu, qaO, qbn, List.getElem?_cons_zero]) ?_ ⟨_, rfl, ?_, ?_, ?_⟩⟩
    · simp only [L24k0, zG, zF, qda, qcM, qbT, qbk, qbX, qaC, qav, qaJ, qa9]
      rfl
    · exact qas (4,0) rfl (by simp only[qab,zD,Nat.reduceEqDiff,zH,zC,zA]; try rfl) (qbj _ _ _)
    · exact qas (27,0) rfl (by simp only[qab,zD,Nat.reduceEqDiff,zH,zC,zA]; try rfl) (qbj _ _ _)
    · rw [qcm]
      simp (disch:=first|omega|decide|simp only[qai,qag,qak,qaj,qah,qae,qac,qad,qan]) only[zI,qab,zD,Nat.reduceEqDiff,zH,zA,zI,qbn,List.getElem?_cons_zero,qbn,List.getElem?_cons_zero,sls_renD]
  · rintro st (⟨he, _⟩ | ⟨_, H, rfl, g0, g1, g2, g00⟩)
    · omega
    · apply qbs
      simp (disch:=first|omega|decide|simp only[qai,qag,qak,qaj,qah,qae,qac,qad,qan]) only[qa6,qau,qao,qap,qam,qaf,qaN,qaq,qaz,qar,qaB,qaa,qaG,qaw,qat,zK,zL,zN,zO,zJ,zM,Nat.reduceAdd,zB,zE,zQ,qa2,Nat.reduceAdd,zj,zQ,L24b0,zj]
      rfl
  · rintro st (⟨he, _⟩ | ⟨_, H, rfl, g0, g1, g2, g00⟩) hr
    · omega
    · subst hr
      have hcr:=chL_right h i leaf
      rw[hm] at hcr
      have hrt:=fun (b:Nat)=>root_call (k+1499) b 21 (.inl rfl) H n' _ (chL i leaf L m) (path_sl H (1,1) none (chL i leaf L m) m (chL_length _ _ _ _) (by omega) g1)
      rw[rootE_pos hcr,show I ((n':Nat):Int)=N n' from rfl] at hrt
      simp (disch:=first|omega|decide|simp only[qai,qag,qak,qaj,qah,qae,qac,qad,qan]) only[qbp,qa6,qau,qao,qap,qam,qaf,qaq,qa7,qaz,qaI,qar,qaF,qaB,qa1,qaT,qaa,qaG,qbc,qaw,qat,qbg,zK,zL,zN,zO,zG,zF,zR,zJ,zM,zI,Nat.reduceAdd,Nat.reduceSub,qab,qaX,qaQ,qb6,op_ld,qbR,qbt,qbf,zw,zx,zh,zD,Nat.reduceEqDiff,Nat.reduceLT,zH,zC,zA,zB,zE,zT,zQ,qbP,qbm,qbF,zE,zB,qa2,Nat.reduceLT,Nat.reduceEqDiff,Nat.reduceAdd,zj,zQ,zT,nm_beq,zu,zf,qax,qaM,qay,qa0,zI,List.getElem?_cons_zero,List.getElem?_cons_succ,qbo,qal,qcZ,qcD,List.getElem?_cons_zero,List.getElem?_cons_succ,qbz,qb3,qbE,touch_ld,touch_st,qaP,za,zY,zz,z6,z0,ordOk,qbv,zw,zx,Nat.testBit,Nat.reduceShiftRight,Nat.reduceAnd,Nat.reduceBEq,zf,zu,z7,zh,Nat.reduceSub,Nat.reduceLT,bne,qbN,qcp,trimO_f,qbI,qdk,isCall_st,zh,L24b0,zj,g0,hrt,resVal_3,tup3K_some,qal,qbo]
      rw[qcc 1 _ _ [(1,1)] (by simp only[qaA,FUEL,qaH,qaD,qaE,zS,zW,zP,zV,zR,zF,zG,zY,za,zD,zt,zo,ze,Nat.reduceEqDiff,zH,zU,zp,zC,zA,zd,zi,zm,zg,zl,ne_eq,zq,z9,qab,qce,tup3_nms,sls_nmsD,g1,g00])]
      rw[tup3_ren (qdg [(1,1)]) (1,1) (1,0) _ _ _ _ _ rfl]
      simp (disch:=first|omega|decide|simp only[qai,qag,qak,qaj,qah,qae,qac,qad,qan]) only[zG,zF,zI,qab,zD,Nat.reduceEqDiff,zU,false_and,zX,zA,zd,zi,zzC,zI,qce,List.filterMap_cons,g1,g00,sls_renD]
end Sha
namespace Sha
open Go Go.LE
def wf (q:List (BitVec 8)) (j:Nat) (d:Nat→BitVec 8) (m:Nat):Nat→BitVec 8:=fun x=>if 32*(j % 16)≤x∧x < 32*(j % 16)+m then d (x - 32*(j % 16)) else q.getD x 0#8
theorem aB_list (q:List (BitVec 8)) (n:Nat) (hq:q.length=n) (f:Nat→BitVec 8) (h:∀ x,x < n→f x=q.getD x 0#8):aB n f=bs q:=by
  rw[aB_bs]
  congr 1
  apply List.ext_getElem
  · simp[hq]
  · intro i h1 h2
    simp only[List.getElem_map,List.getElem_range]
    rw[h i (by simpa using h1),List.getD_eq_getElem?_getD,List.getElem?_eq_getElem h2]; rfl
theorem wf_zero (q:List (BitVec 8)) (hq:q.length=512) (j:Nat) (d:Nat→BitVec 8):aB 512 (wf q j d 0)=bs q :=
  aB_list q 512 hq _ (fun x _=>by rw[wf,if_neg (by omega)])
theorem lb32_getD (d:Nat→BitVec 8) (x:Nat) (h:x < 32):(lb32 d).getD x 0#8=d x:=by
  rw[List.getD_eq_getElem?_getD,lb32,List.getElem?_map,List.getElem?_range h]; rfl
theorem wf_end (q:List (BitVec 8)) (hq:q.length=512) (j:Nat) (d:Nat→BitVec 8):aB 512 (wf q j d 32)=bs (putC q j (lb32 d)):=by
  have hm:j % 16 < 16:=Nat.mod_lt _ (by omega)
  refine aB_list _ 512 (putC_length hq (lb32_length d) j) _ (fun x hx => ?_)
  have ht:(q.take (32*(j % 16))).length=32*(j % 16):=by rw[zzJ]; omega
  have hl:=lb32_length d
  simp only[wf,putC,List.append_assoc,List.getD_eq_getElem?_getD]
  rw[List.getElem?_append]
  by_cases h1:x < 32*(j % 16)
  · rw[if_neg (by omega),if_pos (by omega),List.getElem?_take,if_pos h1]
  · rw [if_neg (by omega : ¬ x < (q.take (32 * (j % 16))).length), ht, List.getElem?_append, hl]
    by_cases h2:x < 32*(j % 16)+32
    · rw [if_pos ⟨by omega, h2⟩, if_pos (by omega)]
      have:=lb32_getD d (x - 32*(j % 16)) (by omega)
      rw[List.getD_eq_getElem?_getD] at this
      exact this.symm
    · rw [if_neg (by omega), if_neg (by omega), List.getElem?_drop]
      congr 2; omega
theorem wf_set (q:List (BitVec 8)) (j:Nat) (d:Nat→BitVec 8) (m:Nat):set1 (wf q j d m) (32*(j % 16)+m) (d m)=wf q j d (m+1):=by
  funext x
  simp only[set1,wf]
  by_cases h:x=32*(j % 16)+m
  · subst h
    rw[if_pos rfl,if_pos ⟨by omega,by omega⟩,show 32*(j % 16)+m - 32*(j % 16)=m by omega]
  · rw [if_neg h]
    by_cases h1:32*(j % 16)≤x∧x < 32*(j % 16)+m
    · rw[if_pos h1,if_pos (by omega)]
    · rw[if_neg h1,if_neg (by omega)]
end Sha
namespace Sha
open Go Go.LE
def wJ0 (n i:Nat) (L:List (List (BitVec 8))) (m:Nat) (q:List (BitVec 8)) (d:Nat→BitVec 8) (k mm:Nat) (st:St):Prop := ∃ (H:Heap),st=⟨[N n,N i,.undef,.isl (sls L) m,.undef,.undef,.undef,.undef,.undef,.ptr (1,0) 0,.undef,Nil,.ptr (1,1) 0,N k,.sl (1,2) 0 512 none 1,N mm,.undef,.undef,.undef,.undef,.undef,.undef,.undef,.undef,.undef,.undef,.undef,.undef,.undef,.undef,.undef,.undef,.undef,.undef,.undef,.undef,.undef,.undef,.undef,.undef,.undef,.undef,.undef,.undef,.undef,.undef,.undef,.undef,.undef,.undef,.undef,.undef,.undef,.undef,.undef,.undef,.undef,.undef,.undef,.undef,.undef,.undef,.undef,.undef,.undef,.undef,.undef,.undef,.undef,.undef,.undef,.undef,.undef,.undef,.undef,.undef,.undef,.undef,.undef,.undef,.undef],H,2,0⟩∧H (1,0)=some (aB 32 fun _=>0#8)∧H (1,1)=some (aB 32 d)∧H (1,2)=some (aB 512 (wf q i d mm))
set_option maxRecDepth 20000 in
theorem w_round0 (K k0 n i:Nat) (hi:i < 1000000) (L:List (List (BitVec 8))) (m:Nat) (q:List (BitVec 8)) (d:Nat→BitVec 8) (k mm:Nat) (hmm:mm < 32) (st:St) (hI:wJ0 n i L m q d k mm st) :
    ∃ st1,ev (envC C k0) K L25b0 st=some (.normal,st1)∧wJ0 n i L m q d k (mm+1) (qby L25k0 st1):=by
  obtain ⟨H,rfl,g0,g1,g2⟩:=hI
  have hm:i % 16 < 16:=Nat.mod_lt _ (by omega)
  have hlt:32*(i % 16)+mm < 512:=by omega
  apply Exists.intro
  apply And.intro
  · simp (disch := first | omega | decide | simp only [qai, qag, qak, qaj, qah, qae, qac, qad, qan]) only [qba, qau, qa3, qao, qap, qam, qaf, qaq, qa7, qaz, qaI, qar, qaF, qaB, qaa, qa4, qaw, qaY, zK, zL, zN, zO, zJ, zM, Nat.reduceAdd, qdl, qaQ, qbe, qbx, qbt, qbf, op_iaA, iaV_lt, zB, zE, zT, aB_cell, aB_st, zZ, zE, zB, qbY, N_mul, N_rem, qa2, qbO, Nat.reduceAdd, zT, qb7, qbG, qax, qay, qa0, zZ, qal, L25b0, hmm, g1, g2, qbG, zZ, zB, wf_set, qal]
    rfl
  · refine qaU [(1, 0), (1, 1), (1, 2)] rfl (by simp only [qaA, FUEL, qaH, qaD, qaE, qaP, qaK, qaL, zS, zW, zP, zV, zR, zk, zF, zY, za, zD, zt, zo, ze, Nat.reduceEqDiff, zU, zp, zC, zA, zd, zm, zg, zl, ne_eq, zq, qab, qaJ, qaC, qav, qaO, qbu, L25k0, g0, g1, g2, qcJ, qbS, qaK, qbu, qaO]) ?_ ⟨_, rfl, ?_, ?_, ?_⟩
    · simp only [L25k0, zG, zF, qda, qbT, qbk, qaC, qav, qaJ, qa9, qc6]
      rfl
    · exact qas (1,0) rfl (by simp only[qab,zD,Nat.reduceEqDiff,zU,zA,g0]) (qbj _ _ _)
    · exact qas (1,1) rfl (by simp only[qab,zD,Nat.reduceEqDiff,zU,zA,g1]) (qbj _ _ _)
    · exact qas (1,2) rfl (by simp only[qab,zC]; try rfl) (qbj _ _ _)
def wJ1 (n i:Nat) (L:List (List (BitVec 8))) (m:Nat) (q:List (BitVec 8)) (R:List (List (BitVec 8))) (d:Nat→BitVec 8) (k mm:Nat) (st:St):Prop := ∃ (H:Heap),st=⟨[N n,N i,.undef,.isl (sls L) m,.undef,.undef,.undef,.undef,.undef,.ptr (1,0) 0,.undef,.sl (1,1) 0 k none 1,.ptr (1,2) 0,N k,.sl (1,3) 0 512 none 1,N mm,.undef,.undef,.undef,.undef,.undef,.undef,.undef,.undef,.undef,.undef,.undef,.undef,.undef,.undef,.undef,.undef,.undef,.undef,.undef,.undef,.undef,.undef,.undef,.undef,.undef,.undef,.undef,.undef,.undef,.undef,.undef,.undef,.undef,.undef,.undef,.undef,.undef,.undef,.undef,.undef,.undef,.undef,.undef,.undef,.undef,.undef,.undef,.undef,.undef,.undef,.undef,.undef,.undef,.undef,.undef,.undef,.undef,.undef,.undef,.undef,.undef,.undef,.undef,.undef,.undef],H,2,0⟩∧H (1,0)=some (aB 32 fun _=>0#8)∧H (1,2)=some (aB 32 d)∧H (1,3)=some (aB 512 (wf q i d mm))∧H (1,1)=some (sls R)
set_option maxRecDepth 20000 in
theorem w_round1 (K k0 n i:Nat) (hi:i < 1000000) (L:List (List (BitVec 8))) (m:Nat) (q:List (BitVec 8)) (R:List (List (BitVec 8))) (d:Nat→BitVec 8) (k mm:Nat) (hmm:mm < 32) (st:St) (hI:wJ1 n i L m q R d k mm st) :
    ∃ st1,ev (envC C k0) K L25b0 st=some (.normal,st1)∧wJ1 n i L m q R d k (mm+1) (qby L25k0 st1):=by
  obtain ⟨H,rfl,g0,g1,g2,gr⟩:=hI
  have hm:i % 16 < 16:=Nat.mod_lt _ (by omega)
  have hlt:32*(i % 16)+mm < 512:=by omega
  apply Exists.intro
  apply And.intro
  · simp (disch := first | omega | decide | simp only [qai, qag, qak, qaj, qah, qae, qac, qad, qan]) only [qba, qau, qa3, qao, qap, qam, qaf, qaq, qa7, qaz, qaI, qar, qaF, qaB, qaa, qa4, qaw, qaY, zK, zL, zN, zO, zJ, zM, Nat.reduceAdd, qdl, qaQ, qbe, qbx, qbt, qbf, op_iaA, iaV_lt, zB, zE, zT, aB_cell, aB_st, zZ, zE, zB, qbY, N_mul, N_rem, qa2, qbO, Nat.reduceAdd, zT, qb7, qbG, qax, qay, qa0, zZ, qal, L25b0, hmm, g1, g2, qbG, zZ, zB, wf_set, qal]
    rfl
  · refine qaU [(1, 0), (1, 1), (1, 2), (1, 3)] rfl (by simp only [qaA, FUEL, qaH, qaD, qaE, qaP, qaK, qaL, zS, zW, zP, zV, zR, zk, zF, zY, za, zD, zt, zo, ze, Nat.reduceEqDiff, zU, zp, zC, zA, zd, zm, zg, zl, ne_eq, zq, qab, qaJ, qaC, qav, qaO, L25k0, g0, g1, g2, gr, qcJ, sls_nmsD, qbS, qaK, qaO]) ?_ ⟨_, rfl, ?_, ?_, ?_, ?_⟩
    · simp only [L25k0, zG, zF, qbT, qbk, qaC, qav, qaJ, qa9, qc6]
      rfl
    · exact qas (1,0) rfl (by simp only[qab,zD,Nat.reduceEqDiff,zU,zA,g0]) (qbj _ _ _)
    · exact qas (1,2) rfl (by simp only[qab,zD,Nat.reduceEqDiff,zU,zA,g1]) (qbj _ _ _)
    · exact qas (1,3) rfl (by simp only[qab,zC]; try rfl) (qbj _ _ _)
    · exact qas (1,1) rfl (by simp only[qab,zD,Nat.reduceEqDiff,zU,zA,gr]) (sls_renD _ _)
def rJ0 (n i:Nat) (leaf:Nat→BitVec 8) (L:List (List (BitVec 8))) (m:Nat) (st:St):Prop := ∃ (H:Heap),st=⟨[N n,N i,.undef,.isl (sls L) m,.undef,.undef,.undef,.undef,.undef,.ptr (1,0) 0,.undef,Nil,.ptr (1,1) 0,N 0,.undef,.undef,.undef,.undef,.undef,.undef,.undef,.undef,.undef,.undef,.undef,.undef,.undef,.undef,.undef,.undef,.undef,.undef,.undef,.undef,.undef,.undef,.undef,.undef,.undef,.undef,.undef,.undef,.undef,.undef,.undef,.undef,.undef,.undef,.undef,.undef,.undef,.undef,.undef,.undef,.undef,.undef,.undef,.undef,.undef,.undef,.undef,.undef,.undef,.undef,.undef,.undef,.undef,.undef,.undef,.undef,.undef,.undef,.undef,.undef,.undef,.undef,.undef,.undef,.undef,.undef,.undef],H,2,0⟩∧H (1,0)=some (aB 32 fun _=>0#8)∧H (1,1)=some (aB 32 leaf)
def rJ1 (n i:Nat) (leaf:Nat→BitVec 8) (L:List (List (BitVec 8))) (m k:Nat) (st:St):Prop := ∃ (H:Heap),st=⟨[N n,N (i / 16 ^ k),.undef,.isl (sls L) m,.undef,.undef,.undef,.undef,.undef,.ptr (1,0) 0,.undef,.sl (1,1) 0 k none 1,.ptr (1,2) 0,N k,.undef,.undef,.undef,.undef,.undef,.undef,.undef,.undef,.undef,.undef,.undef,.undef,.undef,.undef,.undef,.undef,.undef,.undef,.undef,.undef,.undef,.undef,.undef,.undef,.undef,.undef,.undef,.undef,.undef,.undef,.undef,.undef,.undef,.undef,.undef,.undef,.undef,.undef,.undef,.undef,.undef,.undef,.undef,.undef,.undef,.undef,.undef,.undef,.undef,.undef,.undef,.undef,.undef,.undef,.undef,.undef,.undef,.undef,.undef,.undef,.undef,.undef,.undef,.undef,.undef,.undef,.undef],H,2,0⟩∧H (1,0)=some (aB 32 fun _=>0#8)∧H (1,1)=some (sls (chL i leaf L k))∧H (1,2)=some (aB 32 (chD i leaf L k))
set_option maxRecDepth 20000 in
theorem r_round0 (K k0:Nat) (hk0:600≤k0) (hK:600≤K) (n i:Nat) (hi:i < 1000000) (leaf:Nat→BitVec 8) (L:List (List (BitVec 8))) (m:Nat) (hm:L.length=m) (hm2:m≤3) (h0:0 < m) (h5:∀ b ∈ L,b.length=512) (st:St) (hI:rJ0 n i leaf L m st) :
    ∃ st1,ev (envC C k0) K L25b1 st=some (.normal,st1)∧rJ1 n i leaf L m (0+1) (qby L25k1 st1):=by
  obtain ⟨H,rfl,g0,g1⟩:=hI
  obtain ⟨k1,rfl⟩:∃ k1,k0=k1+1:=⟨k0 - 1,by omega⟩
  have hq:=h5 _ (getD_mem (show 0 < L.length by omega))
  have hq2:=chN_length h5 i leaf 0 (by omega)
  have hc:∀ H:Heap,cellAt H 1 (.ipt ((sls L).drop 0))=some [.isl (bs (L.getD 0 [])) 512]:=by
    intro H
    have:=sls_cell (H:=H) L 0 (by omega)
    rwa [hq] at this
  have hc':∀ H:Heap,cellAt H 1 (.ipt (sls L))=some [.isl (bs (L.getD 0 [])) 512]:=hc
  have hf:∀ H:Heap,front H 1 512 (.isl (bs (L.getD 0 [])) 512)=some (bs (L.getD 0 [])):=fun H=>qdn _ 512 hq
  have ha:=appX_full (b:=11) (H:=upd H (6,0) (some [])) 512 (6,0) 0 0 0 [] (L.getD 0 []) (by simp only[qab,zC]; rfl) (by simp) (by omega) (by omega)
  simp only[zzD,zzL,zP,zB] at ha
  simp (disch:=first|omega|decide|simp only[qai,qag,qak,qaj,qah,qae,qac,qad,qan]) only[qba,qau,qa3,qao,qap,qam,qaf,qaq,qaz,qaI,qar,qaF,qaB,qaa,qaw,qaY,zK,zL,zN,zO,zF,zJ,zM,qbZ,Nat.reduceAdd,qbe,qbx,qbW,z8,zB,zE,zT,zZ,zE,zB,qa2,qbO,Nat.reduceAdd,zT,qbi,qaV,qbD,qcT,qb8,qb9,qcb,qb7,qbC,qbK,qbw,qax,qaM,qay,zZ,qal,L25b1,ev_seqz,h0,hc',hf,ha,qbC,zZ,zB,qal]
  generalize hLp:qca L25k0 _ _ _=r
  refine qbJ hLp (wJ0 n i L m (L.getD 0 []) leaf 0) 32 (by omega) (fun mm st hmm hI=>w_round0 _ _ n i (by omega) L m (L.getD 0 []) leaf 0 mm hmm st hI) ?_ ?_ ?_
  · refine qaU [(1, 0), (1, 1), (11, 0)] rfl (by simp only [qaA, FUEL, qaH, qaD, qaE, qaP, qaK, qaL, zS, zW, zP, zV, zR, zk, zF, zY, za, zD, zt, zo, ze, Nat.reduceEqDiff, zH, zU, zp, zC, zA, zd, zi, zm, zg, zl, ne_eq, zq, qab, qaJ, qaC, qav, qaO, qbu, L25k0, g0, g1, qcJ, qbh, qbS, qaK, qbu, qaO]) ?_ ⟨_, rfl, ?_, ?_, ?_⟩
    · simp only [L25k0, zG, zF, qda, qbT, qbk, qaC, qav, qaJ, qa9, qc6]
      rfl
    · exact qas (1,0) rfl (by simp only[qab,zD,Nat.reduceEqDiff,zH,zA,g0]) (qbj _ _ _)
    · exact qas (1,1) rfl (by simp only[qab,zD,Nat.reduceEqDiff,zX,zA,zd,g1]) (qbj _ _ _)
    · exact qas (11,0) rfl (by simp only[qab,zD,Nat.reduceEqDiff,zH,zC,zA,wf_zero _ hq]) (qbj _ _ _)
  · rintro st ⟨H, rfl, w0, w1, w2⟩
    apply qbs
    simp (disch:=first|omega|decide|simp only[qai,qag,qak,qaj,qah,qae,qac,qad,qan]) only[qa6,qau,qao,qap,qam,qaf,qaN,qaq,qaz,qaI,qar,qaF,qaB,qaa,qaG,qaw,qat,zK,zL,zN,zO,zJ,zM,Nat.reduceAdd,zB,zE,zQ,qa2,Nat.reduceAdd,zj,zQ,L25b0,zj]
    rfl
  · rintro st ⟨H, rfl, w0, w1, w2⟩ hr
    subst hr
    rw[wf_end _ hq] at w2
    simp (disch:=first|omega|decide|simp only[qai,qag,qak,qaj,qah,qae,qac,qad,qan]) only[qa6,qau,qao,qap,qam,qaf,qaq,qaz,qaI,qar,qaF,qaB,qaa,qaG,qbc,qaw,qat,zK,zL,zN,zO,zJ,zM,Nat.reduceAdd,zC,zB,zE,zQ,zE,zB,qa2,Nat.reduceAdd,zj,zQ,qax,qay,qal,L25b0,zj,qal]
    rw[fzSt_sl 14 _ _ _ _ (1,2) 512 none (chN i leaf L 0) rfl (by simp only[w2,chN,Nat.pow_zero,Nat.div_one]; try rfl) (by decide) hq2]
    simp (disch:=first|omega|decide|simp only[qai,qag,qak,qaj,qah,qae,qac,qad,qan]) only[qao,qaf,qaq,qaz,qaF,zK,zL,zN,zO,zG,zF,zP,zR,zJ,zM,Nat.reduceAdd,qbW,qcx,qco,qb2,zzB,zzE,zzD,zX,zC,zB,zE,Nat.le_refl,zE,zB,Nat.reduceAdd,qbB,qbK,qbw,qax,qaM,qay,qal,qdp,qdf,qal]
    rw[zapp0 7 _ (6,0) (chN i leaf L 0) hq2 (by simp only[qab,zD,Nat.reduceEqDiff,zX,zC,zA])]
    have hnc:=fun (b:Nat) (H:Heap)=>qdj (k1+1) b 16 (.inr rfl) H 0 _ (chN i leaf L 0) (lent_512 H _ hq2) (by omega) (by omega)
    simp (disch:=first|omega|decide|simp only[qai,qag,qak,qaj,qah,qae,qac,qad,qan]) only[qau,qao,qap,qam,qaf,qaq,qa7,qaz,qaI,qar,qaF,qaB,qa1,qaT,qaa,qa4,zK,zL,zN,zO,zG,zF,zJ,zM,Nat.reduceAdd,qab,qaX,qbt,qbf,zD,Nat.reduceEqDiff,zU,zX,zA,zB,zE,zd,qbm,zE,zB,qbY,N_quo,Nat.reduceEqDiff,Nat.reduceAdd,qax,qaM,qay,qa0,qal,hnc,qal,w1]
    refine ⟨_,rfl,?_⟩
    refine qaU [(1,0),(7,0),(1,1)] rfl (by simp only[qaA,FUEL,qaH,qaD,qaE,qaP,qaK,qaL,zS,zW,zP,zV,zR,zk,zF,zY,za,zD,zt,zo,ze,Nat.reduceEqDiff,zH,zU,zp,zC,zA,zd,zi,zm,zg,zl,ne_eq,zq,qab,qaJ,qaC,qav,qaO,L25k1,w0,w1,sls_nmsD,qcJ,qbS,qaK,qaO]) ?_ ⟨_,rfl,?_,?_,?_⟩
    · simp only [L25k1, zG, zF, Nat.reducePow, qbT, qbk, qaC, qav, qaJ, qa9, qc6]
      rfl
    · exact qas (1,0) rfl (by simp only[qab,zD,Nat.reduceEqDiff,zH,zU,zA,zi,w0]) (qbj _ _ _)
    · exact qas (7,0) rfl (by simp only[qab,zD,Nat.reduceEqDiff,zH,zX,zC,zA,zi]; try rfl) (sls_renD _ _)
    · exact qas (1,1) rfl (by simp only[qab,zD,Nat.reduceEqDiff,zU,zX,zC,zA,zd]; try rfl) (qbj _ _ _)
set_option maxRecDepth 20000 in
theorem r_round1 (K k0:Nat) (hk0:600≤k0) (hK:600≤K) (n i:Nat) (hi:i < 1000000) (leaf:Nat→BitVec 8) (L:List (List (BitVec 8))) (m:Nat) (hm:L.length=m) (hm2:m≤3) (k:Nat) (h0:k < m) (hk0:0 < k) (h5:∀ b ∈ L,b.length=512) (st:St) (hI:rJ1 n i leaf L m k st) :
    ∃ st1,ev (envC C k0) K L25b1 st=some (.normal,st1)∧rJ1 n i leaf L m (k+1) (qby L25k1 st1):=by
  obtain ⟨H,rfl,g0,g1,g2⟩:=hI
  obtain ⟨k1,rfl⟩:∃ k1,k0=k1+1:=⟨k0 - 1,by omega⟩
  have hq:=h5 _ (getD_mem (show k < L.length by omega))
  have hq2:=chN_length h5 i leaf k (by omega)
  have hil:i / 16 ^ k≤i:=Nat.div_le_self _ _
  have hdv:i / 16 ^ k / 16=i / 16 ^ (k+1):=by rw[Nat.div_div_eq_div_mul,Nat.pow_succ]
  have hc:∀ H:Heap,cellAt H 1 (.ipt ((sls L).drop k))=some [.isl (bs (L.getD k [])) 512]:=by
    intro H
    have:=sls_cell (H:=H) L k (by omega)
    rwa [hq] at this
  have hf:∀ H:Heap,front H 1 512 (.isl (bs (L.getD k [])) 512)=some (bs (L.getD k [])):=fun H=>qdn _ 512 hq
  have ha:=appX_full (b:=11) (H:=upd H (6,0) (some [])) 512 (6,0) 0 0 0 [] (L.getD k []) (by simp only[qab,zC]; rfl) (by simp) (by omega) (by omega)
  simp only[zzD,zzL,zP,zB] at ha
  simp (disch:=first|omega|decide|simp only[qai,qag,qak,qaj,qah,qae,qac,qad,qan]) only[qba,qau,qa3,qao,qap,qam,qaf,qaq,qaz,qaI,qar,qaF,qaB,qaa,qaw,qaY,zK,zL,zN,zO,zF,zJ,zM,qbZ,Nat.reduceAdd,qbe,qbx,qbW,zB,zE,zT,zZ,zE,zB,qa2,qbO,Nat.reduceAdd,zT,qbi,qaV,qbD,qcT,qb8,qb9,qcb,qb7,qbC,qbK,qbw,qax,qaM,qay,zZ,qal,L25b1,ev_seqz,h0,hc,hf,ha,qbC,zZ,zB,qal]
  generalize hLp:qca L25k0 _ _ _=r
  refine qbJ hLp (wJ1 n (i / 16 ^ k) L m (L.getD k []) (chL i leaf L k) (chD i leaf L k) k) 32 (by omega) (fun mm st hmm hI=>w_round1 _ _ n (i / 16 ^ k) (by omega) L m (L.getD k []) (chL i leaf L k) (chD i leaf L k) k mm hmm st hI) ?_ ?_ ?_
  · refine qaU [(1, 0), (1, 1), (1, 2), (11, 0)] rfl (by simp only [qaA, FUEL, qaH, qaD, qaE, qaP, qaK, qaL, zS, zW, zP, zV, zR, zk, zF, zY, za, zD, zt, zo, ze, Nat.reduceEqDiff, zH, zU, zp, zC, zA, zd, zi, zm, zg, zl, ne_eq, zq, qab, qaJ, qaC, qav, qaO, L25k0, g0, g1, g2, qcJ, sls_nmsD, qbh, qbS, qaK, qaO]) ?_ ⟨_, rfl, ?_, ?_, ?_, ?_⟩
    · simp only [L25k0, zG, zF, qbT, qbk, qaC, qav, qaJ, qa9, qc6]
      rfl
    · exact qas (1,0) rfl (by simp only[qab,zD,Nat.reduceEqDiff,zH,zA,g0]) (qbj _ _ _)
    · exact qas (1,2) rfl (by simp only[qab,zD,Nat.reduceEqDiff,zX,zA,g2]) (qbj _ _ _)
    · exact qas (11,0) rfl (by simp only[qab,zD,Nat.reduceEqDiff,zH,zC,zA,wf_zero _ hq]) (qbj _ _ _)
    · exact qas (1,1) rfl (by simp only[qab,zD,Nat.reduceEqDiff,zX,zA,zd,g1]) (sls_renD _ _)
  · rintro st ⟨H, rfl, w0, w1, w2, wr⟩
    apply qbs
    simp (disch:=first|omega|decide|simp only[qai,qag,qak,qaj,qah,qae,qac,qad,qan]) only[qa6,qau,qao,qap,qam,qaf,qaN,qaq,qaz,qaI,qar,qaF,qaB,qaa,qaG,qaw,qat,zK,zL,zN,zO,zJ,zM,Nat.reduceAdd,zB,zE,zQ,qa2,Nat.reduceAdd,zj,zQ,L25b0,zj]
    rfl
  · rintro st ⟨H, rfl, w0, w1, w2, wr⟩ hr
    subst hr
    rw[wf_end _ hq] at w2
    simp (disch:=first|omega|decide|simp only[qai,qag,qak,qaj,qah,qae,qac,qad,qan]) only[qa6,qau,qao,qap,qam,qaf,qaq,qaz,qaI,qar,qaF,qaB,qaa,qaG,qbc,qaw,qat,zK,zL,zN,zO,zJ,zM,Nat.reduceAdd,zC,zB,zE,zQ,zE,zB,qa2,Nat.reduceAdd,zj,zQ,qax,qay,qal,L25b0,zj,qal]
    rw[fzSt_sl 14 _ _ _ _ (1,3) 512 none (chN i leaf L k) rfl (by simp only[w2,chN]; try rfl) (by decide) hq2]
    simp (disch:=first|omega|decide|simp only[qai,qag,qak,qaj,qah,qae,qac,qad,qan]) only[qao,qaf,qaq,qaz,qaF,zK,zL,zN,zO,zG,zF,zP,zR,zJ,zM,Nat.reduceAdd,qbW,qcx,qco,qb2,zzB,zzE,zzD,zX,zC,zB,zE,Nat.le_refl,zE,zB,Nat.reduceAdd,qbB,qbK,qbw,qax,qaM,qay,qal,qdp,qdf,qal]
    rw[zapp1 7 _ (6,0) (1,1) k (chL i leaf L k) (chN i leaf L k) hq2 (by simp only[qab,zD,Nat.reduceEqDiff,zX,zC,zA]) (by simp only[qab,zD,Nat.reduceEqDiff,zU,zX,zA,zd,wr]) (chL_length _ _ _ _) (by omega),←chL_succ]
    have hnc:=fun (b:Nat) (H:Heap)=>qdj (k1+1) b 16 (.inr rfl) H k _ (chN i leaf L k) (lent_512 H _ hq2) (by omega) (by omega)
    simp (disch:=first|omega|decide|simp only[qai,qag,qak,qaj,qah,qae,qac,qad,qan]) only[qau,qao,qap,qam,qaf,qaq,qa7,qaz,qaI,qar,qaF,qaB,qa1,qaT,qaa,qa4,zK,zL,zN,zO,zG,zF,zJ,zM,Nat.reduceAdd,qab,qaX,qbt,qbf,zD,Nat.reduceEqDiff,zU,zX,zA,zB,zE,qbm,zE,zB,qbY,N_quo,Nat.reduceEqDiff,Nat.reduceAdd,qax,qaM,qay,qa0,qal,hnc,qal,w1,hdv]
    refine ⟨_,rfl,?_⟩
    refine qaU [(1,0),(7,0),(1,2)] rfl (by simp only[qaA,FUEL,qaH,qaD,qaE,qaP,qaK,qaL,zS,zW,zP,zV,zR,zk,zF,zY,za,zD,zt,zo,ze,Nat.reduceEqDiff,zH,zU,zp,zC,zA,zd,zi,zm,zg,zl,ne_eq,zq,qab,qaJ,qaC,qav,qaO,L25k1,w0,w1,sls_nmsD,qcJ,qbS,qaK,qaO]) ?_ ⟨_,rfl,?_,?_,?_⟩
    · simp only [L25k1, zG, zF, qbT, qbk, qaC, qav, qaJ, qa9, qc6]
      rfl
    · exact qas (1,0) rfl (by simp only[qab,zD,Nat.reduceEqDiff,zH,zU,zA,zi,w0]) (qbj _ _ _)
    · exact qas (7,0) rfl (by simp only[qab,zD,Nat.reduceEqDiff,zH,zX,zC,zA,zi]; try rfl) (sls_renD _ _)
    · exact qas (1,2) rfl (by simp only[qab,zD,Nat.reduceEqDiff,zU,zX,zC,zA]; try rfl) (qbj _ _ _)
end Sha
namespace Sha
open Go Go.LE
set_option maxRecDepth 20000 in
theorem rchange_no (k:Nat) (z i:Int) (leaf:Nat→BitVec 8) (L:List (List (BitVec 8))) (he:chgE z i L≠0) :
    F C (k+2000) 25 [I z,I i,.agg (aB 32 leaf),.isl (sls L) L.length] []=some (.tup [Nil,.agg (aB 32 zero32),N (chgE z i L)],[],[]):=by
  rw[qch f25]
  have hrc:=fun (b:Nat) (H:Heap)=>rgt_call (k+1969) b 37 (.inr rfl) H z _ L (path_isl H L)
  cases h:rightB z L with
  | false =>
    rw[chgE,h,Bool.false_and]
    simp only[h] at hrc
    simp (disch:=first|omega|decide|simp only[qai,qag,qak,qaj,qah,qae,qac,qad,qan]) only[qbb,qbp,qau,qao,qap,qam,qaf,qaS,qcO,qaq,qa7,qaz,qaI,qar,qb0,qaF,qbr,op_un,qa1,qaT,qaa,qbQ,qaw,qaY,qbg,zK,zL,zN,zO,zG,zF,zP,zV,qa5,zy,zJ,zM,qcU,zI,Nat.reduceAdd,Nat.reduceSub,qab,qaX,qaQ,qbR,op_box,qcg,qbt,qbf,qbW,aggR_some,op_build,zD,Nat.reduceEqDiff,zH,zC,zA,zB,zE,qbH,qbP,qbm,zE,zB,Nat.reduceEqDiff,Nat.reduceAdd,zu,qax,qaM,qay,qa0,zI,qaZ,qal,L25,hrc,resVal_3,tup3K_some,qal]
    rw[qcc 0 _ _ [] (by simp only[qaA,FUEL,qaE,zS,zW,zR,zk,zF,zg,tup3n_nms])]
    simp (disch:=first|omega|decide|simp only[qai,qag,qak,qaj,qah,qae,qac,qad,qan]) only[zF,qab,zD,Nat.reduceEqDiff,false_and,zA,zzC,qbn,zk,tup3n_ren]
    rfl
  | true =>
    simp only[h] at hrc
    obtain ⟨n,rfl,n1,n2,n3,n4⟩:=right_of h
    rw[chgE,h,Bool.true_and] at he ⊢
    rw[show I (n:Int)=N n from rfl] at hrc ⊢
    by_cases h0:0≤i
    · have e0 : decide (i < ((0 : Nat) : Int)) = false := by simpa using h0
      by_cases h1:i < n
      · obtain ⟨j, rfl⟩ : ∃ j : Nat, i = (j : Int) := ⟨i.toNat, by omega⟩
        have hjn:j < n:=by omega
        have hnj:¬ n≤j:=by omega
        rw[decide_eq_true (⟨h0,h1⟩:(0:Int)≤j∧(j:Int) < n),if_pos rfl,Int.toNat_natCast] at he ⊢
        rw[show I (j:Int)=N j from rfl]
        have hn2:=nl_le n
        have hjj:=fun (b:Nat) (H:Heap)=>joined_call (k+999) b 39 (.inr rfl) H j (by omega) _ L (by omega) (by omega) n4 (path_isl H L)
        cases hj:joinedB j L with
        | true=>rw[hj] at he; exact absurd rfl he
        | false =>
          simp only[hj] at hjj
          simp (disch:=first|omega|decide|simp only[qai,qag,qak,qaj,qah,qae,qac,qad,qan]) only[qbb,qba,qbp,qau,qao,qap,qam,qaf,qaS,qbA,qaq,qa7,qaz,qaI,qar,qbq,qaF,qbr,qaB,op_un,qa1,qaT,qaa,qbQ,qaw,qaY,qat,qbg,zK,zL,zN,zO,zG,zF,zP,zV,qa5,zy,zJ,zM,qcU,zI,Nat.reduceAdd,Nat.reduceSub,qab,qaX,qaQ,qbR,op_box,qcg,qbt,qbf,qbW,aggR_some,op_build,zD,Nat.reduceEqDiff,zH,zC,zA,zB,zE,zQ,qbH,qbP,qbm,zE,zB,qa2,N_geq,Nat.reduceEqDiff,Nat.reduceAdd,zQ,zu,zf,qax,qaM,qay,qa0,zI,qaZ,qal,L25,hrc,hjj,hnj,Nat.not_lt_zero,zQ,resVal_3,tup3K_some,qal]
          rw[qcc 0 _ _ [] (by simp only[qaA,FUEL,qaE,zS,zW,zR,zk,zF,zg,tup3n_nms])]
          simp (disch:=first|omega|decide|simp only[qai,qag,qak,qaj,qah,qae,qac,qad,qan]) only[zF,qab,zD,Nat.reduceEqDiff,false_and,zA,zzC,qbn,zk,tup3n_ren]
          rfl
      · have e1 : decide (((n : Nat) : Int) ≤ i) = true := by simp; omega
        rw[decide_eq_false (fun h:(0:Int)≤i∧i < (n:Int)=>h1 h.2)]
        simp (disch:=first|omega|decide|simp only[qai,qag,qak,qaj,qah,qae,qac,qad,qan]) only[qbb,qbp,qau,qao,qap,qam,qaf,qaS,qbA,qaq,qa7,qaz,qaI,qar,qbq,qaF,qbr,qaB,op_un,qa1,qaT,qaa,qbQ,qaw,qaY,qbg,zK,zL,zN,zO,zG,zF,zP,zV,qa5,zy,zJ,zM,qcU,zI,Nat.reduceAdd,Nat.reduceSub,qab,qaX,qaQ,qbR,op_box,qcg,qbt,qbf,qbW,aggR_some,op_build,zD,Nat.reduceEqDiff,zH,zC,zA,zB,zE,qbH,qbP,qbm,zE,zB,Nat.reduceEqDiff,Nat.reduceAdd,zf,qax,qaM,qay,qa0,zI,qaZ,qal,L25,hrc,I_lssN,I_geqN,e0,e1,resVal_3,tup3K_some,qal]
        rw[qcc 0 _ _ [] (by simp only[qaA,FUEL,qaE,zS,zW,zR,zk,zF,zg,tup3n_nms])]
        simp (disch:=first|omega|decide|simp only[qai,qag,qak,qaj,qah,qae,qac,qad,qan]) only[zF,qab,zD,Nat.reduceEqDiff,false_and,zA,zzC,qbn,zk,tup3n_ren]
        rfl
    · have e0 : decide (i < ((0 : Nat) : Int)) = true := by simp; omega
      rw[decide_eq_false (fun h:(0:Int)≤i∧i < (n:Int)=>h0 h.1)]
      simp (disch:=first|omega|decide|simp only[qai,qag,qak,qaj,qah,qae,qac,qad,qan]) only[qbb,qbp,qau,qao,qap,qam,qaf,qaS,qbA,qcO,qaq,qa7,qaz,qaI,qar,qb0,qbq,qaF,qbr,qaB,op_un,qa1,qaT,qaa,qbQ,qaw,qaY,qbg,zK,zL,zN,zO,zG,zF,zP,zV,qa5,zy,zJ,zM,qcU,zI,Nat.reduceAdd,Nat.reduceSub,qab,qaX,qaQ,qbR,op_box,qcg,qbt,qbf,qbW,aggR_some,op_build,zD,Nat.reduceEqDiff,zH,zC,zA,zB,zE,qbH,qbP,qbm,zE,zB,Nat.reduceEqDiff,Nat.reduceAdd,zf,qax,qaM,qay,qa0,zI,qaZ,qal,L25,hrc,I_lssN,e0,resVal_3,tup3K_some,qal]
      rw[qcc 0 _ _ [] (by simp only[qaA,FUEL,qaE,zS,zW,zR,zk,zF,zg,tup3n_nms])]
      simp (disch:=first|omega|decide|simp only[qai,qag,qak,qaj,qah,qae,qac,qad,qan]) only[zF,qab,zD,Nat.reduceEqDiff,false_and,zA,zzC,qbn,zk,tup3n_ren]
      rfl
set_option maxRecDepth 20000 in
theorem rchange_ok (k:Nat) (n i:Nat) (leaf:Nat→BitVec 8) (L:List (List (BitVec 8))) (h:rightB n L=true) (hi:i < n) (hj:joinedB i L=true) :
    F C (k+2000) 25 [N n,N i,.agg (aB 32 leaf),.isl (sls L) L.length] []=some (.tup [.sl (1,0) 0 L.length none 1,.agg (aB 32 (rootF n (chL i leaf L L.length))),N 0],[],[sls (chL i leaf L L.length)]):=by
  rw[qch f25]
  obtain ⟨n',hn',n1,n2,n3,n4⟩:=right_of h
  have hnn:n'=n:=by omega
  subst hnn
  have hn2:=nl_le n'
  have hrc:∀ (b:Nat) (H:Heap),qb1 (envC C (k+1999)) H b 37 [N n',.isl (sls L) L.length]=some ⟨Bo (rightB (n':Int) L),[],[]⟩:=fun (b:Nat) (H:Heap)=>rgt_call (k+1969) b 37 (.inr rfl) H n' _ L (path_isl H L)
  have hjj:=fun (b:Nat) (H:Heap)=>joined_call (k+999) b 39 (.inr rfl) H i (by omega) _ L (by omega) (by omega) n4 (path_isl H L)
  simp only[h] at hrc
  simp only[hj] at hjj
  have hnj:¬ n'≤i:=by omega
  obtain ⟨m,hm⟩:∃ m,L.length=m:=⟨_,rfl⟩
  rw[hm] at hrc hjj ⊢
  simp (disch:=first|omega|decide|simp only[qai,qag,qak,qaj,qah,qae,qac,qad,qan]) only[qbb,qba,qau,qa3,qao,qap,qam,qaf,qaS,qbA,qaq,qa7,qaz,qaI,qar,qbq,qaF,qbr,qaB,op_un,qa1,qaT,qaa,qaw,qat,zK,zL,zN,zO,zG,zF,zP,zV,qa5,zy,zJ,zM,qcU,qbZ,Nat.reduceAdd,Nat.reduceSub,qab,qaX,qaQ,qb6,op_ld,qbR,op_box,qcg,qbt,qbf,zD,Nat.reduceEqDiff,zH,zC,zA,zB,zE,zQ,qbH,qbP,qbm,zE,zB,qa2,N_geq,Nat.reduceEqDiff,Nat.reduceAdd,zQ,zf,qax,qaM,qay,qa0,qaZ,qal,L25,hrc,hjj,hnj,Nat.not_lt_zero,zQ,qal]
  generalize hLp:qca L25k1 _ _ _=r
  refine qbJ hLp (fun j st=>(j=0∧rJ0 n' i leaf L m st)∨(0 < j∧rJ1 n' i leaf L m j st)) m (by omega) (fun j st hj hI => ?_) ?_ ?_ ?_
  · have hv:∃ st1,ev (envC C (k+1999)) (k+1999) L25b1 st=some (.normal,st1)∧rJ1 n' i leaf L m (j+1) (qby L25k1 st1):=by
      rcases hI with ⟨rfl,hI⟩ | ⟨hj0,hI⟩
      · exact r_round0 _ _ (by omega) (by omega) n' i (by omega) leaf L m hm (by omega) (by omega) n4 st hI
      · exact r_round1 _ _ (by omega) (by omega) n' i (by omega) leaf L m hm (by omega) j hj hj0 n4 st hI
    obtain ⟨st1,q1,q2⟩:=hv
    exact ⟨st1,q1,.inr ⟨by omega,q2⟩⟩
  · refine .inl ⟨rfl, qaU [(4, 0), (25, 0)] rfl (by simp only [qaA, FUEL, qaH, qaD, qaE, qaP, qaL, zS, zW, zP, zV, zR, zk, zF, zY, za, zD, zt, zo, ze, Nat.reduceEqDiff, zH, zp, zC, zA, zm, zg, zl, ne_eq, zq, qab, qaJ, qaC, qav, qaZ, qaO, qbu, L25k1, qbS, qcJ, qbu, qaO]) ?_ ⟨_, rfl, ?_, ?_⟩⟩
    · simp only [L25k1, zG, zF, qda, qbT, qaC, qav, qaJ, qa9, qc6]
      rfl
    · exact qas (4,0) rfl (by simp only[qab,zD,Nat.reduceEqDiff,zH,zC,zA]; try rfl) (qbj _ _ _)
    · exact qas (25,0) rfl (by simp only[qab,zD,Nat.reduceEqDiff,zH,zC,zA]; try rfl) (qbj _ _ _)
  · rintro st (⟨he, _⟩ | ⟨_, H, rfl, g0, g1, g2⟩)
    · omega
    · apply qbs
      simp (disch:=first|omega|decide|simp only[qai,qag,qak,qaj,qah,qae,qac,qad,qan]) only[qa6,qau,qao,qap,qam,qaf,qaN,qaq,qaz,qar,qaF,qaB,qaa,qaG,qaw,qat,zK,zL,zN,zO,zJ,zM,Nat.reduceAdd,zB,zE,zQ,qa2,Nat.reduceAdd,zj,zQ,qbi,qaV,qbD,L25b1,zj]
      rfl
  · rintro st (⟨he, _⟩ | ⟨_, H, rfl, g0, g1, g2⟩) hr
    · omega
    · subst hr
      have hcr:=chL_right h i leaf
      rw[hm] at hcr
      have hrt:=fun (b:Nat)=>root_call (k+1499) b 23 (.inr rfl) H n' _ (chL i leaf L m) (path_sl H (1,1) none (chL i leaf L m) m (chL_length _ _ _ _) (by omega) g1)
      rw[rootE_pos hcr,show I ((n':Nat):Int)=N n' from rfl] at hrt
      simp (disch:=first|omega|decide|simp only[qai,qag,qak,qaj,qah,qae,qac,qad,qan]) only[qbp,qa6,qau,qao,qap,qam,qaf,qaq,qa7,qaz,qaI,qar,qaF,qaB,qa1,qaT,qaa,qaG,qbc,qaw,qat,qbg,zK,zL,zN,zO,zG,zF,zR,zJ,zM,zI,Nat.reduceAdd,Nat.reduceSub,qab,qaX,qaQ,qb6,op_ld,qbR,qbt,qbf,zw,zx,zh,zD,Nat.reduceEqDiff,Nat.reduceLT,zH,zC,zA,zB,zE,zT,zQ,qbP,qbm,qbF,zE,zB,qa2,Nat.reduceLT,Nat.reduceEqDiff,Nat.reduceAdd,zj,zQ,zT,nm_beq,zu,zf,qbi,qaV,qbD,qax,qaM,qay,qa0,zI,List.getElem?_cons_zero,List.getElem?_cons_succ,qbo,qal,qcZ,qcD,List.getElem?_cons_zero,List.getElem?_cons_succ,qbz,qb3,qbE,touch_ld,touch_st,qaP,za,zY,zz,z6,z0,ordOk,qbv,zw,zx,Nat.testBit,Nat.reduceShiftRight,Nat.reduceAnd,Nat.reduceBEq,zf,zu,z7,zh,Nat.reduceSub,Nat.reduceLT,bne,qbN,qcp,trimO_f,qbI,qdk,isCall_st,zh,L25b1,zj,g0,hrt,resVal_3,tup3K_some,qal,qbo]
      rw[qcc 0 _ _ [(1,1)] (by simp only[qaA,FUEL,qaH,qaD,qaE,zS,zW,zP,zR,zk,zF,zY,zD,ze,Nat.reduceEqDiff,zU,zC,zA,zd,zm,zg,zl,ne_eq,zq,qab,tup3_nms,sls_nmsD,g1])]
      rw[tup3_ren (qdg [(1,1)]) (1,1) (1,0) _ _ _ _ _ rfl]
      simp (disch:=first|omega|decide|simp only[qai,qag,qak,qaj,qah,qae,qac,qad,qan]) only[zG,zF,qab,zD,Nat.reduceEqDiff,zU,false_and,zX,zA,zd,zi,zzC,List.filterMap_cons,zk,g1,sls_renD]
end Sha
namespace Sha
open Go Go.LE
theorem chg_args (z i:Int) (leaf:Nat→BitVec 8) (L:List (List (BitVec 8))):([I z,I i,.agg (aB 32 leaf),.isl (sls L) L.length]:List LV).flatMap (nms D)=[]∧([I z,I i,.agg (aB 32 leaf),.isl (sls L) L.length]:List LV).map (ren D (qc7 []))=[I z,I i,.agg (aB 32 leaf),.isl (sls L) L.length]:=by
  constructor
  · simp only[zS,qcJ,zW,zR]; rfl
  · simp only[zG,qc6,qbM,zF]; rfl
theorem chg_callNo (k b g:Nat) (hg:g=24∨g=25) (H:Heap) (z i:Int) (leaf:Nat→BitVec 8) (L:List (List (BitVec 8))) (he:chgE z i L≠0) :
    qb1 (envC C (k+2000)) H b g [I z,I i,.agg (aB 32 leaf),.isl (sls L) L.length]=some ⟨.tup [Nil,.agg (aB 32 zero32),N (chgE z i L)],[],[]⟩:=by
  obtain ⟨a1,a2⟩:=chg_args z i leaf L
  rcases hg with rfl | rfl
  · rw [qcB l24 a1 a2, change_noA k z i leaf L he]
    simp only[calK,qc9,zF,List.zipWith_nil_left,tup3n_ren]
  · rw [qcB l25 a1 a2, rchange_no k z i leaf L he]
    simp only[calK,qc9,zF,List.zipWith_nil_left,tup3n_ren]
theorem chg_callOk (k b g:Nat) (hg:g=24∨g=25) (H:Heap) (n i:Nat) (leaf:Nat→BitVec 8) (L:List (List (BitVec 8))) (h:rightB n L=true) (hi:i < n) (hj:joinedB i L=true) :
    qb1 (envC C (k+2000)) H b g [N n,N i,.agg (aB 32 leaf),.isl (sls L) L.length]=some ⟨.tup [.sl (b,0) 0 L.length none 1,.agg (aB 32 (rootF n (chL i leaf L L.length))),N 0],[sls (chL i leaf L L.length)],[]⟩:=by
  obtain ⟨a1,a2⟩:=chg_args n i leaf L
  rcases hg with rfl | rfl
  · rw [show qb1 (envC C (k + 2000)) H b 24 [N n, N i, .agg (aB 32 leaf), .isl (sls L) L.length] = calK b (F C (k + 2000) 24 [N n, N i, .agg (aB 32 leaf), .isl (sls L) L.length] []) from qcB l24 a1 a2, change_okA k n i leaf L h hi hj]
    simp only[calK,qc9,zG,zF,sls_renD,List.zipWith_nil_left]
    rw[tup3_ren _ (1,0) (b,0) _ _ _ _ _ (toCaller_1 _ _ _ _ (by simp))]
  · rw [show qb1 (envC C (k + 2000)) H b 25 [N n, N i, .agg (aB 32 leaf), .isl (sls L) L.length] = calK b (F C (k + 2000) 25 [N n, N i, .agg (aB 32 leaf), .isl (sls L) L.length] []) from qcB l25 a1 a2, rchange_ok k n i leaf L h hi hj]
    simp only[calK,qc9,zG,zF,sls_renD,List.zipWith_nil_left]
    rw[tup3_ren _ (1,0) (b,0) _ _ _ _ _ (toCaller_1 _ _ _ _ (by simp))]
theorem aB_self (n:Nat) (f:Nat→BitVec 8):aB_same n f f=true:=(aB_same_iff _ _ _).2 fun _ _=>rfl
set_option maxRecDepth 20000 in
theorem treeAsks_F (k:Nat) (z i:Int) (leaf:Nat→BitVec 8) (L:List (List (BitVec 8))) (want:Nat→BitVec 8) :
    F C (k+4000) 8 [I z,I i,.agg (aB 32 leaf),.isl (sls L) L.length,.agg (aB 32 want)] []=some (Bo true,[],[]):=by
  rw[qch f8]
  have hlv:=fun (b:Nat) (H:Heap)=>lives_call (k+999) b H
  have r1:=fun (b:Nat) (H:Heap)=>root_call (k+3499) b 21 (.inl rfl) H z _ L (path_isl H L)
  have r2:=fun (b:Nat) (H:Heap)=>root_call (k+3499) b 23 (.inr rfl) H z _ L (path_isl H L)
  have c1:=fun (b:Nat) (H:Heap)=>check_call (k+2799) b 22 (.inl rfl) H z i leaf _ L want (path_isl H L)
  have c2:=fun (b:Nat) (H:Heap)=>check_call (k+2799) b 26 (.inr rfl) H z i leaf _ L want (path_isl H L)
  have hs:=fun (f:Nat→BitVec 8)=>aB_self 32 f
  by_cases he:chgE z i L≠0
  · have g1 := fun (b : Nat) (H : Heap) => chg_callNo (k + 1999) b 24 (.inl rfl) H z i leaf L he
    have g2:=fun (b:Nat) (H:Heap)=>chg_callNo (k+1999) b 25 (.inr rfl) H z i leaf L he
    have hsm:∀ (b:Nat) (H:Heap),qb1 (envC C (k+3999)) H b 17 [Nil,Nil]=some ⟨Bo true,[],[]⟩:=fun b H=>by
      have:=same_call (k+1999) b H Nil Nil [] [] (by decide) (by decide) (path_nil H) (path_nil H)
      exact this
    simp (disch:=first|omega|decide|simp only[qai,qag,qak,qaj,qah,qae,qac,qad,qan]) only[qbb,qbp,qau,qao,qap,qam,qaf,qaS,qcC,qaq,qa7,qaz,qaI,qar,qb0,qaF,qbr,qaB,qa1,qaT,qaa,qbg,qbl,nms_I,zK,zL,zN,zO,zG,zF,zS,zW,zP,zV,zR,qa5,zy,zJ,zM,qct,zI,Nat.reduceAdd,Nat.reduceSub,qab,qaX,qaQ,qb6,op_ld,qbR,op_box,qcg,qbt,qbf,zw,zx,zh,zD,Nat.reduceEqDiff,Nat.reduceLT,zH,zC,zA,zB,zE,zT,qbH,qbP,qbm,qbF,aB_eql,zE,zB,N_eql,Nat.reduceLT,Nat.reduceEqDiff,Nat.reduceAdd,zT,zu,zf,qbu,qax,qaM,qay,qa0,zI,qaZ,List.getElem?_cons_zero,List.getElem?_cons_succ,qbz,qc8,guardO_true,qb3,qbE,touch_ld,qcL,reach_none,nms_fn,qaP,za,zY,zz,z6,z0,ordOk,qbv,zw,zx,Nat.testBit,Nat.reduceShiftRight,Nat.reduceAnd,Nat.reduceBEq,zf,zu,z7,zh,Nat.reduceSub,Nat.reduceLT,bne,qbN,qcp,qbI,qdk,qcv,zh,qbo,qal,qcZ,qcD,List.getElem?_cons_zero,List.getElem?_cons_succ,L8,hlv,r1,r2,c1,c2,g1,g2,hs,hsm,qcJ,qal,qbo]
  · have he : chgE z i L = 0 := by simpa using he
    have hr:rightB z L=true:=by
      cases h:rightB z L with
      | true=>rfl
      | false=>rw[chgE,h,Bool.false_and] at he; exact absurd he (by simp)
    rw[chgE,hr,Bool.true_and] at he
    have h0:0≤i∧i < z:=by
      apply Classical.byContradiction
      intro h
      rw[decide_eq_false h] at he
      exact absurd he (by simp)
    rw[decide_eq_true h0,if_pos rfl] at he
    have hj:joinedB i.toNat L=true:=by
      cases h:joinedB i.toNat L with
      | true=>rfl
      | false=>rw[h] at he; exact absurd he (by simp)
    clear he
    obtain ⟨n,rfl,n1,n2,n3,n4⟩:=right_of hr
    obtain ⟨j,rfl⟩:∃ j:Nat,i=(j:Int):=⟨i.toNat,by omega⟩
    rw[Int.toNat_natCast] at hj
    have hn2:=nl_le n
    have g1:=fun (b:Nat) (H:Heap)=>chg_callOk (k+1999) b 24 (.inl rfl) H n j leaf L hr (by omega) hj
    have g2:=fun (b:Nat) (H:Heap)=>chg_callOk (k+1999) b 25 (.inr rfl) H n j leaf L hr (by omega) hj
    have hcl:=chL_length j leaf L L.length
    rw[show I (n:Int)=N n from rfl] at r1 r2 c1 c2 ⊢
    rw[show I (j:Int)=N j from rfl] at c1 c2 ⊢
    obtain ⟨m,hm⟩:∃ m,L.length=m:=⟨_,rfl⟩
    rw[hm] at hcl g1 g2 r1 r2 c1 c2 ⊢
    generalize chL j leaf L m=P at hcl g1 g2
    simp (disch:=first|omega|decide|simp only[qai,qag,qak,qaj,qah,qae,qac,qad,qan]) only[qbb,qau,qao,qap,qam,qaf,qaS,qcC,qaq,qa7,qaz,qaI,qar,qb0,qaF,qbr,qaB,qa1,qaT,qaa,zK,zL,zN,zO,zG,zF,zS,zW,zP,zV,zR,qa5,zy,zJ,zM,Nat.reduceAdd,Nat.reduceSub,qab,qaX,qaQ,qb6,op_ld,qbR,op_box,qcg,qbt,qbf,zw,zx,zh,zD,Nat.reduceEqDiff,Nat.reduceLT,zH,zC,zA,zB,zE,zT,qbH,qbP,qbm,aB_eql,zE,zB,N_eql,Nat.reduceLT,Nat.reduceEqDiff,Nat.reduceAdd,zT,zu,zf,qax,qaM,qay,qa0,qaZ,List.getElem?_cons_zero,List.getElem?_cons_succ,qbz,qc8,guardO_true,qb3,qbE,touch_ld,qcL,reach_none,nms_fn,qaP,za,zY,zz,z6,z0,ordOk,qbv,zw,zx,Nat.testBit,Nat.reduceShiftRight,Nat.reduceAnd,Nat.reduceBEq,zf,zu,z7,zh,Nat.reduceSub,Nat.reduceLT,bne,qbN,qcp,trimO_f,qbI,qdk,qcv,zh,qbo,qal,qcZ,qcD,List.getElem?_cons_zero,List.getElem?_cons_succ,L8,hlv,r1,r2,g1,g2,hs,qaK,qal,qbo]
    have hrch:∀ H:Heap,H (27,0)=some (sls P)→H (40,0)=some (sls P)→reach H FUEL [] [(27,0),(40,0)]=[(27,0),(40,0)]:=by
      intro H a b
      simp only[FUEL,qaH,qaD,qaE,zP,zV,zR,zY,za,zD,zt,zo,ze,Nat.reduceEqDiff,zH,zp,zA,a,b,sls_nmsD]
    rw[hrch _ (by simp only[qab,zD,Nat.reduceEqDiff,zH,zC,zA]) (by simp only[qab,zD,Nat.reduceEqDiff,zH,zC,zA])]
    have hsm:∀ (b:Nat) (H:Heap),H (27,0)=some (sls P)→H (40,0)=some (sls P)→qb1 (envC C (k+3999)) H b 17 [.sl (27,0) 0 m none 1,.sl (40,0) 0 m none 1]=some ⟨Bo true,[],[]⟩:=fun b H h1 h2=>by
      have:=same_call (k+1999) b H _ _ P P (by omega) (by omega) (path_sl H (27,0) none P m hcl (by omega) h1) (path_sl H (40,0) none P m hcl (by omega) h2)
      rw[decide_eq_true rfl] at this
      exact this
    rw[hsm _ _ (by simp only[qab,zD,Nat.reduceEqDiff,zH,zC,zA,qbE,za,zY,zz,Bool.true_or,z0]) (by simp only[qab,zD,Nat.reduceEqDiff,zH,zC,zA,qbE,za,zY,zz,z6,z0])]
    simp (disch:=first|omega|decide|simp only[qai,qag,qak,qaj,qah,qae,qac,qad,qan]) only[qbp,qap,qam,qaf,qaS,qcC,qaq,qaz,qaI,qar,qb0,qaF,qbr,qaB,qa1,qaT,qaa,qbg,qbl,zK,zL,zN,zO,zG,zF,zS,zW,zR,qct,zI,Nat.reduceAdd,Nat.reduceSub,qab,qaQ,qb6,op_ld,zw,zx,zh,zD,Nat.reduceEqDiff,Nat.reduceLT,zH,zC,zA,zT,qbP,qbF,aB_eql,N_eql,qaO,Nat.reduceLT,Nat.reduceEqDiff,Nat.reduceAdd,zT,zu,zf,qax,qay,zI,qaZ,qc8,guardO_true,qb3,qbE,touch_ld,qcL,reach_none,nms_fn,qaP,za,zY,zz,z6,z0,ordOk,qbv,zw,zx,Nat.testBit,Nat.reduceShiftRight,Nat.reduceAnd,Nat.reduceBEq,zf,zu,z7,zh,Nat.reduceSub,Nat.reduceLT,bne,qbN,qcp,qbI,qdk,qcv,zh,qbo,qal,c1,c2,hs,qcJ,qal,qbo]
end Sha
