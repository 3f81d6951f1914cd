/- TreeBinds. -/
import Derived.Test.YtolnbhddfnkjkaaDoorLeY
set_option linter.unusedVariables false
set_option linter.unusedSimpArgs false
namespace Sha
open Go Go.LE
def bd (P Q:List (List (BitVec 8))) (k:Nat):Bool:=(!decide (P.getD k []=Q.getD k [])) && aB_same 32 (dig (nodeB k (P.getD k []))) (dig (nodeB k (Q.getD k [])))
def tbJ (P Q:List (List (BitVec 8))) (m k:Nat) (st:St):Prop := ∃ (x47 x48 x49 x50 x66 x67 x68 x69 x70 x71 x72 x73 x74 x75 x76 x77 x78:LV) (H:Heap),st=⟨[.undef,.undef,.undef,.isl (sls P) m,.undef,.isl (sls Q) m,.undef,.undef,.undef,.undef,.undef,.undef,.undef,.undef,.undef,N k,.undef,.undef,.undef,.undef,.undef,.undef,.undef,.undef,.undef,.undef,.undef,.undef,.undef,.undef,.undef,.undef,.undef,.undef,.undef,.undef,.undef,.undef,.undef,.undef,.undef,.undef,.undef,.undef,.undef,.undef,.undef,x47,x48,x49,x50,.undef,.undef,.undef,.undef,.undef,.undef,.undef,.undef,.undef,.undef,.undef,.undef,.undef,.undef,.undef,x66,x67,x68,x69,x70,x71,x72,x73,x74,x75,x76,x77,x78,.undef,.undef,.undef,.undef,.undef,.undef,.undef,.undef,.undef,.undef,.undef,.undef,.undef,.undef,.undef,.undef,.undef,.undef,.undef],H,2,0⟩
set_option maxRecDepth 20000 in
theorem tb_both (K k0:Nat) (hk0:400≤k0) (P Q:List (List (BitVec 8))) (m:Nat) (hp:P.length=m) (hq:Q.length=m) (hm:m≤3) (h5:∀ b ∈ P,b.length=512) (h6:∀ b ∈ Q,b.length=512) (k:Nat) (hk:k < m) (st:St) (hI:tbJ P Q m k st) :
    (bd P Q k=false→∃ st1,ev (envC C k0) K L5b0 st=some (.normal,st1)∧tbJ P Q m (k+1) (qby L5k0 st1)) ∧
    (bd P Q k=true→∃ st1,ev (envC C k0) K L5b0 st=some (.ret,st1)∧resVal st1 [.tmp 14]=some (Bo true)∧st1.np=0):=by
  obtain ⟨x47,x48,x49,x50,x66,x67,x68,x69,x70,x71,x72,x73,x74,x75,x76,x77,x78, H,rfl⟩:=hI
  have hl1:=h5 _ (getD_mem (show k < P.length by omega))
  have hl2:=h6 _ (getD_mem (show k < Q.length by omega))
  have hc:=fun (H:Heap)=>sls_cell (H:=H) P k (by omega)
  have hc2:=fun (H:Heap)=>sls_cell (H:=H) Q k (by omega)
  have hf:=fun (H:Heap)=>qdn (H:=H) (P.getD k []) _ rfl
  have hf2:=fun (H:Heap)=>qdn (H:=H) (Q.getD k []) _ rfl
  have n1:=fun (b':Nat) (H:Heap)=>qdj k0 b' 16 (.inr rfl) H k (.isl (bs (P.getD k [])) (P.getD k []).length) (P.getD k []) (lent_isl H _ []) (by omega) (by omega)
  have n2:=fun (b':Nat) (H:Heap)=>qdj k0 b' 16 (.inr rfl) H k (.isl (bs (Q.getD k [])) (Q.getD k []).length) (Q.getD k []) (lent_isl H _ []) (by omega) (by omega)
  cases e1:decide (P.getD k []=Q.getD k []) with
  | true =>
    refine ⟨fun _ => ?_,fun hb=>by rw[bd,e1] at hb; simp at hb⟩
    apply Exists.intro
    apply And.intro
    · simp (disch := first | omega | decide | simp only [qai, qag, qak, qaj, qah, qae, qac, qad, qan]) only [qba, qau, qa3, qao, qap, qam, qaf, qaS, qcC, guardK_false, qaq, qaz, qaI, qar, qb0, qbq, qaF, qbr, qaB, qaa, qa4, qaw, qaY, qat, zK, zL, zN, zO, zF, zJ, zM, Nat.reduceAdd, qbe, qbx, zw, zx, zh, zC, zB, zE, zT, zZ, zE, zB, qbY, qa2, qbO, Nat.reduceAdd, zT, zu, zf, qbi, qaV, qbD, qcT, qb7, qbC, qax, qay, qbd, zZ, qbz, qc8, guardO_false, qb3, qcr, touch_b2s, zY, zz, z6, ordOk, qbv, zw, zx, Nat.testBit, Nat.reduceShiftRight, Nat.reduceAnd, Nat.reduceBEq, zf, zu, z7, zh, bne, qbN, qcp, qbI, qcf, isCall_b2s, zh, qbo, qal, L5b0, hk, qbC, zZ, hc, hc2, hf, hf2, e1, qal, qbo, op_b2s, b2sV_isl, b2sK_bs, txt_nq, ipts_nms, qbd]
      rfl
    · apply qaU [] rfl (by simp only [qaA, FUEL, qaE, nms_Bo, nms_Un, qaL, zS, zW, zR, zk, zF, zg, qaJ, qaC, qav, qaO, L5k0, qcJ, qaO])
      · simp only [L5k0, ren_Bo, ren_Un, zG, zF, qaC, qav, qaJ, qa9, qc6]
        rfl
      · exact ⟨_,_,_,_,_,_,_,_,_,_,_,_,_,_,_,_,_, _,rfl⟩
  | false =>
    cases e2:aB_same 32 (dig (nodeB k (P.getD k []))) (dig (nodeB k (Q.getD k []))) with
    | false =>
      refine ⟨fun _ => ?_,fun hb=>by rw[bd,e1,e2] at hb; simp at hb⟩
      apply Exists.intro
      apply And.intro
      · simp (disch := first | omega | decide | simp only [qai, qag, qak, qaj, qah, qae, qac, qad, qan]) only [qba, qau, qa3, qao, qap, qam, qaf, qaS, qcC, qaq, qaz, qaI, qar, qb0, qaF, qbr, qaB, qa1, qaT, qaa, qa4, qaw, qaY, qat, zK, zL, zN, zO, zG, zF, zS, zW, zR, zJ, zM, Nat.reduceAdd, qbe, qbx, zw, zx, zh, zC, zB, zE, zT, aB_eql, zZ, zE, zB, qbY, qa2, qbO, qaO, Nat.reduceAdd, zT, zu, zf, qbi, qaV, qbD, qcT, qb7, qbC, qax, qay, qbd, zZ, qbz, qc8, guardO_true, qb3, qcr, qcL, touch_b2s, reach_none, nms_fn, zY, zz, z6, ordOk, qbv, zw, zx, Nat.testBit, Nat.reduceShiftRight, Nat.reduceAnd, Nat.reduceBEq, zf, zu, z7, zh, bne, qbN, qcp, qbI, qcf, isCall_b2s, qcv, zh, qbo, qal, L5b0, hk, qbC, zZ, hc, hc2, hf, hf2, n1, n2, e1, e2, qal, qbo, op_b2s, b2sV_isl, b2sK_bs, txt_nq, ipts_nms, qbd]
        rfl
      · apply qaU [] rfl (by simp only [qaA, FUEL, qaE, nms_Bo, qaL, zS, zW, zR, zk, zF, zg, qaJ, qaC, qav, qaO, L5k0, qcJ, ipts_nms, qbd, qbF, qaO])
        · simp only [L5k0, ren_Bo, zG, zF, qa8, qaC, qav, qaJ, qa9, qc6]
          rfl
        · exact ⟨_,_,_,_,_,_,_,_,_,_,_,_,_,_,_,_,_, _,rfl⟩
    | true =>
      refine ⟨fun hb=>by rw[bd,e1,e2] at hb; simp at hb,fun _ => ?_⟩
      apply Exists.intro
      apply And.intro
      · simp (disch := first | omega | decide | simp only [qai, qag, qak, qaj, qah, qae, qac, qad, qan]) only [qba, qbp, qau, qa3, qao, qap, qam, qaf, qaS, qcC, qaq, qaz, qaI, qar, qb0, qaF, qbr, qaB, qa1, qaT, qaa, qbQ, qdm, qaw, qaY, zK, zL, zN, zO, zG, zF, zS, zW, zR, zJ, zM, Nat.reduceAdd, qbe, qbx, zw, zx, zh, zC, zB, zE, zT, aB_eql, zZ, zE, zB, qa2, qbO, qaO, Nat.reduceAdd, zT, zu, zf, qbi, qaV, qbD, qcT, qb7, qbC, qax, qay, qbd, zZ, qbz, qc8, guardO_true, qb3, qcr, qcL, touch_b2s, reach_none, nms_fn, zY, zz, z6, ordOk, qbv, zw, zx, Nat.testBit, Nat.reduceShiftRight, Nat.reduceAnd, Nat.reduceBEq, zf, zu, z7, zh, bne, qbN, qcp, qbI, qcf, isCall_b2s, qcv, zh, qbo, qal, L5b0, hk, qbC, zZ, hc, hc2, hf, hf2, n1, n2, e1, e2, qal, qbo, op_b2s, b2sV_isl, b2sK_bs, txt_nq, ipts_nms, qbd]
        rfl
      · exact ⟨rfl,rfl⟩
theorem lb_same {f g:Nat→BitVec 8} (h:lb32 f=lb32 g):aB_same 32 f g=true:=by
  rw[aB_same_iff]
  intro i hi
  have h1:=lb32_getD f i hi
  rw[h,lb32_getD g i hi] at h1
  exact h1.symm
theorem check_ok {z i:Int} {leaf:Nat→BitVec 8} {L:List (List (BitVec 8))} {want:Nat→BitVec 8} (h:checkV z i leaf L want=0) :
    rightB z L=true∧(0≤i∧i < z)∧ch (L.getD 0 []) i.toNat=lb32 leaf∧joinedB i.toNat L=true:=by
  unfold checkV at h
  split at h
  · rename_i h1
    rw[Bool.and_eq_true,decide_eq_true_eq] at h1
    split at h
    · rename_i h2
      rw[Bool.and_eq_true,Bool.and_eq_true,decide_eq_true_eq] at h2
      exact ⟨h1.1,h1.2,h2.1.2,h2.2⟩
    · exact absurd h (by decide)
  · exact absurd h (by decide)
theorem bind_law {P Q:List (List (BitVec 8))} {m j:Nat} {a b:Nat→BitVec 8} (hp:P.length=m) (hq:Q.length=m) (h0:0 < m) (j1:joinedB j P=true) (j2:joinedB j Q=true)
    (c1:ch (P.getD 0 []) j=lb32 a) (c2:ch (Q.getD 0 []) j=lb32 b) (hab:aB_same 32 a b=false) (hb:∀ k,k < m→bd P Q k=false) :
    aB_same 32 (dig (nodeB (m - 1) (P.getD (m - 1) []))) (dig (nodeB (m - 1) (Q.getD (m - 1) [])))=false:=by
  have ok1:∀ k,k < m - 1→okAt j P k=true:=fun k hk=>by
    rw[joinedB,hp,List.all_eq_true] at j1; exact j1 k (by simpa using hk)
  have ok2:∀ k,k < m - 1→okAt j Q k=true:=fun k hk=>by
    rw[joinedB,hq,List.all_eq_true] at j2; exact j2 k (by simpa using hk)
  have bdf:∀ k,k < m→P.getD k []≠Q.getD k []→aB_same 32 (dig (nodeB k (P.getD k []))) (dig (nodeB k (Q.getD k [])))=false:=by
    intro k hk hne
    have:=hb k hk
    rw[bd,decide_eq_false hne] at this
    simpa using this
  have hne:∀ k,k < m→P.getD k []≠Q.getD k []:=by
    intro k
    induction k with
    | zero =>
      intro _ e
      rw[e,c2] at c1
      have:=lb_same c1.symm
      rw[hab] at this
      exact absurd this (by decide)
    | succ k ih =>
      intro hk e
      have h1:=bdf k (by omega) (ih (by omega))
      have o1:=ok1 k (by omega)
      have o2:=ok2 k (by omega)
      rw[okAt,decide_eq_true_eq] at o1 o2
      rw[e,o2] at o1
      have:=lb_same (f:=dig (nodeB k (P.getD k []))) (g:=dig (nodeB k (Q.getD k []))) o1.symm
      rw[h1] at this
      exact absurd this (by decide)
  exact bdf _ (by omega) (hne _ (by omega))
set_option maxRecDepth 20000 in
theorem treeBinds_F (k:Nat) (z i:Int) (a:Nat→BitVec 8) (P:List (List (BitVec 8))) (b:Nat→BitVec 8) (Q:List (List (BitVec 8))) (want:Nat→BitVec 8) :
    F C (k+4000) 5 [I z,I i,.agg (aB 32 a),.isl (sls P) P.length,.agg (aB 32 b),.isl (sls Q) Q.length,.agg (aB 32 want)] []=some (Bo true,[],[]):=by
  rw[qch f5]
  have hlv:=fun (b:Nat) (H:Heap)=>lives_call (k+999) b H
  have c1:=fun (b:Nat) (H:Heap)=>check_call (k+2799) b 22 (.inl rfl) H z i a _ P want (path_isl H P)
  have c2:=fun (b':Nat) (H:Heap)=>check_call (k+2799) b' 22 (.inl rfl) H z i b _ Q want (path_isl H Q)
  by_cases h1:checkV z i a P want=0
  · rw [h1] at c1
    by_cases h2:checkV z i b Q want=0
    · rw [h2] at c2
      cases hab:aB_same 32 a b with
      | true =>
        simp (disch:=first|omega|decide|simp only[qai,qag,qak,qaj,qah,qae,qac,qad,qan]) only[qbb,qba,qbp,qau,qao,qap,qam,qaf,qaS,qbA,qaq,qaz,qaI,qar,qbq,qaF,qbr,qaB,op_un,qa1,qaT,qaa,qbQ,qaw,qaY,qat,qbg,qbl,zK,zL,zN,zO,zG,zF,zP,zV,qa5,zy,zJ,zM,qcU,qct,zI,Nat.reduceAdd,Nat.reduceSub,qab,qaX,qaQ,qb6,op_ld,op_box,qcg,zD,Nat.reduceEqDiff,zH,zC,zA,zB,zE,zT,qbH,qbP,aB_eql,zE,zB,N_neq,decide_not,Nat.reduceEqDiff,Nat.reduceAdd,zT,zf,qax,qaM,qay,zI,qaZ,zf,Nat.reduceSub,qal,L5,hlv,c1,c2,hab,qal]
      | false =>
        obtain ⟨r1,hi,e1,j1⟩:=check_ok h1
        obtain ⟨r2,_,e2,j2⟩:=check_ok h2
        obtain ⟨n,rfl,n1,n2,n3,n4⟩:=right_of r1
        obtain ⟨n',hn',_,_,m3,m4⟩:=right_of r2
        have hnn:n'=n:=by omega
        subst hnn
        have hn2:=nl_le n'
        obtain ⟨m,hp⟩:∃ m,P.length=m:=⟨_,rfl⟩
        have hq:Q.length=m:=by omega
        rw[hp] at c1 ⊢
        rw[hq] at c2 ⊢
        simp (disch:=first|omega|decide|simp only[qai,qag,qak,qaj,qah,qae,qac,qad,qan]) only[qbb,qba,qau,qa3,qao,qap,qam,qaf,qaS,qbA,qaq,qaz,qaI,qar,qbq,qaF,qbr,qaB,op_un,qa1,qaT,qaa,qaw,qat,zK,zL,zN,zO,zG,zF,zP,zV,qa5,zy,zJ,zM,qcU,qbZ,Nat.reduceAdd,Nat.reduceSub,qab,qaX,qaQ,qb6,op_ld,op_box,qcg,zD,Nat.reduceEqDiff,zH,zC,zA,zB,zE,zT,qbH,qbP,aB_eql,zE,zB,N_neq,decide_not,Nat.reduceEqDiff,Nat.reduceAdd,zT,zf,qax,qaM,qay,qaZ,zf,Nat.reduceSub,qal,L5,hlv,c1,c2,hab,qal]
        generalize hLp:qca L5k0 _ _ _=r
        obtain ⟨q,hq1,hg,hb,_⟩:=first_no (fun k => !bd P Q k) m
        refine qbJ hLp (tbJ P Q m) q (by omega) (fun j st hj hI=>(tb_both _ _ (by omega) P Q m hp hq (by omega) n4 m4 j (by omega) st hI).1 (by simpa using hg j hj)) ?_ ?_ ?_
        · apply qaU [] rfl (by simp only [qaA, FUEL, qaE, nms_Un, qaL, zS, zW, zR, zk, zF, zg, qaJ, qaC, qav, qaO, L5k0, qcJ, qaO])
          · simp only [L5k0, ren_Un, zG, zF, qaC, qav, qaJ, qa9, qc6]
            rfl
          · exact ⟨_,_,_,_,_,_,_,_,_,_,_,_,_,_,_,_,_, _,rfl⟩
        · rintro st hJ
          by_cases hlt:q < m
          · obtain ⟨st1, h, _⟩ := (tb_both (k + 3999) (k + 3999) (by omega) P Q m hp hq (by omega) n4 m4 q hlt st hJ).2 (by simpa using hb hlt)
            exact stop_ret h
          · obtain ⟨x47, x48, x49, x50, x66, x67, x68, x69, x70, x71, x72, x73, x74, x75, x76, x77, x78,  H, rfl⟩ := hJ
            apply qbs
            simp (disch:=first|omega|decide|simp only[qai,qag,qak,qaj,qah,qae,qac,qad,qan]) only[qa6,qau,qao,qap,qam,qaf,qaS,qaN,guardK_false,qaq,qaz,qaI,qar,qbq,qaF,qbr,qaB,qaa,qaG,qaw,qat,zK,zL,zN,zO,zJ,zM,Nat.reduceAdd,zB,zE,zQ,qa2,Nat.reduceAdd,zQ,qbi,qaV,qbD,L5b0,hlt]
            rfl
        · rintro st hJ hr
          by_cases hlt:q < m
          · obtain ⟨st1, h, hv, hnp⟩ := (tb_both (k + 3999) (k + 3999) (by omega) P Q m hp hq (by omega) n4 m4 q hlt st hJ).2 (by simpa using hb hlt)
            rw[hr,h]
            obtain ⟨tm,H,nx,np⟩:=st1
            simp only[inBlock,andThen,qbg,hv,zI]
            simp only at hnp
            subst hnp
            rw[qcc 0 _ _ [] (by simp only[qaA,FUEL,qaE,nms_Bo,zS,zW,zR,zk,zF,zg])]
            rfl
          · obtain ⟨x47, x48, x49, x50, x66, x67, x68, x69, x70, x71, x72, x73, x74, x75, x76, x77, x78,  H, rfl⟩ := hJ
            subst hr
            have hqm:q=m:=by omega
            subst hqm
            have hlaw:=bind_law hp hq (by omega) j1 j2 e1 e2 hab (fun k hk=>by simpa using hg k hk)
            have hm1:q - 1 < q:=by omega
            have hm2:1≤q:=by omega
            have hc:=fun (H:Heap)=>sls_cell (H:=H) P (q - 1) (by omega)
            have hc2:=fun (H:Heap)=>sls_cell (H:=H) Q (q - 1) (by omega)
            have hl1:=n4 _ (getD_mem (show q - 1 < P.length by omega))
            have hl2:=m4 _ (getD_mem (show q - 1 < Q.length by omega))
            have d1:=fun (b':Nat) (H:Heap)=>qdj (k+3999) b' 16 (.inr rfl) H (q - 1) (.isl (bs (P.getD (q - 1) [])) (P.getD (q - 1) []).length) (P.getD (q - 1) []) (lent_isl H _ []) (by omega) (by omega)
            have d2:=fun (b':Nat) (H:Heap)=>qdj (k+3999) b' 16 (.inr rfl) H (q - 1) (.isl (bs (Q.getD (q - 1) [])) (Q.getD (q - 1) []).length) (Q.getD (q - 1) []) (lent_isl H _ []) (by omega) (by omega)
            simp (disch:=first|omega|decide|simp only[qai,qag,qak,qaj,qah,qae,qac,qad,qan]) only[qbp,qa6,qau,qao,qap,qam,qaf,qaS,guardK_false,qaq,qa7,qaz,qaI,qar,qbq,qaF,qbr,qaB,qa1,qaT,qaa,qaG,qbc,qaw,qat,qbg,qbl,zK,zL,zN,zO,zG,zF,zS,zW,zR,zJ,zM,qct,zI,Nat.reduceAdd,Nat.reduceSub,qab,qaX,qaQ,qbe,qb6,qbx,op_ld,qbR,qbt,qbf,zw,zx,zh,zD,Nat.reduceEqDiff,Nat.reduceLT,zH,zC,zA,zB,zE,zQ,qbP,qbm,qbF,zZ,zE,zB,N_sub,qa2,qbO,qaO,Nat.reduceLT,Nat.reduceEqDiff,Nat.reduceAdd,zj,zQ,nm_beq,zu,zf,qbi,qaV,qbD,qb7,qbC,qax,qaM,qay,qa0,zI,qbd,zZ,qbz,qb3,qbE,qcr,touch_st,qcL,reach_none,nms_fn,qaP,za,zY,zz,z6,z0,ordOk,qbv,zw,zx,Nat.testBit,Nat.reduceShiftRight,Nat.reduceAnd,Nat.reduceBEq,zf,zu,z7,zh,Nat.reduceSub,Nat.reduceLT,bne,qbN,qcp,trimO_f,qbI,qcf,isCall_st,qcv,zh,qbo,qal,L5b0,zj,qbC,zZ,hc,hc2,d1,d2,hlaw,aB_neq,ipts_nms,qbd,qal,qbo]
    · simp (disch:=first|omega|decide|simp only[qai,qag,qak,qaj,qah,qae,qac,qad,qan]) only[qbb,qba,qbp,qau,qao,qap,qam,qaf,qaS,qbA,qcO,qaq,qaz,qaI,qar,qb0,qbq,qaF,qbr,qaB,op_un,qa1,qaT,qaa,qbQ,qaw,qaY,qat,qbg,qbl,zK,zL,zN,zO,zG,zF,zP,zV,qa5,zy,zJ,zM,qcU,qct,zI,Nat.reduceAdd,Nat.reduceSub,qab,qaX,qaQ,qb6,op_ld,op_box,qcg,zD,Nat.reduceEqDiff,zH,zC,zA,zB,zE,zT,zQ,qbH,qbP,zE,zB,N_neq,decide_not,Nat.reduceEqDiff,Nat.reduceAdd,zQ,zT,zu,zf,qax,qaM,qay,zI,qaZ,zf,zu,Nat.reduceSub,qal,L5,hlv,c1,c2,h2,qal]
  · simp (disch:=first|omega|decide|simp only[qai,qag,qak,qaj,qah,qae,qac,qad,qan]) only[qbb,qba,qbp,qau,qao,qap,qam,qaf,qaS,qcO,qaq,qaz,qaI,qar,qb0,qaF,qbr,qaB,op_un,qa1,qaT,qaa,qbQ,qaw,qaY,qat,qbg,qbl,zK,zL,zN,zO,zG,zF,zP,zV,qa5,zy,zJ,zM,qcU,qct,zI,Nat.reduceAdd,Nat.reduceSub,qab,qaX,qaQ,qb6,op_ld,op_box,qcg,zD,Nat.reduceEqDiff,zH,zC,zA,zB,zE,zQ,qbH,qbP,zE,zB,N_neq,decide_not,Nat.reduceEqDiff,Nat.reduceAdd,zQ,zu,zf,qax,qaM,qay,zI,qaZ,zf,zu,Nat.reduceSub,qal,L5,hlv,c1,h1,qal]
end Sha
namespace Sha
open Go Go.LE
def ixR (z:Int) (n:Nat):Int:=z.tmod n
def ix (z:Int) (n:Nat):Nat:=if ixR z n < 0 then (ixR z n+n).toNat else (ixR z n).toNat
theorem ixR_bound (z:Int) (n:Nat) (hn:0 < n) : -(n:Int) < ixR z n∧ixR z n < n:=by
  exact ⟨Int.lt_tmod_of_pos z (by omega),Int.tmod_lt_of_pos z (by omega)⟩
theorem ix_lt (z:Int) (n:Nat) (hn:0 < n):ix z n < n:=by
  have:=ixR_bound z n hn
  unfold ix; split <;> omega
theorem rem_ix (e:EqT) (z:Int) (n:Nat) (hn:0 < n):binV .rem e (I z) (N n)=some (I (ixR z n)):=by
  exact I_rem e z (n:Int) (by omega)
theorem ix_neg (z:Int) (n:Nat) (hn:0 < n) (h2:n≤4096) (h:ixR z n < 0) (e:EqT):binV .add e (I (ixR z n)) (N n)=some (N (ix z n)):=by
  have:=ixR_bound z n hn
  have h1:=I_add e (ixR z n) (n:Int) (by omega)
  rw[show I (n:Int)=N n from rfl] at h1
  rw[h1,ix,if_pos h,I_toN _ (by omega)]
theorem ix_pos (z:Int) (n:Nat) (h:¬ ixR z n < 0):I (ixR z n)=N (ix z n):=by
  rw[ix,if_neg h,I_toN _ (by omega)]
def lfF (l:List (BitVec 8)) (i:Nat):Nat→BitVec 8:=fun x=>(lf l i).getD x 0#8
theorem lb_lfF {l:List (BitVec 8)} {n i:Nat} (hl:l.length=32*n) (hi:i < n):lb32 (lfF l i)=lf l i:=by
  have h:=lf_length hl hi
  apply List.ext_getElem
  · rw[lb32_length,h]
  · intro j h1 h2
    simp only[lb32,lfF,List.getElem_map,List.getElem_range]
    rw[List.getD_eq_getElem?_getD,List.getElem?_eq_getElem h2]; rfl
theorem aB_lfF {l:List (BitVec 8)} {n i:Nat} (hl:l.length=32*n) (hi:i < n):aB 32 (lfF l i)=bs (lf l i):=aB_list _ 32 (lf_length hl hi) _ (fun _ _=>rfl)
theorem ld_leafI (H:Heap) (l:List (BitVec 8)) (n i:Nat) (hl:l.length=32*n) (hi:i < n):cellAt H 32 (.ipt ((bs l).drop (i*32)))=some (aB 32 (lfF l i)):=by
  rw[Ab.ld_ipt l i (by omega),aB_lfF hl hi]; rfl
theorem ipts_nmsB (l:List (BitVec 8)) (k:Nat):nms D (.ipt ((bs l).drop k))=[]:=by
  show ((bs l).drop k).flatMap (nms 7)=[]
  rw[List.flatMap_eq_nil_iff]; intro x hx
  have:=List.mem_of_mem_drop hx
  simp only[bs,List.mem_map] at this; obtain ⟨y,_,rfl⟩:=this; rfl
theorem reach_path {H:Heap} {r:Nm} {L:List (List (BitVec 8))} (h:H r=some (sls L)):reach H FUEL [] [r]=[r]:=by
  simp only[FUEL,qaH,zY,ze,zA,h,qaD,sls_nmsD,zP,qaE]
theorem tp_root (k b:Nat) (H:Heap) (r:Nm) (l:List (BitVec 8)) (n j:Nat) (hl:l.length=32*n) (hn:1≤n∧n≤4096) (hj:j < n) (h:H r=some (sls (pth l n j))) :
    qb1 (envC C (k+500)) H b 21 [N n,.sl r 0 (nl n+1) none 1]=some ⟨.tup [.agg (aB 32 (buildR l n)),N 0],[],[]⟩:=by
  have:=root_call k b 21 (.inl rfl) H n _ (pth l n j) (path_sl H r none _ (nl n+1) (pth_length _ _ _) (by omega) h)
  rw[pth_root hl hn hj,rootE_pos (pth_right hl hn j)] at this
  exact this
theorem tp_check (k b:Nat) (H:Heap) (r:Nm) (l:List (BitVec 8)) (n j:Nat) (leaf:Nat→BitVec 8) (hl:l.length=32*n) (hn:1≤n∧n≤4096) (hj:j < n) (h:H r=some (sls (pth l n j))) (he:lf l j=lb32 leaf) :
    qb1 (envC C (k+1200)) H b 22 [N n,N j,.agg (aB 32 leaf),.sl r 0 (nl n+1) none 1,.agg (aB 32 (buildR l n))]=some ⟨N 0,[],[]⟩:=by
  have:=check_call k b 22 (.inl rfl) H n j leaf _ (pth l n j) (buildR l n) (path_sl H r none _ (nl n+1) (pth_length _ _ _) (by omega) h)
  rw[pth_check hl hn hj,if_pos he] at this
  exact this
end Sha
namespace Sha
open Go Go.LE
set_option maxRecDepth 20000 in
theorem treePaths_F (k:Nat) (l:List (BitVec 8)) (n:Nat) (hl:l.length=32*n) (hb:n < 9000000000000) (z:Int) :
    F C (k+4000) 4 [.isl (bs l) n,I z] []=some (Bo true,[],[]):=by
  rw[qch f4]
  have hlv:=fun (b:Nat) (H:Heap)=>lives_call (k+999) b H
  by_cases hn:1≤n∧n≤4096
  · have hbc := fun (b : Nat) (H : Heap) => build_callA (k + 1999) b H l n hl hn
    have e1:¬ n < 1:=by omega
    have e2:¬ 4096 < n:=by omega
    have hrem:=fun (e:EqT)=>rem_ix e z n (by omega)
    have hlt:=ix_lt z n (by omega)
    have hn2:=nl_le n
    have hld:=fun (H:Heap)=>ld_leafI H l n (ix z n) hl hlt
    have hs:=aB_self 32 (buildR l n)
    cases hsg:decide (ixR z n < ((0:Nat):Int)) with
    | false =>
      have hpos:=ix_pos z n (by simpa using hsg)
      simp (disch:=first|omega|decide|simp only[qai,qag,qak,qaj,qah,qae,qac,qad,qan]) only[qbb,qba,qau,qao,qap,qam,qaf,qaS,qbA,qaq,qa7,qaz,qaI,qar,qbq,qaF,qbr,qaB,op_un,qa1,qaT,qaa,qaw,qat,zK,zL,zN,zO,zG,zF,zP,zV,qa5,zy,zJ,zM,qcU,Nat.reduceAdd,Nat.reduceSub,qab,qaX,qbR,qbt,qbf,zD,Nat.reduceEqDiff,zH,zC,zA,zB,zE,zT,zQ,qbH,qbm,zE,zB,N_neq,qa2,N_gtr,decide_not,Nat.reduceEqDiff,Nat.reduceAdd,zQ,zT,zf,qbi,qaV,qbD,qax,qaM,qay,qa0,qaZ,List.getElem?_cons_zero,List.getElem?_cons_succ,zf,Nat.reduceSub,qal,qcZ,qcD,List.getElem?_cons_zero,List.getElem?_cons_succ,L4,hlv,hbc,e1,e2,hrem,hpos,Nat.not_lt_zero,zQ,qal]
      rw[path_call (k+3899) _ n (ix z n) _ (4,0) l hl hn hlt (by simp only[qab,zD,Nat.reduceEqDiff,zH,zC,zA])]
      simp (disch:=first|omega|decide|simp only[qai,qag,qak,qaj,qah,qae,qac,qad,qan]) only[qau,qao,qap,qam,qaf,qaq,qaz,qaI,qaF,qa1,qaT,qaa,zK,zL,zN,zO,zG,zF,zJ,zM,Nat.reduceAdd,zB,zE,zE,zB,Nat.reduceAdd,qax,qaM,qay,qa0,qal,qal]
      rw[tp_root (k+3499) _ _ (34,0) l n (ix z n) hl hn hlt (by simp only[qab,zD,Nat.reduceEqDiff,zH,zC,zA])]
      simp (disch:=first|omega|decide|simp only[qai,qag,qak,qaj,qah,qae,qac,qad,qan]) only[qau,qao,qap,qam,qaf,qaq,qa7,qaz,qaI,qar,qaF,qa1,qaT,qaa,zK,zL,zN,zO,zG,zF,zS,zW,zP,zR,zJ,zM,Nat.reduceAdd,Nat.reduceSub,qab,qaX,qaQ,qb6,op_ld,qbR,qbt,qbf,zw,zx,zh,zD,Nat.reduceEqDiff,Nat.reduceLT,zH,zC,zA,zB,zE,zT,qbP,qbm,qbF,zE,zB,qbO,qaO,Nat.reduceLT,Nat.reduceEqDiff,Nat.reduceAdd,zT,zu,zf,qb7,qbC,qax,qaM,qay,qa0,qaZ,List.getElem?_cons_zero,List.getElem?_cons_succ,qbz,qb3,qbE,touch_ld,qcL,nms_fn,qaP,za,zY,zz,z6,z0,ordOk,qbv,zw,zx,Nat.testBit,Nat.reduceShiftRight,Nat.reduceAnd,zf,zu,z7,zh,Nat.reduceSub,Nat.reduceLT,bne,qbN,qcp,trimO_f,qbI,qdk,qcv,zh,qbo,qal,qcZ,qcD,List.getElem?_cons_zero,List.getElem?_cons_succ,qbC,hld,qaK,ipts_nmsB,qal,qbo]
      rw[reach_path (r:=(34,0)) (L:=pth l n (ix z n)) (by simp only[qab,zD,Nat.reduceEqDiff,zH,zC,zA])]
      rw[tp_check (k+2799) _ _ (34,0) l n (ix z n) (lfF l (ix z n)) hl hn hlt (by simp only[qab,zD,Nat.reduceEqDiff,zH,zC,zA,qbE,za,zY,zz,z0]) (lb_lfF hl hlt).symm]
      simp (disch:=first|omega|decide|simp only[qai,qag,qak,qaj,qah,qae,qac,qad,qan]) only[qbp,qap,qam,qaf,qaS,qcC,qaq,qaz,qaI,qar,qb0,qaF,qbr,qaB,qaa,qbg,qbl,zK,zL,zN,zO,zF,qct,zI,Nat.reduceAdd,Nat.reduceSub,qab,qaQ,qb6,op_ld,zw,zx,zh,zD,Nat.reduceEqDiff,Nat.reduceLT,zH,zC,zA,zT,qbP,aB_eql,N_eql,Nat.reduceLT,Nat.reduceEqDiff,Nat.reduceAdd,zT,zu,zf,qax,qay,zI,qaZ,qc8,guardO_true,qb3,qbE,touch_ld,qaP,za,zY,zz,z6,z0,ordOk,qbv,zw,zx,Nat.testBit,Nat.reduceShiftRight,Nat.reduceAnd,Nat.reduceBEq,zf,zu,z7,zh,Nat.reduceSub,Nat.reduceLT,bne,qbN,qcp,qbI,qdk,zh,qbo,qal,hs,qal,qbo]
    | true =>
      have hadd:=fun (e:EqT)=>ix_neg z n (by omega) (by omega) (by simpa using hsg) e
      simp (disch:=first|omega|decide|simp only[qai,qag,qak,qaj,qah,qae,qac,qad,qan]) only[qbb,qba,qau,qao,qap,qam,qaf,qaS,qbA,qaq,qa7,qaz,qaI,qar,qbq,qaF,qbr,qaB,op_un,qa1,qaT,qaa,qaw,qaY,qat,zK,zL,zN,zO,zG,zF,zP,zV,qa5,zy,zJ,zM,qcU,Nat.reduceAdd,Nat.reduceSub,qab,qaX,qbR,qbt,qbf,zD,Nat.reduceEqDiff,zH,zC,zA,zB,zE,zT,zQ,qbH,qbm,zE,zB,N_neq,qa2,N_gtr,decide_not,Nat.reduceEqDiff,Nat.reduceAdd,zQ,zT,zf,qbi,qaV,qbD,qax,qaM,qay,qa0,qaZ,List.getElem?_cons_zero,List.getElem?_cons_succ,zf,Nat.reduceSub,qal,qcZ,qcD,List.getElem?_cons_zero,List.getElem?_cons_succ,L4,hlv,hbc,e1,e2,hrem,I_lssN,hsg,hadd,qal]
      rw[path_call (k+3899) _ n (ix z n) _ (4,0) l hl hn hlt (by simp only[qab,zD,Nat.reduceEqDiff,zH,zC,zA])]
      simp (disch:=first|omega|decide|simp only[qai,qag,qak,qaj,qah,qae,qac,qad,qan]) only[qau,qao,qap,qam,qaf,qaq,qaz,qaI,qaF,qa1,qaT,qaa,zK,zL,zN,zO,zG,zF,zJ,zM,Nat.reduceAdd,zB,zE,zE,zB,Nat.reduceAdd,qax,qaM,qay,qa0,qal,qal]
      rw[tp_root (k+3499) _ _ (38,0) l n (ix z n) hl hn hlt (by simp only[qab,zD,Nat.reduceEqDiff,zH,zC,zA])]
      simp (disch:=first|omega|decide|simp only[qai,qag,qak,qaj,qah,qae,qac,qad,qan]) only[qau,qao,qap,qam,qaf,qaq,qa7,qaz,qaI,qar,qaF,qa1,qaT,qaa,zK,zL,zN,zO,zG,zF,zS,zW,zP,zR,zJ,zM,Nat.reduceAdd,Nat.reduceSub,qab,qaX,qaQ,qb6,op_ld,qbR,qbt,qbf,zw,zx,zh,zD,Nat.reduceEqDiff,Nat.reduceLT,zH,zC,zA,zB,zE,zT,qbP,qbm,qbF,zE,zB,qbO,qaO,Nat.reduceLT,Nat.reduceEqDiff,Nat.reduceAdd,zT,zu,zf,qb7,qbC,qax,qaM,qay,qa0,qaZ,List.getElem?_cons_zero,List.getElem?_cons_succ,qbz,qb3,qbE,touch_ld,qcL,nms_fn,qaP,za,zY,zz,z6,z0,ordOk,qbv,zw,zx,Nat.testBit,Nat.reduceShiftRight,Nat.reduceAnd,zf,zu,z7,zh,Nat.reduceSub,Nat.reduceLT,bne,qbN,qcp,trimO_f,qbI,qdk,qcv,zh,qbo,qal,qcZ,qcD,List.getElem?_cons_zero,List.getElem?_cons_succ,qbC,hld,qaK,ipts_nmsB,qal,qbo]
      rw[reach_path (r:=(38,0)) (L:=pth l n (ix z n)) (by simp only[qab,zD,Nat.reduceEqDiff,zH,zC,zA])]
      rw[tp_check (k+2799) _ _ (38,0) l n (ix z n) (lfF l (ix z n)) hl hn hlt (by simp only[qab,zD,Nat.reduceEqDiff,zH,zC,zA,qbE,za,zY,zz,z0]) (lb_lfF hl hlt).symm]
      simp (disch:=first|omega|decide|simp only[qai,qag,qak,qaj,qah,qae,qac,qad,qan]) only[qbp,qap,qam,qaf,qaS,qcC,qaq,qaz,qaI,qar,qb0,qaF,qbr,qaB,qaa,qbg,qbl,zK,zL,zN,zO,zF,qct,zI,Nat.reduceAdd,Nat.reduceSub,qab,qaQ,qb6,op_ld,zw,zx,zh,zD,Nat.reduceEqDiff,Nat.reduceLT,zH,zC,zA,zT,qbP,aB_eql,N_eql,Nat.reduceLT,Nat.reduceEqDiff,Nat.reduceAdd,zT,zu,zf,qax,qay,zI,qaZ,qc8,guardO_true,qb3,qbE,touch_ld,qaP,za,zY,zz,z6,z0,ordOk,qbv,zw,zx,Nat.testBit,Nat.reduceShiftRight,Nat.reduceAnd,Nat.reduceBEq,zf,zu,z7,zh,Nat.reduceSub,Nat.reduceLT,bne,qbN,qcp,qbI,qdk,zh,qbo,qal,hs,qal,qbo]
  · have hbc := fun (b : Nat) (H : Heap) => build_call_noA (k + 1999) b H l n hn hb
    by_cases h1:n < 1
    · simp (disch:=first|omega|decide|simp only[qai,qag,qak,qaj,qah,qae,qac,qad,qan]) only[qbb,qba,qbp,qau,qao,qap,qam,qaf,qaS,qcO,qaq,qa7,qaz,qaI,qar,qb0,qaF,qbr,qaB,op_un,qa1,qaT,qaa,qbQ,qaw,qaY,qat,qbg,qbl,zK,zL,zN,zO,zG,zF,zP,zV,qa5,zy,zJ,zM,qcU,qct,zI,Nat.reduceAdd,Nat.reduceSub,qab,qaX,qbR,qbt,qbf,zC,zB,zE,zT,qbH,qbm,zE,zB,N_eql,qa2,Nat.reduceAdd,zT,zf,qbi,qaV,qbD,qax,qaM,qay,qa0,zI,qaZ,List.getElem?_cons_zero,List.getElem?_cons_succ,zf,Nat.reduceSub,qal,qcZ,qcD,List.getElem?_cons_zero,List.getElem?_cons_succ,L4,hlv,hbc,h1,qal]
    · have h2 : 4096 < n := by omega
      simp (disch:=first|omega|decide|simp only[qai,qag,qak,qaj,qah,qae,qac,qad,qan]) only[qbb,qba,qbp,qau,qao,qap,qam,qaf,qaS,qbA,qaq,qa7,qaz,qaI,qar,qbq,qaF,qbr,qaB,op_un,qa1,qaT,qaa,qbQ,qaw,qaY,qat,qbg,qbl,zK,zL,zN,zO,zG,zF,zP,zV,qa5,zy,zJ,zM,qcU,qct,zI,Nat.reduceAdd,Nat.reduceSub,qab,qaX,qbR,qbt,qbf,zC,zB,zE,zT,zQ,qbH,qbm,zE,zB,N_eql,qa2,N_gtr,Nat.reduceAdd,zQ,zT,zf,qbi,qaV,qbD,qax,qaM,qay,qa0,zI,qaZ,List.getElem?_cons_zero,List.getElem?_cons_succ,zf,Nat.reduceSub,qal,qcZ,qcD,List.getElem?_cons_zero,List.getElem?_cons_succ,L4,hlv,hbc,h1,h2,qal]
end Sha
namespace Sha
open Go Go.LE
theorem ext_getD {a b:List (BitVec 8)} (h:a.length=b.length) (e:∀ p,p < a.length→a.getD p 0#8=b.getD p 0#8):a=b:=by
  apply List.ext_getElem h
  intro i h1 h2
  have:=e i h1
  rwa [List.getD_eq_getElem?_getD,List.getD_eq_getElem?_getD,List.getElem?_eq_getElem h1,List.getElem?_eq_getElem h2] at this
def setL (l:List (BitVec 8)) (i:Nat) (x:List (BitVec 8)):List (BitVec 8):=l.take (32*i)++x++l.drop (32*i+32)
theorem setL_length {l x:List (BitVec 8)} {n i:Nat} (hl:l.length=32*n) (hi:i < n) (hx:x.length=32):(setL l i x).length=32*n:=by
  simp only[setL,zzI,zzJ,zzG]; omega
theorem splice_getD (b x:List (BitVec 8)) (lo:Nat) (h:lo+32≤b.length) (hx:x.length=32) (p:Nat) :
    (b.take lo++x++b.drop (lo+32)).getD p 0#8=if lo≤p∧p < lo+32 then x.getD (p - lo) 0#8 else b.getD p 0#8:=by
  have ht:(b.take lo).length=lo:=by rw[zzJ]; omega
  simp only[List.append_assoc,List.getD_eq_getElem?_getD]
  rw[List.getElem?_append]
  by_cases h1:p < lo
  · rw[if_pos (by omega),if_neg (by omega),List.getElem?_take,if_pos h1]
  · rw [if_neg (by omega), ht, List.getElem?_append, hx]
    by_cases h2:p < lo+32
    · rw[if_pos (by omega),if_pos (by omega)]
    · rw [if_neg (by omega), if_neg (by omega), List.getElem?_drop]
      congr 2; omega
theorem setL_getD {l x:List (BitVec 8)} {n i:Nat} (hl:l.length=32*n) (hi:i < n) (hx:x.length=32) (p:Nat) :
    (setL l i x).getD p 0#8=if 32*i≤p∧p < 32*i+32 then x.getD (p - 32*i) 0#8 else l.getD p 0#8:=splice_getD l x (32*i) (by omega) hx p
theorem putC_getD {b x:List (BitVec 8)} (hb:b.length=512) (hx:x.length=32) (j p:Nat) :
    (putC b j x).getD p 0#8=if 32*(j % 16)≤p∧p < 32*(j % 16)+32 then x.getD (p - 32*(j % 16)) 0#8 else b.getD p 0#8:=splice_getD b x (32*(j % 16)) (by omega) hx p
theorem nd_getD (l:List (BitVec 8)) (t p:Nat) (hp:p < 512):(Ab.nd l t).getD p 0#8=l.getD (512*t+p) 0#8:=by
  rw[Ab.nd,Ab.pad,Ab.pli,List.getD_eq_getElem?_getD,List.getD_eq_getElem?_getD,List.getElem?_append]
  split
  · rename_i h
    rw[List.getElem?_take,if_pos hp,List.getElem?_drop]
  · rename_i h
    rw[zzJ,zzG] at h
    rw[show l[512*t+p]? = none from List.getElem?_eq_none (by omega)]
    cases hq:(List.replicate (512 - ((l.drop (512*t)).take 512).length) 0#8)[p - ((l.drop (512*t)).take 512).length]? with
    | none=>rfl
    | some v =>
      have:=List.mem_of_getElem? hq
      rw[List.mem_replicate] at this
      rw[this.2]; rfl
theorem lf_getD (l:List (BitVec 8)) (t p:Nat) (hp:p < 32):(lf l t).getD p 0#8=l.getD (32*t+p) 0#8:=by
  rw[lf,List.getD_eq_getElem?_getD,List.getD_eq_getElem?_getD,List.getElem?_take,if_pos hp,List.getElem?_drop]
theorem nd_len {l:List (BitVec 8)} {n:Nat} (hl:l.length=32*n) (i:Nat):(Ab.nd l i).length=512:=nd_length hl i
theorem nd_set {l x:List (BitVec 8)} {n i:Nat} (hl:l.length=32*n) (hi:i < n) (hx:x.length=32):Ab.nd (setL l i x) (i / 16)=putC (Ab.nd l (i / 16)) i x:=by
  have h2:=nd_len hl (i / 16)
  apply ext_getD
  · rw[nd_len (setL_length hl hi hx),putC_length h2 hx]
  · intro p hp
    rw[nd_len (setL_length hl hi hx)] at hp
    rw[nd_getD _ _ _ hp,setL_getD hl hi hx,putC_getD h2 hx,nd_getD _ _ _ hp]
    by_cases h:32*(i % 16)≤p∧p < 32*(i % 16)+32
    · rw [if_pos h, if_pos (by omega)]
      congr 1; omega
    · rw[if_neg h,if_neg (by omega)]
theorem nd_other {l x:List (BitVec 8)} {n i:Nat} (hl:l.length=32*n) (hi:i < n) (hx:x.length=32) (t:Nat) (ht:t≠i / 16):Ab.nd (setL l i x) t=Ab.nd l t:=by
  apply ext_getD
  · rw[nd_len (setL_length hl hi hx),nd_len hl]
  · intro p hp
    rw[nd_len (setL_length hl hi hx)] at hp
    rw[nd_getD _ _ _ hp,setL_getD hl hi hx,nd_getD _ _ _ hp,if_neg (by omega)]
theorem dgs_getD (j:Nat) (l:List (BitVec 8)) (m p:Nat) (hp:p < 32*m):(dgs j l m).getD p 0#8=(dl (nodeB j (Ab.nd l (p / 32)))).getD (p % 32) 0#8:=by
  have:=lf_getD (dgs j l m) (p / 32) (p % 32) (Nat.mod_lt _ (by omega))
  rw[dgs_lf _ _ _ _ (by omega)] at this
  rw[this]
  congr 1; omega
theorem dgs_set {l x:List (BitVec 8)} {n i m:Nat} (hl:l.length=32*n) (hi:i < n) (hx:x.length=32) (j:Nat) (hm:i / 16 < m) :
    dgs j (setL l i x) m=setL (dgs j l m) (i / 16) (dl (nodeB j (putC (Ab.nd l (i / 16)) i x))):=by
  have hd:=dgs_length j l m
  apply ext_getD
  · rw[dgs_length,setL_length hd hm (dl_length _)]
  · intro p hp
    rw[dgs_length] at hp
    rw[dgs_getD _ _ _ _ hp,setL_getD hd hm (dl_length _),dgs_getD _ _ _ _ hp]
    by_cases h:p / 32=i / 16
    · rw [if_pos (by omega), h, nd_set hl hi hx]
      congr 1; omega
    · rw[if_neg (by omega),nd_other hl hi hx _ h]
theorem lay_set {l:List (BitVec 8)} {n i:Nat} (hl:l.length=32*n) (hi:i < n) (leaf:Nat→BitVec 8) (k:Nat) (hk:k≤nl n+1) :
    lay (setL l i (lb32 leaf)) n k=setL (lay l n k) (i / 16 ^ k) (lb32 (chD i leaf (pth l n i) k)):=by
  induction k with
  | zero=>rw[Nat.pow_zero,Nat.div_one]; rfl
  | succ k ih =>
    have hll:=lay_length hl k
    have hlt:=cn_div hi k
    have hlt2:=cn_div hi (k+1)
    have hdv:i / 16 ^ k / 16=i / 16 ^ (k+1):=by rw[Nat.div_div_eq_div_mul,Nat.pow_succ]
    rw[lay,ih (by omega),dgs_set hll hlt (lb32_length _) k (by rw[hdv]; exact hlt2),hdv,lay,chD_succ,chN,pth_getD _ _ _ _ (by omega)]
    rfl
theorem chL_pth {l:List (BitVec 8)} {n i:Nat} (hl:l.length=32*n) (hi:i < n) (leaf:Nat→BitVec 8):chL i leaf (pth l n i) (nl n+1)=pth (setL l i (lb32 leaf)) n i:=by
  simp only[chL,pth]
  apply List.map_congr_left
  intro k hk
  rw[List.mem_range] at hk
  have hdv:i / 16 ^ k / 16=i / 16 ^ (k+1):=by rw[Nat.div_div_eq_div_mul,Nat.pow_succ]
  have h:=nd_set (lay_length hl k) (cn_div hi k) (lb32_length (chD i leaf (pth l n i) k))
  rw[hdv] at h
  show chN i leaf (pth l n i) k=_
  rw[lay_set hl hi leaf k (by omega),h,chN,pth_getD _ _ _ _ (by omega)]
theorem lay_other {l:List (BitVec 8)} {n i:Nat} (hl:l.length=32*n) (hi:i < n) (leaf:Nat→BitVec 8) (k:Nat) (hk:k≤nl n) (t:Nat) (ht:t≠i / 16 ^ (k+1)) :
    Ab.nd (lay (setL l i (lb32 leaf)) n k) t=Ab.nd (lay l n k) t:=by
  have hdv:i / 16 ^ k / 16=i / 16 ^ (k+1):=by rw[Nat.div_div_eq_div_mul,Nat.pow_succ]
  rw[lay_set hl hi leaf k (by omega),nd_other (lay_length hl k) (cn_div hi k) (lb32_length _) t (by rw[hdv]; exact ht)]
theorem lf_set {l:List (BitVec 8)} {n i:Nat} (hl:l.length=32*n) (hi:i < n) (leaf:Nat→BitVec 8):lf (setL l i (lb32 leaf)) i=lb32 leaf:=by
  have h1:=lf_length (setL_length hl hi (lb32_length leaf)) hi
  apply ext_getD
  · rw[h1,lb32_length]
  · intro p hp
    rw[h1] at hp
    rw[lf_getD _ _ _ hp,setL_getD hl hi (lb32_length leaf),if_pos (by omega)]
    congr 1; omega
end Sha
namespace Sha
open Go Go.LE
theorem tp_change (k b:Nat) (H:Heap) (r:Nm) (l:List (BitVec 8)) (n j:Nat) (leaf:Nat→BitVec 8) (hl:l.length=32*n) (hn:1≤n∧n≤4096) (hj:j < n) (h:H r=some (sls (pth l n j))) :
    qb1 (envC C (k + 2000)) H b 24 [N n, N j, .agg (aB 32 leaf), .sl r 0 (nl n + 1) none 1] =
      some ⟨.tup [.sl (b,0) 0 (nl n+1) none 1,.agg (aB 32 (buildR (setL l j (lb32 leaf)) n)),N 0],[sls (pth (setL l j (lb32 leaf)) n j)],[(r,some (sls (pth l n j)))]⟩:=by
  have hr:reach H FUEL [] [r]=[r]:=reach_path h
  have hl':lend H ((envC C (k+2000)).borrow 24) 0 [N n,N j,.agg (aB 32 leaf),.sl r 0 (nl n+1) none 1]=some ([N n,N j,.agg (aB 32 leaf),.sl r 0 (nl n+1) none 1],[]):=rfl
  have hlp:=pth_length l n j
  have hF:=change_okB k n j leaf (pth l n j) (pth_right hl hn j) hj (pth_joined hl hj)
  rw[hlp,chL_pth hl hj leaf,pth_root (setL_length hl hj (lb32_length leaf)) hn hj] at hF
  rw[callOp_L,hl',callL_some]
  rw[show ([N n,N j,.agg (aB 32 leaf),LV.sl r 0 (nl n+1) none 1]:List LV).flatMap (nms D)=[r] by simp only[zS,zW]; rfl,hr,callN_eq _ _ _ _ _ rfl]
  rw[show ([r]:List Nm).filterMap H=[sls (pth l n j)] by simp[h]]
  have ha:([N n,N j,.agg (aB 32 leaf),LV.sl r 0 (nl n+1) none 1]:List LV).map (ren D (qc7 [r]))=[N n,N j,.agg (aB 32 leaf),.sl (0,0) 0 (nl n+1) none 1]:=by
    simp only[zG,zF,qbk,toCallee_eq,idx,zC,zI,qbX,qbM]
    rfl
  rw[ha,zG,zF,sls_renD,envC_cal,hF,show ([]:List Nm).isEmpty=true from rfl,resK_sc]
  simp only[qc9,zG,zF,sls_renD,List.zipWith_cons_cons,List.zipWith_nil_left,zI]
  rw[tup3_ren _ (1,0) (b,0) _ _ _ _ _ (toCaller_1 _ _ _ _ (by simp))]
theorem app_leaves (b:Nat) (H:Heap) (a:Nm) (l:List (BitVec 8)) (n:Nat) (hl:l.length=32*n) (h0:0 < n) (hb:n*32≤211106232532992) (h:H a=some []) :
    appX b 32 32 n H [] (bs l) (.sl a 0 0 (some 0) 32)=some ⟨.sl (b,0) 0 n none 32,[bs l],[]⟩:=by
  have hf:front H 32 0 (.sl a 0 0 (some 0) 32)=some []:=by
    first | rfl | (simp only[front,h]; rfl)
  rw[appX,if_pos ⟨rfl,by omega,rfl⟩,if_neg (by omega),hf]
  simp only[zB,zP]
theorem st_leaf (l:List (BitVec 8)) (n j:Nat) (f:Nat→BitVec 8) (m:Nm) (hl:l.length=32*n) (hj:j < n) :
    stK 32 (j*32) m (some (aB 32 f)) (some (bs l))=some ⟨Un,[],[(m,some (bs (setL l j (lb32 f))))]⟩:=by
  rw[stK_some,if_pos ⟨by simp[aB,arr],by rw[qag]; omega,qaj _ _⟩]
  have:qb2 (bs l) (j*32) (aB 32 f)=bs (setL l j (lb32 f)):=by
    rw[show aB 32 f=bs (lb32 f) from aB_bs 32 f]
    simp only[qb2,qag,lb32_length,bs_take,bs_drop,setL,bs_append,Nat.mul_comm j 32]
  rw[this]
end Sha
namespace Sha
open Go Go.LE
theorem front_leaves (H:Heap) (l:List (BitVec 8)) (n:Nat) (hl:l.length=32*n):front H 32 n (.isl (bs l) n)=some (bs l):=by
  rw[front_isl _ _ _ _ (Nat.le_refl _) (by rw[qag]; omega),List.take_of_length_le (by rw[qag]; omega)]
set_option maxRecDepth 20000 in
theorem treeChanges_F (k:Nat) (l:List (BitVec 8)) (n:Nat) (hl:l.length=32*n) (hb:n < 9000000000000) (z:Int) (leaf:Nat→BitVec 8) :
    F C (k+4000) 9 [.isl (bs l) n,I z,.agg (aB 32 leaf)] []=some (Bo true,[],[]):=by
  rw[qch f9]
  have hlv:=fun (b:Nat) (H:Heap)=>lives_call (k+999) b H
  by_cases hn:1≤n∧n≤4096
  · have hbc := fun (b : Nat) (H : Heap) => build_callA (k + 1999) b H l n hl hn
    have e1:¬ n < 1:=by omega
    have e2:¬ 4096 < n:=by omega
    have hrem:=fun (e:EqT)=>rem_ix e z n (by omega)
    have hlt:=ix_lt z n (by omega)
    have hn2:=nl_le n
    have hl2:=setL_length hl hlt (lb32_length leaf)
    have hld:=fun (H:Heap)=>ld_leafI H l n (ix z n) hl hlt
    have hfr:=fun (H:Heap)=>front_leaves H l n hl
    have hst:=fun (m:Nm)=>st_leaf l n (ix z n) leaf m hl hlt
    have hs:=aB_self 32 (buildR l n)
    have hs2:=aB_self 32 (buildR (setL l (ix z n) (lb32 leaf)) n)
    cases hsg:decide (ixR z n < ((0:Nat):Int)) with
    | false =>
      have hpos:=ix_pos z n (by simpa using hsg)
      simp (disch:=first|omega|decide|simp only[qai,qag,qak,qaj,qah,qae,qac,qad,qan]) only[qbb,qba,qau,qao,qap,qam,qaf,qaS,qbA,qaq,qa7,qaz,qaI,qar,qbq,qaF,qbr,qaB,op_un,qa1,qaT,qaa,qaw,qat,zK,zL,zN,zO,zG,zF,zP,zV,qa5,zy,zJ,zM,qcU,Nat.reduceAdd,Nat.reduceSub,qab,qaX,qbR,op_box,qcg,qbt,qbf,zD,Nat.reduceEqDiff,zH,zC,zA,zB,zE,zT,zQ,qbH,qbm,zE,zB,N_neq,qa2,N_gtr,decide_not,Nat.reduceEqDiff,Nat.reduceAdd,zQ,zT,zf,qbi,qaV,qbD,qax,qaM,qay,qa0,qaZ,List.getElem?_cons_zero,List.getElem?_cons_succ,zf,Nat.reduceSub,qal,qcZ,qcD,List.getElem?_cons_zero,List.getElem?_cons_succ,L9,hlv,hbc,e1,e2,hrem,hpos,Nat.not_lt_zero,zQ,qal]
      rw[path_call (k+3899) _ n (ix z n) _ (5,0) l hl hn hlt (by simp only[qab,zD,Nat.reduceEqDiff,zH,zC,zA])]
      simp (disch:=first|omega|decide|simp only[qai,qag,qak,qaj,qah,qae,qac,qad,qan]) only[qau,qao,qap,qam,qaf,qaq,qaz,qaI,qaF,qa1,qaT,qaa,zK,zL,zN,zO,zG,zF,zJ,zM,Nat.reduceAdd,qab,qaQ,qb6,op_ld,zD,Nat.reduceEqDiff,zH,zC,zA,zB,zE,qbP,zE,zB,Nat.reduceEqDiff,Nat.reduceAdd,qax,qaM,qay,qa0,qaZ,qal,qal]
      rw[tp_change (k+1999) _ _ (37,0) l n (ix z n) leaf hl hn hlt (by simp only[qab,zD,Nat.reduceEqDiff,zH,zC,zA])]
      simp (disch:=first|omega|decide|simp only[qai,qag,qak,qaj,qah,qae,qac,qad,qan]) only[qau,qao,qap,qam,qaf,qaq,qa7,qaz,qar,qaF,qaa,zK,zL,zN,zO,zF,zJ,zM,Nat.reduceAdd,qab,qaX,qbR,qbt,qbf,qbW,zD,Nat.reduceEqDiff,zH,zC,zA,zB,zE,qbm,zE,zB,Nat.reduceEqDiff,Nat.reduceAdd,qcT,qb8,qb9,qcb,qbK,qbw,qax,qaM,qay,qa0,qaZ,List.getElem?_cons_zero,List.getElem?_cons_succ,qal,qcZ,qcD,List.getElem?_cons_zero,List.getElem?_cons_succ,hfr,qal]
      rw[app_leaves _ _ (52,0) l n hl (by omega) (by omega) (by simp only[qab,zD,Nat.reduceEqDiff,zH,zC,zA])]
      simp (disch:=first|omega|decide|simp only[qai,qag,qak,qaj,qah,qae,qac,qad,qan]) only[qau,qao,qap,qam,qaf,qaq,qa7,qaz,qaI,qar,qaF,qa1,qaT,qaa,zK,zL,zN,zO,zG,zF,zJ,zM,Nat.reduceAdd,qab,qaX,qaQ,qb6,op_ld,qbt,qbf,zD,Nat.reduceEqDiff,zH,zC,zA,zB,zE,qbP,zE,zB,qbO,Nat.reduceEqDiff,Nat.reduceAdd,qb7,qbG,qax,qaM,qay,qa0,qaZ,qal,qbG,hst,qal]
      rw[build_callB (k+1999) _ _ (54,0) (setL l (ix z n) (lb32 leaf)) n none hl2 hn (by simp only[qab,zD,Nat.reduceEqDiff,zH,zC,zA])]
      simp (disch:=first|omega|decide|simp only[qai,qag,qak,qaj,qah,qae,qac,qad,qan]) only[qau,qao,qap,qam,qaf,qaS,qbA,qaq,qa7,qaz,qaI,qar,qbq,qaF,qbr,qaB,qa1,qaT,qaa,zK,zL,zN,zO,zG,zF,zJ,zM,Nat.reduceAdd,qab,qaX,qaQ,qb6,op_ld,qbR,qbt,qbf,zD,Nat.reduceEqDiff,zH,zC,zA,zB,zE,zT,qbP,qbm,zE,zB,N_neq,decide_not,Nat.reduceEqDiff,Nat.reduceAdd,zT,zf,qax,qaM,qay,qa0,qaZ,List.getElem?_cons_zero,List.getElem?_cons_succ,zf,qal,qcZ,qcD,List.getElem?_cons_zero,List.getElem?_cons_succ,aB_neq,hs2,qal]
      rw[path_call (k+3899) _ n (ix z n) _ (62,0) (setL l (ix z n) (lb32 leaf)) hl2 hn hlt (by simp only[qab,zD,Nat.reduceEqDiff,zH,zC,zA])]
      simp (disch:=first|omega|decide|simp only[qai,qag,qak,qaj,qah,qae,qac,qad,qan]) only[qaS,qbA,qaq,qaz,qaI,qa1,qaT,zK,zL,zN,zO,zG,zF,Nat.reduceAdd,zB,zB,Nat.reduceAdd,qax,qaM,qay,qa0,qal,qal]
      rw[same_call (k+1999) _ _ _ _ (pth (setL l (ix z n) (lb32 leaf)) n (ix z n)) (pth (setL l (ix z n) (lb32 leaf)) n (ix z n)) (by rw[pth_length]; omega) (by rw[pth_length]; omega) (path_sl _ (43,0) none _ (nl n+1) (pth_length _ _ _) (by omega) (by simp only[qab,zD,Nat.reduceEqDiff,zH,zC,zA])) (path_sl _ (86,0) none _ (nl n+1) (pth_length _ _ _) (by omega) (by simp only[qab,zD,Nat.reduceEqDiff,zH,zC,zA])),decide_eq_true rfl]
      simp (disch:=first|omega|decide|simp only[qai,qag,qak,qaj,qah,qae,qac,qad,qan]) only[qba,qau,qao,qap,qam,qaf,qaS,qbA,qaq,qaz,qaI,qar,qbq,qaF,qbr,op_un,qa1,qaT,qaa,qaw,qat,zK,zL,zN,zO,zG,zF,zS,zW,zP,zR,zJ,zM,qcU,Nat.reduceAdd,Nat.reduceSub,qab,qaQ,qb6,op_ld,zw,zx,zh,zD,Nat.reduceEqDiff,Nat.reduceLT,zH,zC,zA,zB,zE,zT,qbP,qbF,zE,zB,qbO,qaO,Nat.reduceLT,Nat.reduceEqDiff,Nat.reduceAdd,zT,zu,zf,qb7,qbC,qax,qay,qaZ,qbz,qb3,qbE,touch_ld,qcL,nms_fn,qaP,za,zY,zz,z6,z0,ordOk,qbv,zw,zx,Nat.testBit,Nat.reduceShiftRight,Nat.reduceAnd,zf,zu,z7,zh,Nat.reduceSub,Nat.reduceLT,bne,qbN,qcp,trimO_f,qbI,qdk,qcv,zh,qbo,qal,qaK,qbC,hld,ipts_nmsB,qal,qbo]
      rw[reach_path (r:=(37,0)) (L:=pth l n (ix z n)) (by simp only[qab,zD,Nat.reduceEqDiff,zH,zC,zA])]
      rw[tp_check (k+2799) _ _ (37,0) l n (ix z n) (lfF l (ix z n)) hl hn hlt (by simp only[qab,zD,Nat.reduceEqDiff,zH,zC,zA,qbE,za,zY,zz,z0]) (lb_lfF hl hlt).symm]
      simp (disch:=first|omega|decide|simp only[qai,qag,qak,qaj,qah,qae,qac,qad,qan]) only[qaf,qaS,qcC,qaq,qaz,qaI,qar,qaF,qaB,qa1,qaT,zK,zL,zN,zO,zG,zF,zS,zW,zP,zR,Nat.reduceAdd,Nat.reduceSub,qab,qaQ,qb6,op_ld,zw,zx,zh,zD,Nat.reduceEqDiff,Nat.reduceLT,zH,zC,zA,zT,qbP,qbF,N_eql,qaO,Nat.reduceLT,Nat.reduceEqDiff,Nat.reduceAdd,zT,zu,zf,qax,qay,qaZ,qc8,guardO_true,qb3,qbE,touch_ld,qcL,nms_fn,qaP,za,zY,zz,z6,z0,ordOk,qbv,zw,zx,Nat.testBit,Nat.reduceShiftRight,Nat.reduceAnd,Nat.reduceBEq,zf,zu,z7,zh,Nat.reduceSub,Nat.reduceLT,bne,qbN,qcp,trimO_f,qbI,qdk,qcv,zh,qbo,qal,qaK,qal,qbo]
      rw[reach_path (r:=(43,0)) (L:=pth (setL l (ix z n) (lb32 leaf)) n (ix z n)) (by simp only[qab,zD,Nat.reduceEqDiff,zH,zC,zA])]
      rw[tp_check (k+2799) _ _ (43,0) (setL l (ix z n) (lb32 leaf)) n (ix z n) leaf hl2 hn hlt (by simp only[qab,zD,Nat.reduceEqDiff,zH,zC,zA,qbE,za,zY,zz,z0]) (lf_set hl hlt leaf)]
      simp (disch:=first|omega|decide|simp only[qai,qag,qak,qaj,qah,qae,qac,qad,qan]) only[qbp,qap,qam,qaf,qaS,qcC,qaq,qaz,qaI,qar,qb0,qaF,qbr,qaB,qaa,qbg,qbl,zK,zL,zN,zO,zF,qct,zI,Nat.reduceAdd,Nat.reduceSub,zw,zx,zh,Nat.reduceLT,zC,zT,N_eql,Nat.reduceLT,Nat.reduceAdd,zT,zu,qax,qay,zI,za,zY,z6,z0,ordOk,qbv,zw,zx,Nat.testBit,Nat.reduceShiftRight,Nat.reduceAnd,Nat.reduceBEq,zu,z7,zh,Nat.reduceSub,Nat.reduceLT,bne,zh,qbo,qal,qal,qbo]
    | true =>
      have hadd:=fun (e:EqT)=>ix_neg z n (by omega) (by omega) (by simpa using hsg) e
      simp (disch:=first|omega|decide|simp only[qai,qag,qak,qaj,qah,qae,qac,qad,qan]) only[qbb,qba,qau,qao,qap,qam,qaf,qaS,qbA,qaq,qa7,qaz,qaI,qar,qbq,qaF,qbr,qaB,op_un,qa1,qaT,qaa,qaw,qaY,qat,zK,zL,zN,zO,zG,zF,zP,zV,qa5,zy,zJ,zM,qcU,Nat.reduceAdd,Nat.reduceSub,qab,qaX,qbR,op_box,qcg,qbt,qbf,zD,Nat.reduceEqDiff,zH,zC,zA,zB,zE,zT,zQ,qbH,qbm,zE,zB,N_neq,qa2,N_gtr,decide_not,Nat.reduceEqDiff,Nat.reduceAdd,zQ,zT,zf,qbi,qaV,qbD,qax,qaM,qay,qa0,qaZ,List.getElem?_cons_zero,List.getElem?_cons_succ,zf,Nat.reduceSub,qal,qcZ,qcD,List.getElem?_cons_zero,List.getElem?_cons_succ,L9,hlv,hbc,e1,e2,hrem,I_lssN,hsg,hadd,qal]
      rw[path_call (k+3899) _ n (ix z n) _ (5,0) l hl hn hlt (by simp only[qab,zD,Nat.reduceEqDiff,zH,zC,zA])]
      simp (disch:=first|omega|decide|simp only[qai,qag,qak,qaj,qah,qae,qac,qad,qan]) only[qau,qao,qap,qam,qaf,qaq,qaz,qaI,qaF,qa1,qaT,qaa,zK,zL,zN,zO,zG,zF,zJ,zM,Nat.reduceAdd,qab,qaQ,qb6,op_ld,zD,Nat.reduceEqDiff,zH,zC,zA,zB,zE,qbP,zE,zB,Nat.reduceEqDiff,Nat.reduceAdd,qax,qaM,qay,qa0,qaZ,qal,qal]
      rw[tp_change (k+1999) _ _ (41,0) l n (ix z n) leaf hl hn hlt (by simp only[qab,zD,Nat.reduceEqDiff,zH,zC,zA])]
      simp (disch:=first|omega|decide|simp only[qai,qag,qak,qaj,qah,qae,qac,qad,qan]) only[qau,qao,qap,qam,qaf,qaq,qa7,qaz,qar,qaF,qaa,zK,zL,zN,zO,zF,zJ,zM,Nat.reduceAdd,qab,qaX,qbR,qbt,qbf,qbW,zD,Nat.reduceEqDiff,zH,zC,zA,zB,zE,qbm,zE,zB,Nat.reduceEqDiff,Nat.reduceAdd,qcT,qb8,qb9,qcb,qbK,qbw,qax,qaM,qay,qa0,qaZ,List.getElem?_cons_zero,List.getElem?_cons_succ,qal,qcZ,qcD,List.getElem?_cons_zero,List.getElem?_cons_succ,hfr,qal]
      rw[app_leaves _ _ (56,0) l n hl (by omega) (by omega) (by simp only[qab,zD,Nat.reduceEqDiff,zH,zC,zA])]
      simp (disch:=first|omega|decide|simp only[qai,qag,qak,qaj,qah,qae,qac,qad,qan]) only[qau,qao,qap,qam,qaf,qaq,qa7,qaz,qaI,qar,qaF,qa1,qaT,qaa,zK,zL,zN,zO,zG,zF,zJ,zM,Nat.reduceAdd,qab,qaX,qaQ,qb6,op_ld,qbt,qbf,zD,Nat.reduceEqDiff,zH,zC,zA,zB,zE,qbP,zE,zB,qbO,Nat.reduceEqDiff,Nat.reduceAdd,qb7,qbG,qax,qaM,qay,qa0,qaZ,qal,qbG,hst,qal]
      rw[build_callB (k+1999) _ _ (58,0) (setL l (ix z n) (lb32 leaf)) n none hl2 hn (by simp only[qab,zD,Nat.reduceEqDiff,zH,zC,zA])]
      simp (disch:=first|omega|decide|simp only[qai,qag,qak,qaj,qah,qae,qac,qad,qan]) only[qau,qao,qap,qam,qaf,qaS,qbA,qaq,qa7,qaz,qaI,qar,qbq,qaF,qbr,qaB,qa1,qaT,qaa,zK,zL,zN,zO,zG,zF,zJ,zM,Nat.reduceAdd,qab,qaX,qaQ,qb6,op_ld,qbR,qbt,qbf,zD,Nat.reduceEqDiff,zH,zC,zA,zB,zE,zT,qbP,qbm,zE,zB,N_neq,decide_not,Nat.reduceEqDiff,Nat.reduceAdd,zT,zf,qax,qaM,qay,qa0,qaZ,List.getElem?_cons_zero,List.getElem?_cons_succ,zf,qal,qcZ,qcD,List.getElem?_cons_zero,List.getElem?_cons_succ,aB_neq,hs2,qal]
      rw[path_call (k+3899) _ n (ix z n) _ (66,0) (setL l (ix z n) (lb32 leaf)) hl2 hn hlt (by simp only[qab,zD,Nat.reduceEqDiff,zH,zC,zA])]
      simp (disch:=first|omega|decide|simp only[qai,qag,qak,qaj,qah,qae,qac,qad,qan]) only[qaS,qbA,qaq,qaz,qaI,qa1,qaT,zK,zL,zN,zO,zG,zF,Nat.reduceAdd,zB,zB,Nat.reduceAdd,qax,qaM,qay,qa0,qal,qal]
      rw[same_call (k+1999) _ _ _ _ (pth (setL l (ix z n) (lb32 leaf)) n (ix z n)) (pth (setL l (ix z n) (lb32 leaf)) n (ix z n)) (by rw[pth_length]; omega) (by rw[pth_length]; omega) (path_sl _ (47,0) none _ (nl n+1) (pth_length _ _ _) (by omega) (by simp only[qab,zD,Nat.reduceEqDiff,zH,zC,zA])) (path_sl _ (90,0) none _ (nl n+1) (pth_length _ _ _) (by omega) (by simp only[qab,zD,Nat.reduceEqDiff,zH,zC,zA])),decide_eq_true rfl]
      simp (disch:=first|omega|decide|simp only[qai,qag,qak,qaj,qah,qae,qac,qad,qan]) only[qba,qau,qao,qap,qam,qaf,qaS,qbA,qaq,qaz,qaI,qar,qbq,qaF,qbr,op_un,qa1,qaT,qaa,qaw,qat,zK,zL,zN,zO,zG,zF,zS,zW,zP,zR,zJ,zM,qcU,Nat.reduceAdd,Nat.reduceSub,qab,qaQ,qb6,op_ld,zw,zx,zh,zD,Nat.reduceEqDiff,Nat.reduceLT,zH,zC,zA,zB,zE,zT,qbP,qbF,zE,zB,qbO,qaO,Nat.reduceLT,Nat.reduceEqDiff,Nat.reduceAdd,zT,zu,zf,qb7,qbC,qax,qay,qaZ,qbz,qb3,qbE,touch_ld,qcL,nms_fn,qaP,za,zY,zz,z6,z0,ordOk,qbv,zw,zx,Nat.testBit,Nat.reduceShiftRight,Nat.reduceAnd,zf,zu,z7,zh,Nat.reduceSub,Nat.reduceLT,bne,qbN,qcp,trimO_f,qbI,qdk,qcv,zh,qbo,qal,qaK,qbC,hld,ipts_nmsB,qal,qbo]
      rw[reach_path (r:=(41,0)) (L:=pth l n (ix z n)) (by simp only[qab,zD,Nat.reduceEqDiff,zH,zC,zA])]
      rw[tp_check (k+2799) _ _ (41,0) l n (ix z n) (lfF l (ix z n)) hl hn hlt (by simp only[qab,zD,Nat.reduceEqDiff,zH,zC,zA,qbE,za,zY,zz,z0]) (lb_lfF hl hlt).symm]
      simp (disch:=first|omega|decide|simp only[qai,qag,qak,qaj,qah,qae,qac,qad,qan]) only[qaf,qaS,qcC,qaq,qaz,qaI,qar,qaF,qaB,qa1,qaT,zK,zL,zN,zO,zG,zF,zS,zW,zP,zR,Nat.reduceAdd,Nat.reduceSub,qab,qaQ,qb6,op_ld,zw,zx,zh,zD,Nat.reduceEqDiff,Nat.reduceLT,zH,zC,zA,zT,qbP,qbF,N_eql,qaO,Nat.reduceLT,Nat.reduceEqDiff,Nat.reduceAdd,zT,zu,zf,qax,qay,qaZ,qc8,guardO_true,qb3,qbE,touch_ld,qcL,nms_fn,qaP,za,zY,zz,z6,z0,ordOk,qbv,zw,zx,Nat.testBit,Nat.reduceShiftRight,Nat.reduceAnd,Nat.reduceBEq,zf,zu,z7,zh,Nat.reduceSub,Nat.reduceLT,bne,qbN,qcp,trimO_f,qbI,qdk,qcv,zh,qbo,qal,qaK,qal,qbo]
      rw[reach_path (r:=(47,0)) (L:=pth (setL l (ix z n) (lb32 leaf)) n (ix z n)) (by simp only[qab,zD,Nat.reduceEqDiff,zH,zC,zA])]
      rw[tp_check (k+2799) _ _ (47,0) (setL l (ix z n) (lb32 leaf)) n (ix z n) leaf hl2 hn hlt (by simp only[qab,zD,Nat.reduceEqDiff,zH,zC,zA,qbE,za,zY,zz,z0]) (lf_set hl hlt leaf)]
      simp (disch:=first|omega|decide|simp only[qai,qag,qak,qaj,qah,qae,qac,qad,qan]) only[qbp,qap,qam,qaf,qaS,qcC,qaq,qaz,qaI,qar,qb0,qaF,qbr,qaB,qaa,qbg,qbl,zK,zL,zN,zO,zF,qct,zI,Nat.reduceAdd,Nat.reduceSub,zw,zx,zh,Nat.reduceLT,zC,zT,N_eql,Nat.reduceLT,Nat.reduceAdd,zT,zu,qax,qay,zI,za,zY,z6,z0,ordOk,qbv,zw,zx,Nat.testBit,Nat.reduceShiftRight,Nat.reduceAnd,Nat.reduceBEq,zu,z7,zh,Nat.reduceSub,Nat.reduceLT,bne,zh,qbo,qal,qal,qbo]
  · have hbc := fun (b : Nat) (H : Heap) => build_call_noA (k + 1999) b H l n hn hb
    by_cases h1:n < 1
    · simp (disch:=first|omega|decide|simp only[qai,qag,qak,qaj,qah,qae,qac,qad,qan]) only[qbb,qba,qbp,qau,qao,qap,qam,qaf,qaS,qcO,qaq,qa7,qaz,qaI,qar,qb0,qaF,qbr,qaB,op_un,qa1,qaT,qaa,qbQ,qaw,qaY,qat,qbg,qbl,zK,zL,zN,zO,zG,zF,zP,zV,qa5,zy,zJ,zM,qcU,qct,zI,Nat.reduceAdd,Nat.reduceSub,qab,qaX,qbR,op_box,qcg,qbt,qbf,zD,Nat.reduceEqDiff,zH,zC,zA,zB,zE,zT,qbH,qbm,zE,zB,qa2,Nat.reduceEqDiff,Nat.reduceAdd,zT,zf,qbi,qaV,qbD,qax,qaM,qay,qa0,zI,qaZ,List.getElem?_cons_zero,List.getElem?_cons_succ,zf,Nat.reduceSub,qal,qcZ,qcD,List.getElem?_cons_zero,List.getElem?_cons_succ,L9,hlv,hbc,h1,qal]
    · have h2 : 4096 < n := by omega
      simp (disch:=first|omega|decide|simp only[qai,qag,qak,qaj,qah,qae,qac,qad,qan]) only[qbb,qba,qbp,qau,qao,qap,qam,qaf,qaS,qbA,qcO,qaq,qa7,qaz,qaI,qar,qb0,qbq,qaF,qbr,qaB,op_un,qa1,qaT,qaa,qbQ,qaw,qaY,qat,qbg,qbl,zK,zL,zN,zO,zG,zF,zP,zV,qa5,zy,zJ,zM,qcU,qct,zI,Nat.reduceAdd,Nat.reduceSub,qab,qaX,qbR,op_box,qcg,qbt,qbf,zD,Nat.reduceEqDiff,zH,zC,zA,zB,zE,zT,zQ,qbH,qbm,zE,zB,qa2,N_gtr,Nat.reduceEqDiff,Nat.reduceAdd,zQ,zT,zf,qbi,qaV,qbD,qax,qaM,qay,qa0,zI,qaZ,List.getElem?_cons_zero,List.getElem?_cons_succ,zf,Nat.reduceSub,qal,qcZ,qcD,List.getElem?_cons_zero,List.getElem?_cons_succ,L9,hlv,hbc,h1,h2,qal]
end Sha
namespace Sha
open Go Go.LE
theorem ipts_nmsC (l:List (BitVec 8)) (m q:Nat):nms D (.ipt ((Ab.ndC l m).drop q))=[]:=by
  show ((Ab.ndC l m).drop q).flatMap (nms 7)=[]
  rw[List.flatMap_eq_nil_iff]; intro x hx
  have h:=ndC_nms7 l m
  rw[List.flatMap_eq_nil_iff] at h
  exact h x (List.mem_of_mem_drop hx)
def oiJ (l l':List (BitVec 8)) (n i k mm:Nat) (st:St):Prop := ∃ (H:Heap),st=⟨[.undef,.undef,.undef,.undef,.undef,.undef,.undef,.undef,N i,.undef,.sl (1,0) 0 (nl n+1) none 1,.undef,.undef,.sl (1,1) 0 (nl n+1) none 1,.undef,.undef,N k,N mm,.undef,.undef,.undef,.undef,.undef,.undef,.undef,.undef,.undef,.undef,.undef,.undef,.undef,.undef,.undef,.undef,.undef,.undef,.undef,.undef,.undef,.undef,.undef,.undef,.undef,.undef,.undef,.undef,.undef,.undef,.undef,.undef,.undef,.undef,.undef,.undef,.undef,.undef,.undef,.undef,.undef,.undef,.undef,.undef,.undef,.undef,.undef,.undef,.undef,.undef,.undef,.undef,.undef,.undef,.undef,.undef,.undef,.undef,.undef,.undef,.undef,.undef,.undef,.undef,.undef,.undef,.undef,.undef,.undef,.undef,.undef,.undef,.undef,.undef,.undef,.undef,.undef,.undef,.undef,.undef,.undef,.undef,.undef,.undef,.undef,.undef,.undef,.undef,.undef,.undef,.undef,.undef,.undef,.undef,.undef,.undef,.undef],H,2,0⟩∧H (1,0)=some (outC l n (nl n+1))∧H (1,1)=some (outC l' n (nl n+1))
set_option maxRecDepth 20000 in
theorem oi_round (K k0 n i:Nat) (l l':List (BitVec 8)) (hl:l.length=32*n) (hl':l'.length=32*n) (hn:1≤n∧n≤4096) (k:Nat) (hk:k < nl n+1) (mm:Nat) (hmm:mm < cn n (k+1))
    (he:mm≠i→Ab.nd (lay l' n k) mm=Ab.nd (lay l n k) mm) (st:St) (hI:oiJ l l' n i k mm st) :
    ∃ st1,ev (envC C k0) K L7b0 st=some (.normal,st1)∧oiJ l l' n i k (mm+1) (qby L7k0 st1):=by
  obtain ⟨H,rfl,g0,g1⟩:=hI
  have c1:=outC_cell l n (nl n+1) k hk
  have c2:=outC_cell l' n (nl n+1) k hk
  have hub:=ups_le hn k
  have d1:=fun (H:Heap)=>ndC_drop H (lay l n k) (cn n (k+1)) mm hmm
  have d2:=fun (H:Heap)=>ndC_drop H (lay l' n k) (cn n (k+1)) mm hmm
  have hf:=fun (H:Heap)=>qdn (H:=H) (Ab.nd (lay l n k) mm) 512 (nd_length (lay_length hl k) mm)
  have hf2:=fun (H:Heap)=>qdn (H:=H) (Ab.nd (lay l' n k) mm) 512 (nd_length (lay_length hl' k) mm)
  have hn2:=nl_le n
  by_cases hmi:mm=i
  · subst hmi
    apply Exists.intro
    apply And.intro
    · simp (disch := first | omega | decide | simp only [qai, qag, qak, qaj, qah, qae, qac, qad, qan]) only [qba, qau, qa3, qao, qap, qam, qaf, qaS, guardK_false, qaq, qaz, qaI, qar, qbq, qaF, qbr, qaB, qaa, qa4, qaw, qaY, qat, zK, zL, zN, zO, zJ, zM, Nat.reduceAdd, qaQ, qbe, qbx, zB, zE, zT, zZ, zE, zB, qbY, N_neq, qa2, qbO, decide_not, Nat.reduceAdd, zT, zf, qbi, qaV, qbD, qb7, qbG, qax, qay, zZ, qc8, guardO_false, zf, qal, L7b0, hmm, g0, c1, qbG, zZ, zB, qal]
      rfl
    · refine qaU [(1, 0), (1, 1)] rfl (by simp only [qaA, FUEL, qaH, qaD, qaE, qaK, qaL, zS, zW, zP, zV, zR, zk, zF, zY, za, zD, zt, zo, ze, zU, zp, zC, zA, zd, zm, zg, zl, ne_eq, zq, qaJ, qaC, qav, qaO, L7k0, g0, g1, outC_nms, qaK, qaO]) rfl ⟨_, rfl, ?_, ?_⟩
      · exact qas (1,0) rfl (by simp only[g0]) (qcN _ _ _ _)
      · exact qas (1,1) rfl (by simp only[g1]) (qcN _ _ _ _)
  · have he := he hmi
    rw[he] at d2 hf2
    have hdt:decide (Ab.nd (lay l n k) mm=Ab.nd (lay l n k) mm)=true:=decide_eq_true rfl
    apply Exists.intro
    apply And.intro
    · simp (disch := first | omega | decide | simp only [qai, qag, qak, qaj, qah, qae, qac, qad, qan]) only [qba, qau, qa3, qao, qap, qam, qaf, qaS, qcC, qaq, qaz, qaI, qar, qb0, qaF, qbr, qaB, qaa, qa4, qaw, qaY, qat, zK, zL, zN, zO, zF, zJ, zM, Nat.reduceAdd, Nat.reduceSub, qaQ, qbe, qbx, zw, zx, zh, Nat.reduceLT, zC, zB, zE, zT, zQ, zZ, zE, zB, qbY, N_neq, qa2, qbO, decide_not, Nat.reduceLT, Nat.reduceAdd, zQ, zT, zu, zf, qbi, qaV, qbD, qcT, qb7, qbG, qbC, qax, qay, qbd, zZ, qc8, guardO_true, qb3, qbE, qcr, touch_b2s, qaP, za, zY, zz, z6, z0, ordOk, qbv, zw, zx, Nat.testBit, Nat.reduceShiftRight, Nat.reduceAnd, Nat.reduceBEq, zf, zu, z7, zh, Nat.reduceSub, Nat.reduceLT, bne, qbN, qcp, qbI, qcf, isCall_b2s, zh, qbo, qal, L7b0, hmm, hmi, g0, g1, c1, c2, d1, d2, hf, qbG, qbC, zZ, zB, op_b2s, b2sV_isl, b2sK_bs, txt_nq, ipts_nmsC, qbd, qal, qbo]
      rfl
    · refine qaU [(1, 0), (1, 1)] rfl (by simp only [qaA, FUEL, qaH, qaD, qaE, qaK, qaL, zS, zW, zP, zV, zR, zk, zF, zY, za, zD, zt, zo, ze, zU, zp, zC, zA, zd, zm, zg, zl, ne_eq, zq, qaJ, qaC, qav, qaO, L7k0, g0, g1, outC_nms, qaK, qaO]) rfl ⟨_, rfl, ?_, ?_⟩
      · exact qas (1,0) rfl (by simp only[g0]) (qcN _ _ _ _)
      · exact qas (1,1) rfl (by simp only[g1]) (qcN _ _ _ _)
def ooJ (l l':List (BitVec 8)) (n i k:Nat) (st:St):Prop := ∃ (H:Heap),st=⟨[.undef,.undef,.undef,.undef,.undef,.undef,.undef,.undef,N (i / 16 ^ k),.undef,.sl (1,0) 0 (nl n+1) none 1,.undef,.undef,.sl (1,1) 0 (nl n+1) none 1,.undef,.undef,N k,.undef,.undef,.undef,.undef,.undef,.undef,.undef,.undef,.undef,.undef,.undef,.undef,.undef,.undef,.undef,.undef,.undef,.undef,.undef,.undef,.undef,.undef,.undef,.undef,.undef,.undef,.undef,.undef,.undef,.undef,.undef,.undef,.undef,.undef,.undef,.undef,.undef,.undef,.undef,.undef,.undef,.undef,.undef,.undef,.undef,.undef,.undef,.undef,.undef,.undef,.undef,.undef,.undef,.undef,.undef,.undef,.undef,.undef,.undef,.undef,.undef,.undef,.undef,.undef,.undef,.undef,.undef,.undef,.undef,.undef,.undef,.undef,.undef,.undef,.undef,.undef,.undef,.undef,.undef,.undef,.undef,.undef,.undef,.undef,.undef,.undef,.undef,.undef,.undef,.undef,.undef,.undef,.undef,.undef,.undef,.undef,.undef,.undef],H,2,0⟩∧H (1,0)=some (outC l n (nl n+1))∧H (1,1)=some (outC l' n (nl n+1))
set_option maxRecDepth 20000 in
theorem oo_round (K k0:Nat) (hK:5000≤K) (n i:Nat) (hi:i < 1000000) (l l':List (BitVec 8)) (hl:l.length=32*n) (hl':l'.length=32*n) (hn:1≤n∧n≤4096) (k:Nat) (hk:k < nl n+1)
    (he:∀ mm,mm≠i / 16 ^ (k+1)→Ab.nd (lay l' n k) mm=Ab.nd (lay l n k) mm) (st:St) (hI:ooJ l l' n i k st) :
    ∃ st1,ev (envC C k0) K L7b1 st=some (.normal,st1)∧ooJ l l' n i (k+1) (qby L7k1 st1):=by
  obtain ⟨H,rfl,g0,g1⟩:=hI
  have c1:=outC_cell l n (nl n+1) k hk
  have c2:=outC_cell l' n (nl n+1) k hk
  have hub:=ups_le hn k
  have hn2:=nl_le n
  have hil:i / 16 ^ k≤i:=Nat.div_le_self _ _
  have hdv:i / 16 ^ k / 16=i / 16 ^ (k+1):=by rw[Nat.div_div_eq_div_mul,Nat.pow_succ]
  simp (disch:=first|omega|decide|simp only[qai,qag,qak,qaj,qah,qae,qac,qad,qan]) only[qba,qau,qa3,qao,qap,qam,qaf,qaq,qaz,qaI,qar,qaF,qaB,qaa,qaw,qaY,qat,zK,zL,zN,zO,zF,zJ,zM,qbZ,Nat.reduceAdd,Nat.reduceSub,qaQ,qbe,qbx,zw,zx,zh,Nat.reduceLT,zC,zB,zE,zT,zZ,zE,zB,N_quo,N_neq,qa2,qbO,decide_not,Nat.reduceLT,Nat.reduceAdd,zT,zu,zf,qbi,qaV,qbL,qbD,qb7,qbG,qax,qay,zZ,qbz,qb3,qbE,qcr,qaP,za,zY,zz,z6,z0,ordOk,qbv,zw,zx,Nat.testBit,Nat.reduceShiftRight,Nat.reduceAnd,Nat.reduceBEq,zf,zu,z7,zh,Nat.reduceSub,Nat.reduceLT,bne,qbN,qcp,qbI,qcf,zh,qbo,qal,L7b1,hk,g0,g1,c1,c2,hdv,qbG,zZ,zB,qal,qbo]
  generalize hLp:qca L7k0 _ _ _=r
  refine qbJ hLp (oiJ l l' n (i / 16 ^ (k+1)) k) (cn n (k+1)) (by omega) (fun mm st hmm hI=>oi_round _ _ n _ l l' hl hl' hn k hk mm hmm (he mm) st hI) ?_ ?_ ?_
  · refine qaU [(1, 0), (1, 1)] rfl (by simp only [qaA, FUEL, qaH, qaD, qaE, qaK, qaL, zS, zW, zP, zV, zR, zk, zF, zY, za, zD, zt, zo, ze, zU, zp, zC, zA, zd, zm, zg, zl, ne_eq, zq, qaJ, qaC, qav, qaO, L7k0, g0, g1, outC_nms, qaK, qaO]) rfl ⟨_, rfl, ?_, ?_⟩
    · exact qas (1,0) rfl (by simp only[g0]) (qcN _ _ _ _)
    · exact qas (1,1) rfl (by simp only[g1]) (qcN _ _ _ _)
  · rintro st ⟨H, rfl, g0, g1⟩
    apply qbs
    simp (disch:=first|omega|decide|simp only[qai,qag,qak,qaj,qah,qae,qac,qad,qan]) only[qa6,qau,qao,qap,qam,qaf,qaN,qaq,qaz,qar,qaF,qaB,qaa,qaG,qaw,qat,zK,zL,zN,zO,zJ,zM,Nat.reduceAdd,qaQ,qbe,qbx,zB,zE,zQ,qa2,qbO,Nat.reduceAdd,zj,zQ,qbi,qaV,qbD,qb7,qbG,zZ,L7b0,g0,c1,qbG,zZ,zB,zj]
    rfl
  · rintro st ⟨H, rfl, g0, g1⟩ hr
    subst hr
    simp (disch:=first|omega|decide|simp only[qai,qag,qak,qaj,qah,qae,qac,qad,qan]) only[qa6,qau,qao,qap,qam,qaf,qaq,qaz,qaI,qar,qaF,qaB,qaa,qaG,qa4,qbc,qaw,qat,zK,zL,zN,zO,zJ,zM,Nat.reduceAdd,qaQ,qbe,qbx,zC,zB,zE,zQ,zZ,zE,zB,qbY,qa2,qbO,Nat.reduceAdd,zj,zQ,qbi,qaV,qbD,qb7,qbG,qax,qay,zZ,qal,L7b0,g0,c1,qbG,zZ,zB,zj,qal]
    refine ⟨_,rfl,?_⟩
    refine qaU [(1,0),(1,1)] rfl (by simp only[qaA,FUEL,qaH,qaD,qaE,qaK,qaL,zS,zW,zP,zV,zR,zk,zF,zY,za,zD,zt,zo,ze,zU,zp,zC,zA,zd,zm,zg,zl,ne_eq,zq,qaJ,qaC,qav,qaO,L7k1,g0,g1,outC_nms,qaK,qaO]) rfl ⟨_,rfl,?_,?_⟩
    · exact qas (1,0) rfl (by simp only[g0]) (qcN _ _ _ _)
    · exact qas (1,1) rfl (by simp only[g1]) (qcN _ _ _ _)
set_option maxRecDepth 20000 in
theorem treeOthers_F (k:Nat) (l:List (BitVec 8)) (n:Nat) (hl:l.length=32*n) (hb:n < 9000000000000) (z:Int) (leaf:Nat→BitVec 8) :
    F C (k+6000) 7 [.isl (bs l) n,I z,.agg (aB 32 leaf)] []=some (Bo true,[],[]):=by
  rw[qch f7]
  have hlv:=fun (b:Nat) (H:Heap)=>lives_call (k+2999) b H
  by_cases hn:1≤n∧n≤4096
  · have hbc := fun (b : Nat) (H : Heap) => build_callA (k + 3999) b H l n hl hn
    have e1:¬ n < 1:=by omega
    have e2:¬ 4096 < n:=by omega
    have hrem:=fun (e:EqT)=>rem_ix e z n (by omega)
    have hlt:=ix_lt z n (by omega)
    have hn2:=nl_le n
    have hl2:=setL_length hl hlt (lb32_length leaf)
    have hfr:=fun (H:Heap)=>front_leaves H l n hl
    have hst:=fun (m:Nm)=>st_leaf l n (ix z n) leaf m hl hlt
    cases hsg:decide (ixR z n < ((0:Nat):Int)) with
    | false =>
      have hpos:=ix_pos z n (by simpa using hsg)
      simp (disch:=first|omega|decide|simp only[qai,qag,qak,qaj,qah,qae,qac,qad,qan]) only[qbb,qba,qau,qao,qap,qam,qaf,qaS,qbA,qaq,qaz,qaI,qar,qbq,qaF,qbr,qaB,op_un,qa1,qaT,qaa,qaw,qat,zK,zL,zN,zO,zF,zP,zV,qa5,zy,zJ,zM,qcU,Nat.reduceAdd,Nat.reduceSub,qaX,op_box,qcg,qbW,zB,zE,zQ,qbH,zE,zB,qa2,N_gtr,Nat.reduceAdd,zQ,zf,qbi,qaV,qbD,qcT,qb8,qb9,qcb,qbK,qbw,qax,qaM,qay,zf,Nat.reduceSub,qal,L7,hlv,e1,e2,hrem,hpos,Nat.not_lt_zero,zQ,hfr,qal]
      rw[app_leaves _ _ (21,0) l n hl (by omega) (by omega) (by simp only[qab,zD,Nat.reduceEqDiff,zH,zC,zA])]
      simp (disch:=first|omega|decide|simp only[qai,qag,qak,qaj,qah,qae,qac,qad,qan]) only[qau,qao,qap,qam,qaf,qaq,qa7,qaz,qaI,qar,qaF,qa1,qaT,qaa,zK,zL,zN,zO,zG,zF,zJ,zM,Nat.reduceAdd,qab,qaX,qaQ,qb6,op_ld,qbR,qbt,qbf,zD,Nat.reduceEqDiff,zH,zC,zA,zB,zE,qbP,qbm,zE,zB,qbO,Nat.reduceEqDiff,Nat.reduceAdd,qb7,qbG,qax,qaM,qay,qa0,qaZ,List.getElem?_cons_zero,List.getElem?_cons_succ,qal,qcZ,qcD,List.getElem?_cons_zero,List.getElem?_cons_succ,hbc,qbG,hst,qal]
      rw[build_callB (k+3999) _ _ (23,0) (setL l (ix z n) (lb32 leaf)) n none hl2 hn (by simp only[qab,zD,Nat.reduceEqDiff,zH,zC,zA])]
      simp (disch:=first|omega|decide|simp only[qai,qag,qak,qaj,qah,qae,qac,qad,qan]) only[qba,qau,qa3,qao,qap,qam,qaf,qaS,qbA,qaq,qa7,qaz,qaI,qar,qbq,qaF,qbr,qaB,qaa,qaw,qat,zK,zL,zN,zO,zJ,zM,qbZ,Nat.reduceAdd,qab,qaX,qbR,qbt,qbf,zD,Nat.reduceEqDiff,zH,zC,zA,zB,zE,zT,zQ,qbm,zE,zB,N_eql,N_neq,decide_not,Nat.reduceEqDiff,Nat.reduceAdd,zQ,zT,zf,qbi,qaV,qbL,qax,qaM,qay,qa0,qaZ,List.getElem?_cons_zero,List.getElem?_cons_succ,zf,qal,qcZ,qcD,List.getElem?_cons_zero,List.getElem?_cons_succ,qal]
      generalize hLp:qca L7k1 _ _ _=r
      refine qbJ hLp (ooJ l (setL l (ix z n) (lb32 leaf)) n (ix z n)) (nl n+1) (by omega) (fun j st hj hI=>oo_round _ _ (by omega) n _ (by omega) l _ hl hl2 hn j hj (fun mm hmm=>lay_other hl hlt leaf j (by omega) mm hmm) st hI) ?_ ?_ ?_
      · refine qaU [(31, 0), (41, 0)] rfl (by simp only [qaA, FUEL, qaH, qaD, qaE, qaK, qaL, zS, zW, zP, zV, zR, zk, zF, zY, za, zD, zt, zo, ze, Nat.reduceEqDiff, zH, zp, zC, zA, zm, zg, zl, ne_eq, zq, qab, qaJ, qaC, qav, qaZ, qaO, L7k1, outC_nms, qaK, qaO]) rfl ⟨_, by rw [Nat.pow_zero, Nat.div_one]; rfl, ?_, ?_⟩
        · exact qas (31,0) rfl (by simp only[qab,zD,Nat.reduceEqDiff,zH,zC,zA]) (qcN _ _ _ _)
        · exact qas (41,0) rfl (by simp only[qab,zD,Nat.reduceEqDiff,zH,zC,zA]) (qcN _ _ _ _)
      · rintro st ⟨H, rfl, g0, g1⟩
        apply qbs
        simp (disch:=first|omega|decide|simp only[qai,qag,qak,qaj,qah,qae,qac,qad,qan]) only[qa6,qau,qao,qap,qam,qaf,qaN,qaq,qaz,qar,qaF,qaB,qaa,qaG,qaw,qat,zK,zL,zN,zO,zJ,zM,Nat.reduceAdd,zB,zE,zQ,qa2,Nat.reduceAdd,zj,zQ,qbi,qaV,qbL,L7b1,zj]
        rfl
      · rintro st ⟨H, rfl, g0, g1⟩ hr
        subst hr
        simp (disch:=first|omega|decide|simp only[qai,qag,qak,qaj,qah,qae,qac,qad,qan]) only[qbp,qa6,qau,qao,qap,qam,qaf,qaN,qaq,qaz,qaI,qar,qaF,qaB,qaa,qaG,qbc,qaw,qat,qbg,qbl,zK,zL,zN,zO,zJ,zM,qct,zI,Nat.reduceAdd,zC,zB,zE,zQ,qa2,Nat.reduceAdd,zj,zQ,qbi,qaV,qbL,zI,L7b1,zj]
    | true =>
      have hadd:=fun (e:EqT)=>ix_neg z n (by omega) (by omega) (by simpa using hsg) e
      simp (disch:=first|omega|decide|simp only[qai,qag,qak,qaj,qah,qae,qac,qad,qan]) only[qbb,qba,qau,qao,qap,qam,qaf,qaS,qbA,qaq,qaz,qaI,qar,qbq,qaF,qbr,qaB,op_un,qa1,qaT,qaa,qaw,qaY,qat,zK,zL,zN,zO,zF,zP,zV,qa5,zy,zJ,zM,qcU,Nat.reduceAdd,Nat.reduceSub,qaX,op_box,qcg,qbW,zB,zE,zQ,qbH,zE,zB,qa2,N_gtr,Nat.reduceAdd,zQ,zf,qbi,qaV,qbD,qcT,qb8,qb9,qcb,qbK,qbw,qax,qaM,qay,zf,Nat.reduceSub,qal,L7,hlv,e1,e2,hrem,I_lssN,hsg,hadd,hfr,qal]
      rw[app_leaves _ _ (25,0) l n hl (by omega) (by omega) (by simp only[qab,zD,Nat.reduceEqDiff,zH,zC,zA])]
      simp (disch:=first|omega|decide|simp only[qai,qag,qak,qaj,qah,qae,qac,qad,qan]) only[qau,qao,qap,qam,qaf,qaq,qa7,qaz,qaI,qar,qaF,qa1,qaT,qaa,zK,zL,zN,zO,zG,zF,zJ,zM,Nat.reduceAdd,qab,qaX,qaQ,qb6,op_ld,qbR,qbt,qbf,zD,Nat.reduceEqDiff,zH,zC,zA,zB,zE,qbP,qbm,zE,zB,qbO,Nat.reduceEqDiff,Nat.reduceAdd,qb7,qbG,qax,qaM,qay,qa0,qaZ,List.getElem?_cons_zero,List.getElem?_cons_succ,qal,qcZ,qcD,List.getElem?_cons_zero,List.getElem?_cons_succ,hbc,qbG,hst,qal]
      rw[build_callB (k+3999) _ _ (27,0) (setL l (ix z n) (lb32 leaf)) n none hl2 hn (by simp only[qab,zD,Nat.reduceEqDiff,zH,zC,zA])]
      simp (disch:=first|omega|decide|simp only[qai,qag,qak,qaj,qah,qae,qac,qad,qan]) only[qba,qau,qa3,qao,qap,qam,qaf,qaS,qbA,qaq,qa7,qaz,qaI,qar,qbq,qaF,qbr,qaB,qaa,qaw,qat,zK,zL,zN,zO,zJ,zM,qbZ,Nat.reduceAdd,qab,qaX,qbR,qbt,qbf,zD,Nat.reduceEqDiff,zH,zC,zA,zB,zE,zT,zQ,qbm,zE,zB,N_eql,N_neq,decide_not,Nat.reduceEqDiff,Nat.reduceAdd,zQ,zT,zf,qbi,qaV,qbL,qax,qaM,qay,qa0,qaZ,List.getElem?_cons_zero,List.getElem?_cons_succ,zf,qal,qcZ,qcD,List.getElem?_cons_zero,List.getElem?_cons_succ,qal]
      generalize hLp:qca L7k1 _ _ _=r
      refine qbJ hLp (ooJ l (setL l (ix z n) (lb32 leaf)) n (ix z n)) (nl n+1) (by omega) (fun j st hj hI=>oo_round _ _ (by omega) n _ (by omega) l _ hl hl2 hn j hj (fun mm hmm=>lay_other hl hlt leaf j (by omega) mm hmm) st hI) ?_ ?_ ?_
      · refine qaU [(35, 0), (45, 0)] rfl (by simp only [qaA, FUEL, qaH, qaD, qaE, qaK, qaL, zS, zW, zP, zV, zR, zk, zF, zY, za, zD, zt, zo, ze, Nat.reduceEqDiff, zH, zp, zC, zA, zm, zg, zl, ne_eq, zq, qab, qaJ, qaC, qav, qaZ, qaO, L7k1, outC_nms, qaK, qaO]) rfl ⟨_, by rw [Nat.pow_zero, Nat.div_one]; rfl, ?_, ?_⟩
        · exact qas (35,0) rfl (by simp only[qab,zD,Nat.reduceEqDiff,zH,zC,zA]) (qcN _ _ _ _)
        · exact qas (45,0) rfl (by simp only[qab,zD,Nat.reduceEqDiff,zH,zC,zA]) (qcN _ _ _ _)
      · rintro st ⟨H, rfl, g0, g1⟩
        apply qbs
        simp (disch:=first|omega|decide|simp only[qai,qag,qak,qaj,qah,qae,qac,qad,qan]) only[qa6,qau,qao,qap,qam,qaf,qaN,qaq,qaz,qar,qaF,qaB,qaa,qaG,qaw,qat,zK,zL,zN,zO,zJ,zM,Nat.reduceAdd,zB,zE,zQ,qa2,Nat.reduceAdd,zj,zQ,qbi,qaV,qbL,L7b1,zj]
        rfl
      · rintro st ⟨H, rfl, g0, g1⟩ hr
        subst hr
        simp (disch:=first|omega|decide|simp only[qai,qag,qak,qaj,qah,qae,qac,qad,qan]) only[qbp,qa6,qau,qao,qap,qam,qaf,qaN,qaq,qaz,qaI,qar,qaF,qaB,qaa,qaG,qbc,qaw,qat,qbg,qbl,zK,zL,zN,zO,zJ,zM,qct,zI,Nat.reduceAdd,zC,zB,zE,zQ,qa2,Nat.reduceAdd,zj,zQ,qbi,qaV,qbL,zI,L7b1,zj]
  · by_cases h1 : n < 1
    · simp (disch:=first|omega|decide|simp only[qai,qag,qak,qaj,qah,qae,qac,qad,qan]) only[qbb,qba,qbp,qau,qao,qap,qam,qaf,qaS,qcO,qaq,qaz,qaI,qar,qb0,qaF,qbr,qaB,op_un,qa1,qaT,qaa,qbQ,qaw,qaY,qat,qbg,qbl,zK,zL,zN,zO,zF,zP,zV,qa5,zy,zJ,zM,qcU,qct,zI,Nat.reduceAdd,Nat.reduceSub,qaX,op_box,qcg,zB,zE,zT,qbH,zE,zB,qa2,Nat.reduceAdd,zT,zf,qbi,qaV,qbD,qax,qaM,qay,zI,zf,Nat.reduceSub,qal,L7,hlv,h1,qal]
    · have h2 : 4096 < n := by omega
      simp (disch:=first|omega|decide|simp only[qai,qag,qak,qaj,qah,qae,qac,qad,qan]) only[qbb,qba,qbp,qau,qao,qap,qam,qaf,qaS,qbA,qaq,qaz,qaI,qar,qbq,qaF,qbr,qaB,op_un,qa1,qaT,qaa,qbQ,qaw,qaY,qat,qbg,qbl,zK,zL,zN,zO,zF,zP,zV,qa5,zy,zJ,zM,qcU,qct,zI,Nat.reduceAdd,Nat.reduceSub,qaX,op_box,qcg,zB,zE,zT,zQ,qbH,zE,zB,qa2,N_gtr,Nat.reduceAdd,zQ,zT,zf,qbi,qaV,qbD,qax,qaM,qay,zI,zf,Nat.reduceSub,qal,L7,hlv,h1,h2,qal]
end Sha
