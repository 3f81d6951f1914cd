/- slices.Chunk's iterator, walked: which parts it hands on. -/
import Derived.Test.YtolnbhddfnkjkaaDoorLeE
import Derived.RangeFuncBox
import Derived.RangeFuncLeaves
import Derived.Shelf.Abstract
import Derived.WalkKit
import Derived.OwnWalkIn
import Derived.TacticsInMore
import Derived.LoopNIn
import Derived.LoopIn
import Derived.BigRegionIn
import Derived.Test.YtolnbhddfnkjkaaDoorProg
import Derived.Test.YtolnbhddfnkjkaaDoorLeT
import Derived.KernelRfl
set_option linter.unusedVariables false
set_option linter.unusedSimpArgs false
namespace Tree
open Go Go.Proofs Go.RowKit Go.Shelf Go.LE
attribute [local go_sem] Oper.semAt_some
set_option maxRecDepth 100000 in
set_option maxHeartbeats 4000000 in
theorem chunk_in (n l B1 B2 o1 o2 b off len cap:Nat) (hlen:len*32≤140737488351232) (hcap:len≤cap) (J:Nat→World→Prop)
    (hB1:∀ j W,J j W→W.cell? ⟨B1,o1,none⟩=some (.slice (some ⟨b,off,none⟩) len cap)) (hB2:∀ j W,J j W→W.cell? ⟨B2,o2,none⟩=some (.int .i64 16))
    (hJd:∀ j W,J j W→J j W.drew)
    (hY:∀ j W,J j W→16*j < len→YieldAt Fence.wide n Tryd.prog l #[.slice (some ⟨b,off+16*j*32,none⟩) (min 16 (len - 16*j)) (min 16 (len - 16*j))] W fun e W'=>e = .returned (.bool true)∧J (j+1) W')
    (W:World) (h0:J 0 W) :
    CallsIn Fence.wide (n+1) Tryd.prog 48 #[.func (.yield l) #[] #[],.pointer (some ⟨B1,o1,none⟩),.pointer (some ⟨B2,o2,none⟩)] W fun e W'=>(∃ v,e = .returned v)∧∃ j,len≤16*j∧16*j < len+16∧J j W':=by
  refine callsIn_of_wp Tryd.func48 rfl trivial ?_ rfl
  simp only[Tryd.ntmps48,List.size_toArray,zJ,zM,Nat.reduceAdd,Nat.reduceSub,Array.replicate_succ,Array.replicate_zero,List.push_toArray,List.append_toArray,zP,zV]
  gi_wp2
  gi_loopw [4] (fun i wr => ∃ j : Nat, 16 * j < len + 16 ∧ i = .int .i64 (16 * j : Nat) ∧ J j wr)
    (fun i _=>len+16 - (intOf i).toNat)
  case atStart=>exact ⟨0,by omega,rfl,h0⟩
  case round =>
    obtain ⟨j,hj,rfl,hJs⟩:=hrel
    have hb1:=hB1 _ _ hJs
    have hb2:=hB2 _ _ hJs
    by_cases hlt:16*j < len
    · gi_wp2
      have hd:=hJd _ _ hJs
      have hb1':=hB1 _ _ hd
      have hb2':=hB2 _ _ hd
      gi_region
      obtain ⟨mm,hmm⟩:∃ mm:Nat,mm=min 16 (len - 16*j):=⟨_,rfl⟩
      have em:(if ((len - 16*j:Nat):Int) < 16 then ((len - 16*j:Nat):Int) else 16)=(mm:Int):=by rw[hmm]; split <;> omega
      simp only[em]
      have hm0:0 < mm:=by omega
      have hm1:16*j+mm≤len:=by omega
      have hm2:mm≤16:=by omega
      obtain ⟨fn,tmps,assign,body,hy,hR⟩:=hY _ _ hd hlt
      rw[←hmm] at hy
      have e2:16*j+mm - 16*j=mm:=by omega
      clear hmm em
      gi_wp2
      refine hR.mono ?_
      rintro e W3 ⟨rfl,hJ3⟩
      have hb2'':=hB2 _ _ hJ3
      gi_wp2
      go_roundw
      case rel=>exact ⟨j+1,by omega,by simp; omega,hJ3⟩
      case measure=>simp[RowKit.intOf]; omega
    · gi_wp2
      go_end0
      exact ⟨⟨_,rfl⟩,j,by omega,by omega,hJs⟩
end Tree
namespace Ab
open Go Go.LE Sha
def L28k0:List Bool:=[false,false,false,true,false,true,false,false,false,false,false,false,true,true,true,false,false,false,false,false,false,false,false,false,false,false,false,false]
def L28k1:List Bool:=[false,false,false,true,false,false,false,false,false,false,false,false,false,false,false,false,false,false,false,false,false,false,false,false,false,false,false,false]
def L28b0:LCode :=
  (LCode.region [⟨some 15,.bin .lss .none (.t 14) (.t 13),none,none⟩]).seq ((LCode.cond (.t 15) LCode.skip (LCode.exit 2)).seq ((LCode.block 3 ((LCode.region [⟨some 16,.iaS 32 (.t 12) (.t 14),none,none⟩,⟨some 17,.ld 32 (.t 16),none,none⟩,⟨some 7,.new (List.replicate 32 (B8 0#8)),none,none⟩,⟨none,.st 32 (.t 7) (.t 17),none,none⟩]).seq (LCode.region [⟨some 18,.mv (.t 5),none,none⟩,⟨some 19,.slcA 32 1 (.t 7) none none none,none,none⟩,⟨some 20,.append 1 1 false (.t 18) (.t 19),none,none⟩,⟨some 5,.mv (.t 20),none,none⟩]))).seq (LCode.region [⟨some 21,.bin .add .none (.t 14) (.c (N 1)),none,none⟩,⟨some 14,.mv (.t 21),none,none⟩])))
def la28:LCode:=LCode.region [⟨some 2,.mv (.c Nil),none,none⟩]
def lb28:LCode:=LCode.region [⟨some 3,.new [Nil],none,none⟩]
def lc28:LCode:=LCode.region [⟨some 8,.mv (.t 0),none,none⟩,⟨some 9,.call (.c (.fn (.func 40) [] [])) [.t 8,.c (N 16)],none,none⟩]
def ls28:LCode:=LCode.region [⟨some 4,.mv (.t 10),none,none⟩]
def bd28:LCode :=
  LCode.block 1 ((LCode.region [⟨some 11,.mkslice 1 1 [B8 0#8] (.c (N 0)) (.c (N 512)),none,none⟩,⟨some 5,.mv (.t 11),none,none⟩]).seq (((LCode.region [⟨some 12,.mv (.t 4),none,none⟩,⟨some 13,.len (.t 12),none,none⟩,⟨some 14,.mv (.c (N 0)),none,none⟩]).seq (LCode.block 2 (LCode.loop L28k0 L28b0))).seq (LCode.region [⟨some 22,.ld1 (.t 3),none,some 0⟩,⟨some 23,.mv (.t 5),none,none⟩,⟨some 24,.slcS 1 (.t 23) none (some (.c (N 512))) none,none,none⟩,⟨some 25,.mkrow 1 [Nil] [(0,1,.t 24)] 1,none,none⟩,⟨some 26,.append 1 24 true (.t 22) (.t 25),none,some 15⟩,⟨none,.st 1 (.t 3) (.t 26),none,some 31⟩])))
def post28:LCode:=(LCode.region [⟨some 27,.ld1 (.t 3),none,none⟩,⟨some 2,.mv (.t 27),none,none⟩]).seq LCode.ret
def R28:RFun:={ ntmps:=28,results:=[.tmp 2],la:=la28,lb:=lb28,lc:=lc28,g:=9,t:=10,ls:=ls28,lbd:=bd28,post:=post28,keep:=L28k1 }
theorem r28:compR Go.Proofs.Tryd.prog 28=some R28:=by kernel_rfl
theorem k28:keepOk R28=true:=by decide
end Ab
namespace Ab
open Go Go.LE Sha
def C:Ctx:={ fns:=look tab,gl:=glf,borrow:=lentF }
theorem qcp:C.trim=false:=rfl
theorem f40:C.fns 40=some L40:=by kernel_rfl
theorem qcB {k:Nat} {H:Heap} {b:Nat} {g:FuncId} {args:List LV} (hb:lentF g=fun _=>false) (hn:args.flatMap (nms D)=[]) (hr:args.map (ren D (qc7 []))=args) :
    qb1 (envC C k) H b g args=calK b (F C k g args []):=callOp_sc H b hb hn hr
def pad (q:List (BitVec 8)):List (BitVec 8):=q++List.replicate (512 - q.length) 0#8
theorem pad_length (q:List (BitVec 8)) (h:q.length≤512):(pad q).length=512:=by simp[pad]; omega
theorem pad_zero (pl:List (BitVec 8)):pad (pl.take (32*0))=List.replicate 512 0#8:=by simp only[Nat.mul_zero,zzB,pad,zP,zM,Nat.sub_zero]
theorem ld_ipt (pl:List (BitVec 8)) (i:Nat) (h:32*i+32≤pl.length) (H:Heap):cellAt H 32 (.ipt ((bs pl).drop (i*32)))=some (bs ((pl.drop (32*i)).take 32)):=by
  rw[cellAt_ipt,if_pos (by rw[zzG,qag]; omega),bs_drop,bs_take,Nat.mul_comm]
theorem ld_ptr (l:List (BitVec 8)) (at_ mm:Nat) (pl:List (BitVec 8)) (i:Nat) (hpl:pl=(l.drop at_).take (32*mm)) (hi:i < mm) (hat:at_+32*mm≤l.length) :
    cellK (at_+i*32) 32 (some (bs l))=some (bs ((pl.drop (32*i)).take 32)):=by
  rw[cellK_some,if_pos (by rw[qag]; omega),bs_drop,bs_take,hpl,List.drop_take,List.drop_drop,List.take_take,Nat.mul_comm i 32,show min 32 (32*mm - 32*i)=32 by omega]
theorem st_row (m:Nm) (ck:List (BitVec 8)) (h:ck.length=32):stK 32 0 m (some (bs ck)) (some (aB 32 fun _=>0#8))=some ⟨Un,[],[(m,some (bs ck))]⟩:=by
  rw[stK_some,if_pos ⟨by rw[qag,h],by simp[aB,arr],qai ck⟩]
  have:qb2 (aB 32 fun _=>0#8) 0 (bs ck)=bs ck:=by
    simp only[qb2,zzB,zP]
    rw[List.drop_of_length_le (by rw[qag,h]; simp[aB,arr]),zR]
  rw[this]
theorem app_pad (b:Nat) (H:Heap) (m:Nm) (pl ck:List (BitVec 8)) (i mm:Nat) (hm:mm≤16) (hl:pl.length=32*mm) (hi:i < mm) (hck:ck=(pl.drop (32*i)).take 32) (h:H m=some (bs (pad (pl.take (32*i))))) :
    appX b 1 1 32 H [] (bs ck) (.sl m 0 (32*i) (some 512) 1)=some ⟨.sl m 0 (32*(i+1)) (some 512) 1,[],[(m,some (bs (pad (pl.take (32*(i+1))))))]⟩:=by
  have h1:(pl.take (32*i)).length=32*i:=by rw[zzJ]; omega
  have h2:ck.length=32:=by rw[hck,zzJ,zzG]; omega
  rw[appX_room 32 m 0 (32*i) 512 (pad (pl.take (32*i))) ck h (by rw[pad_length _ (by omega)]; omega) (by omega) (by omega)]
  have e:(pad (pl.take (32*i))).take (0+32*i)++ck++(pad (pl.take (32*i))).drop (0+32*i+ck.length)=pad (pl.take (32*(i+1))):=by
    have h3:pl.take (32*(i+1))=pl.take (32*i)++ck:=by rw[hck,show 32*(i+1)=32*i+32 by omega,List.take_add]
    rw[h3]
    unfold pad
    rw[List.take_append_of_le_length (by omega),List.take_of_length_le (by omega),List.drop_append,List.drop_of_length_le (by omega),zP,List.drop_replicate,zzI,h1,h2]
    congr 2
    omega
  rw[e]
  rfl
def iJA0 (pl:List (BitVec 8)) (mm:Nat) (i:Nat) (st:St):Prop := ∃ (H:Heap),st=⟨[.undef,.undef,.undef,.ptr (1,0) 0,.undef,.sl (1,1) 0 (32*i) (some 512) 1,.undef,.undef,.undef,.undef,.undef,.undef,.isl (bs pl) mm,N mm,N i,.undef,.undef,.undef,.undef,.undef,.undef,.undef,.undef,.undef,.undef,.undef,.undef,.undef],H,2,0⟩ ∧
  H (1,0)=some [Nil]∧H (1,1)=some (bs (pad (pl.take (32*i))))
set_option maxRecDepth 10000 in
theorem i_roundA0 (K k0:Nat) (pl:List (BitVec 8)) (mm:Nat) (hm:mm≤16) (hl:pl.length=32*mm) (i:Nat) (hi:i < mm) (st:St) (hI:iJA0 pl mm i st) :
    ∃ st1,ev (envC C k0) K L28b0 st=some (.normal,st1)∧iJA0 pl mm (i+1) (qby L28k0 st1):=by
  obtain ⟨H,rfl,h0,hb⟩:=hI
  have hc:∀ H:Heap,cellAt H 32 (.ipt ((bs pl).drop (i*32)))=some (bs ((pl.drop (32*i)).take 32)):=fun H=>ld_ipt pl i (by omega) H
  have hcl:((pl.drop (32*i)).take 32).length=32:=by rw[zzJ,zzG]; omega
  obtain ⟨ck,hck⟩:∃ ck,ck=(pl.drop (32*i)).take 32:=⟨_,rfl⟩
  rw[←hck] at hcl hc
  have hst:∀ m,stK 32 0 m (some (bs ck)) (some (aB 32 fun _=>0#8))=some ⟨Un,[],[(m,some (bs ck))]⟩:=fun m=>st_row m ck hcl
  have hfr:=frontK_bs_all 32 ck hcl.symm
  have hap:∀ (b:Nat) (H':Heap),H' (1,1)=some (bs (pad (pl.take (32*i))))→appX b 1 1 32 H' [] (bs ck) (.sl (1,1) 0 (32*i) (some 512) 1)=some ⟨.sl (1,1) 0 (32*(i+1)) (some 512) 1,[],[((1,1),some (bs (pad (pl.take (32*(i+1))))))]⟩:=fun b H' h=>app_pad b H' (1,1) pl ck i mm hm hl hi hck h
  have hap2:=fun (x y:Option qaR) (b:Nat)=>hap b (upd (upd H (5,0) x) (5,0) y) (by simp only[qab,zD,Nat.reduceEqDiff,zX,zA,zd,hb])
  apply Exists.intro
  apply And.intro
  · simp (disch := first | omega | decide | simp only [qai, qag, qak, qaj, qah, qae, qac, qad, qan]) only [qba, qau, qa3, qao, qap, qam, qaf, qaq, qa7, qaz, qaI, qar, qaF, qaB, qaa, qa4, qaw, qaY, zK, zL, zN, zO, zJ, zM, Nat.reduceAdd, qab, qaX, qb6, op_ld, qbR, qbt, qbf, zC, zB, zE, zT, qbH, zZ, zE, zB, qbY, qa2, qbO, Nat.reduceAdd, zT, qbB, qb8, qb9, qcb, qcw, qb7, qbC, op_slcAV, slcAV_ptr, qax, qaM, qay, qa0, Nat.sub_zero, zZ, qcI, qal, qal, L28b0, hc, hst, hfr, hap2, hi, qbC, qb8, qb9]
    rfl
  · refine qaU [(1, 0), (1, 1)] rfl (by simp only [qaA, FUEL, qaH, qaD, qaE, qaP, qaK, qaL, zS, zW, zP, zV, zR, zk, zF, zY, za, zD, zt, zo, ze, Nat.reduceEqDiff, zH, zU, zp, zC, zA, zd, zi, zm, zg, zl, ne_eq, zq, qab, qaJ, qaC, qav, qaO, qbu, L28k0, h0, hb, qbh, qbd]) ?_ ⟨_, rfl, ?_, ?_⟩
    · simp only [L28k0, mask, zG, zF, qa8, ze, zA, zC]
      rfl
    · exact qas (1,0) rfl (by simp only[qab,zD,Nat.reduceEqDiff,zH,zU,zA,zi,h0]) rfl
    · exact qas (1,1) rfl (by simp only[qab,zD,Nat.reduceEqDiff,zX,zC,zA,zd]) (qaW _ _)
def iJA1 (rw:qaR) (j:Nat) (pl:List (BitVec 8)) (mm:Nat) (i:Nat) (st:St):Prop := ∃ (H:Heap),st=⟨[.undef,.undef,.undef,.ptr (1,0) 0,.undef,.sl (1,2) 0 (32*i) (some 512) 1,.undef,.undef,.undef,.undef,.undef,.undef,.isl (bs pl) mm,N mm,N i,.undef,.undef,.undef,.undef,.undef,.undef,.undef,.undef,.undef,.undef,.undef,.undef,.undef],H,2,0⟩ ∧
  H (1,0)=some [.sl (1,1) 0 j none 1]∧H (1,2)=some (bs (pad (pl.take (32*i))))∧H (1,1)=some rw
set_option maxRecDepth 10000 in
theorem i_roundA1 (K k0:Nat) (pl:List (BitVec 8)) (mm:Nat) (hm:mm≤16) (hl:pl.length=32*mm) (rw:qaR) (j:Nat) (hrn:rw.flatMap (nms D)=[]) (hrr:∀ π,rw.map (ren D π)=rw) (i:Nat) (hi:i < mm) (st:St) (hI:iJA1 rw j pl mm i st) :
    ∃ st1,ev (envC C k0) K L28b0 st=some (.normal,st1)∧iJA1 rw j pl mm (i+1) (qby L28k0 st1):=by
  obtain ⟨H,rfl,h0,hb,h1⟩:=hI
  have hc:∀ H:Heap,cellAt H 32 (.ipt ((bs pl).drop (i*32)))=some (bs ((pl.drop (32*i)).take 32)):=fun H=>ld_ipt pl i (by omega) H
  have hcl:((pl.drop (32*i)).take 32).length=32:=by rw[zzJ,zzG]; omega
  obtain ⟨ck,hck⟩:∃ ck,ck=(pl.drop (32*i)).take 32:=⟨_,rfl⟩
  rw[←hck] at hcl hc
  have hst:∀ m,stK 32 0 m (some (bs ck)) (some (aB 32 fun _=>0#8))=some ⟨Un,[],[(m,some (bs ck))]⟩:=fun m=>st_row m ck hcl
  have hfr:=frontK_bs_all 32 ck hcl.symm
  have hap:∀ (b:Nat) (H':Heap),H' (1,2)=some (bs (pad (pl.take (32*i))))→appX b 1 1 32 H' [] (bs ck) (.sl (1,2) 0 (32*i) (some 512) 1)=some ⟨.sl (1,2) 0 (32*(i+1)) (some 512) 1,[],[((1,2),some (bs (pad (pl.take (32*(i+1))))))]⟩:=fun b H' h=>app_pad b H' (1,2) pl ck i mm hm hl hi hck h
  have hap2:=fun (x y:Option qaR) (b:Nat)=>hap b (upd (upd H (5,0) x) (5,0) y) (by simp only[qab,zD,Nat.reduceEqDiff,zX,zA,hb])
  apply Exists.intro
  apply And.intro
  · simp (disch := first | omega | decide | simp only [qai, qag, qak, qaj, qah, qae, qac, qad, qan]) only [qba, qau, qa3, qao, qap, qam, qaf, qaq, qa7, qaz, qaI, qar, qaF, qaB, qaa, qa4, qaw, qaY, zK, zL, zN, zO, zJ, zM, Nat.reduceAdd, qab, qaX, qb6, op_ld, qbR, qbt, qbf, zC, zB, zE, zT, qbH, zZ, zE, zB, qbY, qa2, qbO, Nat.reduceAdd, zT, qbB, qb8, qb9, qcb, qcw, qb7, qbC, op_slcAV, slcAV_ptr, qax, qaM, qay, qa0, Nat.sub_zero, zZ, qcI, qal, qal, L28b0, hc, hst, hfr, hap2, hi, qbC, qb8, qb9]
    rfl
  · refine qaU [(1, 0), (1, 1), (1, 2)] rfl (by simp only [qaA, FUEL, qaH, qaD, qaE, qaP, qaK, qaL, zS, zW, zP, zV, zR, zk, zF, zY, za, zD, zt, zo, ze, Nat.reduceEqDiff, zH, zU, zp, zC, zA, zd, zm, zg, zl, ne_eq, zq, qab, qaJ, qaC, qav, qaO, L28k0, h0, hb, h1, qbh, qbd, hrn]) ?_ ⟨_, rfl, ?_, ?_, ?_⟩
    · simp only [L28k0, mask, zG, zF, qa8, ze, zA, zC]
      rfl
    · rw[cN_one _ _ 0 (1,0) [.sl (1,1) 0 j none 1] rfl (by simp only[qab,zD,Nat.reduceEqDiff,zH,zU,zA,h0])]; rfl
    · exact qas (1,2) rfl (by simp only[qab,zD,Nat.reduceEqDiff,zX,zC,zA]) (qaW _ _)
    · exact qas (1,1) rfl (by simp only[qab,zD,Nat.reduceEqDiff,zU,zX,zA,zd,h1]) (hrr _)
def iJB0 (l:List (BitVec 8)) (at_:Nat) (pl:List (BitVec 8)) (mm:Nat) (i:Nat) (st:St):Prop := ∃ (H:Heap),st=⟨[.undef,.undef,.undef,.ptr (1,0) 0,.undef,.sl (1,1) 0 (32*i) (some 512) 1,.undef,.undef,.undef,.undef,.undef,.undef,.sl (0,0) at_ mm (some mm) 32,N mm,N i,.undef,.undef,.undef,.undef,.undef,.undef,.undef,.undef,.undef,.undef,.undef,.undef,.undef],H,2,1⟩ ∧
  H (1,0)=some [Nil]∧H (1,1)=some (bs (pad (pl.take (32*i))))∧H (0,0)=some (bs l)
set_option maxRecDepth 10000 in
theorem i_roundB0 (K k0:Nat) (pl:List (BitVec 8)) (mm:Nat) (hm:mm≤16) (hl:pl.length=32*mm) (l:List (BitVec 8)) (at_:Nat) (hpl:pl=(l.drop at_).take (32*mm)) (hat:at_+32*mm≤l.length) (i:Nat) (hi:i < mm) (st:St) (hI:iJB0 l at_ pl mm i st) :
    ∃ st1,ev (envC C k0) K L28b0 st=some (.normal,st1)∧iJB0 l at_ pl mm (i+1) (qby L28k0 st1):=by
  obtain ⟨H,rfl,h0,hb,h00⟩:=hI
  have hc:cellK (at_+i*32) 32 (some (bs l))=some (bs ((pl.drop (32*i)).take 32)):=ld_ptr l at_ mm pl i hpl hi hat
  have hcl:((pl.drop (32*i)).take 32).length=32:=by rw[zzJ,zzG]; omega
  obtain ⟨ck,hck⟩:∃ ck,ck=(pl.drop (32*i)).take 32:=⟨_,rfl⟩
  rw[←hck] at hcl hc
  have hst:∀ m,stK 32 0 m (some (bs ck)) (some (aB 32 fun _=>0#8))=some ⟨Un,[],[(m,some (bs ck))]⟩:=fun m=>st_row m ck hcl
  have hfr:=frontK_bs_all 32 ck hcl.symm
  have hap:∀ (b:Nat) (H':Heap),H' (1,1)=some (bs (pad (pl.take (32*i))))→appX b 1 1 32 H' [] (bs ck) (.sl (1,1) 0 (32*i) (some 512) 1)=some ⟨.sl (1,1) 0 (32*(i+1)) (some 512) 1,[],[((1,1),some (bs (pad (pl.take (32*(i+1))))))]⟩:=fun b H' h=>app_pad b H' (1,1) pl ck i mm hm hl hi hck h
  have hap2:=fun (x y:Option qaR) (b:Nat)=>hap b (upd (upd H (5,0) x) (5,0) y) (by simp only[qab,zD,Nat.reduceEqDiff,zX,zA,zd,hb])
  apply Exists.intro
  apply And.intro
  · simp (disch := first | omega | decide | simp only [qai, qag, qak, qaj, qah, qae, qac, qad, qan]) only [qba, qau, qa3, qao, qap, qam, qaf, qaq, qa7, qaz, qaI, qar, qaF, qaB, qaa, qa4, qaw, qaY, zK, zL, zN, zO, zJ, zM, Nat.reduceAdd, qab, qaX, qaQ, qb6, op_ld, qbR, qbt, qbf, zC, zB, zE, zT, qbH, zZ, zE, zB, qbY, qa2, qbO, Nat.reduceAdd, zT, qbB, qb8, qb9, qcb, qcw, qb7, qbG, op_slcAV, slcAV_ptr, qax, qaM, qay, qa0, Nat.sub_zero, zZ, qcI, qal, qal, L28b0, h00, hc, hst, hfr, hap2, hi, qbG, qb8, qb9]
    rfl
  · refine qaU [(1, 0), (1, 1)] rfl (by simp only [qaA, FUEL, qaH, qaD, qaE, qaP, qaK, qaL, zS, zW, zP, zV, zR, zF, zG, zY, za, zD, zt, zo, ze, Nat.reduceEqDiff, zH, zU, zp, zC, zA, zd, zi, zm, zg, zl, ne_eq, zq, z9, qab, qaJ, qaC, qav, qce, qaO, qbu, L28k0, h0, hb, h00, qbh]) ?_ ⟨_, rfl, ?_, ?_, ?_⟩
    · simp only [L28k0, mask, zG, zF, ze, zA, zC]
      rfl
    · exact qas (1,0) rfl (by simp only[qab,zD,Nat.reduceEqDiff,zH,zU,zA,zi,h0]) rfl
    · exact qas (1,1) rfl (by simp only[qab,zD,Nat.reduceEqDiff,zX,zC,zA,zd]) (qaW _ _)
    · rw [qcm]
      simp (disch:=first|omega|decide|simp only[qai,qag,qak,qaj,qah,qae,qac,qad,qan]) only[zI,qab,zD,Nat.reduceEqDiff,zH,zX,zA,zi,zI,qaW,h00,qaW]
def iJB1 (l:List (BitVec 8)) (at_:Nat) (rw:qaR) (j:Nat) (pl:List (BitVec 8)) (mm:Nat) (i:Nat) (st:St):Prop := ∃ (H:Heap),st=⟨[.undef,.undef,.undef,.ptr (1,0) 0,.undef,.sl (1,2) 0 (32*i) (some 512) 1,.undef,.undef,.undef,.undef,.undef,.undef,.sl (0,0) at_ mm (some mm) 32,N mm,N i,.undef,.undef,.undef,.undef,.undef,.undef,.undef,.undef,.undef,.undef,.undef,.undef,.undef],H,2,1⟩ ∧
  H (1,0)=some [.sl (1,1) 0 j none 1]∧H (1,2)=some (bs (pad (pl.take (32*i))))∧H (1,1)=some rw∧H (0,0)=some (bs l)
set_option maxRecDepth 10000 in
theorem i_roundB1 (K k0:Nat) (pl:List (BitVec 8)) (mm:Nat) (hm:mm≤16) (hl:pl.length=32*mm) (l:List (BitVec 8)) (at_:Nat) (hpl:pl=(l.drop at_).take (32*mm)) (hat:at_+32*mm≤l.length) (rw:qaR) (j:Nat) (hrn:rw.flatMap (nms D)=[]) (hrr:∀ π,rw.map (ren D π)=rw) (i:Nat) (hi:i < mm) (st:St) (hI:iJB1 l at_ rw j pl mm i st) :
    ∃ st1,ev (envC C k0) K L28b0 st=some (.normal,st1)∧iJB1 l at_ rw j pl mm (i+1) (qby L28k0 st1):=by
  obtain ⟨H,rfl,h0,hb,h1,h00⟩:=hI
  have hc:cellK (at_+i*32) 32 (some (bs l))=some (bs ((pl.drop (32*i)).take 32)):=ld_ptr l at_ mm pl i hpl hi hat
  have hcl:((pl.drop (32*i)).take 32).length=32:=by rw[zzJ,zzG]; omega
  obtain ⟨ck,hck⟩:∃ ck,ck=(pl.drop (32*i)).take 32:=⟨_,rfl⟩
  rw[←hck] at hcl hc
  have hst:∀ m,stK 32 0 m (some (bs ck)) (some (aB 32 fun _=>0#8))=some ⟨Un,[],[(m,some (bs ck))]⟩:=fun m=>st_row m ck hcl
  have hfr:=frontK_bs_all 32 ck hcl.symm
  have hap:∀ (b:Nat) (H':Heap),H' (1,2)=some (bs (pad (pl.take (32*i))))→appX b 1 1 32 H' [] (bs ck) (.sl (1,2) 0 (32*i) (some 512) 1)=some ⟨.sl (1,2) 0 (32*(i+1)) (some 512) 1,[],[((1,2),some (bs (pad (pl.take (32*(i+1))))))]⟩:=fun b H' h=>app_pad b H' (1,2) pl ck i mm hm hl hi hck h
  have hap2:=fun (x y:Option qaR) (b:Nat)=>hap b (upd (upd H (5,0) x) (5,0) y) (by simp only[qab,zD,Nat.reduceEqDiff,zX,zA,hb])
  apply Exists.intro
  apply And.intro
  · simp (disch := first | omega | decide | simp only [qai, qag, qak, qaj, qah, qae, qac, qad, qan]) only [qba, qau, qa3, qao, qap, qam, qaf, qaq, qa7, qaz, qaI, qar, qaF, qaB, qaa, qa4, qaw, qaY, zK, zL, zN, zO, zJ, zM, Nat.reduceAdd, qab, qaX, qaQ, qb6, op_ld, qbR, qbt, qbf, zC, zB, zE, zT, qbH, zZ, zE, zB, qbY, qa2, qbO, Nat.reduceAdd, zT, qbB, qb8, qb9, qcb, qcw, qb7, qbG, op_slcAV, slcAV_ptr, qax, qaM, qay, qa0, Nat.sub_zero, zZ, qcI, qal, qal, L28b0, h00, hc, hst, hfr, hap2, hi, qbG, qb8, qb9]
    rfl
  · refine qaU [(1, 0), (1, 1), (1, 2)] rfl (by simp only [qaA, FUEL, qaH, qaD, qaE, qaP, qaK, qaL, zS, zW, zP, zV, zR, zF, zG, zY, za, zD, zt, zo, ze, Nat.reduceEqDiff, zH, zU, zp, zC, zA, zd, zi, zm, zg, zl, ne_eq, zq, z9, qab, qaJ, qaC, qav, qce, qaO, L28k0, h0, hb, h1, h00, qbh, hrn]) ?_ ⟨_, rfl, ?_, ?_, ?_, ?_⟩
    · simp only [L28k0, mask, zG, zF, ze, zA, zC]
      rfl
    · rw[cN_one _ _ 0 (1,0) [.sl (1,1) 0 j none 1] rfl (by simp only[qab,zD,Nat.reduceEqDiff,zH,zU,zA,h0])]; rfl
    · exact qas (1,2) rfl (by simp only[qab,zD,Nat.reduceEqDiff,zX,zC,zA]) (qaW _ _)
    · exact qas (1,1) rfl (by simp only[qab,zD,Nat.reduceEqDiff,zU,zX,zA,zd,h1]) (hrr _)
    · rw [qcm]
      simp (disch:=first|omega|decide|simp only[qai,qag,qak,qaj,qah,qae,qac,qad,qan]) only[zI,qab,zD,Nat.reduceEqDiff,zH,zX,zA,zi,zI,qaW,h00,qaW]
def aJA0 (st:St):Prop := ∃ (H:Heap),st=⟨[.undef,.undef,.undef,.ptr (1,0) 0,.undef,.undef,.undef,.undef,.undef,.undef,.undef,.undef,.undef,.undef,.undef,.undef,.undef,.undef,.undef,.undef,.undef,.undef,.undef,.undef,.undef,.undef,.undef,.undef],H,2,0⟩∧H (1,0)=some [Nil]
def aJA1 (rw:qaR) (j:Nat) (st:St):Prop := ∃ (H:Heap),st=⟨[.undef,.undef,.undef,.ptr (1,0) 0,.undef,.undef,.undef,.undef,.undef,.undef,.undef,.undef,.undef,.undef,.undef,.undef,.undef,.undef,.undef,.undef,.undef,.undef,.undef,.undef,.undef,.undef,.undef,.undef],H,2,0⟩∧H (1,0)=some [.sl (1,1) 0 j none 1]∧H (1,1)=some rw
def aJB0 (l:List (BitVec 8)) (st:St):Prop := ∃ (H:Heap),st=⟨[.undef,.undef,.undef,.ptr (1,0) 0,.undef,.undef,.undef,.undef,.undef,.undef,.undef,.undef,.undef,.undef,.undef,.undef,.undef,.undef,.undef,.undef,.undef,.undef,.undef,.undef,.undef,.undef,.undef,.undef],H,2,1⟩∧H (1,0)=some [Nil]∧H (0,0)=some (bs l)
def aJB1 (l:List (BitVec 8)) (rw:qaR) (j:Nat) (st:St):Prop := ∃ (H:Heap),st=⟨[.undef,.undef,.undef,.ptr (1,0) 0,.undef,.undef,.undef,.undef,.undef,.undef,.undef,.undef,.undef,.undef,.undef,.undef,.undef,.undef,.undef,.undef,.undef,.undef,.undef,.undef,.undef,.undef,.undef,.undef],H,2,1⟩∧H (1,0)=some [.sl (1,1) 0 j none 1]∧H (1,1)=some rw∧H (0,0)=some (bs l)
set_option maxRecDepth 10000 in
theorem o_roundA0 (K k0:Nat) (hK:20≤K) (pl:List (BitVec 8)) (mm:Nat) (hm:mm≤16) (hm0:0 < mm) (hl:pl.length=32*mm) (s0:St) (hI:aJA0 (qby L28k1 s0)) :
    ∃ st1,ev (envC C k0) K (ls28.seq bd28) (LE.begun L28k1 10 (.isl (bs pl) mm) s0)=some (.normal,st1)∧aJA1 [.isl (bs (pad pl)) 512] 1 (qby L28k1 st1):=by
  obtain ⟨H,hs,h0⟩:=hI
  unfold LE.begun
  rw[hs]
  simp (disch:=first|omega|decide|simp only[qai,qag,qak,qaj,qah,qae,qac,qad,qan]) only[qau,qa3,qao,qap,qam,qaf,qaq,qaz,qaI,qaF,qaa,zK,zL,zN,zO,zJ,zM,qbZ,Nat.reduceAdd,zB,zE,zE,zB,qbO,Nat.reduceAdd,qbi,qaV,qbD,op_mkslice,qax,qaM,qay,qal,qal,ls28,bd28,mk_bytes]
  generalize hL:qca L28k0 _ _ _=r
  refine qbJ hL (iJA0 pl mm) mm (by omega) (fun i st hi hI=>i_roundA0 K k0 pl mm hm hl i hi st hI) ?_ ?_ ?_
  · refine qaU [(1, 0), (3, 0)] rfl (by simp only [qaA, FUEL, qaH, qaD, qaE, qaP, qaK, qaL, zS, zW, zP, zV, zR, zk, zF, zY, za, zD, zt, zo, ze, Nat.reduceEqDiff, zH, zp, zC, zA, zd, zm, zg, zl, ne_eq, zq, qab, qaJ, qaC, qav, qaO, qbu, L28k0, h0, qbh, qbd]) ?_ ⟨_, rfl, ?_, ?_⟩
    · simp only [L28k0, mask, zG, zF, qa8, ze, zA, zC]
      rfl
    · exact qas (1,0) rfl (by simp only[qab,zD,Nat.reduceEqDiff,zH,zA,h0]) rfl
    · refine qas (3, 0) rfl ?_ (qaW _ _)
      rw[pad_zero]
      simp only[qab,zC]
  · rintro st ⟨H, rfl, h0, hb⟩
    apply qbs
    simp (disch:=first|omega|decide|simp only[qai,qag,qak,qaj,qah,qae,qac,qad,qan]) only[qa6,qau,qao,qap,qam,qaf,qaN,qaq,qaz,qar,qaB,qaa,qaG,qaw,qat,zK,zL,zN,zO,zJ,zM,Nat.reduceAdd,zB,zE,zQ,qa2,Nat.reduceAdd,zj,zQ,L28b0,zj]
    rfl
  · rintro st ⟨H, rfl, h0, hb⟩ rfl
    rw[show pl.take (32*mm)=pl from List.take_of_length_le (by omega)] at hb
    have hpn:(pad pl).length=512:=pad_length pl (by omega)
    have hre:reach (upd H (6,0) (some [.sl (1,1) 0 512 (some 512) 1])) FUEL [] [(6,0)]=[(6,0),(1,1)]:=by
      simp only[FUEL,qaH,qaD,qaE,qaK,zS,zW,zP,zV,zR,zY,za,zD,zt,zo,ze,Nat.reduceEqDiff,zU,zp,zC,zA,zd,qab,FUEL,hb,qbh,qaK,zR,zP,zV]
    have hz:appKz 7 1 24 (only [(6,0),(1,1)] (upd H (6,0) (some [.sl (1,1) 0 512 (some 512) 1]))) (Nil) (.sl (6,0) 0 1 (some 1) 1) (some 1)=some ⟨.sl (7,0) 0 1 none 1,[[.isl (bs (pad pl)) 512]],[((1,1),none)]⟩:=by
      rw[appKz_one _ (6,0) (1,1) 512 (some 512) (pad pl) (by simp only[qab,zC,qbE,za,zY,zz,Bool.true_or,zC]) (by simp only[qab,zD,Nat.reduceEqDiff,zX,zC,zA,zd,hb,qbE,za,zY,zz,z6,Bool.true_or,zC]) (by decide) hpn]
      exact appX_nilz _ _
    simp (disch:=first|omega|decide|simp only[qai,qag,qak,qaj,qah,qae,qac,qad,qan]) only[qa6,qau,qao,qap,qam,qaf,qaq,qa7,qaz,qaI,qar,qaF,qaB,qaa,qaG,qa4,qbc,qaw,qat,zK,zL,zN,zO,zG,zF,zP,zV,zR,zJ,zM,Nat.reduceAdd,Nat.reduceSub,qab,qaQ,cellK_cons,qbe,qbx,qbt,qbf,stK_cons,qbW,qcx,qco,qb2,zzK,zzB,zzE,z8,zzD,zzL,zw,zx,zh,zD,Nat.reduceEqDiff,Nat.reduceLT,zH,zU,zX,zC,zA,zB,zE,Nat.le_refl,zT,zQ,zi,qbH,zZ,zE,zB,qa2,qbO,Nat.reduceLT,Nat.reduceEqDiff,Nat.reduceAdd,zj,zQ,zT,nm_beq,zu,zf,qbL,qbB,qbu,qdi,qah,qcw,qdc,op_slcS,slcV_cap,qdd,qbK,qbw,qax,qaM,qay,qa0,Nat.sub_zero,zZ,qbz,qb3,qbE,qcr,touch_st,qaP,za,zY,zz,z6,z0,ordOk,qbv,zw,zx,Nat.testBit,Nat.reduceShiftRight,Nat.reduceAnd,Nat.reduceBEq,zf,zu,z7,zh,zzH,Nat.reduceSub,Nat.reduceLT,bne,qbN,qcp,trimO_f,qbI,qcf,isCall_st,isCall_append,zzH,zh,qbo,qal,qal,qbo,L28b0,zj,h0,qdf,touch_appendz,qaK,qbu,zR,zP,zV,hre,hz]
    refine ⟨_,rfl,?_⟩
    have hnn:([LV.isl (bs (pad pl)) 512]).flatMap (nms D)=[]:=by rw[zS,qbd]; rfl
    refine qaU [(1,0),(7,0)] rfl (by simp only[qaA,FUEL,qaH,qaD,qaE,qaP,qaK,qaL,zS,zW,zP,zV,zR,zk,zF,zY,za,zD,zt,zo,ze,Nat.reduceEqDiff,zH,zU,zp,zC,zA,zd,zi,zm,zg,zl,ne_eq,zq,qab,qaJ,qaC,qav,L28k1,hnn,qaK]) rfl ⟨_,rfl,?_,?_⟩
    · rw[cN_one _ _ 0 (1,0) [.sl (7,0) 0 1 none 1] rfl (by simp only[qab,zD,Nat.reduceEqDiff,zH,zU,zC,zA,zi])]; rfl
    · exact qas (7,0) rfl (by simp only[qab,zD,Nat.reduceEqDiff,zH,zX,zC,zA,zi]) (by rw[zG,zF,qa8])
set_option maxRecDepth 10000 in
theorem o_roundA1 (K k0:Nat) (hK:20≤K) (pl:List (BitVec 8)) (mm:Nat) (hm:mm≤16) (hm0:0 < mm) (hl:pl.length=32*mm) (rw:qaR) (j:Nat) (hrn:rw.flatMap (nms D)=[]) (hrr:∀ π,rw.map (ren D π)=rw) (hrl:rw.length=j) (hj:j≤1000000000) (s0:St) (hI:aJA1 rw j (qby L28k1 s0)) :
    ∃ st1,ev (envC C k0) K (ls28.seq bd28) (LE.begun L28k1 10 (.isl (bs pl) mm) s0)=some (.normal,st1)∧aJA1 (rw++[.isl (bs (pad pl)) 512]) (j+1) (qby L28k1 st1):=by
  obtain ⟨H,hs,h0,h1⟩:=hI
  unfold LE.begun
  rw[hs]
  simp (disch:=first|omega|decide|simp only[qai,qag,qak,qaj,qah,qae,qac,qad,qan]) only[qau,qa3,qao,qap,qam,qaf,qaq,qaz,qaI,qaF,qaa,zK,zL,zN,zO,zJ,zM,qbZ,Nat.reduceAdd,zB,zE,zE,zB,qbO,Nat.reduceAdd,qbi,qaV,qbD,op_mkslice,qax,qaM,qay,qal,qal,ls28,bd28,mk_bytes]
  generalize hL:qca L28k0 _ _ _=r
  refine qbJ hL (iJA1 rw j pl mm) mm (by omega) (fun i st hi hI=>i_roundA1 K k0 pl mm hm hl rw j hrn hrr i hi st hI) ?_ ?_ ?_
  · refine qaU [(1, 0), (1, 1), (3, 0)] rfl (by simp only [qaA, FUEL, qaH, qaD, qaE, qaP, qaK, qaL, zS, zW, zP, zV, zR, zk, zF, zY, za, zD, zt, zo, ze, Nat.reduceEqDiff, zH, zU, zp, zC, zA, zd, zi, zm, zg, zl, ne_eq, zq, qab, qaJ, qaC, qav, qaO, L28k0, h0, h1, qbh, qbd, hrn]) ?_ ⟨_, rfl, ?_, ?_, ?_⟩
    · simp only [L28k0, mask, zG, zF, qa8, ze, zA, zC]
      rfl
    · rw[cN_one _ _ 0 (1,0) [.sl (1,1) 0 j none 1] rfl (by simp only[qab,zD,Nat.reduceEqDiff,zH,zA,h0])]; rfl
    · refine qas (3, 0) rfl ?_ (qaW _ _)
      rw[pad_zero]
      simp only[qab,zC]
    · exact qas (1,1) rfl (by simp only[qab,zD,Nat.reduceEqDiff,zX,zA,zd,h1]) (hrr _)
  · rintro st ⟨H, rfl, h0, hb, h1⟩
    apply qbs
    simp (disch:=first|omega|decide|simp only[qai,qag,qak,qaj,qah,qae,qac,qad,qan]) only[qa6,qau,qao,qap,qam,qaf,qaN,qaq,qaz,qar,qaB,qaa,qaG,qaw,qat,zK,zL,zN,zO,zJ,zM,Nat.reduceAdd,zB,zE,zQ,qa2,Nat.reduceAdd,zj,zQ,L28b0,zj]
    rfl
  · rintro st ⟨H, rfl, h0, hb, h1⟩ rfl
    rw[show pl.take (32*mm)=pl from List.take_of_length_le (by omega)] at hb
    have hpn:(pad pl).length=512:=pad_length pl (by omega)
    have hre:reach (upd H (6,0) (some [.sl (1,2) 0 512 (some 512) 1])) FUEL [] [(1,1),(6,0)]=[(1,1),(6,0),(1,2)]:=by
      simp only[FUEL,qaH,qaD,qaE,qaK,zS,zW,zP,zV,zR,zY,za,zD,zt,zo,ze,Nat.reduceEqDiff,zU,zp,zC,zA,zd,zi,qab,FUEL,hb,h1,qbh,qaK,zR,zP,zV,hrn]
    have hz:appKz 7 1 24 (only [(1,1),(6,0),(1,2)] (upd H (6,0) (some [.sl (1,2) 0 512 (some 512) 1]))) (.sl (1,1) 0 j none 1) (.sl (6,0) 0 1 (some 1) 1) (some 1)=some ⟨.sl (7,0) 0 (j+1) none 1,[rw++[.isl (bs (pad pl)) 512]],[((1,1),none),((1,2),none)]⟩:=by
      rw[appKz_one _ (6,0) (1,2) 512 (some 512) (pad pl) (by simp only[qab,zC,qbE,za,zY,zz,z6,Bool.true_or,zC]) (by simp only[qab,zD,Nat.reduceEqDiff,zX,zC,zA,hb,qbE,za,zY,zz,z6,Bool.true_or,zC]) (by decide) hpn]
      exact appX_rowz _ (1,1) j rw _ (by simp only[qab,zD,Nat.reduceEqDiff,zX,zC,zA,zd,h1,qbE,za,zY,zz,Bool.true_or,zC]) hrl (by omega) rfl
    simp (disch:=first|omega|decide|simp only[qai,qag,qak,qaj,qah,qae,qac,qad,qan]) only[qa6,qau,qao,qap,qam,qaf,qaq,qa7,qaz,qaI,qar,qaF,qaB,qaa,qaG,qa4,qbc,qaw,qat,zK,zL,zN,zO,zG,zF,zP,zV,zR,zJ,zM,Nat.reduceAdd,Nat.reduceSub,qab,qaQ,cellK_cons,qbe,qbx,qbt,qbf,stK_cons,qbW,qcx,qco,qb2,zzK,zzB,zzE,z8,zzD,zzL,zw,zx,zh,zD,Nat.reduceEqDiff,Nat.reduceLT,zH,zU,zX,zC,zA,zB,zE,Nat.le_refl,zT,zQ,zi,qbH,zZ,zE,zB,qa2,qbO,Nat.reduceLT,Nat.reduceEqDiff,Nat.reduceAdd,zj,zQ,zT,nm_beq,zu,zf,qbL,qbB,qdi,qah,qcw,qdc,op_slcS,slcV_cap,qdd,qbK,qbw,qax,qaM,qay,qa0,Nat.sub_zero,zZ,qbz,qb3,qbE,qcr,touch_st,qaP,za,zY,zz,z6,z0,ordOk,qbv,zw,zx,Nat.testBit,Nat.reduceShiftRight,Nat.reduceAnd,Nat.reduceBEq,zf,zu,z7,zh,zzH,Nat.reduceSub,Nat.reduceLT,bne,qbN,qcp,trimO_f,qbI,qcf,isCall_st,isCall_append,zzH,zh,qbo,qal,qal,qbo,L28b0,zj,h0,qdf,touch_appendz,qaK,zR,zP,zV,hre,hz]
    refine ⟨_,rfl,?_⟩
    have hnn:(rw++[LV.isl (bs (pad pl)) 512]).flatMap (nms D)=[]:=by rw[List.flatMap_append,hrn,zS,qbd]; rfl
    refine qaU [(1,0),(7,0)] rfl (by simp only[qaA,FUEL,qaH,qaD,qaE,qaP,qaK,qaL,zS,zW,zP,zV,zR,zk,zF,zY,za,zD,zt,zo,ze,Nat.reduceEqDiff,zH,zU,zp,zC,zA,zd,zi,zm,zg,zl,ne_eq,zq,qab,qaJ,qaC,qav,L28k1,hnn,qaK]) rfl ⟨_,rfl,?_,?_⟩
    · rw[cN_one _ _ 0 (1,0) [.sl (7,0) 0 (j+1) none 1] rfl (by simp only[qab,zD,Nat.reduceEqDiff,zH,zU,zC,zA,zi])]; rfl
    · exact qas (7,0) rfl (by simp only[qab,zD,Nat.reduceEqDiff,zH,zX,zC,zA,zi]) (by rw[List.map_append,hrr,zG,zF,qa8])
set_option maxRecDepth 10000 in
theorem o_roundB0 (K k0:Nat) (hK:20≤K) (pl:List (BitVec 8)) (mm:Nat) (hm:mm≤16) (hm0:0 < mm) (hl:pl.length=32*mm) (l:List (BitVec 8)) (at_:Nat) (hpl:pl=(l.drop at_).take (32*mm)) (hat:at_+32*mm≤l.length) (s0:St) (hI:aJB0 l (qby L28k1 s0)) :
    ∃ st1,ev (envC C k0) K (ls28.seq bd28) (LE.begun L28k1 10 (.sl (0,0) at_ mm (some mm) 32) s0)=some (.normal,st1)∧aJB1 l [.isl (bs (pad pl)) 512] 1 (qby L28k1 st1):=by
  obtain ⟨H,hs,h0,h00⟩:=hI
  unfold LE.begun
  rw[hs]
  simp (disch:=first|omega|decide|simp only[qai,qag,qak,qaj,qah,qae,qac,qad,qan]) only[qau,qa3,qao,qap,qam,qaf,qaq,qaz,qaI,qaF,qaa,zK,zL,zN,zO,zJ,zM,qbZ,Nat.reduceAdd,zB,zE,zE,zB,qbO,Nat.reduceAdd,qbi,qaV,qbL,op_mkslice,qax,qaM,qay,qal,qal,ls28,bd28,mk_bytes]
  generalize hL:qca L28k0 _ _ _=r
  refine qbJ hL (iJB0 l at_ pl mm) mm (by omega) (fun i st hi hI=>i_roundB0 K k0 pl mm hm hl l at_ hpl hat i hi st hI) ?_ ?_ ?_
  · refine qaU [(1, 0), (3, 0)] rfl (by simp only [qaA, FUEL, qaH, qaD, qaE, qaP, qaK, qaL, zS, zW, zP, zV, zR, zF, zG, zY, za, zD, zt, zo, ze, Nat.reduceEqDiff, zH, zp, zC, zA, zd, zi, zm, zg, zl, ne_eq, zq, z9, qab, qaJ, qaC, qav, qce, qaO, qbu, L28k0, h0, h00, qbh]) ?_ ⟨_, rfl, ?_, ?_, ?_⟩
    · simp only [L28k0, mask, zG, zF, ze, zA, zC]
      rfl
    · exact qas (1,0) rfl (by simp only[qab,zD,Nat.reduceEqDiff,zH,zA,h0]) rfl
    · refine qas (3, 0) rfl ?_ (qaW _ _)
      rw[pad_zero]
      simp only[qab,zC]
    · rw [qcm]
      simp (disch:=first|omega|decide|simp only[qai,qag,qak,qaj,qah,qae,qac,qad,qan]) only[zI,qab,zD,Nat.reduceEqDiff,zH,zA,zI,qaW,h00,qaW]
  · rintro st ⟨H, rfl, h0, hb, h00⟩
    apply qbs
    simp (disch:=first|omega|decide|simp only[qai,qag,qak,qaj,qah,qae,qac,qad,qan]) only[qa6,qau,qao,qap,qam,qaf,qaN,qaq,qaz,qar,qaB,qaa,qaG,qaw,qat,zK,zL,zN,zO,zJ,zM,Nat.reduceAdd,zB,zE,zQ,qa2,Nat.reduceAdd,zj,zQ,L28b0,zj]
    rfl
  · rintro st ⟨H, rfl, h0, hb, h00⟩ rfl
    rw[show pl.take (32*mm)=pl from List.take_of_length_le (by omega)] at hb
    have hpn:(pad pl).length=512:=pad_length pl (by omega)
    have hre:reach (upd H (6,0) (some [.sl (1,1) 0 512 (some 512) 1])) FUEL [] [(6,0)]=[(6,0),(1,1)]:=by
      simp only[FUEL,qaH,qaD,qaE,qaK,zS,zW,zP,zV,zR,zY,za,zD,zt,zo,ze,Nat.reduceEqDiff,zU,zp,zC,zA,zd,qab,FUEL,hb,qbh,qaK,zR,zP,zV]
    have hz:appKz 7 1 24 (only [(6,0),(1,1)] (upd H (6,0) (some [.sl (1,1) 0 512 (some 512) 1]))) (Nil) (.sl (6,0) 0 1 (some 1) 1) (some 1)=some ⟨.sl (7,0) 0 1 none 1,[[.isl (bs (pad pl)) 512]],[((1,1),none)]⟩:=by
      rw[appKz_one _ (6,0) (1,1) 512 (some 512) (pad pl) (by simp only[qab,zC,qbE,za,zY,zz,Bool.true_or,zC]) (by simp only[qab,zD,Nat.reduceEqDiff,zX,zC,zA,zd,hb,qbE,za,zY,zz,z6,Bool.true_or,zC]) (by decide) hpn]
      exact appX_nilz _ _
    simp (disch:=first|omega|decide|simp only[qai,qag,qak,qaj,qah,qae,qac,qad,qan]) only[qa6,qau,qao,qap,qam,qaf,qaq,qa7,qaz,qaI,qar,qaF,qaB,qaa,qaG,qa4,qbc,qaw,qat,zK,zL,zN,zO,zG,zF,zP,zV,zR,zJ,zM,Nat.reduceAdd,Nat.reduceSub,qab,qaQ,cellK_cons,qbe,qbx,qbt,qbf,stK_cons,qbW,qcx,qco,qb2,zzK,zzB,zzE,z8,zzD,zzL,zw,zx,zh,zD,Nat.reduceEqDiff,Nat.reduceLT,zH,zU,zX,zC,zA,zB,zE,Nat.le_refl,zT,zQ,zi,qbH,zZ,zE,zB,qa2,qbO,Nat.reduceLT,Nat.reduceEqDiff,Nat.reduceAdd,zj,zQ,zT,nm_beq,zu,zf,qbL,qbB,qbu,qdi,qah,qcw,qdc,op_slcS,slcV_cap,qdd,qbK,qbw,qax,qaM,qay,qa0,Nat.sub_zero,zZ,qbz,qb3,qbE,qcr,touch_st,qaP,za,zY,zz,z6,z0,ordOk,qbv,zw,zx,Nat.testBit,Nat.reduceShiftRight,Nat.reduceAnd,Nat.reduceBEq,zf,zu,z7,zh,zzH,Nat.reduceSub,Nat.reduceLT,bne,qbN,qcp,trimO_f,qbI,qcf,isCall_st,isCall_append,zzH,zh,qbo,qal,qal,qbo,L28b0,zj,h0,qdf,touch_appendz,qaK,qbu,zR,zP,zV,hre,hz]
    refine ⟨_,rfl,?_⟩
    have hnn:([LV.isl (bs (pad pl)) 512]).flatMap (nms D)=[]:=by rw[zS,qbd]; rfl
    refine qaU [(1,0),(7,0)] rfl (by simp only[qaA,FUEL,qaH,qaD,qaE,qaP,qaK,qaL,zS,zW,zP,zV,zR,zF,zG,zY,za,zD,zt,zo,ze,Nat.reduceEqDiff,zH,zU,zp,zC,zA,zd,zi,zm,zg,zl,ne_eq,zq,z9,qab,qaJ,qaC,qav,qce,L28k1,hnn,qaK,qbh,h00]) rfl ⟨_,rfl,?_,?_,?_⟩
    · rw[cN_one _ _ 0 (1,0) [.sl (7,0) 0 1 none 1] rfl (by simp only[qab,zD,Nat.reduceEqDiff,zH,zU,zC,zA,zi])]; rfl
    · exact qas (7,0) rfl (by simp only[qab,zD,Nat.reduceEqDiff,zH,zX,zC,zA,zi]) (by rw[zG,zF,qa8])
    · rw [qcm]
      simp (disch:=first|omega|decide|simp only[qai,qag,qak,qaj,qah,qae,qac,qad,qan]) only[zI,qab,zD,Nat.reduceEqDiff,zH,zX,zA,zi,zI,qaW,h00,qaW]
set_option maxRecDepth 10000 in
theorem o_roundB1 (K k0:Nat) (hK:20≤K) (pl:List (BitVec 8)) (mm:Nat) (hm:mm≤16) (hm0:0 < mm) (hl:pl.length=32*mm) (l:List (BitVec 8)) (at_:Nat) (hpl:pl=(l.drop at_).take (32*mm)) (hat:at_+32*mm≤l.length) (rw:qaR) (j:Nat) (hrn:rw.flatMap (nms D)=[]) (hrr:∀ π,rw.map (ren D π)=rw) (hrl:rw.length=j) (hj:j≤1000000000) (s0:St) (hI:aJB1 l rw j (qby L28k1 s0)) :
    ∃ st1,ev (envC C k0) K (ls28.seq bd28) (LE.begun L28k1 10 (.sl (0,0) at_ mm (some mm) 32) s0)=some (.normal,st1)∧aJB1 l (rw++[.isl (bs (pad pl)) 512]) (j+1) (qby L28k1 st1):=by
  obtain ⟨H,hs,h0,h1,h00⟩:=hI
  unfold LE.begun
  rw[hs]
  simp (disch:=first|omega|decide|simp only[qai,qag,qak,qaj,qah,qae,qac,qad,qan]) only[qau,qa3,qao,qap,qam,qaf,qaq,qaz,qaI,qaF,qaa,zK,zL,zN,zO,zJ,zM,qbZ,Nat.reduceAdd,zB,zE,zE,zB,qbO,Nat.reduceAdd,qbi,qaV,qbL,op_mkslice,qax,qaM,qay,qal,qal,ls28,bd28,mk_bytes]
  generalize hL:qca L28k0 _ _ _=r
  refine qbJ hL (iJB1 l at_ rw j pl mm) mm (by omega) (fun i st hi hI=>i_roundB1 K k0 pl mm hm hl l at_ hpl hat rw j hrn hrr i hi st hI) ?_ ?_ ?_
  · refine qaU [(1, 0), (1, 1), (3, 0)] rfl (by simp only [qaA, FUEL, qaH, qaD, qaE, qaP, qaK, qaL, zS, zW, zP, zV, zR, zF, zG, zY, za, zD, zt, zo, ze, Nat.reduceEqDiff, zH, zU, zp, zC, zA, zd, zi, zm, zg, zl, ne_eq, zq, z9, qab, qaJ, qaC, qav, qce, qaO, L28k0, h0, h1, h00, qbh, hrn]) ?_ ⟨_, rfl, ?_, ?_, ?_, ?_⟩
    · simp only [L28k0, mask, zG, zF, ze, zA, zC]
      rfl
    · rw[cN_one _ _ 0 (1,0) [.sl (1,1) 0 j none 1] rfl (by simp only[qab,zD,Nat.reduceEqDiff,zH,zA,h0])]; rfl
    · refine qas (3, 0) rfl ?_ (qaW _ _)
      rw[pad_zero]
      simp only[qab,zC]
    · exact qas (1,1) rfl (by simp only[qab,zD,Nat.reduceEqDiff,zX,zA,zd,h1]) (hrr _)
    · rw [qcm]
      simp (disch:=first|omega|decide|simp only[qai,qag,qak,qaj,qah,qae,qac,qad,qan]) only[zI,qab,zD,Nat.reduceEqDiff,zH,zA,zI,qaW,h00,qaW]
  · rintro st ⟨H, rfl, h0, hb, h1, h00⟩
    apply qbs
    simp (disch:=first|omega|decide|simp only[qai,qag,qak,qaj,qah,qae,qac,qad,qan]) only[qa6,qau,qao,qap,qam,qaf,qaN,qaq,qaz,qar,qaB,qaa,qaG,qaw,qat,zK,zL,zN,zO,zJ,zM,Nat.reduceAdd,zB,zE,zQ,qa2,Nat.reduceAdd,zj,zQ,L28b0,zj]
    rfl
  · rintro st ⟨H, rfl, h0, hb, h1, h00⟩ rfl
    rw[show pl.take (32*mm)=pl from List.take_of_length_le (by omega)] at hb
    have hpn:(pad pl).length=512:=pad_length pl (by omega)
    have hre:reach (upd H (6,0) (some [.sl (1,2) 0 512 (some 512) 1])) FUEL [] [(1,1),(6,0)]=[(1,1),(6,0),(1,2)]:=by
      simp only[FUEL,qaH,qaD,qaE,qaK,zS,zW,zP,zV,zR,zY,za,zD,zt,zo,ze,Nat.reduceEqDiff,zU,zp,zC,zA,zd,zi,qab,FUEL,hb,h1,qbh,qaK,zR,zP,zV,hrn]
    have hz:appKz 7 1 24 (only [(1,1),(6,0),(1,2)] (upd H (6,0) (some [.sl (1,2) 0 512 (some 512) 1]))) (.sl (1,1) 0 j none 1) (.sl (6,0) 0 1 (some 1) 1) (some 1)=some ⟨.sl (7,0) 0 (j+1) none 1,[rw++[.isl (bs (pad pl)) 512]],[((1,1),none),((1,2),none)]⟩:=by
      rw[appKz_one _ (6,0) (1,2) 512 (some 512) (pad pl) (by simp only[qab,zC,qbE,za,zY,zz,z6,Bool.true_or,zC]) (by simp only[qab,zD,Nat.reduceEqDiff,zX,zC,zA,hb,qbE,za,zY,zz,z6,Bool.true_or,zC]) (by decide) hpn]
      exact appX_rowz _ (1,1) j rw _ (by simp only[qab,zD,Nat.reduceEqDiff,zX,zC,zA,zd,h1,qbE,za,zY,zz,Bool.true_or,zC]) hrl (by omega) rfl
    simp (disch:=first|omega|decide|simp only[qai,qag,qak,qaj,qah,qae,qac,qad,qan]) only[qa6,qau,qao,qap,qam,qaf,qaq,qa7,qaz,qaI,qar,qaF,qaB,qaa,qaG,qa4,qbc,qaw,qat,zK,zL,zN,zO,zG,zF,zP,zV,zR,zJ,zM,Nat.reduceAdd,Nat.reduceSub,qab,qaQ,cellK_cons,qbe,qbx,qbt,qbf,stK_cons,qbW,qcx,qco,qb2,zzK,zzB,zzE,z8,zzD,zzL,zw,zx,zh,zD,Nat.reduceEqDiff,Nat.reduceLT,zH,zU,zX,zC,zA,zB,zE,Nat.le_refl,zT,zQ,zi,qbH,zZ,zE,zB,qa2,qbO,Nat.reduceLT,Nat.reduceEqDiff,Nat.reduceAdd,zj,zQ,zT,nm_beq,zu,zf,qbL,qbB,qdi,qah,qcw,qdc,op_slcS,slcV_cap,qdd,qbK,qbw,qax,qaM,qay,qa0,Nat.sub_zero,zZ,qbz,qb3,qbE,qcr,touch_st,qaP,za,zY,zz,z6,z0,ordOk,qbv,zw,zx,Nat.testBit,Nat.reduceShiftRight,Nat.reduceAnd,Nat.reduceBEq,zf,zu,z7,zh,zzH,Nat.reduceSub,Nat.reduceLT,bne,qbN,qcp,trimO_f,qbI,qcf,isCall_st,isCall_append,zzH,zh,qbo,qal,qal,qbo,L28b0,zj,h0,qdf,touch_appendz,qaK,zR,zP,zV,hre,hz]
    refine ⟨_,rfl,?_⟩
    have hnn:(rw++[LV.isl (bs (pad pl)) 512]).flatMap (nms D)=[]:=by rw[List.flatMap_append,hrn,zS,qbd]; rfl
    refine qaU [(1,0),(7,0)] rfl (by simp only[qaA,FUEL,qaH,qaD,qaE,qaP,qaK,qaL,zS,zW,zP,zV,zR,zF,zG,zY,za,zD,zt,zo,ze,Nat.reduceEqDiff,zH,zU,zp,zC,zA,zd,zi,zm,zg,zl,ne_eq,zq,z9,qab,qaJ,qaC,qav,qce,L28k1,hnn,qaK,qbh,h00]) rfl ⟨_,rfl,?_,?_,?_⟩
    · rw[cN_one _ _ 0 (1,0) [.sl (7,0) 0 (j+1) none 1] rfl (by simp only[qab,zD,Nat.reduceEqDiff,zH,zU,zC,zA,zi])]; rfl
    · exact qas (7,0) rfl (by simp only[qab,zD,Nat.reduceEqDiff,zH,zX,zC,zA,zi]) (by rw[List.map_append,hrr,zG,zF,qa8])
    · rw [qcm]
      simp (disch:=first|omega|decide|simp only[qai,qag,qak,qaj,qah,qae,qac,qad,qan]) only[zI,qab,zD,Nat.reduceEqDiff,zH,zX,zA,zi,zI,qaW,h00,qaW]
end Ab
namespace Ab
open Go Go.LE Sha
def ups (n:Nat):Nat:=(n+15) / 16
def mmi (n i:Nat):Nat:=min 16 (n - 16*i)
def pli (l:List (BitVec 8)) (i:Nat):List (BitVec 8):=(l.drop (512*i)).take 512
def nd (l:List (BitVec 8)) (i:Nat):List (BitVec 8):=pad (pli l i)
def ndC (l:List (BitVec 8)) (m:Nat):qaR:=(List.range m).map fun i=>LV.isl (bs (nd l i)) 512
theorem ndC_succ (l:List (BitVec 8)) (m:Nat):ndC l (m+1)=ndC l m++[.isl (bs (pad (pli l m))) 512]:=by simp[ndC,List.range_succ,nd]
theorem ndC_length (l:List (BitVec 8)) (m:Nat):(ndC l m).length=m:=by simp[ndC]
theorem ndC_nms (l:List (BitVec 8)) (m:Nat):(ndC l m).flatMap (nms D)=[]:=by
  rw[List.flatMap_eq_nil_iff]; intro x hx; simp only[ndC,List.mem_map] at hx; obtain ⟨i,_,rfl⟩:=hx; exact qbd _ _
theorem ndC_ren (l:List (BitVec 8)) (m:Nat) (π:Nm→Option Nm):(ndC l m).map (ren D π)=ndC l m:=by
  simp only[ndC,List.map_map]
  apply List.map_congr_left
  intro i _
  exact qa8 _ _ _
theorem pli_length {l:List (BitVec 8)} {n:Nat} (hl:l.length=32*n) {i:Nat} (hi:16*i < n):(pli l i).length=32*mmi n i:=by
  simp only[pli,mmi,zzJ,zzG]; omega
theorem pli_eq {l:List (BitVec 8)} {n:Nat} (hl:l.length=32*n) {i:Nat} (hi:16*i < n):pli l i=(l.drop (512*i)).take (32*mmi n i):=by
  simp only[pli]
  rw[List.take_eq_take_iff]
  simp only[mmi,zzG]
  omega
def SA (l:List (BitVec 8)) (j:Nat) (s:St):Prop:=(j=0∧aJA0 s)∨(0 < j∧aJA1 (ndC l j) j s)
def SB (l:List (BitVec 8)) (j:Nat) (s:St):Prop:=(j=0∧aJB0 l s)∨(0 < j∧aJB1 l (ndC l j) j s)
def pA (l:List (BitVec 8)) (n i:Nat):LV := .isl (bs (pli l i)) (mmi n i)
def pB (n i:Nat):LV := .sl (0,0) (512*i) (mmi n i) (some (mmi n i)) 32
theorem mmi_pos {n i:Nat} (h:16*i < n):0 < mmi n i:=by simp only[mmi]; omega
theorem mmi_le (n i:Nat):mmi n i≤16:=by simp only[mmi]; omega
theorem all_A (K k0:Nat) (hK:20≤K) (l:List (BitVec 8)) (n:Nat) (hl:l.length=32*n) (hn:n≤1000000):∀ (d j:Nat) (s0:St),j+d=ups n→SA l j (qby L28k1 s0) →
    ∃ sE,rounds (envC C k0) K ls28 bd28 10 L28k1 ((List.range' j d).map (pA l n)) s0=some sE∧SA l (ups n) (qby L28k1 sE):=by
  intro d
  induction d with
  | zero=>intro j s0 hj h; exact ⟨s0,rfl,by rw[←hj]; exact h⟩
  | succ d ih =>
    intro j s0 hj h
    have hi:16*j < n:=by simp only[ups] at hj; omega
    have hpl:=pli_length hl hi
    rw[List.range'_succ,zG]
    obtain ⟨s1,e1,h1⟩:∃ s1,ev (envC C k0) K (ls28.seq bd28) (LE.begun L28k1 10 (pA l n j) s0)=some (.normal,s1)∧aJA1 (ndC l (j+1)) (j+1) (qby L28k1 s1):=by
      rw[ndC_succ]
      rcases h with ⟨rfl,h⟩ | ⟨hj0,h⟩
      · exact o_roundA0 K k0 hK _ _ (mmi_le _ _) (mmi_pos hi) hpl s0 h
      · exact o_roundA1 K k0 hK _ _ (mmi_le _ _) (mmi_pos hi) hpl _ j (ndC_nms _ _) (ndC_ren _ _) (ndC_length _ _) (by omega) s0 h
    obtain ⟨sE,e2,h2⟩:=ih (j+1) s1 (by omega) (.inr ⟨by omega,h1⟩)
    refine ⟨sE,?_,h2⟩
    simp only[rounds,e1,e2]
theorem all_B (K k0:Nat) (hK:20≤K) (l:List (BitVec 8)) (n:Nat) (hl:l.length=32*n) (hn:n≤1000000):∀ (d j:Nat) (s0:St),j+d=ups n→SB l j (qby L28k1 s0) →
    ∃ sE,rounds (envC C k0) K ls28 bd28 10 L28k1 ((List.range' j d).map (pB n)) s0=some sE∧SB l (ups n) (qby L28k1 sE):=by
  intro d
  induction d with
  | zero=>intro j s0 hj h; exact ⟨s0,rfl,by rw[←hj]; exact h⟩
  | succ d ih =>
    intro j s0 hj h
    have hi:16*j < n:=by simp only[ups] at hj; omega
    have hpl:=pli_length hl hi
    have hat:512*j+32*mmi n j≤l.length:=by simp only[mmi]; omega
    rw[List.range'_succ,zG]
    obtain ⟨s1,e1,h1⟩:∃ s1,ev (envC C k0) K (ls28.seq bd28) (LE.begun L28k1 10 (pB n j) s0)=some (.normal,s1)∧aJB1 l (ndC l (j+1)) (j+1) (qby L28k1 s1):=by
      rw[ndC_succ]
      rcases h with ⟨rfl,h⟩ | ⟨hj0,h⟩
      · exact o_roundB0 K k0 hK _ _ (mmi_le _ _) (mmi_pos hi) hpl l _ (pli_eq hl hi) hat s0 h
      · exact o_roundB1 K k0 hK _ _ (mmi_le _ _) (mmi_pos hi) hpl l _ (pli_eq hl hi) hat _ j (ndC_nms _ _) (ndC_ren _ _) (ndC_length _ _) (by omega) s0 h
    obtain ⟨sE,e2,h2⟩:=ih (j+1) s1 (by omega) (.inr ⟨by omega,h1⟩)
    refine ⟨sE,?_,h2⟩
    simp only[rounds,e1,e2]
theorem op_fn {E:Env} {tm:List LV} {H:Heap} {b:Nat} (f:Fn) (xs ys:List LX):qcq E tm H b (.fn f xs ys)=some ⟨.fn f (xs.map (evX E.gl tm)) (ys.map (evX E.gl tm)),[],[]⟩:=nf rfl
theorem nms_fn2 (g:FuncId) (m n:Nm):nms D (.fn (.func g) [] [.ptr m 0,.ptr n 0])=[m,n]:=nf rfl
theorem ren_fn2 (π:Nm→Option Nm) (g:FuncId) (m n m' n':Nm) (h:π m=some m') (h':π n=some n'):ren D π (.fn (.func g) [] [.ptr m 0,.ptr n 0]) = .fn (.func g) [] [.ptr m' 0,.ptr n' 0]:=by
  show LV.fn (.func g) [] [ren 7 π (.ptr m 0),ren 7 π (.ptr n 0)]=_
  simp only[ren,h,h']
theorem chunk_A (k:Nat) (l:List (BitVec 8)) (n:Nat):F C (k+1) 40 [.isl (bs l) n,N 16] []=some (.fn (.func 48) [] [.ptr (1,0) 0,.ptr (1,1) 0],[],[[.isl (bs l) n],[N 16]]):=by
  rw[qch f40]
  simp (disch:=first|omega|decide|simp only[qai,qag,qak,qaj,qah,qae,qac,qad,qan]) only[qbb,qba,qbp,qau,qao,qap,qam,qaf,qaq,qaz,qaI,qar,qaF,qaB,qaa,qaw,qat,qbg,qbl,zK,zL,zN,zO,zG,zF,zP,zV,qa5,zy,zJ,zM,zI,Nat.reduceAdd,Nat.reduceSub,qab,qaQ,cellK_cons,qbe,qbx,op_box,qcg,zzK,z8,zzL,zD,Nat.reduceEqDiff,Nat.reduceLT,zH,zC,zA,zB,zE,Nat.le_refl,zQ,zE,zB,qa2,cellsOf_N,Nat.reduceLT,Nat.reduceEqDiff,Nat.reduceAdd,zQ,qax,qaM,qay,zI,qaZ,qal,qdp,L40,op_fn]
  rw[qcc 0 _ _ [(2,0),(3,0)] (by simp only[qaA,FUEL,qaH,qaD,qaE,zS,zW,zP,zV,zR,zk,zF,zY,za,zD,zt,zo,ze,Nat.reduceEqDiff,zH,zp,zC,zA,zm,zg,zl,ne_eq,zq,qab,qaZ,qaO,nms_fn2,qbd,qaO])]
  rw[ren_fn2 (qdg [(2,0),(3,0)]) 48 (2,0) (3,0) (1,0) (1,1) rfl rfl]
  simp (disch:=first|omega|decide|simp only[qai,qag,qak,qaj,qah,qae,qac,qad,qan]) only[zG,zF,qab,zD,Nat.reduceEqDiff,zH,false_and,zC,zA,zzC,qa8,qbn,qaZ,List.filterMap_cons,zk,qa8]
  rfl
theorem chunk_B (k:Nat) (l:List (BitVec 8)) (n:Nat) (cap:Option Nat):F C (k+1) 40 [.sl (0,0) 0 n cap 32,N 16] [bs l]=some (.fn (.func 48) [] [.ptr (1,0) 0,.ptr (1,1) 0],[some (bs l)],[[.sl (0,0) 0 n cap 32],[N 16]]):=by
  rw[qch f40]
  simp (disch:=first|omega|decide|simp only[qai,qag,qak,qaj,qah,qae,qac,qad,qan]) only[qbb,qba,qbp,qau,qao,qap,qam,qaf,qaq,qaz,qaI,qar,qaF,qaB,qaa,qaw,qat,qbg,qbl,zK,zL,zN,zO,zG,zF,zP,zV,qa5,zy,zJ,zM,zI,Nat.reduceAdd,Nat.reduceSub,qab,qaQ,cellK_cons,qbe,qbx,op_box,qcg,zzK,z8,zzL,zD,Nat.reduceEqDiff,Nat.reduceLT,zH,zC,zA,zB,zE,Nat.le_refl,zQ,zE,zB,qa2,cellsOf_N,Nat.reduceLT,Nat.reduceEqDiff,Nat.reduceAdd,zQ,qdi,qax,qaM,qay,zI,qaZ,qal,L40,op_fn]
  rw[qcc 1 _ _ [(2,0),(3,0)] (by simp only[qaA,FUEL,qaH,qaD,qaE,qaK,zS,zW,zP,zV,zR,zF,zG,zY,za,zD,zt,zo,ze,Nat.reduceEqDiff,zH,zp,zC,zA,zm,zg,zl,ne_eq,zq,z9,qab,qbn,qaZ,qce,List.getElem?_cons_zero,qaO,nms_fn2,qaK,qbh,qaO])]
  rw[ren_fn2 (qdg [(2,0),(3,0)]) 48 (2,0) (3,0) (1,0) (1,1) rfl rfl]
  simp (disch:=first|omega|decide|simp only[qai,qag,qak,qaj,qah,qae,qac,qad,qan]) only[zG,zF,zI,qab,zD,Nat.reduceEqDiff,zH,false_and,zC,zA,qcM,zzC,zI,qaW,qbn,qaZ,qce,List.getElem?_cons_zero,List.filterMap_cons,qbk,qbX,qaW]
  rfl
theorem rep_bs {R:Imm} {p q:qb5}:∀ (l:List (BitVec 8)) (ys:List Value),Rep R p (bs l) ys→Rep R q (bs l) ys:=by
  intro l
  induction l with
  | nil=>intro ys h; cases h; exact .nil
  | cons b l ih =>
    intro ys h
    obtain ⟨y,ys,rfl,h1,h2⟩:=h.uncons
    have h1:Rep1 R p (.v (.int .u8 b.toNat)) y:=h1
    refine Rep.cons ?_ (ih _ h2)
    cases h1
    exact .v .nil
theorem part_A {R:Imm} {p q:qb5} {l:List (BitVec 8)} {n:Nat} (hl:l.length=32*n) (hn:0 < n) {sv:Value} (h:Rep1 R p (.isl (bs l) n) sv) :
    ∃ b o c,sv = .slice (some ⟨b,o,none⟩) n c∧n≤c∧∀ i,16*i < n→Rep1 R q (pA l n i) (.slice (some ⟨b,o+16*i*32,none⟩) (mmi n i) (mmi n i)):=by
  cases h with
  | isl0 _=>omega
  | @isl _ _ b o c cs _ _ hb hr hc _ =>
    refine ⟨b,o,c,rfl,hc,fun i hi => ?_⟩
    refine .isl hb ?_ (Nat.le_refl _) .nil
    have hr2:Rep R p (bs (pli l i)) ((cs.drop (o+16*i*32)).take (bs (pli l i)).length):=by
      have h1:=(hr.drop (512*i)).take (bs (pli l i)).length
      rw[bs_drop,bs_take] at h1
      have e1:(l.drop (512*i)).take (bs (pli l i)).length=pli l i:=by
        rw[qag,pli_length hl hi,pli_eq hl hi]
      rw[e1,List.drop_take,List.drop_drop,List.take_take] at h1
      have e2:min (bs (pli l i)).length ((bs l).length - 512*i)=(bs (pli l i)).length:=by
        simp only[qag,pli_length hl hi,mmi]; omega
      rw[e2,show o+512*i=o+16*i*32 by omega] at h1
      exact h1
    exact rep_bs _ _ hr2
theorem part_B {R:Imm} {p q:qb5} {n:Nat} {cap:Option Nat} (hn:0 < n) (hq:∀ k x,p (0,k)=some x→q (0,k)=some x) {sv:Value} (h:Rep1 R p (.sl (0,0) 0 n cap 32) sv) :
    ∃ b o c,sv = .slice (some ⟨b,o,none⟩) n c∧n≤c∧∀ i,16*i < n→Rep1 R q (pB n i) (.slice (some ⟨b,o+16*i*32,none⟩) (mmi n i) (mmi n i)):=by
  cases h with
  | sl0 _ _=>omega
  | @sl _ _ _ _ _ b o s c _ _ hp hc hk hs _ =>
    refine ⟨b,o,c,rfl,hc,fun i hi => ?_⟩
    have:=Rep.sl (R:=R) (p:=q) (n:=(0,0)) (off:=512*i) (len:=mmi n i) (cap:=some (mmi n i)) (es:=32) (hq 0 _ hp) (Nat.le_refl _) (fun k e=>(Option.some.inj e).symm) (fun e=>by cases e) Rep.nil
    rwa [show o+512*i=o+16*i*32 by omega] at this
theorem enters48:∀ args w,(callFunc 48 args).run Go.Proofs.Tryd.prog w = .ok (.enter 48 args) w:=Go.Proofs.enters_of Go.Proofs.Tryd.func48 (by kernel_rfl) rfl
theorem hit48 {R:Imm} {q:qb5} {xs:List LV} {n:Nat} (hx:xs.length=ups n) (hb:n≤1000000) {sv v2:Value} (h2:v2 = .int .i64 16)
    (h:∃ b o c,sv = .slice (some ⟨b,o,none⟩) n c∧n≤c∧∀ (i:Nat) (hi:i < xs.length),Rep1 R q xs[i] (.slice (some ⟨b,o+16*i*32,none⟩) (mmi n i) (mmi n i))) :
    ∃ xv : Nat → Value, (∀ (i : Nat) (h : i < xs.length), Rep1 R q xs[i] (xv i)) ∧
      ∀ (l n B1 o1 B2 o2:Nat) (J:Nat→World→Prop) (W1:World),(∀ i W2,J i W2→W2.cell? ⟨B1,o1,none⟩=some sv∧W2.cell? ⟨B2,o2,none⟩=some v2)→(∀ i W2,J i W2→J i W2.drew) →
      (∀ i W2,J i W2→i < xs.length→YieldAt Fence.wide n Go.Proofs.Tryd.prog l #[xv i] W2 fun e W3=>e = .returned (.bool true)∧J (i+1) W3)→J 0 W1 →
      CallsIn Fence.wide (n+1) Go.Proofs.Tryd.prog 48 #[.func (.yield l) #[] #[],.pointer (some ⟨B1,o1,none⟩),.pointer (some ⟨B2,o2,none⟩)] W1 fun e W2=>(∃ v,e = .returned v)∧J xs.length W2:=by
  obtain ⟨b,o,c,rfl,hc,hr⟩:=h
  subst h2
  refine ⟨fun i => .slice (some ⟨b,o+16*i*32,none⟩) (mmi n i) (mmi n i),hr,?_⟩
  intro l m B1 o1 B2 o2 J W1 hJ hJd hY h0
  refine (Tree.chunk_in m l B1 B2 o1 o2 b o n c (by omega) hc J (fun j W h=>(hJ j W h).1) (fun j W h=>(hJ j W h).2) hJd (fun j W h hlt=>hY j W h (by rw[hx]; simp only[ups]; omega)) W1 h0).mono ?_
  rintro e W2 ⟨he,j,h1,h2,h3⟩
  refine ⟨he,?_⟩
  rw[show xs.length=j by rw[hx]; simp only[ups]; omega]
  exact h3
theorem C_ok:∀ f lf,C.fns f=some lf→IsCode Go.Proofs.Tryd.prog f lf:=tab_ok
theorem E_ok:CalOk Go.Proofs.Tryd.prog (envC C 40):=F_soundC C_ok (by intro f args objs res h; have h1:(none:Option CallRes)=some res:=h; cases h1) 40
theorem canon_lent {keep:List Bool} {tm tm' tm'':List LV} {H:Heap} {nx np:Nat} (L names:List Nm) (h0:mask keep tm=tm') (hn:qaA (unlent L H) np tm'=names) (h2:tm'.map (ren D (qdg names))=tm'') :
    qby keep ⟨tm,unlent L H,nx,np⟩=⟨tm'',cN names (unlent L H),2,np⟩:=canon_mem h0 hn h2
theorem unlent_at (L:List Nm) (H:Heap) (n:Nm) (h:L.contains n=false):unlent L H n=H n:=by simp only[unlent,h,ze,zA]
theorem un3 (H:Heap):unlent [(5,0),(5,1)] H (3,0)=H (3,0):=unlent_at _ _ _ rfl
theorem un0 (H:Heap):unlent [(5,0),(5,1)] H (0,0)=H (0,0):=unlent_at _ _ _ rfl
theorem chunk_callA (k b:Nat) (H:Heap) (l:List (BitVec 8)) (n:Nat):qb1 (envC C (k+1)) H b 40 [.isl (bs l) n,N 16]=some ⟨.fn (.func 48) [] [.ptr (b,0) 0,.ptr (b,1) 0],[[.isl (bs l) n],[N 16]],[]⟩:=by
  rw[qcB l40 (by rw[zS,qbd]; rfl) (by rw[zG,qa8]; rfl),chunk_A]
  simp only[calK,qc9]
  rw[ren_fn2 (toCaller [] b _) 48 (1,0) (1,1) (b,0) (b,1) rfl rfl]
  simp only[zG,zF,qa8]
  rfl
theorem chunk_callB (k b:Nat) (H:Heap) (l:List (BitVec 8)) (n:Nat) (cap:Option Nat) (h:H (0,0)=some (bs l)) :
    qb1 (envC C (k+1)) H b 40 [.sl (0,0) 0 n cap 32,N 16]=some ⟨.fn (.func 48) [] [.ptr (b,0) 0,.ptr (b,1) 0],[[.sl (0,0) 0 n cap 32],[N 16]],[((0,0),some (bs l))]⟩:=by
  have hr:reach H FUEL [] [(0,0)]=[(0,0)]:=by
    simp only[FUEL,qaH,zY,ze,zA,h,qaD,qbh,zP,qaE]
  have hl:lend H ((envC C (k+1)).borrow 40) 0 [.sl (0,0) 0 n cap 32,N 16]=some ([.sl (0,0) 0 n cap 32,N 16],[]):=rfl
  rw[callOp_L,hl,callL_some]
  rw[show ([LV.sl (0,0) 0 n cap 32,N 16]:List LV).flatMap (nms D)=[(0,0)] from rfl,hr,callN_eq _ _ _ _ _ rfl]
  rw[show ([(0,0)]:List Nm).filterMap H=[bs l] by simp[h]]
  have ha:([LV.sl (0,0) 0 n cap 32,N 16]:List LV).map (ren D (qc7 [(0,0)]))=[.sl (0,0) 0 n cap 32,N 16]:=rfl
  rw[ha,zG,zF,qaW,envC_cal,chunk_B]
  rw[show ([]:List Nm).isEmpty=true from rfl,resK_sc,qc9]
  rw[ren_fn2 (toCaller [(0,0)] b _) 48 (1,0) (1,1) (b,0) (b,1) rfl rfl]
  simp only[zG,zF,qaW,List.zipWith_cons_cons,List.zipWith_nil_left,zI]
  rfl
theorem above_A (l:List (BitVec 8)) (n:Nat) (hl:l.length=32*n) (h0:0 < n) (hn:n≤1000000) :
    Plain Go.Proofs.Tryd.prog 28∧FTri Go.Proofs.Tryd.prog glf 28 [.isl (bs l) n] [] (.sl (1,0) 0 (ups n) none 1,[],[ndC l (ups n)]):=by
  obtain ⟨st1, hpre, g1, g2, g3, g4⟩ : ∃ st1, ev (envC C 40) 40 (R28.la.seq (R28.lb.seq R28.lc)) { tm := [.isl (bs l) n] ++ List.replicate 27 (.v (.tuple #[])), H := qcV [], nx := 2, np := 0 } = some (.normal, st1) ∧
      st1.tm.getD 9 .undef = .fn (.func 48) [] [.ptr (5,0) 0,.ptr (5,1) 0]∧st1.H (5,0)=some [.isl (bs l) n]∧st1.H (5,1)=some [N 16]∧aJA0 (qby L28k1 { st1 with H:=unlent [(5,0),(5,1)] st1.H }):=by
    rw[show [LV.isl (bs l) n]++List.replicate 27 (.v (.tuple #[]))=[LV.isl (bs l) n,Un,Un,Un,Un,Un,Un,Un,Un,Un,Un,Un,Un,Un,Un,Un,Un,Un,Un,Un,Un,Un,Un,Un,Un,Un,Un,Un] from rfl]
    apply Exists.intro
    apply And.intro
    · simp (disch := first | omega | decide | simp only [qai, qag, qak, qaj, qah, qae, qac, qad, qan]) only [qau, qao, qap, qam, qaf, qaq, qaz, qaI, qaF, qa1, qaT, qaa, zK, zL, zN, zO, zG, zF, zJ, zM, Nat.reduceAdd, qbR, zB, zE, zE, zB, Nat.reduceAdd, qax, qaM, qay, qal, R28, la28, lb28, lc28, chunk_callA, qal]
      rfl
    · refine ⟨rfl, rfl, rfl, ?_⟩
      rw[canon_lent [(5,0),(5,1)] [(3,0)] rfl (by simp only[qaA,FUEL,qaH,qaD,qaE,qaP,qaL,zS,zW,zP,zR,zk,zF,zY,zD,ze,Nat.reduceEqDiff,zH,zU,zC,zA,zi,zm,zg,zl,ne_eq,zq,qab,qaJ,qaC,qav,qaZ,qbu,L28k1,un3,qbu]) rfl]
      refine ⟨_,rfl,?_⟩
      · exact qas (3,0) rfl (by rw[unlent_at _ _ _ rfl]; simp only[qab,zD,Nat.reduceEqDiff,zH,zX,zC,zA,zi]) rfl
  obtain ⟨sE,hrd,hE⟩:=all_A 40 40 (by omega) l n hl hn (ups n) 0 { st1 with H:=unlent [(5,0),(5,1)] st1.H } (by omega) (.inl ⟨rfl,g4⟩)
  have hu:0 < ups n:=by simp only[ups]; omega
  rcases hE with ⟨e,_⟩ | ⟨_,H,hc,h1,h2⟩
  · omega
  obtain ⟨st', hpost, hret, hout⟩ : ∃ st', ev (envC C 40) 40 R28.post (qby R28.keep sE) = some (.ret, st') ∧ resVal st' R28.results = some (.sl (1, 1) 0 (ups n) none 1) ∧
      outOf 0 st' (.sl (1,1) 0 (ups n) none 1)=(.sl (1,0) 0 (ups n) none 1,[],[ndC l (ups n)]):=by
    rw[show R28.keep=L28k1 from rfl,hc]
    apply Exists.intro
    apply And.intro
    · simp (disch := first | omega | decide | simp only [qai, qag, qak, qaj, qah, qae, qac, qad, qan]) only [qbp, qau, qao, qap, qam, qaf, qaq, qaz, qaF, qaa, zK, zL, zN, zO, zJ, zM, Nat.reduceAdd, qaQ, cellK_cons, qbe, qbx, zzK, z8, zzL, zC, zB, zE, Nat.le_refl, zE, zB, Nat.reduceAdd, qax, qay, qal, R28, post28, h1]
      rfl
    · refine ⟨rfl, ?_⟩
      rw[qcc 0 _ _ [(1,1)] (by simp only[qaA,FUEL,qaH,qaD,qaE,qaK,zS,zW,zP,zR,zk,zF,zY,ze,zC,zA,zd,zm,zg,zl,ne_eq,zq,ndC_nms,qaK,h2])]
      simp (disch:=first|omega|decide|simp only[qai,qag,qak,qaj,qah,qae,qac,qad,qan]) only[zG,zF,zI,zC,zB,idx_cons,qdo,zzC,zI,List.filterMap_cons,zk,qbk,qbX,h2,ndC_ren]
  have fin:=range_FTri (E:=envC C 40) E_ok r28 k28 (args:=[.isl (bs l) n]) (objs:=[]) (n1:=(5,0)) (n2:=(5,1)) (sx := .isl (bs l) n) (y2:=N 16) (gf:=48) hpre g1 g2 g3 enters48 hrd hpost (.inr rfl) hret ?_
  · rw [show ([] : List qaR).length = 0 from rfl, hout] at fin
    exact fin
  · intro R' p' p0 sv v2 r1 r2 hp0
    have hv2:v2 = .int .i64 16:=by
      have r2:Rep1 R' p' (.v (.int .i64 16)) v2:=r2
      cases r2; rfl
    have hlen:((List.range' 0 (ups n)).map (pA l n)).length=ups n:=by simp
    refine hit48 hlen hn hv2 ?_
    obtain ⟨b,o,c,e1,e2,e3⟩:=part_A (q:=p0) hl h0 r1
    refine ⟨b,o,c,e1,e2,fun i hi => ?_⟩
    have:=e3 i (by rw[hlen] at hi; simp only[ups] at hi; omega)
    simpa using this
theorem above_B (l:List (BitVec 8)) (n:Nat) (cap:Option Nat) (hl:l.length=32*n) (h0:0 < n) (hn:n≤1000000) :
    Plain Go.Proofs.Tryd.prog 28∧FTri Go.Proofs.Tryd.prog glf 28 [.sl (0,0) 0 n cap 32] [bs l] (.sl (1,0) 0 (ups n) none 1,[some (bs l)],[ndC l (ups n)]):=by
  obtain ⟨st1, hpre, g1, g2, g3, g4⟩ : ∃ st1, ev (envC C 40) 40 (R28.la.seq (R28.lb.seq R28.lc)) { tm := [.sl (0, 0) 0 n cap 32] ++ List.replicate 27 (.v (.tuple #[])), H := qcV [bs l], nx := 2, np := 1 } = some (.normal, st1) ∧
      st1.tm.getD 9 .undef = .fn (.func 48) [] [.ptr (5,0) 0,.ptr (5,1) 0]∧st1.H (5,0)=some [.sl (0,0) 0 n cap 32]∧st1.H (5,1)=some [N 16]∧aJB0 l (qby L28k1 { st1 with H:=unlent [(5,0),(5,1)] st1.H }):=by
    rw[show [LV.sl (0,0) 0 n cap 32]++List.replicate 27 (.v (.tuple #[]))=[LV.sl (0,0) 0 n cap 32,Un,Un,Un,Un,Un,Un,Un,Un,Un,Un,Un,Un,Un,Un,Un,Un,Un,Un,Un,Un,Un,Un,Un,Un,Un,Un,Un] from rfl]
    have hcall:=fun (H:Heap) (h:H (0,0)=some (bs l))=>chunk_callB 39 5 H l n cap h
    have hcall1:=hcall (upd (qcV [bs l]) (3,0) (some [Nil])) (by simp only[qab,zD,Nat.reduceEqDiff,zH,zA,qbn]; rfl)
    apply Exists.intro
    apply And.intro
    · simp (disch := first | omega | decide | simp only [qai, qag, qak, qaj, qah, qae, qac, qad, qan]) only [qau, qao, qap, qam, qaf, qaq, qaz, qaI, qaF, qa1, qaT, qaa, zK, zL, zN, zO, zG, zF, zJ, zM, Nat.reduceAdd, qbR, zB, zE, zE, zB, Nat.reduceAdd, qax, qaM, qay, qa0, qal, R28, la28, lb28, lc28, hcall1, qal]
      rfl
    · refine ⟨rfl, rfl, rfl, ?_⟩
      rw[canon_lent [(5,0),(5,1)] [(3,0)] rfl (by simp only[qaA,FUEL,qaH,qaD,qaE,qaP,qaL,zS,zW,zP,zV,zR,zF,zG,zY,za,zD,zt,zo,ze,Nat.reduceEqDiff,zH,zU,zp,zC,zA,zi,zm,zg,zl,ne_eq,zq,z9,qab,qaJ,qaC,qav,qbn,qaZ,qce,List.getElem?_cons_zero,qbu,L28k1,qbh,qbn,un3,un0,qbu]) rfl]
      refine ⟨_,rfl,?_,?_⟩
      · exact qas (3,0) rfl (by rw[unlent_at _ _ _ rfl]; simp only[qab,zD,Nat.reduceEqDiff,zH,zX,zC,zA,zi]) rfl
      · rw [qcm, unlent_at _ _ _ rfl]
        simp (disch:=first|omega|decide|simp only[qai,qag,qak,qaj,qah,qae,qac,qad,qan]) only[zI,qab,zD,Nat.reduceEqDiff,zH,zX,zC,zA,zi,zI,qaW,qbn,List.getElem?_cons_zero,qaW]
  obtain ⟨sE,hrd,hE⟩:=all_B 40 40 (by omega) l n hl hn (ups n) 0 { st1 with H:=unlent [(5,0),(5,1)] st1.H } (by omega) (.inl ⟨rfl,g4⟩)
  have hu:0 < ups n:=by simp only[ups]; omega
  rcases hE with ⟨e,_⟩ | ⟨_,H,hc,h1,h2,h3⟩
  · omega
  obtain ⟨st', hpost, hret, hout⟩ : ∃ st', ev (envC C 40) 40 R28.post (qby R28.keep sE) = some (.ret, st') ∧ resVal st' R28.results = some (.sl (1, 1) 0 (ups n) none 1) ∧
      outOf 1 st' (.sl (1,1) 0 (ups n) none 1)=(.sl (1,0) 0 (ups n) none 1,[some (bs l)],[ndC l (ups n)]):=by
    rw[show R28.keep=L28k1 from rfl,hc]
    apply Exists.intro
    apply And.intro
    · simp (disch := first | omega | decide | simp only [qai, qag, qak, qaj, qah, qae, qac, qad, qan]) only [qbp, qau, qao, qap, qam, qaf, qaq, qaz, qaF, qaa, zK, zL, zN, zO, zJ, zM, Nat.reduceAdd, qaQ, cellK_cons, qbe, qbx, zzK, z8, zzL, zC, zB, zE, Nat.le_refl, zE, zB, Nat.reduceAdd, qax, qay, qal, R28, post28, h1]
      rfl
    · refine ⟨rfl, ?_⟩
      rw[qcc 1 _ _ [(1,1)] (by simp only[qaA,FUEL,qaH,qaD,qaE,qaK,zS,zW,zP,zV,zR,zF,zG,zY,za,zD,zt,zo,ze,zU,zp,zC,zA,zd,zm,zg,zl,ne_eq,zq,z9,qce,ndC_nms,qaK,h2,h3,qbh])]
      simp (disch:=first|omega|decide|simp only[qai,qag,qak,qaj,qah,qae,qac,qad,qan]) only[zG,zF,zI,zC,zB,idx_cons,qdo,zzC,zI,qaW,qce,List.filterMap_cons,qbk,qbX,h2,h3,ndC_ren,qaW]
  have fin:=range_FTri (E:=envC C 40) E_ok r28 k28 (args:=[.sl (0,0) 0 n cap 32]) (objs:=[bs l]) (n1:=(5,0)) (n2:=(5,1)) (sx := .sl (0,0) 0 n cap 32) (y2:=N 16) (gf:=48) hpre g1 g2 g3 enters48 hrd hpost (.inr rfl) hret ?_
  · rw [show ([bs l] : List qaR).length = 1 from rfl, hout] at fin
    exact fin
  · intro R' p' p0 sv v2 r1 r2 hp0
    have hv2:v2 = .int .i64 16:=by
      have r2:Rep1 R' p' (.v (.int .i64 16)) v2:=r2
      cases r2; rfl
    have hlen:((List.range' 0 (ups n)).map (pB n)).length=ups n:=by simp
    refine hit48 hlen hn hv2 ?_
    obtain ⟨b,o,c,e1,e2,e3⟩:=part_B (q:=p0) h0 hp0 r1
    refine ⟨b,o,c,e1,e2,fun i hi => ?_⟩
    have:=e3 i (by rw[hlen] at hi; simp only[ups] at hi; omega)
    simpa using this
end Ab
namespace Sha
open Go Go.LE
def AboveRel (args:List LV) (objs:List qaR) (r:CallRes):Prop :=
  ∃ (l : List (BitVec 8)) (n : Nat), l.length = 32 * n ∧ 0 < n ∧ n ≤ 1000000 ∧
    ((args = [.isl (bs l) n] ∧ objs = [] ∧ r = (.sl (1, 0) 0 (Ab.ups n) none 1, [], [Ab.ndC l (Ab.ups n)])) ∨
     (∃ cap,args=[.sl (0,0) 0 n cap 32]∧objs=[bs l]∧r=(.sl (1,0) 0 (Ab.ups n) none 1,[some (bs l)],[Ab.ndC l (Ab.ups n)])))
theorem bs_inj {a b:List (BitVec 8)} (h:bs a=bs b):a=b:=by
  unfold bs at h
  refine (List.map_inj_right (f:=B8) ?_).1 h
  intro x y e
  have e:LV.v (.int .u8 x.toNat)=LV.v (.int .u8 y.toNat):=e
  injection e with e
  injection e with _ e
  exact BitVec.eq_of_toNat_eq (by exact_mod_cast e)
theorem AboveRel.same {args:List LV} {objs:List qaR} {r r':CallRes} (h:AboveRel args objs r) (h':AboveRel args objs r'):r=r':=by
  obtain ⟨l,n,_,_,_,h⟩:=h
  obtain ⟨l',n',_,_,_,h'⟩:=h'
  rcases h with ⟨a1,a2,rfl⟩ | ⟨c,a1,a2,rfl⟩ <;> rcases h' with ⟨b1,b2,rfl⟩ | ⟨c',b1,b2,rfl⟩
  · rw [a1] at b1
    injection b1 with b1 _
    injection b1 with b1 b3
    rw[bs_inj b1,b3]
  · rw[a1] at b1; injection b1 with b1 _; cases b1
  · rw[a1] at b1; injection b1 with b1 _; cases b1
  · rw [a1] at b1; rw [a2] at b2
    injection b1 with b1 _; injection b1 with _ _ b3 _ _
    injection b2 with b2 _
    rw[bs_inj b2,b3]
open Classical in
noncomputable def aboveX (f:FuncId) (args:List LV) (objs:List qaR):Option CallRes :=
  if f=28 then (if h:∃ r,AboveRel args objs r then some h.choose else none) else none
theorem aboveX_of {args:List LV} {objs:List qaR} {r:CallRes} (h:AboveRel args objs r):aboveX 28 args objs=some r:=by
  have hx:∃ r,AboveRel args objs r:=⟨r,h⟩
  unfold aboveX
  rw[if_pos rfl,dif_pos hx]
  exact congrArg some (hx.choose_spec.same h)
theorem aboveX_ok:∀ f args objs res,aboveX f args objs=some res→Plain Go.Proofs.Tryd.prog f∧FTri Go.Proofs.Tryd.prog glf f args objs res:=by
  intro f args objs res h
  unfold aboveX at h
  split at h
  · rename_i hf
    subst hf
    split at h
    · rename_i hx
      obtain rfl:=Option.some.inj h
      obtain ⟨l,n,h1,h2,h3,h⟩:=hx.choose_spec
      rcases h with ⟨a1,a2,a3⟩ | ⟨c,a1,a2,a3⟩
      · rw[a3,a1,a2]; exact Ab.above_A l n h1 h2 h3
      · rw[a3,a1,a2]; exact Ab.above_B l n c h1 h2 h3
    · cases h
  · cases h
noncomputable def C:Ctx:={ fns:=look tab,gl:=glf,borrow:=lentF,ext:=aboveX }
theorem qcp:C.trim=false:=rfl
theorem C_ok:∀ f lf,C.fns f=some lf→IsCode Go.Proofs.Tryd.prog f lf:=tab_ok
theorem C_ext:∀ f args objs res,C.ext f args objs=some res→Plain Go.Proofs.Tryd.prog f∧FTri Go.Proofs.Tryd.prog C.gl f args objs res:=aboveX_ok
theorem F_above {k:Nat} {args:List LV} {objs:List qaR} {r:CallRes} (h:AboveRel args objs r):F C (k+1) 28 args objs=some r:=aboveX_of h
theorem f3:C.fns 3=some L3:=by kernel_rfl
theorem f4:C.fns 4=some L4:=by kernel_rfl
theorem f5:C.fns 5=some L5:=by kernel_rfl
theorem f6:C.fns 6=some L6:=by kernel_rfl
theorem f7:C.fns 7=some L7:=by kernel_rfl
theorem f8:C.fns 8=some L8:=by kernel_rfl
theorem f9:C.fns 9=some L9:=by kernel_rfl
theorem f10:C.fns 10=some L10:=by kernel_rfl
theorem f11:C.fns 11=some L11:=by kernel_rfl
theorem f12:C.fns 12=some L12:=by kernel_rfl
theorem f13:C.fns 13=some L13:=by kernel_rfl
theorem f14:C.fns 14=some L14:=by kernel_rfl
theorem f15:C.fns 15=some L15:=by kernel_rfl
theorem f16:C.fns 16=some L16:=by kernel_rfl
theorem f17:C.fns 17=some L17:=by kernel_rfl
theorem f18:C.fns 18=some L18:=by kernel_rfl
theorem f19:C.fns 19=some L19:=by kernel_rfl
theorem f20:C.fns 20=some L20:=by kernel_rfl
theorem f21:C.fns 21=some L21:=by kernel_rfl
theorem f22:C.fns 22=some L22:=by kernel_rfl
theorem f23:C.fns 23=some L23:=by kernel_rfl
theorem f24:C.fns 24=some L24:=by kernel_rfl
theorem f25:C.fns 25=some L25:=by kernel_rfl
theorem f26:C.fns 26=some L26:=by kernel_rfl
theorem f27:C.fns 27=some L27:=by kernel_rfl
theorem f29:C.fns 29=some L29:=by kernel_rfl
theorem f30:C.fns 30=some L30:=by kernel_rfl
theorem f31:C.fns 31=some L31:=by kernel_rfl
theorem f32:C.fns 32=some L32:=by kernel_rfl
theorem f33:C.fns 33=some L33:=by kernel_rfl
theorem f34:C.fns 34=some L34:=by kernel_rfl
theorem f35:C.fns 35=some L35:=by kernel_rfl
theorem f36:C.fns 36=some L36:=by kernel_rfl
theorem f37:C.fns 37=some L37:=by kernel_rfl
theorem f38:C.fns 38=some L38:=by kernel_rfl
theorem f39:C.fns 39=some L39:=by kernel_rfl
theorem f40:C.fns 40=some L40:=by kernel_rfl
theorem f41:C.fns 41=some L41:=by kernel_rfl
theorem f42:C.fns 42=some L42:=by kernel_rfl
theorem f43:C.fns 43=some L43:=by kernel_rfl
theorem f45:C.fns 45=some L45:=by kernel_rfl
theorem f46:C.fns 46=some L46:=by kernel_rfl
theorem f47:C.fns 47=some L47:=by kernel_rfl
theorem f50:C.fns 50=some L50:=by kernel_rfl
theorem f51:C.fns 51=some L51:=by kernel_rfl
theorem f53:C.fns 53=some L53:=by kernel_rfl
theorem f54:C.fns 54=some L54:=by kernel_rfl
theorem f55:C.fns 55=some L55:=by kernel_rfl
theorem f56:C.fns 56=some L56:=by kernel_rfl
theorem f57:C.fns 57=some L57:=by kernel_rfl
end Sha
