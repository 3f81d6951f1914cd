/- New's first loop: the key's words. -/
import Derived.Test.YtbdjmicabfclcaaDoorLeV
set_option linter.unusedVariables false
set_option linter.unusedSimpArgs false
open List renaming reduceReplicate → rR
open Nat renaming reduceSubDiff → rS
namespace Aes
open Go Go.LE Tb
def w3J (n c:Nat) (key:List (BitVec 8)) (i:Nat) (st:St):Prop := ∃ (H:Heap),st=⟨[.isl (bs key) (4*n),.undef,.undef,.undef,.ptr (1,0) 0,.sl (1,1) 0 i (some c) 4,N (4*i),.undef,.undef,.undef,.undef,.undef,.undef,.undef,.undef,.undef,.undef,.undef,.undef,.undef,.undef,.undef,.undef,.undef,.undef,.undef,.undef,.undef,.undef,.undef,.undef,.undef,.undef,.undef,.undef,.undef,.undef,.undef,.undef,.undef,.undef,.undef,.undef,.undef,.undef,.undef,.undef,.undef,.undef,.undef,.undef,.undef,.undef,.undef,.undef,.undef,.undef,.undef,.undef,.undef,.undef,.undef,.undef,.undef,.undef,.undef,.undef,.undef,.undef,.undef,.undef,.undef,.undef,.undef,.undef,.undef,.undef,.undef,.undef,.undef,.undef,.undef,.undef,.undef,.undef,.undef,.undef,.undef,.undef,.undef,.undef,.undef,.undef,.undef,.undef,.undef,Un,Un,Un,Un,.undef,.undef,.undef,.undef,.undef,.undef,.undef,.undef,.undef,.undef,.undef,.undef,.undef,.undef,.undef,.undef,.undef,.undef,.undef,.undef,.undef,.undef,.undef,.undef,.undef,.undef,.undef,.undef,.undef,.undef,.undef,.undef,.undef,.undef,.undef,.undef,.undef,.undef,.undef,.undef,.undef,.undef,.undef,.undef,.undef,.undef,.undef,.undef,.undef,.undef,.undef,.undef],H,2,0⟩ ∧
  H (1,0)=some (CF Nil TB)∧H (1,1)=some (bs (key.take (4*i)++List.replicate (4*c - 4*i) 0#8))
theorem key4 (key:List (BitVec 8)) (i:Nat) (h:4*(i+1)≤key.length):ext4 (key.take (4*i)) (fun j=>key.getD (4*i+j) 0#8)=key.take (4*(i+1)):=by
  rw[show 4*(i+1)=4*i+4 by omega,List.take_add,ext4]
  congr 1
  apply List.ext_getElem
  · simp only[zE,zL,zU,zR]; omega
  · intro j h1 h2
    simp only[zE,zL] at h1
    have:j=0∨j=1∨j=2∨j=3:=by omega
    rcases this with rfl | rfl | rfl | rfl <;> simp only[List.getElem_cons_zero,List.getElem_cons_succ,List.getElem_take,List.getElem_drop,List.getD_eq_getElem?_getD] <;> rw[List.getElem?_eq_getElem (by omega),Option.getD_some]
theorem cellAt_w (H:Heap) (key:List (BitVec 8)) (i:Nat) (h:4*(i+1)≤key.length):qb6 H 4 (.ipt (List.take 4 (List.drop (4*i) (bs key))))=some (aB 4 fun j=>key.getD (4*i+j) 0#8):=by
  rw[qd5,qdO]
  have hl:((key.drop (4*i)).take 4).length=4:=by rw[zU,zR]; omega
  have e:bs ((key.drop (4*i)).take 4)=aB 4 fun j=>key.getD (4*i+j) 0#8:=by
    rw[qe0 _ 4 hl]
    apply qcn
    intro j hj
    simp[List.getD_eq_getElem?_getD,List.getElem?_take,List.getElem?_drop,hj]
  rw[e]
  rw[qb6,if_pos (by rw[qbX]; exact Nat.le_refl 4),List.take_of_length_le (by rw[qbX]; exact Nat.le_refl 4)]
theorem fr_w (w:R):qb8 0 4 1 (some (aB 4 w))=some (aB 4 w):=rfl
theorem fill_w (w:R):fill [B8 0#8,B8 0#8,B8 0#8,B8 0#8] [(0,4,.agg (aB 4 w))]=some (aB 4 w):=rfl
theorem k3_round (k n c:Nat) (hc:n≤c) (hc2:c < 1048576) (key:List (BitVec 8)) (hk:key.length=4*n) (i:Nat) (hi:i < n) (st:St) (hJ:w3J n c key i st) :
    ∃ st1,ev (envC C k) k L62b3 st=some (.normal,st1)∧w3J n c key (i+1) (qa8 L62k3 st1):=by
  obtain ⟨H,rfl,h0,h1⟩:=hJ
  have hlt:4*i < 4*n:=by omega
  have e4:4*i+4=4*(i+1):=by omega
  have hle:4*(i+1)≤4*n:=by omega
  have e5:4*(i+1) - 4*i=4:=by omega
  have e6:4*c - 4*i - 4=4*c - 4*(i+1):=by omega
  have hap:∀ (b:Nat) (x:Option qal),appX b 4 4 1 (upd H (14,0) x) [] (aB 4 fun j=>key.getD (4*i+j) 0#8) (.sl (1,1) 0 i (some c) 4)=some ⟨.sl (1,1) 0 (i+1) (some c) 4,[],[((1,1),some (bs (key.take (4*(i+1))++List.replicate (4*c - 4*(i+1)) 0#8)))]⟩:=by
    intro b x
    rw[qfb b i c _ (upd H (14,0) x) (1,1) _ _ h1 (by rw[zU]; omega) (by omega) (by omega) (by omega),key4 key i (by omega),e6]
  simp (disch:=first|omega|decide|simp only[nmsB,lB]) only[simprocAttr,-rR,-rS,leB,memB,arrB,numB,qaf,ordB,qan,qai,L62b3,h0,h1,hlt,e4,e5,hle,cellAt_w H key i (by omega),fill_w,fr_w,hap,qab,qad,qac,qaa,qas,qag]
  apply Exists.intro
  apply And.intro
  · rfl
  · refine qao [(1, 0), (1, 1)] rfl (by simp only [simprocAttr, -rR, -rS, qak, L62k3, qaN, qaW, qbD, qam, qbg, h0, h1, qah, qac, qaa]) (by simp only [simprocAttr, -rR, -rS, qak, L62k3, zB, zA, qbj, qah, qac, qaa] <;> rfl) ⟨_, rfl, ?_, ?_⟩
    · exact qaj (1,0) rfl (by simp (disch:=first|omega|decide|simp only[nmsB,lB]) only[simprocAttr,-rR,-rS,leB,memB,qaf,h0,qae,qab,qad,qac,qaa]) (by rw[qaV,qbS])
    · exact qaj (1,1) rfl (by simp (disch:=first|omega|decide|simp only[nmsB,lB]) only[simprocAttr,-rR,-rS,leB,memB,qaf,h1,qae,qab,qad,qac,qaa]) (qaq _ _)
end Aes
namespace Aes
open Go Go.LE Tb
theorem qe2 (ws:List (BitVec 8)) (z i o:Nat) (ho:o=i*4) (h:4*(i+1)≤ws.length):qaS o 4 (some (bs (ws++List.replicate z 0#8)))=some (aB 4 (wd ws i)):=by
  subst ho
  rw[bs_cells _ _ 4 (by rw[zH]; omega),qe0 _ 4 (by rw[zU,zR,zH]; omega)]
  congr 1
  apply qcn
  intro j hj
  have h1:i*4+j < ws.length:=by omega
  simp only[wd,List.getD_eq_getElem?_getD,List.getElem?_take,List.getElem?_drop,hj,zG]
  rw[List.getElem?_append_left h1,Nat.mul_comm]
def w2J (n c:Nat) (key:List (BitVec 8)) (m:Nat) (st:St):Prop := ∃ (H:Heap) (a b d e:LV),Pl [a,b,d,e] ∧
  st=⟨[.undef,.undef,.undef,.undef,.ptr (1,0) 0,.sl (1,1) 0 (n+m) (some c) 4,.undef,N n,N (n+6),N (n+m),B8 (KS n key m).2,.undef,.undef,.undef,.undef,.undef,.undef,.undef,.undef,.undef,.undef,.undef,.undef,.undef,.undef,.undef,.undef,.undef,.undef,.undef,.undef,.undef,.undef,.undef,.undef,.undef,.undef,.undef,.undef,.undef,.undef,.undef,.undef,.undef,.undef,.undef,.undef,.undef,.undef,.undef,.undef,.undef,.undef,.undef,.undef,.undef,.undef,.undef,.undef,.undef,.undef,.undef,.undef,.undef,.undef,.undef,.undef,.undef,.undef,.undef,.undef,.undef,.undef,.undef,.undef,.undef,.undef,.undef,.undef,.undef,.undef,.undef,.undef,.undef,.undef,.undef,.undef,.undef,.undef,.undef,.undef,.undef,.undef,.undef,.undef,.undef,a,b,d,e,.undef,.undef,.undef,.undef,.undef,.undef,.undef,.undef,.undef,.undef,.undef,.undef,.undef,.undef,.undef,.undef,.undef,.undef,.undef,.undef,.undef,.undef,.undef,.undef,.undef,.undef,.undef,.undef,.undef,.undef,.undef,.undef,.undef,.undef,.undef,.undef,.undef,.undef,.undef,.undef,.undef,.undef,.undef,.undef,.undef,.undef,.undef,.undef,.undef,.undef,.undef,.undef],H,2,0⟩ ∧
  H (1,0)=some (CF Nil TB)∧H (1,1)=some (bs ((KS n key m).1++List.replicate (4*c - 4*(n+m)) 0#8))
theorem c_boxed (k b:Nat) (H:Heap) (fN:Nm) (w:R) (h:H fN=some (CF Nil TB)):qar (envC C (k+1)) H b 74 [.ptr fN 0,.agg (aB 4 w)]=some ⟨.agg (aB 4 fun j=>BX (w j).toNat),[],[(fN,some (CF Nil TB))]⟩ :=
  call0 _ b 74 l74 H fN _ _ h _ (Pl.pa 4 w Pl.e) _ (fun π=>qbx 4 _ π) (boxed_F k w)
theorem qgi (k b:Nat) (H:Heap) (x y:R):qar (envC C (k+1)) H b 75 [.agg (aB 4 x),.agg (aB 4 y)]=some ⟨.agg (aB 4 fun j=>x j ^^^ y j),[],[]⟩:=by
  rw[qae l75 (by simp only[zK,zN,qbt,zD]) (by simp only[zB,zA,qbx]),plus_F,aB_calK]
theorem k2_roundC (k n c:Nat) (hn:n=4∨n=8) (hc:4*n+28≤c) (hc2:c < 1048576) (key:List (BitVec 8)) (hk:key.length=4*n) (m:Nat) (hm:m < 3*n+28) (h4:(n+m) % n≠0) (h8:¬ n=8) (st:St) (hJ:w2J n c key m st) :
    ∃ st1,ev (envC C (k+1)) (k+1) L62b2 st=some (.normal,st1)∧w2J n c key (m+1) (qa8 L62k2 st1):=by
  obtain ⟨H,a,b,d,e,hp,rfl,h0,h1⟩:=hJ
  have hl:=qee n key hk m
  have hlt:n+m < 4*(n+6+1):=by omega
  have i1:(n+m - 1)*4+4≤(KS n key m).1.length:=by omega
  have hw:=qe2 (KS n key m).1 (4*c - 4*(n+m)) (n+m - 1) ((n+m - 1)*4) rfl (by omega)
  have hw2:=qe2 (KS n key m).1 (4*c - 4*(n+m)) m (m*4) rfl (by omega)
  have e1:n+m - n=m:=by omega
  have hpos:0 < n:=by omega
  have hi1:n+m - 1 < n+m:=by omega
  have hi2:m < n+m:=by omega
  simp (disch:=first|omega|decide|simp only[nmsB,lB]) only[simprocAttr,-rR,-rS,leB,memB,arrB,numB,qaf,ordB,qan,qai,L62b2,h0,h1,hlt,hw,hw2,e1,h4,h8,hi1,hi2,qgi,qa3,zS,zI,fr_w,qab,qad,qac,qaa,qas,qag]
  generalize hG:upd (upd (upd H (12,0) _) (12,0) _) (37,0) _=G
  have g0:G (1,0)=some (CF Nil TB):=by rw[←hG]; exact h0
  have g1:G (1,1)=some (bs ((KS n key m).1++List.replicate (4*c - 4*(n+m)) 0#8)):=by rw[←hG]; exact h1
  have hx:KS n key (m+1)=(ext4 (KS n key m).1 (fun j=>wd (KS n key m).1 (n+m - 1) j ^^^ wd (KS n key m).1 m j),(KS n key m).2):=by
    have hn:nwd n (KS n key m).2 (n+m) (KS n key m).1=fun j=>wd (KS n key m).1 (n+m - 1) j ^^^ wd (KS n key m).1 m j:=by
      funext j
      simp only[nwd,tw,if_neg h4,if_neg (fun h:n=8∧(n+m) % 8=4=>h8 h.1),e1]
    rw[KS,kstep,if_neg h4,hn]
  have e6:4*c - 4*(n+m) - 4=4*c - 4*(n+(m+1)):=by omega
  have hap:∀ b,appX b 4 4 1 (only [(1,1),(37,0)] G) [] (aB 4 fun j=>wd (KS n key m).1 (n+m - 1) j ^^^ wd (KS n key m).1 m j) (.sl (1,1) 0 (n+m) (some c) 4)=some ⟨.sl (1,1) 0 (n+m+1) (some c) 4,[],[((1,1),some (bs ((KS n key (m+1)).1++List.replicate (4*c - 4*(n+(m+1))) 0#8)))]⟩:=by
    intro b
    rw[qfb b (n+m) c _ (only [(1,1),(37,0)] G) (1,1) _ _ g1 hl (by omega) (by omega) (by omega),hx,e6]
  simp (disch:=first|omega|decide|simp only[nmsB,lB]) only[simprocAttr,-rR,-rS,leB,memB,arrB,numB,qaf,ordB,qan,qai,qaI,fr_w,hap,qab,qad,qac,qaa,qas,qag]
  have hx2:(KS n key (m+1)).2=(KS n key m).2:=by rw[hx]
  refine ⟨_,rfl,?_⟩
  refine qao [(1,0),(1,1)] rfl (by simp only[simprocAttr,-rR,-rS,qak,L62k2,qaN,qaW,qbD,qam,g0,g1,qah,qac,qaa]) rfl ⟨_,Un,Un,Un,Un,⟨rfl,fun _=>rfl⟩,by rw[hx2]; rfl,?_,?_⟩
  · exact qaj (1,0) rfl (by simp (disch:=first|omega|decide|simp only[nmsB,lB]) only[simprocAttr,-rR,-rS,leB,memB,qaf,g0,qae,qab,qad,qac,qaa]) (by rw[qaV,qbS])
  · exact qaj (1,1) rfl (by simp (disch:=first|omega|decide|simp only[nmsB,lB]) only[simprocAttr,-rR,-rS,leB,memB,qaf,g1,qae,qab,qad,qac,qaa]) (qaq _ _)
end Aes
namespace Aes
open Go Go.LE Tb
theorem Pl4 {a b d e:LV} (h:Pl [a,b,d,e]):(nms D a=[]∧nms D b=[]∧nms D d=[]∧nms D e=[])∧(∀ π,ren D π a=a∧ren D π b=b∧ren D π d=d∧ren D π e=e):=by
  obtain ⟨h1,h2⟩:=h
  simp only[zK,zN,List.append_eq_nil_iff,and_true,zD] at h1
  refine ⟨h1,fun π => ?_⟩
  have:=h2 π
  simp only[zB,zA,List.cons.injEq,and_true] at this
  exact this
theorem k2_roundA (k n c:Nat) (hn:n=4∨n=8) (hc:4*n+28≤c) (hc2:c < 1048576) (key:List (BitVec 8)) (hk:key.length=4*n) (m:Nat) (hm:m < 3*n+28) (h4:(n+m) % n=0) (st:St) (hJ:w2J n c key m st) :
    ∃ st1,ev (envC C (k+1)) (k+1) L62b2 st=some (.normal,st1)∧w2J n c key (m+1) (qa8 L62k2 st1):=by
  obtain ⟨H,a,b,d,e,hp,rfl,h0,h1⟩:=hJ
  have hl:=qee n key hk m
  have hlt:n+m < 4*(n+6+1):=by omega
  have hw:=qe2 (KS n key m).1 (4*c - 4*(n+m)) (n+m - 1) ((n+m - 1)*4) rfl (by omega)
  have hw2:=qe2 (KS n key m).1 (4*c - 4*(n+m)) m (m*4) rfl (by omega)
  have e1:n+m - n=m:=by omega
  have hpos:0 < n:=by omega
  have hi1:n+m - 1 < n+m:=by omega
  have hi2:m < n+m:=by omega
  simp (disch:=first|omega|decide|simp only[nmsB,lB]) only[simprocAttr,-rR,-rS,leB,memB,arrB,numB,qaf,ordB,qan,qai,L62b2,h0,h1,hlt,hw,hw2,e1,h4,hi1,hi2,qgi,qa3,zS,zI,fr_w,qab,qad,qac,qaa,qas,qag]
  have hlit:∀ g:R,[B8 (g 1),B8 (g 2),B8 (g 3),B8 (g 0)]=aB 4 fun j=>g ((j+1) % 4):=fun g=>rfl
  generalize hG:upd (upd H (12,0) _) (12,0) _=G
  have g0:G (1,0)=some (CF Nil TB):=by rw[←hG]; exact h0
  have g1:G (1,1)=some (bs ((KS n key m).1++List.replicate (4*c - 4*(n+m)) 0#8)):=by rw[←hG]; exact h1
  have g2:G (12,0)=some (aB 4 (wd (KS n key m).1 (n+m - 1))):=by rw[←hG]; rfl
  rw[hlit (wd (KS n key m).1 (n+m - 1)),c_boxed k _ G (1,0) _ g0]
  simp (disch:=first|omega|decide|simp only[nmsB,lB]) only[simprocAttr,-rR,-rS,leB,memB,arrB,numB,qaf,ordB,qan,qai,qaI,g0,g1,g2,CT_2,hw2,e1,hi2,qgi,qa3,zS,zI,fr_w,qab,qad,qac,qaa,qas,qag]
  have hfn:(fun j=>set1 (fun j=>BX (wd (KS n key m).1 (n+m - 1) ((j+1) % 4)).toNat) 0 (BX (wd (KS n key m).1 (n+m - 1) 1).toNat ^^^ (KS n key m).2) j ^^^ wd (KS n key m).1 m j)=nwd n (KS n key m).2 (n+m) (KS n key m).1:=by
    funext j
    simp only[nwd,tw,if_pos h4,set1,e1]
    by_cases hj:j=0
    · subst hj; rw[if_pos rfl,if_pos rfl]
    · rw[if_neg hj,if_neg hj,BitVec.xor_zero]
  rw[hfn]
  have hx:KS n key (m+1)=(ext4 (KS n key m).1 (nwd n (KS n key m).2 (n+m) (KS n key m).1),T2 (KS n key m).2):=by
    rw[KS,kstep,if_pos h4]
  have e6:4*c - 4*(n+m) - 4=4*c - 4*(n+(m+1)):=by omega
  have hap:∀ (b:Nat) (H':Heap),H' (1,1)=some (bs ((KS n key m).1++List.replicate (4*c - 4*(n+m)) 0#8))→appX b 4 4 1 H' [] (aB 4 (nwd n (KS n key m).2 (n+m) (KS n key m).1)) (.sl (1,1) 0 (n+m) (some c) 4)=some ⟨.sl (1,1) 0 (n+m+1) (some c) 4,[],[((1,1),some (bs ((KS n key (m+1)).1++List.replicate (4*c - 4*(n+(m+1))) 0#8)))]⟩:=by
    intro b H' h'
    rw[qfb b (n+m) c _ H' (1,1) _ _ h' hl (by omega) (by omega) (by omega),hx,e6]
  generalize hG2:only [(1,1),(53,0)] _=G2
  have g1':G2 (1,1)=some (bs ((KS n key m).1++List.replicate (4*c - 4*(n+m)) 0#8)):=by rw[←hG2]; exact g1
  rw[hap _ G2 g1']
  clear hG2
  simp (disch:=first|omega|decide|simp only[nmsB,lB]) only[simprocAttr,-rR,-rS,leB,memB,arrB,numB,qaf,ordB,qan,qai,qaI,fr_w,qab,qad,qac,qaa,qas,qag]
  have hx2:(KS n key (m+1)).2=T2 (KS n key m).2:=by rw[hx]
  obtain ⟨⟨na,nb,nd,ne⟩,hr⟩:=Pl4 hp
  refine ⟨_,rfl,?_⟩
  refine qao [(1,0),(1,1)] rfl (by simp only[simprocAttr,-rR,-rS,qak,L62k2,qaN,qaW,qbD,qam,g0,g1,na,nb,nd,ne,qah,qac,qaa]) (by simp only[simprocAttr,-rR,-rS,qak,L62k2,zB,zA,hr,qah,qac,qaa] <;> rfl) ⟨_,a,b,d,e,hp,by rw[hx2]; rfl,?_,?_⟩
  · exact qaj (1,0) rfl (by simp (disch:=first|omega|decide|simp only[nmsB,lB]) only[simprocAttr,-rR,-rS,leB,memB,qaf,g0,qae,qab,qad,qac,qaa]) (by rw[qaV,qbS])
  · exact qaj (1,1) rfl (by simp (disch:=first|omega|decide|simp only[nmsB,lB]) only[simprocAttr,-rR,-rS,leB,memB,qaf,g1,qae,qab,qad,qac,qaa]) (qaq _ _)
end Aes
namespace Aes
open Go Go.LE Tb
theorem k2_roundB (k c:Nat) (hc:60≤c) (hc2:c < 1048576) (key:List (BitVec 8)) (hk:key.length=4*8) (m:Nat) (hm:m < 3*8+28) (h4:(8+m) % 8≠0) (h8:(8+m) % 8=4) (st:St) (hJ:w2J 8 c key m st) :
    ∃ st1,ev (envC C (k+1)) (k+1) L62b2 st=some (.normal,st1)∧w2J 8 c key (m+1) (qa8 L62k2 st1):=by
  obtain ⟨H,a,b,d,e,hp,rfl,h0,h1⟩:=hJ
  have hl:=qee 8 key hk m
  have hlt:8+m < 4*(8+6+1):=by omega
  have i1:(8+m - 1)*4+4≤(KS 8 key m).1.length:=by omega
  have hw:=qe2 (KS 8 key m).1 (4*c - 4*(8+m)) (8+m - 1) ((8+m - 1)*4) rfl (by omega)
  have hw2:=qe2 (KS 8 key m).1 (4*c - 4*(8+m)) m (m*4) rfl (by omega)
  have e1:8+m - 8=m:=by omega
  have hi1:8+m - 1 < 8+m:=by omega
  have hi2:m < 8+m:=by omega
  simp (disch:=first|omega|decide|simp only[nmsB,lB]) only[simprocAttr,-rR,-rS,leB,memB,arrB,numB,qaf,ordB,qan,qai,L62b2,h0,h1,hlt,hw,hw2,e1,h4,h8,hi1,hi2,qgi,qa3,zS,zI,fr_w,qab,qad,qac,qaa,qas,qag]
  generalize hG:upd (upd H (12,0) _) (12,0) _=G
  have g0:G (1,0)=some (CF Nil TB):=by rw[←hG]; exact h0
  have g1:G (1,1)=some (bs ((KS 8 key m).1++List.replicate (4*c - 4*(8+m)) 0#8)):=by rw[←hG]; exact h1
  have g2:G (12,0)=some (aB 4 (wd (KS 8 key m).1 (8+m - 1))):=by rw[←hG]; rfl
  rw[c_boxed k _ G (1,0) _ g0]
  simp (disch:=first|omega|decide|simp only[nmsB,lB]) only[simprocAttr,-rR,-rS,leB,memB,arrB,numB,qaf,ordB,qan,qai,qaI,g0,g1,g2,CT_2,hw2,e1,hi2,qgi,qa3,zS,zI,fr_w,qab,qad,qac,qaa,qas,qag]
  have hfn:(fun j=>BX (wd (KS 8 key m).1 (8+m - 1) j).toNat ^^^ wd (KS 8 key m).1 m j)=nwd 8 (KS 8 key m).2 (8+m) (KS 8 key m).1:=by
    funext j
    simp only[nwd,tw,if_neg h4,if_pos (⟨trivial,h8⟩:True∧(8+m) % 8=4),e1]
  rw[hfn]
  have hx:KS 8 key (m+1)=(ext4 (KS 8 key m).1 (nwd 8 (KS 8 key m).2 (8+m) (KS 8 key m).1),(KS 8 key m).2):=by
    rw[KS,kstep,if_neg h4]
  have e6:4*c - 4*(8+m) - 4=4*c - 4*(8+(m+1)):=by omega
  have hap:∀ (b:Nat) (H':Heap),H' (1,1)=some (bs ((KS 8 key m).1++List.replicate (4*c - 4*(8+m)) 0#8))→appX b 4 4 1 H' [] (aB 4 (nwd 8 (KS 8 key m).2 (8+m) (KS 8 key m).1)) (.sl (1,1) 0 (8+m) (some c) 4)=some ⟨.sl (1,1) 0 (8+m+1) (some c) 4,[],[((1,1),some (bs ((KS 8 key (m+1)).1++List.replicate (4*c - 4*(8+(m+1))) 0#8)))]⟩:=by
    intro b H' h'
    rw[qfb b (8+m) c _ H' (1,1) _ _ h' hl (by omega) (by omega) (by omega),hx,e6]
  generalize hG2:only [(1,1),(41,0)] _=G2
  have g1':G2 (1,1)=some (bs ((KS 8 key m).1++List.replicate (4*c - 4*(8+m)) 0#8)):=by rw[←hG2]; exact g1
  rw[hap _ G2 g1']
  clear hG2
  simp (disch:=first|omega|decide|simp only[nmsB,lB]) only[simprocAttr,-rR,-rS,leB,memB,arrB,numB,qaf,ordB,qan,qai,qaI,fr_w,qab,qad,qac,qaa,qas,qag]
  have hx2:(KS 8 key (m+1)).2=(KS 8 key m).2:=by rw[hx]
  refine ⟨_,rfl,?_⟩
  refine qao [(1,0),(1,1)] rfl (by simp only[simprocAttr,-rR,-rS,qak,L62k2,qaN,qaW,qbD,qam,g0,g1,qah,qac,qaa]) rfl ⟨_,N (8+m),N 8,N ((8+m) % 8),Bo true,⟨rfl,fun _=>rfl⟩,by rw[hx2,h8]; rfl,?_,?_⟩
  · exact qaj (1,0) rfl (by simp (disch:=first|omega|decide|simp only[nmsB,lB]) only[simprocAttr,-rR,-rS,leB,memB,qaf,g0,qae,qab,qad,qac,qaa]) (by rw[qaV,qbS])
  · exact qaj (1,1) rfl (by simp (disch:=first|omega|decide|simp only[nmsB,lB]) only[simprocAttr,-rR,-rS,leB,memB,qaf,g1,qae,qab,qad,qac,qaa]) (qaq _ _)
end Aes
namespace Aes
open Go Go.LE Tb
theorem k2_roundD (k c:Nat) (hc:60≤c) (hc2:c < 1048576) (key:List (BitVec 8)) (hk:key.length=4*8) (m:Nat) (hm:m < 3*8+28) (h4:(8+m) % 8≠0) (h8:(8+m) % 8≠4) (st:St) (hJ:w2J 8 c key m st) :
    ∃ st1,ev (envC C (k+1)) (k+1) L62b2 st=some (.normal,st1)∧w2J 8 c key (m+1) (qa8 L62k2 st1):=by
  obtain ⟨H,a,b,d,e,hp,rfl,h0,h1⟩:=hJ
  have hl:=qee 8 key hk m
  have hlt:8+m < 4*(8+6+1):=by omega
  have i1:(8+m - 1)*4+4≤(KS 8 key m).1.length:=by omega
  have hw:=qe2 (KS 8 key m).1 (4*c - 4*(8+m)) (8+m - 1) ((8+m - 1)*4) rfl (by omega)
  have hw2:=qe2 (KS 8 key m).1 (4*c - 4*(8+m)) m (m*4) rfl (by omega)
  have e1:8+m - 8=m:=by omega
  have hi1:8+m - 1 < 8+m:=by omega
  have hi2:m < 8+m:=by omega
  simp (disch:=first|omega|decide|simp only[nmsB,lB]) only[simprocAttr,-rR,-rS,leB,memB,arrB,numB,qaf,ordB,qan,qai,L62b2,h0,h1,hlt,hw,hw2,e1,h4,h8,hi1,hi2,qgi,qa3,zS,zI,fr_w,qab,qad,qac,qaa,qas,qag]
  generalize hG:upd (upd (upd H (12,0) _) (12,0) _) (37,0) _=G
  have g0:G (1,0)=some (CF Nil TB):=by rw[←hG]; exact h0
  have g1:G (1,1)=some (bs ((KS 8 key m).1++List.replicate (4*c - 4*(8+m)) 0#8)):=by rw[←hG]; exact h1
  have hx:KS 8 key (m+1)=(ext4 (KS 8 key m).1 (fun j=>wd (KS 8 key m).1 (8+m - 1) j ^^^ wd (KS 8 key m).1 m j),(KS 8 key m).2):=by
    have hn:nwd 8 (KS 8 key m).2 (8+m) (KS 8 key m).1=fun j=>wd (KS 8 key m).1 (8+m - 1) j ^^^ wd (KS 8 key m).1 m j:=by
      funext j
      simp only[nwd,tw,if_neg h4,h8,and_false,zM,e1]
    rw[KS,kstep,if_neg h4,hn]
  have e6:4*c - 4*(8+m) - 4=4*c - 4*(8+(m+1)):=by omega
  have hap:∀ b,appX b 4 4 1 (only [(1,1),(37,0)] G) [] (aB 4 fun j=>wd (KS 8 key m).1 (8+m - 1) j ^^^ wd (KS 8 key m).1 m j) (.sl (1,1) 0 (8+m) (some c) 4)=some ⟨.sl (1,1) 0 (8+m+1) (some c) 4,[],[((1,1),some (bs ((KS 8 key (m+1)).1++List.replicate (4*c - 4*(8+(m+1))) 0#8)))]⟩:=by
    intro b
    rw[qfb b (8+m) c _ (only [(1,1),(37,0)] G) (1,1) _ _ g1 hl (by omega) (by omega) (by omega),hx,e6]
  simp (disch:=first|omega|decide|simp only[nmsB,lB]) only[simprocAttr,-rR,-rS,leB,memB,arrB,numB,qaf,ordB,qan,qai,qaI,fr_w,hap,qab,qad,qac,qaa,qas,qag]
  have hx2:(KS 8 key (m+1)).2=(KS 8 key m).2:=by rw[hx]
  refine ⟨_,rfl,?_⟩
  refine qao [(1,0),(1,1)] rfl (by simp only[simprocAttr,-rR,-rS,qak,L62k2,qaN,qaW,qbD,qam,g0,g1,qah,qac,qaa]) rfl ⟨_,N (8+m),N 8,N ((8+m) % 8),Bo false,⟨rfl,fun _=>rfl⟩,by rw[hx2]; rfl,?_,?_⟩
  · exact qaj (1,0) rfl (by simp (disch:=first|omega|decide|simp only[nmsB,lB]) only[simprocAttr,-rR,-rS,leB,memB,qaf,g0,qae,qab,qad,qac,qaa]) (by rw[qaV,qbS])
  · exact qaj (1,1) rfl (by simp (disch:=first|omega|decide|simp only[nmsB,lB]) only[simprocAttr,-rR,-rS,leB,memB,qaf,g1,qae,qab,qad,qac,qaa]) (qaq _ _)
end Aes
namespace Aes
open Go Go.LE Tb
theorem k2_round (k n c:Nat) (hn:n=4∨n=8) (hc:4*n+28≤c) (hc2:c < 1048576) (key:List (BitVec 8)) (hk:key.length=4*n) (m:Nat) (hm:m < 3*n+28) (st:St) (hJ:w2J n c key m st) :
    ∃ st1,ev (envC C (k+1)) (k+1) L62b2 st=some (.normal,st1)∧w2J n c key (m+1) (qa8 L62k2 st1):=by
  by_cases h4:(n+m) % n=0
  · exact k2_roundA k n c hn hc hc2 key hk m hm h4 st hJ
  · rcases hn with rfl | rfl
    · exact k2_roundC k 4 c (.inl rfl) hc hc2 key hk m hm h4 (by decide) st hJ
    · by_cases h8 : (8 + m) % 8 = 4
      · exact k2_roundB k c (by omega) hc2 key hk m hm h4 h8 st hJ
      · exact k2_roundD k c (by omega) hc2 key hk m hm h4 h8 st hJ
end Aes
namespace Aes
open Go Go.LE Tb
def blkA (L:List (BitVec 8)) (i a:Nat):R:=fun j=>if j < 4*a then kf L i j else 0#8
theorem blkA_succ (L:List (BitVec 8)) (i a:Nat) (ha:a < 4):(fun j=>if 4*a≤j∧j < 4*a+4 then wd L (4*i+a) (j - 4*a) else blkA L i a j)=blkA L i (a+1):=by
  funext j
  simp only[blkA]
  by_cases h:4*a≤j∧j < 4*a+4
  · rw [if_pos h, if_pos (by omega), wd, kf]
    rw[show 4*(4*i+a)+(j - 4*a)=i*16+j by omega]
  · rw [if_neg h]
    by_cases h2:j < 4*a
    · rw[if_pos h2,if_pos (by omega)]
    · rw[if_neg h2,if_neg (by omega)]
theorem cp_w (H:Heap) (m m2:Nm) (a:Nat) (ha:a < 4) (c1 c2:Option Nat) (w g:R) (h1:H m=some (aB 16 g)) (h2:H m2=some (aB 4 w)) :
    cpK 1 H (.sl m (4*a) (16 - 4*a) c1 1) (.sl m2 0 4 c2 1) (some 4)=some ⟨N 4,[],[(m,some (aB 16 fun j=>if 4*a≤j∧j < 4*a+4 then w (j - 4*a) else g j))]⟩:=by
  have hm:min 4 (16 - 4*a)=4:=by omega
  rw[qdt] at h1
  rw[aB4_bs] at h2
  have hf:qbp H 1 (min 4 (16 - 4*a)) (.sl m2 0 4 c2 1)=some (bs [w 0,w 1,w 2,w 3]):=by
    rw[hm,qbQ m2 0 4 c2 _ h2 (Nat.le_refl 4)]; rfl
  rw[qeT 4 m _ _ c1 _ _ _ (by omega) hf h1 (by rw[zV,List.length_range]; omega),hm]
  congr 4
  rw[qdt]
  congr 2
  have:a=0∨a=1∨a=2∨a=3:=by omega
  rcases this with rfl | rfl | rfl | rfl <;> rfl
def w0JZ (n c i:Nat) (L keys:List (BitVec 8)) (a:Nat) (st:St):Prop := ∃ (H:Heap),st=⟨[.undef,.undef,.undef,.undef,.ptr (1,0) 0,.sl (1,1) 0 (4*(n+7)) (some c) 4,.undef,.undef,.undef,.undef,.undef,.undef,.undef,.ptr (1,2) 0,.undef,.undef,.undef,.undef,.undef,.undef,.undef,.undef,.undef,.undef,.undef,.undef,.undef,.undef,.undef,.undef,.undef,.undef,.undef,.undef,.undef,.undef,.undef,.undef,.undef,.undef,.undef,.undef,.undef,.undef,.undef,.undef,.undef,.undef,.undef,.undef,.undef,.undef,.undef,.undef,.undef,.undef,.undef,.undef,.undef,.undef,.undef,.undef,.undef,.undef,.undef,.undef,.undef,.undef,.undef,.undef,.undef,.undef,.undef,.undef,.undef,.undef,.undef,.undef,.undef,.undef,.undef,.undef,.undef,.undef,.undef,.undef,.undef,.undef,.undef,.undef,.undef,.undef,.undef,.undef,.undef,.undef,.undef,.undef,.undef,.undef,.undef,.undef,.undef,.undef,.undef,.undef,.undef,.undef,.undef,.undef,.undef,.undef,.undef,.undef,.undef,.undef,N (n+7),N i,.undef,.undef,.undef,.undef,.undef,.undef,.undef,.undef,.undef,.sl (1,1) (4*i*4) 4 (some (c - 4*i)) 4,N 4,N a,.undef,.undef,.undef,.undef,.undef,.undef,.undef,.undef,.undef,.undef,.undef,.undef,.undef,.undef,.undef,.undef,.undef,.undef,.undef,.undef,.undef,.undef],H,2,0⟩ ∧
  H (1,0)=some (CF Nil TB)∧H (1,1)=some (bs (L++List.replicate (4*c - 16*(n+7)) 0#8))∧H (1,2)=some (aB 16 (blkA L i a))
theorem k0_roundZ (k n c i:Nat) (hi:i < n+7) (L keys:List (BitVec 8)) (hL:L.length=16*(n+7)) (hc:4*(n+7)≤c) (a:Nat) (ha:a < 4) (st:St) (hJ:w0JZ n c i L keys a st) :
    ∃ st1,ev (envC C k) k L62b0 st=some (.normal,st1)∧w0JZ n c i L keys (a+1) (qa8 L62k0 st1):=by
  obtain ⟨H,rfl,h0,h1,h2⟩:=hJ
  have hw:=qe2 L (4*c - 16*(n+7)) (4*i+a) (4*i*4+a*4) (by omega) (by omega)
  have hlt:4*a≤16:=by omega
  simp (disch:=first|omega|decide|simp only[nmsB,lB]) only[simprocAttr,-rR,-rS,leB,memB,arrB,numB,qaf,ordB,qan,qai,qaI,L62b0,h0,h1,h2,ha,hlt,hw,fr_w,qa3,qab,qad,qac,qaa,qas,qag]
  rw[cp_w _ (1,2) (6,0) a ha _ _ (wd L (4*i+a)) (blkA L i a) (by exact h2) rfl]
  simp (disch:=first|omega|decide|simp only[nmsB,lB]) only[simprocAttr,-rR,-rS,leB,memB,arrB,numB,qaf,ordB,qan,qai,qaI,h0,h1,h2,fr_w,qa3,qab,qad,qac,qaa,qas,qag]
  rw[blkA_succ L i a ha]
  refine ⟨_,rfl,?_⟩
  refine qao [(1,0),(1,1),(1,2)] rfl (by simp only[simprocAttr,-rR,-rS,qak,L62k0,qaN,qaW,qa3,qbD,qam,h0,h1,h2,qah,qac,qaa]) rfl ⟨_,rfl,?_,?_,?_⟩
  · exact qaj (1,0) rfl (by simp (disch:=first|omega|decide|simp only[nmsB,lB]) only[simprocAttr,-rR,-rS,leB,memB,qaf,h0,qae,qab,qad,qac,qaa]) (by rw[qaV] <;> rfl)
  · exact qaj (1,1) rfl (by simp (disch:=first|omega|decide|simp only[nmsB,lB]) only[simprocAttr,-rR,-rS,leB,memB,qaf,h1,qae,qab,qad,qac,qaa]) (qaq _ _)
  · exact qaj (1,2) rfl (by simp (disch:=first|omega|decide|simp only[nmsB,lB]) only[simprocAttr,-rR,-rS,leB,memB,qaf,qae,qab,qad,qac,qaa]) (qaE _ _ _)
def w0JS (n c i:Nat) (L keys:List (BitVec 8)) (a:Nat) (st:St):Prop := ∃ (H:Heap),st=⟨[.undef,.undef,.undef,.undef,.ptr (1,0) 0,.sl (1,2) 0 (4*(n+7)) (some c) 4,.undef,.undef,.undef,.undef,.undef,.undef,.undef,.ptr (1,3) 0,.undef,.undef,.undef,.undef,.undef,.undef,.undef,.undef,.undef,.undef,.undef,.undef,.undef,.undef,.undef,.undef,.undef,.undef,.undef,.undef,.undef,.undef,.undef,.undef,.undef,.undef,.undef,.undef,.undef,.undef,.undef,.undef,.undef,.undef,.undef,.undef,.undef,.undef,.undef,.undef,.undef,.undef,.undef,.undef,.undef,.undef,.undef,.undef,.undef,.undef,.undef,.undef,.undef,.undef,.undef,.undef,.undef,.undef,.undef,.undef,.undef,.undef,.undef,.undef,.undef,.undef,.undef,.undef,.undef,.undef,.undef,.undef,.undef,.undef,.undef,.undef,.undef,.undef,.undef,.undef,.undef,.undef,.undef,.undef,.undef,.undef,.undef,.undef,.undef,.undef,.undef,.undef,.undef,.undef,.undef,.undef,.undef,.undef,.undef,.undef,.undef,.undef,N (n+7),N i,.undef,.undef,.undef,.undef,.undef,.undef,.undef,.undef,.undef,.sl (1,2) (4*i*4) 4 (some (c - 4*i)) 4,N 4,N a,.undef,.undef,.undef,.undef,.undef,.undef,.undef,.undef,.undef,.undef,.undef,.undef,.undef,.undef,.undef,.undef,.undef,.undef,.undef,.undef,.undef,.undef],H,2,0⟩ ∧
  H (1,0)=some (CF (.sl (1,1) 0 i none 16) TB)∧H (1,1)=some (bs keys)∧H (1,2)=some (bs (L++List.replicate (4*c - 16*(n+7)) 0#8))∧H (1,3)=some (aB 16 (blkA L i a))
theorem k0_roundS (k n c i:Nat) (hi:i < n+7) (L keys:List (BitVec 8)) (hL:L.length=16*(n+7)) (hc:4*(n+7)≤c) (a:Nat) (ha:a < 4) (st:St) (hJ:w0JS n c i L keys a st) :
    ∃ st1,ev (envC C k) k L62b0 st=some (.normal,st1)∧w0JS n c i L keys (a+1) (qa8 L62k0 st1):=by
  obtain ⟨H,rfl,h0,hk,h1,h2⟩:=hJ
  have hw:=qe2 L (4*c - 16*(n+7)) (4*i+a) (4*i*4+a*4) (by omega) (by omega)
  have hlt:4*a≤16:=by omega
  simp (disch:=first|omega|decide|simp only[nmsB,lB]) only[simprocAttr,-rR,-rS,leB,memB,arrB,numB,qaf,ordB,qan,qai,qaI,L62b0,h0,hk,h1,h2,ha,hlt,hw,fr_w,qa3,qab,qad,qac,qaa,qas,qag]
  rw[cp_w _ (1,3) (6,0) a ha _ _ (wd L (4*i+a)) (blkA L i a) (by exact h2) rfl]
  simp (disch:=first|omega|decide|simp only[nmsB,lB]) only[simprocAttr,-rR,-rS,leB,memB,arrB,numB,qaf,ordB,qan,qai,qaI,h0,hk,h1,h2,fr_w,qa3,qab,qad,qac,qaa,qas,qag]
  rw[blkA_succ L i a ha]
  refine ⟨_,rfl,?_⟩
  refine qao [(1,0),(1,1),(1,2),(1,3)] rfl (by simp only[simprocAttr,-rR,-rS,qak,L62k0,qaN,qaW,qa3,qbD,qam,h0,hk,h1,h2,qah,qac,qaa]) rfl ⟨_,rfl,?_,?_,?_,?_⟩
  · exact qaj (1,0) rfl (by simp (disch:=first|omega|decide|simp only[nmsB,lB]) only[simprocAttr,-rR,-rS,leB,memB,qaf,h0,qae,qab,qad,qac,qaa]) (by rw[qaV] <;> rfl)
  · exact qaj (1,1) rfl (by simp (disch:=first|omega|decide|simp only[nmsB,lB]) only[simprocAttr,-rR,-rS,leB,memB,qaf,hk,qae,qab,qad,qac,qaa]) (qaq _ _)
  · exact qaj (1,2) rfl (by simp (disch:=first|omega|decide|simp only[nmsB,lB]) only[simprocAttr,-rR,-rS,leB,memB,qaf,h1,qae,qab,qad,qac,qaa]) (qaq _ _)
  · exact qaj (1,3) rfl (by simp (disch:=first|omega|decide|simp only[nmsB,lB]) only[simprocAttr,-rR,-rS,leB,memB,qaf,qae,qab,qad,qac,qaa]) (qaE _ _ _)
end Aes
namespace Aes
open Go Go.LE Tb
set_option maxRecDepth 20000
def w1J (n c:Nat) (L:List (BitVec 8)) (i:Nat) (st:St):Prop := ∃ (H:Heap),
  (i=0∧st=⟨[.undef,.undef,.undef,.undef,.ptr (1,0) 0,.sl (1,1) 0 (4*(n+7)) (some c) 4,.undef,.undef,.undef,.undef,.undef,.undef,.undef,.undef,.undef,.undef,.undef,.undef,.undef,.undef,.undef,.undef,.undef,.undef,.undef,.undef,.undef,.undef,.undef,.undef,.undef,.undef,.undef,.undef,.undef,.undef,.undef,.undef,.undef,.undef,.undef,.undef,.undef,.undef,.undef,.undef,.undef,.undef,.undef,.undef,.undef,.undef,.undef,.undef,.undef,.undef,.undef,.undef,.undef,.undef,.undef,.undef,.undef,.undef,.undef,.undef,.undef,.undef,.undef,.undef,.undef,.undef,.undef,.undef,.undef,.undef,.undef,.undef,.undef,.undef,.undef,.undef,.undef,.undef,.undef,.undef,.undef,.undef,.undef,.undef,.undef,.undef,.undef,.undef,.undef,.undef,.undef,.undef,.undef,.undef,.undef,.undef,.undef,.undef,.undef,.undef,.undef,.undef,.undef,.undef,.undef,.undef,.undef,.undef,.undef,.undef,N (n+7),N 0,.undef,.undef,.undef,.undef,.undef,.undef,.undef,.undef,.undef,.undef,.undef,.undef,.undef,.undef,.undef,.undef,.undef,.undef,.undef,.undef,.undef,.undef,.undef,.undef,.undef,.undef,.undef,.undef,.undef,.undef,.undef,.undef,.undef,.undef],H,2,0⟩∧H (1,0)=some (CF Nil TB)∧H (1,1)=some (bs (L++List.replicate (4*c - 16*(n+7)) 0#8))) ∨
  (0 < i∧st=⟨[.undef,.undef,.undef,.undef,.ptr (1,0) 0,.sl (1,2) 0 (4*(n+7)) (some c) 4,.undef,.undef,.undef,.undef,.undef,.undef,.undef,.undef,.undef,.undef,.undef,.undef,.undef,.undef,.undef,.undef,.undef,.undef,.undef,.undef,.undef,.undef,.undef,.undef,.undef,.undef,.undef,.undef,.undef,.undef,.undef,.undef,.undef,.undef,.undef,.undef,.undef,.undef,.undef,.undef,.undef,.undef,.undef,.undef,.undef,.undef,.undef,.undef,.undef,.undef,.undef,.undef,.undef,.undef,.undef,.undef,.undef,.undef,.undef,.undef,.undef,.undef,.undef,.undef,.undef,.undef,.undef,.undef,.undef,.undef,.undef,.undef,.undef,.undef,.undef,.undef,.undef,.undef,.undef,.undef,.undef,.undef,.undef,.undef,.undef,.undef,.undef,.undef,.undef,.undef,.undef,.undef,.undef,.undef,.undef,.undef,.undef,.undef,.undef,.undef,.undef,.undef,.undef,.undef,.undef,.undef,.undef,.undef,.undef,.undef,N (n+7),N i,.undef,.undef,.undef,.undef,.undef,.undef,.undef,.undef,.undef,.undef,.undef,.undef,.undef,.undef,.undef,.undef,.undef,.undef,.undef,.undef,.undef,.undef,.undef,.undef,.undef,.undef,.undef,.undef,.undef,.undef,.undef,.undef,.undef,.undef],H,2,0⟩∧H (1,0)=some (CF (.sl (1,1) 0 i none 16) TB)∧H (1,1)=some (bs (L.take (16*i)))∧H (1,2)=some (bs (L++List.replicate (4*c - 16*(n+7)) 0#8)))
theorem w1J.of_z {n c:Nat} {L:List (BitVec 8)} {st:St} (h:w1J n c L 0 st):∃ (H:Heap),st=⟨[.undef,.undef,.undef,.undef,.ptr (1,0) 0,.sl (1,1) 0 (4*(n+7)) (some c) 4,.undef,.undef,.undef,.undef,.undef,.undef,.undef,.undef,.undef,.undef,.undef,.undef,.undef,.undef,.undef,.undef,.undef,.undef,.undef,.undef,.undef,.undef,.undef,.undef,.undef,.undef,.undef,.undef,.undef,.undef,.undef,.undef,.undef,.undef,.undef,.undef,.undef,.undef,.undef,.undef,.undef,.undef,.undef,.undef,.undef,.undef,.undef,.undef,.undef,.undef,.undef,.undef,.undef,.undef,.undef,.undef,.undef,.undef,.undef,.undef,.undef,.undef,.undef,.undef,.undef,.undef,.undef,.undef,.undef,.undef,.undef,.undef,.undef,.undef,.undef,.undef,.undef,.undef,.undef,.undef,.undef,.undef,.undef,.undef,.undef,.undef,.undef,.undef,.undef,.undef,.undef,.undef,.undef,.undef,.undef,.undef,.undef,.undef,.undef,.undef,.undef,.undef,.undef,.undef,.undef,.undef,.undef,.undef,.undef,.undef,N (n+7),N 0,.undef,.undef,.undef,.undef,.undef,.undef,.undef,.undef,.undef,.undef,.undef,.undef,.undef,.undef,.undef,.undef,.undef,.undef,.undef,.undef,.undef,.undef,.undef,.undef,.undef,.undef,.undef,.undef,.undef,.undef,.undef,.undef,.undef,.undef],H,2,0⟩∧H (1,0)=some (CF Nil TB)∧H (1,1)=some (bs (L++List.replicate (4*c - 16*(n+7)) 0#8)):=by
  obtain ⟨H,⟨_,h⟩ | ⟨h,_⟩⟩:=h
  · exact ⟨H,h⟩
  · exact absurd h (by omega)
theorem w1J.of_s {n c i:Nat} {L:List (BitVec 8)} {st:St} (h:w1J n c L i st) (hi:0 < i):∃ (H:Heap),st=⟨[.undef,.undef,.undef,.undef,.ptr (1,0) 0,.sl (1,2) 0 (4*(n+7)) (some c) 4,.undef,.undef,.undef,.undef,.undef,.undef,.undef,.undef,.undef,.undef,.undef,.undef,.undef,.undef,.undef,.undef,.undef,.undef,.undef,.undef,.undef,.undef,.undef,.undef,.undef,.undef,.undef,.undef,.undef,.undef,.undef,.undef,.undef,.undef,.undef,.undef,.undef,.undef,.undef,.undef,.undef,.undef,.undef,.undef,.undef,.undef,.undef,.undef,.undef,.undef,.undef,.undef,.undef,.undef,.undef,.undef,.undef,.undef,.undef,.undef,.undef,.undef,.undef,.undef,.undef,.undef,.undef,.undef,.undef,.undef,.undef,.undef,.undef,.undef,.undef,.undef,.undef,.undef,.undef,.undef,.undef,.undef,.undef,.undef,.undef,.undef,.undef,.undef,.undef,.undef,.undef,.undef,.undef,.undef,.undef,.undef,.undef,.undef,.undef,.undef,.undef,.undef,.undef,.undef,.undef,.undef,.undef,.undef,.undef,.undef,N (n+7),N i,.undef,.undef,.undef,.undef,.undef,.undef,.undef,.undef,.undef,.undef,.undef,.undef,.undef,.undef,.undef,.undef,.undef,.undef,.undef,.undef,.undef,.undef,.undef,.undef,.undef,.undef,.undef,.undef,.undef,.undef,.undef,.undef,.undef,.undef],H,2,0⟩∧H (1,0)=some (CF (.sl (1,1) 0 i none 16) TB)∧H (1,1)=some (bs (L.take (16*i)))∧H (1,2)=some (bs (L++List.replicate (4*c - 16*(n+7)) 0#8)):=by
  obtain ⟨H,⟨h,_⟩ | ⟨_,h⟩⟩:=h
  · exact absurd h (by omega)
  · exact ⟨H,h⟩
theorem CF_st0 (r x:LV) (f:R) (m:Nm) (h:qaB x=true):stK 1 0 m (some [x]) (some (CF r f))=some ⟨Un,[],[(m,some (CF x f))]⟩:=by
  have e:qbh (CF r f) 0 [x]=CF x f:=by
    simp only[qbh,CF,zW,zI,zE,zL,zO,zd,zF,zS]
  rw[qcw,if_pos ⟨rfl,by rw[qfR]; omega,by rw[zT,h]; rfl⟩,e]
theorem fill16 (w f:R):aB 16 w++List.drop 16 (aB 16 f)=aB 16 w:=by rw[List.drop_of_length_le (by rw[qbX]; exact Nat.le_refl 16),zD]
theorem frontK_16 (w:R):qb8 0 16 1 (some (aB 16 w))=some (aB 16 w):=rfl
theorem k1_roundZ (k n c:Nat) (hn:n≤8) (L:List (BitVec 8)) (hL:L.length=16*(n+7)) (hc:4*(n+7)≤c) (hc2:c < 1048576) (st:St) (hJ:w1J n c L 0 st) :
    ∃ st1,ev (envC C (k+5)) (k+5) L62b1 st=some (.normal,st1)∧w1J n c L (0+1) (qa8 L62k1 st1):=by
  obtain ⟨H,rfl,h0,h1⟩:=hJ.of_z
  have hlt:0 < n+7:=by omega
  have e1:4*(0+1)≤4*(n+7):=by omega
  have e2:4*(0+1) - 4*0=4:=by omega
  have e4:4*0≤4*(0+1):=by omega
  simp (disch:=first|omega|decide|simp only[nmsB,lB]) only[simprocAttr,-rR,-rS,leB,memB,arrB,numB,qaf,ordB,qan,qai,qaI,L62b1,h0,h1,hlt,e1,e2,e4,fr_w,qa3,qab,qad,qac,qaa,qas,qag]
  generalize hL2:qa1 L62k0 _ _ _=r
  refine qaR hL2 (w0JZ n c 0 L []) 4 (by omega) (fun a st ha hJ=>k0_roundZ _ n c 0 hlt L _ hL hc a ha st hJ) ?_ ?_ ?_
  · refine qao [(1, 0), (1, 1), (6, 0)] rfl (by simp only [simprocAttr, -rR, -rS, qak, L62k0, qaN, qaW, qa3, qbD, qam, h0, h1, qah, qac, qaa]) rfl ⟨_, rfl, ?_, ?_, ?_⟩
    · exact qaj (1,0) rfl (by simp (disch:=first|omega|decide|simp only[nmsB,lB]) only[simprocAttr,-rR,-rS,leB,memB,qaf,h0,qae,qab,qad,qac,qaa]) (by rw[qaV] <;> rfl)
    · exact qaj (1,1) rfl (by simp (disch:=first|omega|decide|simp only[nmsB,lB]) only[simprocAttr,-rR,-rS,leB,memB,qaf,h1,qae,qab,qad,qac,qaa]) (qaq _ _)
    · refine (qaj (6, 0) rfl (by simp (disch := first | omega | decide | simp only [nmsB, lB]) only [simprocAttr, -rR, -rS, leB, memB, qaf, arrB, qae, qab, qad, qac, qaa]) (qaE 16 (fun _ => 0#8) _)).trans (congrArg some ?_)
      exact qcn _ fun j _=>by rw[blkA,if_neg (by omega)]
  · rintro st ⟨H, rfl, h0, h1, h2⟩
    apply qaO
    simp (disch:=first|omega|decide|simp only[nmsB,lB]) only[simprocAttr,-rR,-rS,leB,memB,arrB,numB,qaf,ordB,qan,L62b0,h0,h1,h2,qae,qab,qad,qac,qaa,qas,qag]
    rfl
  · rintro st ⟨H, rfl, h0, h1, h2⟩ rfl
    have hb:aB 16 (blkA L 0 4)=aB 16 (kf L 0):=qcn _ fun j hj=>by rw[blkA,if_pos (by omega)]
    rw[hb] at h2
    simp (disch:=first|omega|decide|simp only[nmsB,lB]) only[simprocAttr,-rR,-rS,leB,memB,arrB,numB,qaf,ordB,qan,qai,qaI,L62b0,h0,h1,h2,fr_w,qa3,qbD,CF_k,CF_st0,fill16,frontK_16,qab,qad,qac,qaa,qas,qag]
    refine ⟨_,rfl,?_⟩
    refine qao [(1,0),(10,0),(1,1)] rfl (by simp only[simprocAttr,-rR,-rS,qak,L62k1,qaN,qaW,qa3,qbD,qam,h0,h1,qah,qac,qaa]) rfl ⟨_,.inr ⟨by omega,rfl,?_,?_,?_⟩⟩
    · refine (qcQ _ _ 0 (1, 0) _ rfl (by simp (disch := first | omega | decide | simp only [nmsB, lB]) only [simprocAttr, -rR, -rS, leB, memB, qaf, h0, qae, qab, qad, qac, qaa] <;> rfl)).trans ?_
      rw[qaV]; rfl
    · refine (qcQ _ _ 1 (10, 0) _ rfl (by simp (disch := first | omega | decide | simp only [nmsB, lB]) only [simprocAttr, -rR, -rS, leB, memB, qaf, qae, qab, qad, qac, qaa] <;> rfl)).trans ?_
      rw[qaE,qdt,←take16 L 0 (by omega)]; rfl
    · exact qaj (1,1) rfl (by simp (disch:=first|omega|decide|simp only[nmsB,lB]) only[simprocAttr,-rR,-rS,leB,memB,qaf,h1,qae,qab,qad,qac,qaa]) (qaq _ _)
theorem k1_roundS (k n c i:Nat) (hn:n≤8) (h0i:0 < i) (hi:i < n+7) (L:List (BitVec 8)) (hL:L.length=16*(n+7)) (hc:4*(n+7)≤c) (hc2:c < 1048576) (st:St) (hJ:w1J n c L i st) :
    ∃ st1,ev (envC C (k+5)) (k+5) L62b1 st=some (.normal,st1)∧w1J n c L (i+1) (qa8 L62k1 st1):=by
  obtain ⟨H,rfl,h0,hk,h1⟩:=hJ.of_s h0i
  have hlt:i < n+7:=by omega
  have e1:4*(i+1)≤4*(n+7):=by omega
  have e2:4*(i+1) - 4*i=4:=by omega
  have e4:4*i≤4*(i+1):=by omega
  simp (disch:=first|omega|decide|simp only[nmsB,lB]) only[simprocAttr,-rR,-rS,leB,memB,arrB,numB,qaf,ordB,qan,qai,qaI,L62b1,h0,hk,h1,hlt,e1,e2,e4,fr_w,qa3,qab,qad,qac,qaa,qas,qag]
  generalize hL2:qa1 L62k0 _ _ _=r
  refine qaR hL2 (w0JS n c i L (L.take (16*i))) 4 (by omega) (fun a st ha hJ=>k0_roundS _ n c i hlt L _ hL hc a ha st hJ) ?_ ?_ ?_
  · refine qao [(1, 0), (1, 1), (1, 2), (6, 0)] rfl (by simp only [simprocAttr, -rR, -rS, qak, L62k0, qaN, qaW, qa3, qbD, qam, h0, hk, h1, qah, qac, qaa]) rfl ⟨_, rfl, ?_, ?_, ?_, ?_⟩
    · exact qaj (1,0) rfl (by simp (disch:=first|omega|decide|simp only[nmsB,lB]) only[simprocAttr,-rR,-rS,leB,memB,qaf,h0,qae,qab,qad,qac,qaa]) (by rw[qaV] <;> rfl)
    · exact qaj (1,1) rfl (by simp (disch:=first|omega|decide|simp only[nmsB,lB]) only[simprocAttr,-rR,-rS,leB,memB,qaf,hk,qae,qab,qad,qac,qaa]) (qaq _ _)
    · exact qaj (1,2) rfl (by simp (disch:=first|omega|decide|simp only[nmsB,lB]) only[simprocAttr,-rR,-rS,leB,memB,qaf,h1,qae,qab,qad,qac,qaa]) (qaq _ _)
    · refine (qaj (6, 0) rfl (by simp (disch := first | omega | decide | simp only [nmsB, lB]) only [simprocAttr, -rR, -rS, leB, memB, qaf, arrB, qae, qab, qad, qac, qaa]) (qaE 16 (fun _ => 0#8) _)).trans (congrArg some ?_)
      exact qcn _ fun j _=>by rw[blkA,if_neg (by omega)]
  · rintro st ⟨H, rfl, h0, hk, h1, h2⟩
    apply qaO
    simp (disch:=first|omega|decide|simp only[nmsB,lB]) only[simprocAttr,-rR,-rS,leB,memB,arrB,numB,qaf,ordB,qan,L62b0,h0,hk,h1,h2,qae,qab,qad,qac,qaa,qas,qag]
    rfl
  · rintro st ⟨H, rfl, h0, hk, h1, h2⟩ rfl
    have hb:aB 16 (blkA L i 4)=aB 16 (kf L i):=qcn _ fun j hj=>by rw[blkA,if_pos (by omega)]
    rw[hb] at h2
    have hap:∀ (b:Nat),appN b 16 1 0 i (1,1) (aB 16 (kf L i)) (some (bs (L.take (16*i))))=some ⟨.sl (b,0) 0 (i+1) none 16,[bs (L.take (16*(i+1)))],[((1,1),none)]⟩:=by
      intro b
      rw[appN,qaM,if_pos (by rw[zU]; omega),zF,qdt,qdO,qe7,List.take_of_length_le (by rw[zU]; omega),take16 L i (by omega)]
    simp (disch:=first|omega|decide|simp only[nmsB,lB]) only[simprocAttr,-rR,-rS,leB,memB,arrB,numB,qaf,ordB,qan,qai,qaI,L62b0,h0,hk,h1,h2,fr_w,qa3,qbD,CF_k,CF_st0,fill16,frontK_16,hap,qab,qad,qac,qaa,qas,qag]
    refine ⟨_,rfl,?_⟩
    refine qao [(1,0),(10,0),(1,2)] rfl (by simp only[simprocAttr,-rR,-rS,qak,L62k1,qaN,qaW,qa3,qbD,qam,h0,hk,h1,qah,qac,qaa]) rfl ⟨_,.inr ⟨by omega,rfl,?_,?_,?_⟩⟩
    · refine (qcQ _ _ 0 (1, 0) _ rfl (by simp (disch := first | omega | decide | simp only [nmsB, lB]) only [simprocAttr, -rR, -rS, leB, memB, qaf, h0, qae, qab, qad, qac, qaa] <;> rfl)).trans ?_
      rw[qaV]; rfl
    · refine (qcQ _ _ 1 (10, 0) _ rfl (by simp (disch := first | omega | decide | simp only [nmsB, lB]) only [simprocAttr, -rR, -rS, leB, memB, qaf, qae, qab, qad, qac, qaa] <;> rfl)).trans ?_
      rw[qaq]
    · exact qaj (1,2) rfl (by simp (disch:=first|omega|decide|simp only[nmsB,lB]) only[simprocAttr,-rR,-rS,leB,memB,qaf,h1,qae,qab,qad,qac,qaa]) (qaq _ _)
theorem k1_round (k n c i:Nat) (hn:n≤8) (hi:i < n+7) (L:List (BitVec 8)) (hL:L.length=16*(n+7)) (hc:4*(n+7)≤c) (hc2:c < 1048576) (st:St) (hJ:w1J n c L i st) :
    ∃ st1,ev (envC C (k+5)) (k+5) L62b1 st=some (.normal,st1)∧w1J n c L (i+1) (qa8 L62k1 st1):=by
  by_cases h0:0 < i
  · exact k1_roundS k n c i hn h0 hi L hL hc hc2 st hJ
  · obtain rfl : i = 0 := by omega
    exact k1_roundZ k n c hn L hL hc hc2 st hJ
end Aes
namespace Aes
open Go Go.LE Tb
set_option maxRecDepth 20000
theorem nms7_ptr (m:Nm) (o:Nat):nms 7 (.ptr m o)=[m]:=rfl
theorem c_tables (k b:Nat) (H:Heap) (fN:Nm) (h:H fN=some (CF Nil fun _=>0#8)):qar (envC C (k+301)) H b 73 [.ptr fN 0]=some ⟨.tup [],[],[(fN,some (CF Nil TB))]⟩ :=
  call0 _ b 73 l73 H fN _ _ h [] Pl.e _ (fun _=>rfl) (tables_F k)
theorem new_4 (k:Nat) (key:List (BitVec 8)) (hk:key.length=16):F C (k+400) 62 [.isl (bs key) key.length] []=some (.tup [.ptr (1,0) 0,N 0],[],[CF (.sl (1,1) 0 (4+7) none 16) TB,bs (W 4 key)]):=by
  rw[qaH f62]
  simp (disch:=first|omega|decide|simp only[nmsB,lB]) only[simprocAttr,-rR,-rS,leB,memB,arrB,numB,qaf,ordB,L62,hk,qab,qad,qac,qaa,qas]
  rw[c_tables (k+98) _ _ (13,0) rfl]
  simp (disch:=first|omega|decide|simp only[nmsB,lB]) only[simprocAttr,-rR,-rS,leB,memB,arrB,numB,qaf,ordB,qan,qai,L62,hk,mk4,qab,qad,qac,qaa,qas,qag]
  generalize hL:qa1 L62k3 _ _ _=r
  refine qaR hL (w3J 4 44 key) 4 (by omega) (fun i st hi hJ=>k3_round _ 4 44 (by decide) (by decide) key hk i hi st hJ) ?_ ?_ ?_
  · refine qao [(13, 0), (20, 0)] rfl (by simp only [simprocAttr, -rR, -rS, qak, L62k3, qaN, qaW, qbD, qam, qbg, qah, qac, qaa]) (by simp only [simprocAttr, -rR, -rS, qak, L62k3, zB, zA, qbj, qah, qac, qaa] <;> rfl) ⟨_, rfl, ?_, ?_⟩
    · exact qaj (13,0) rfl (by simp (disch:=first|omega|decide|simp only[nmsB,lB]) only[simprocAttr,-rR,-rS,leB,memB,qaf,qae,qab,qad,qac,qaa]) (by rw[qaV,qbS])
    · exact qaj (20,0) rfl (by simp (disch:=first|omega|decide|simp only[nmsB,lB]) only[simprocAttr,-rR,-rS,leB,memB,qaf,qae,qab,qad,qac,qaa] <;> rfl) (qaq _ _)
  · rintro st ⟨H, rfl, h0, h1⟩
    apply qaO
    simp (disch:=first|omega|decide|simp only[nmsB,lB]) only[simprocAttr,-rR,-rS,leB,memB,arrB,numB,qaf,L62b3,h0,h1,qae,qab,qad,qac,qaa]
    rfl
  · rintro st ⟨H, rfl, h0, h1⟩ rfl
    simp (disch:=first|omega|decide|simp only[nmsB,lB]) only[simprocAttr,-rR,-rS,leB,memB,arrB,numB,qaf,ordB,qan,L62b3,h0,h1,qae,qab,qad,qac,qaa,qas,qag]
    generalize hL:qa1 L62k2 _ _ _=r
    refine qaR hL (w2J 4 44 key) 40 (by omega) (fun i st hi hJ=>k2_round _ 4 44 (.inl rfl) (by decide) (by decide) key hk i hi st hJ) ?_ ?_ ?_
    · refine qao [(1, 0), (1, 1)] rfl (by simp only [simprocAttr, -rR, -rS, qak, L62k2, qaN, qaW, qbD, qam, qbg, h0, h1, qah, qac, qaa]) rfl ⟨_, Un, Un, Un, Un, ⟨rfl, fun _ => rfl⟩, rfl, ?_, ?_⟩
      · exact qaj (1,0) rfl (by simp (disch:=first|omega|decide|simp only[nmsB,lB]) only[simprocAttr,-rR,-rS,leB,memB,qaf,h0,qae,qab,qad,qac,qaa]) (by rw[qaV,qbS])
      · exact qaj (1,1) rfl (by simp (disch:=first|omega|decide|simp only[nmsB,lB]) only[simprocAttr,-rR,-rS,leB,memB,qaf,h1,qae,qab,qad,qac,qaa]; rw[KS,List.take_of_length_le (by omega)]) (qaq _ _)
    · rintro st ⟨H, a, b, d, e, hp, rfl, h0, h1⟩
      apply qaO
      simp (disch:=first|omega|decide|simp only[nmsB,lB]) only[simprocAttr,-rR,-rS,leB,memB,arrB,numB,qaf,L62b2,h0,h1,qae,qab,qad,qac,qaa]
      rfl
    · rintro st ⟨H, a, b, d, e, hp, rfl, h0, h1⟩ rfl
      simp (disch:=first|omega|decide|simp only[nmsB,lB]) only[simprocAttr,-rR,-rS,leB,memB,arrB,numB,qaf,ordB,qan,L62b2,h0,h1,qae,qab,qad,qac,qaa,qas,qag]
      clear hL
      generalize hL:qa1 L62k1 _ _ _=r
      have hlen:(KS 4 key 40).1.length=16*(4+7):=qee 4 key hk 40
      refine qaR hL (w1J 4 44 (KS 4 key 40).1) 11 (by omega) (fun i st hi hJ=>k1_round (k+394) 4 44 i (by decide) hi _ hlen (by decide) (by decide) st hJ) ?_ ?_ ?_
      · refine qao [(1, 0), (1, 1)] rfl (by simp only [simprocAttr, -rR, -rS, qak, L62k1, qaN, qaW, qbD, qam, qbg, h0, h1, qah, qac, qaa]) rfl ⟨_, .inl ⟨rfl, rfl, ?_, ?_⟩⟩
        · exact qaj (1,0) rfl (by simp (disch:=first|omega|decide|simp only[nmsB,lB]) only[simprocAttr,-rR,-rS,leB,memB,qaf,h0,qae,qab,qad,qac,qaa]) (by rw[qaV,qbS])
        · exact qaj (1,1) rfl (by simp (disch:=first|omega|decide|simp only[nmsB,lB]) only[simprocAttr,-rR,-rS,leB,memB,qaf,h1,qae,qab,qad,qac,qaa]) (qaq _ _)
      · intro st hJ
        obtain ⟨H,rfl,h0,hk,h1⟩:=hJ.of_s (by decide)
        apply qaO
        simp (disch:=first|omega|decide|simp only[nmsB,lB]) only[simprocAttr,-rR,-rS,leB,memB,arrB,numB,qaf,L62b1,h0,h1,qae,qab,qad,qac,qaa]
        rfl
      · intro st hJ hr
        obtain ⟨H,rfl,h0,hk,h1⟩:=hJ.of_s (by decide)
        subst hr
        simp (disch:=first|omega|decide|simp only[nmsB,lB]) only[simprocAttr,-rR,-rS,leB,memB,arrB,numB,qaf,ordB,qan,L62b1,h0,hk,h1,qae,qab,qad,qac,qaa,qas,qag]
        rw[List.take_of_length_le (by rw[hlen]; decide)] at hk
        rw[qaX 0 _ _ [(1,0),(1,1)] (by simp only[simprocAttr,-rR,-rS,qak,qaW,qam,qdx,nms7_ptr,qd0,h0,hk,h1,qah,qac,qaa])]
        simp (disch:=first|omega|decide|simp only[nmsB,lB]) only[simprocAttr,-rR,-rS,leB,memB,qaf,qaV,qaq,h0,hk,qb0,qae,qab,qad,qac,qaa]
        rfl
theorem new_8 (k:Nat) (key:List (BitVec 8)) (hk:key.length=32):F C (k+400) 62 [.isl (bs key) key.length] []=some (.tup [.ptr (1,0) 0,N 0],[],[CF (.sl (1,1) 0 (8+7) none 16) TB,bs (W 8 key)]):=by
  rw[qaH f62]
  simp (disch:=first|omega|decide|simp only[nmsB,lB]) only[simprocAttr,-rR,-rS,leB,memB,arrB,numB,qaf,ordB,L62,hk,qab,qad,qac,qaa,qas]
  rw[c_tables (k+98) _ _ (13,0) rfl]
  simp (disch:=first|omega|decide|simp only[nmsB,lB]) only[simprocAttr,-rR,-rS,leB,memB,arrB,numB,qaf,ordB,qan,qai,L62,hk,mk4,qab,qad,qac,qaa,qas,qag]
  generalize hL:qa1 L62k3 _ _ _=r
  refine qaR hL (w3J 8 60 key) 8 (by omega) (fun i st hi hJ=>k3_round _ 8 60 (by decide) (by decide) key hk i hi st hJ) ?_ ?_ ?_
  · refine qao [(13, 0), (20, 0)] rfl (by simp only [simprocAttr, -rR, -rS, qak, L62k3, qaN, qaW, qbD, qam, qbg, qah, qac, qaa]) (by simp only [simprocAttr, -rR, -rS, qak, L62k3, zB, zA, qbj, qah, qac, qaa] <;> rfl) ⟨_, rfl, ?_, ?_⟩
    · exact qaj (13,0) rfl (by simp (disch:=first|omega|decide|simp only[nmsB,lB]) only[simprocAttr,-rR,-rS,leB,memB,qaf,qae,qab,qad,qac,qaa]) (by rw[qaV,qbS])
    · exact qaj (20,0) rfl (by simp (disch:=first|omega|decide|simp only[nmsB,lB]) only[simprocAttr,-rR,-rS,leB,memB,qaf,qae,qab,qad,qac,qaa] <;> rfl) (qaq _ _)
  · rintro st ⟨H, rfl, h0, h1⟩
    apply qaO
    simp (disch:=first|omega|decide|simp only[nmsB,lB]) only[simprocAttr,-rR,-rS,leB,memB,arrB,numB,qaf,L62b3,h0,h1,qae,qab,qad,qac,qaa]
    rfl
  · rintro st ⟨H, rfl, h0, h1⟩ rfl
    simp (disch:=first|omega|decide|simp only[nmsB,lB]) only[simprocAttr,-rR,-rS,leB,memB,arrB,numB,qaf,ordB,qan,L62b3,h0,h1,qae,qab,qad,qac,qaa,qas,qag]
    generalize hL:qa1 L62k2 _ _ _=r
    refine qaR hL (w2J 8 60 key) 52 (by omega) (fun i st hi hJ=>k2_round _ 8 60 (.inr rfl) (by decide) (by decide) key hk i hi st hJ) ?_ ?_ ?_
    · refine qao [(1, 0), (1, 1)] rfl (by simp only [simprocAttr, -rR, -rS, qak, L62k2, qaN, qaW, qbD, qam, qbg, h0, h1, qah, qac, qaa]) rfl ⟨_, Un, Un, Un, Un, ⟨rfl, fun _ => rfl⟩, rfl, ?_, ?_⟩
      · exact qaj (1,0) rfl (by simp (disch:=first|omega|decide|simp only[nmsB,lB]) only[simprocAttr,-rR,-rS,leB,memB,qaf,h0,qae,qab,qad,qac,qaa]) (by rw[qaV,qbS])
      · exact qaj (1,1) rfl (by simp (disch:=first|omega|decide|simp only[nmsB,lB]) only[simprocAttr,-rR,-rS,leB,memB,qaf,h1,qae,qab,qad,qac,qaa]; rw[KS,List.take_of_length_le (by omega)]) (qaq _ _)
    · rintro st ⟨H, a, b, d, e, hp, rfl, h0, h1⟩
      apply qaO
      simp (disch:=first|omega|decide|simp only[nmsB,lB]) only[simprocAttr,-rR,-rS,leB,memB,arrB,numB,qaf,L62b2,h0,h1,qae,qab,qad,qac,qaa]
      rfl
    · rintro st ⟨H, a, b, d, e, hp, rfl, h0, h1⟩ rfl
      simp (disch:=first|omega|decide|simp only[nmsB,lB]) only[simprocAttr,-rR,-rS,leB,memB,arrB,numB,qaf,ordB,qan,L62b2,h0,h1,qae,qab,qad,qac,qaa,qas,qag]
      clear hL
      generalize hL:qa1 L62k1 _ _ _=r
      have hlen:(KS 8 key 52).1.length=16*(8+7):=qee 8 key hk 52
      refine qaR hL (w1J 8 60 (KS 8 key 52).1) 15 (by omega) (fun i st hi hJ=>k1_round (k+394) 8 60 i (by decide) hi _ hlen (by decide) (by decide) st hJ) ?_ ?_ ?_
      · refine qao [(1, 0), (1, 1)] rfl (by simp only [simprocAttr, -rR, -rS, qak, L62k1, qaN, qaW, qbD, qam, qbg, h0, h1, qah, qac, qaa]) rfl ⟨_, .inl ⟨rfl, rfl, ?_, ?_⟩⟩
        · exact qaj (1,0) rfl (by simp (disch:=first|omega|decide|simp only[nmsB,lB]) only[simprocAttr,-rR,-rS,leB,memB,qaf,h0,qae,qab,qad,qac,qaa]) (by rw[qaV,qbS])
        · exact qaj (1,1) rfl (by simp (disch:=first|omega|decide|simp only[nmsB,lB]) only[simprocAttr,-rR,-rS,leB,memB,qaf,h1,qae,qab,qad,qac,qaa]) (qaq _ _)
      · intro st hJ
        obtain ⟨H,rfl,h0,hk,h1⟩:=hJ.of_s (by decide)
        apply qaO
        simp (disch:=first|omega|decide|simp only[nmsB,lB]) only[simprocAttr,-rR,-rS,leB,memB,arrB,numB,qaf,L62b1,h0,h1,qae,qab,qad,qac,qaa]
        rfl
      · intro st hJ hr
        obtain ⟨H,rfl,h0,hk,h1⟩:=hJ.of_s (by decide)
        subst hr
        simp (disch:=first|omega|decide|simp only[nmsB,lB]) only[simprocAttr,-rR,-rS,leB,memB,arrB,numB,qaf,ordB,qan,L62b1,h0,hk,h1,qae,qab,qad,qac,qaa,qas,qag]
        rw[List.take_of_length_le (by rw[hlen]; decide)] at hk
        rw[qaX 0 _ _ [(1,0),(1,1)] (by simp only[simprocAttr,-rR,-rS,qak,qaW,qam,qdx,nms7_ptr,qd0,h0,hk,h1,qah,qac,qaa])]
        simp (disch:=first|omega|decide|simp only[nmsB,lB]) only[simprocAttr,-rR,-rS,leB,memB,qaf,qaV,qaq,h0,hk,qb0,qae,qab,qad,qac,qaa]
        rfl
theorem new_F (k n:Nat) (hn:n=4∨n=8) (key:List (BitVec 8)) (hk:key.length=4*n):F C (k+400) 62 [.isl (bs key) key.length] []=some (.tup [.ptr (1,0) 0,N 0],[],[CF (.sl (1,1) 0 (n+7) none 16) TB,bs (W n key)]):=by
  rcases hn with rfl | rfl
  · exact new_4 k key hk
  · exact new_8 k key hk
end Aes
