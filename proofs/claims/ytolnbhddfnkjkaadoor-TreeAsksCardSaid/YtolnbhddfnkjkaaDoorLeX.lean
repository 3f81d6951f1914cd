/- tree.Build, evaluated. -/
import Derived.Test.YtolnbhddfnkjkaaDoorLeW
import Derived.Test.YtolnbhddfnkjkaaDoorLeV
set_option linter.unusedVariables false
set_option linter.unusedSimpArgs false
namespace Sha
open Go Go.LE
def dgs (lv:Nat) (l:List (BitVec 8)):Nat→List (BitVec 8)
  | 0=>[]
  | i+1=>dgs lv l i++dl (nodeB lv (Ab.nd l i))
theorem dgs_length (lv:Nat) (l:List (BitVec 8)) (i:Nat):(dgs lv l i).length=32*i:=by
  induction i with
  | zero=>rfl
  | succ i ih=>simp only[dgs,zzI,ih,dl_length]; omega
theorem nd_cell (l:List (BitVec 8)) (m i:Nat) (hi:i < m):cellK i 1 (some (Ab.ndC l m))=some [.isl (bs (Ab.nd l i)) 512]:=by
  rw[cellK_some,if_pos (by rw[Ab.ndC_length]; omega)]
  simp only[Ab.ndC,←List.map_drop]
  rw[List.drop_eq_getElem_cons (by simpa using hi)]
  simp
theorem fill32 (x:List (BitVec 8)):fill (aB 32 fun _=>0#8) [(0,32,.agg (bs (dl x)))]=some (bs (dl x)):=by
  simp only[fill,qaX]
  rw[if_pos ⟨by rw[qag,dl_length],by simp[aB,arr]⟩]
  simp only[qb2,zzB,zP]
  rw[List.drop_of_length_le (by simp[aB,arr,qag,dl_length]),zR]
theorem front32d (x:List (BitVec 8)):frontK 0 32 1 (some (bs (dl x)))=some (bs (dl x)):=by
  simp only[frontK,qag,dl_length]
  rw[if_pos (by omega),z8,List.take_of_length_le (by rw[qag,dl_length]; omega)]
theorem app32_row (b:Nat) (H:Heap) (r:Nm) (k:Nat) (x y:List (BitVec 8)) (h:H r=some (bs x)) (hx:x.length=32*k) (hk:k≤1000) :
    appX b 32 32 1 H [] (bs y) (.sl r 0 k none 32)=some ⟨.sl (b,0) 0 (k+1) none 32,[bs (x++y)],[(r,none)]⟩:=by
  rw[appX,if_pos ⟨rfl,by omega,rfl⟩,h]
  simp only
  rw[if_pos (by rw[qag]; omega),z8,List.take_of_length_le (by rw[qag]; omega),bs_append]
def bZA0 (l:List (BitVec 8)) (n:Nat) (lv:Nat) (l2:List (BitVec 8)) (m Lc:Nat) (st:St):Prop :=
  ∃ (H:Heap),st=⟨[.isl (bs l) n,.undef,.undef,.ptr (1,0) 0,.undef,Nil,Nil,N lv,.sl (1,1) 0 m none 1,.undef,.undef,.undef,.undef,.undef,.undef,.undef,.undef,.undef,.undef,.undef,.undef,N Lc,N lv,.undef,.undef,.undef,.undef,.sl (1,1) 0 m none 1,N m,N 0,.undef,.undef,.undef,.undef,.undef,.undef,.undef,.undef,.undef,.undef,.undef,.undef,.undef,.undef,.undef,.undef,.undef,.undef,.undef,.undef,.undef,.undef,.undef,.undef,.undef,.undef,.undef,.undef,.undef],H,2,0⟩∧H (1,0)=some (aB 32 fun _=>0#8)∧H (1,1)=some (Ab.ndC l2 m)
def bPA0 (l:List (BitVec 8)) (n:Nat) (lv:Nat) (l2:List (BitVec 8)) (m Lc:Nat) (i:Nat) (st:St):Prop :=
  ∃ (H:Heap),st=⟨[.isl (bs l) n,.undef,.undef,.ptr (1,0) 0,.undef,Nil,.sl (1,1) 0 i none 32,N lv,.sl (1,2) 0 m none 1,.undef,.undef,.undef,.undef,.undef,.undef,.undef,.undef,.undef,.undef,.undef,.undef,N Lc,N lv,.undef,.undef,.undef,.undef,.sl (1,2) 0 m none 1,N m,N i,.undef,.undef,.undef,.undef,.undef,.undef,.undef,.undef,.undef,.undef,.undef,.undef,.undef,.undef,.undef,.undef,.undef,.undef,.undef,.undef,.undef,.undef,.undef,.undef,.undef,.undef,.undef,.undef,.undef],H,2,0⟩∧H (1,0)=some (aB 32 fun _=>0#8)∧H (1,1)=some (bs (dgs lv l2 i))∧H (1,2)=some (Ab.ndC l2 m)
def bIA0 (l:List (BitVec 8)) (n:Nat) (lv:Nat) (l2:List (BitVec 8)) (m Lc:Nat) (i:Nat) (st:St):Prop:=(i=0∧bZA0 l n lv l2 m Lc st)∨(0 < i∧bPA0 l n lv l2 m Lc i st)
set_option maxRecDepth 20000 in
theorem bI_roundA0 (K k0:Nat) (hk0:400≤k0) (l:List (BitVec 8)) (n:Nat) (lv:Nat) (l2:List (BitVec 8)) (m Lc:Nat) (hl2:∀ i,i < m→(Ab.nd l2 i).length=512) (hm:m≤1000) (hLc:Lc≤1000) (hlv:lv≤1000) (i:Nat) (hi:i < m) (st:St) (hI:bIA0 l n lv l2 m Lc i st) :
    ∃ st1,ev (envC C k0) K L10b0 st=some (.normal,st1)∧bIA0 l n lv l2 m Lc (i+1) (qby L10k0 st1):=by
  have hli:=hl2 i hi
  have hnc:=fun (b':Nat) (H:Heap)=>qdj k0 b' 15 (.inl rfl) H lv (.isl (bs (Ab.nd l2 i)) 512) (Ab.nd l2 i) (by have:=lent_isl H (Ab.nd l2 i) []; rwa [hli] at this) (by omega) (by omega)
  rcases hI with ⟨rfl,hI⟩ | ⟨hi0,hI⟩
  · obtain ⟨H, rfl, h0, hn⟩ := hI
    have hcell:=nd_cell l2 m 0 hi
    apply Exists.intro
    apply And.intro
    · simp (disch := first | omega | decide | simp only [qai, qag, qak, qaj, qah, qae, qac, qad, qan]) only [qba, qau, qa3, qao, qap, qam, qaf, qaq, qaz, qaI, qar, qaF, qaB, qa1, qaT, qaa, qa4, qaw, qaY, zK, zL, zN, zO, zG, zF, zJ, zM, Nat.reduceAdd, qab, qaQ, qbe, qbx, zC, zB, zE, zT, qbH, zZ, zE, zB, qbY, qa2, qbO, Nat.reduceAdd, zT, qbB, qb8, qb9, qcb, appX_nil, qb7, qbG, qbK, qbw, qax, qaM, qay, zZ, qcI, qal, L10b0, hi, qbG, hcell, hnc, fill32, aB_dl, front32d, hn, qal]
      rfl
    · refine .inr ⟨by omega, qaU [(1, 0), (11, 0), (1, 1)] rfl (by simp only [qaA, FUEL, qaH, qaD, qaE, qaP, qaK, qaL, zS, zW, zP, zV, zR, zk, zF, zY, za, zD, zt, zo, ze, Nat.reduceEqDiff, zH, zU, zp, zzF, zC, zA, zd, zm, zg, zl, ne_eq, zq, qab, qaJ, qaC, qav, qaO, qbu, L10k0, h0, hn, Ab.ndC_nms, qbS, qbh, qbd, qaK, qbu, qaO]) ?_ ⟨_, rfl, ?_, ?_, ?_⟩⟩
      · simp only [L10k0, zG, zF, zB, qda, qa8, qbT, qbk, qaC, qav, qaJ, qa9, qa8]
        rfl
      · exact qas (1,0) rfl (by simp only[qab,zD,Nat.reduceEqDiff,zH,zA,h0]) (qbj _ _ _)
      · exact qas (11,0) rfl (by simp only[qab,zD,Nat.reduceEqDiff,zH,zC,zA,zB]; rfl) (qaW _ _)
      · exact qas (1,1) rfl (by simp only[qab,zD,Nat.reduceEqDiff,zX,zA,zd,hn]) (Ab.ndC_ren _ _ _)
  · obtain ⟨H, rfl, h0, hb, hn⟩ := hI
    have happ:=fun (H2:Heap) (h2:H2 (1,1)=some (bs (dgs lv l2 i)))=>app32_row 11 H2 (1,1) i (dgs lv l2 i) (dl (nodeB lv (Ab.nd l2 i))) h2 (dgs_length _ _ _) (by omega)
    have happ:=fun (x:Option qaR)=>happ (upd H (10,0) x) (by simp only[qab,zD,Nat.reduceEqDiff,zX,zA,zd,hb])
    have hcell:=nd_cell l2 m i hi
    apply Exists.intro
    apply And.intro
    · simp (disch := first | omega | decide | simp only [qai, qag, qak, qaj, qah, qae, qac, qad, qan]) only [qba, qau, qa3, qao, qap, qam, qaf, qaq, qaz, qaI, qar, qaF, qaB, qa1, qaT, qaa, qa4, qaw, qaY, zK, zL, zN, zO, zG, zF, zJ, zM, Nat.reduceAdd, qab, qaQ, qbe, qbx, zC, zB, zE, zT, qbH, zZ, zE, zB, qbY, qa2, qbO, Nat.reduceAdd, zT, qbB, qb8, qb9, qcb, qb7, qbG, qbK, qbw, qax, qaM, qay, qa0, zZ, qcI, qal, L10b0, hi, qbG, hcell, hnc, fill32, aB_dl, front32d, happ, hn, qal]
      rfl
    · refine .inr ⟨by omega, qaU [(1, 0), (11, 0), (1, 2)] rfl (by simp only [qaA, FUEL, qaH, qaD, qaE, qaP, qaK, qaL, zS, zW, zP, zV, zR, zk, zF, zY, za, zD, zt, zo, ze, Nat.reduceEqDiff, zH, zU, zp, zzF, zC, zA, zd, zi, zm, zg, zl, ne_eq, zq, qab, qaJ, qaC, qav, qaO, qbu, L10k0, h0, hn, Ab.ndC_nms, qbS, qbh, qbd, qaK, qbu, qaO]) ?_ ⟨_, rfl, ?_, ?_, ?_⟩⟩
      · simp only [L10k0, zG, zF, qda, qa8, qbT, qbk, qaC, qav, qaJ, qa9, qa8]
        rfl
      · exact qas (1,0) rfl (by simp only[qab,zD,Nat.reduceEqDiff,zH,zU,zA,zi,h0]) (qbj _ _ _)
      · exact qas (11,0) rfl (by simp only[qab,zD,Nat.reduceEqDiff,zH,zX,zC,zA,zi]; rfl) (qaW _ _)
      · exact qas (1,2) rfl (by simp only[qab,zD,Nat.reduceEqDiff,zU,zX,zA,hn]) (Ab.ndC_ren _ _ _)
def bZA1 (l:List (BitVec 8)) (n:Nat) (ro:qaR) (lv:Nat) (l2:List (BitVec 8)) (m Lc:Nat) (st:St):Prop :=
  ∃ (H:Heap),st=⟨[.isl (bs l) n,.undef,.undef,.ptr (1,0) 0,.undef,.sl (1,1) 0 lv none 1,Nil,N lv,.sl (1,2) 0 m none 1,.undef,.undef,.undef,.undef,.undef,.undef,.undef,.undef,.undef,.undef,.undef,.undef,N Lc,N lv,.undef,.undef,.undef,.undef,.sl (1,2) 0 m none 1,N m,N 0,.undef,.undef,.undef,.undef,.undef,.undef,.undef,.undef,.undef,.undef,.undef,.undef,.undef,.undef,.undef,.undef,.undef,.undef,.undef,.undef,.undef,.undef,.undef,.undef,.undef,.undef,.undef,.undef,.undef],H,2,0⟩∧H (1,0)=some (aB 32 fun _=>0#8)∧H (1,2)=some (Ab.ndC l2 m)∧H (1,1)=some ro
def bPA1 (l:List (BitVec 8)) (n:Nat) (ro:qaR) (lv:Nat) (l2:List (BitVec 8)) (m Lc:Nat) (i:Nat) (st:St):Prop :=
  ∃ (H:Heap),st=⟨[.isl (bs l) n,.undef,.undef,.ptr (1,0) 0,.undef,.sl (1,1) 0 lv none 1,.sl (1,2) 0 i none 32,N lv,.sl (1,3) 0 m none 1,.undef,.undef,.undef,.undef,.undef,.undef,.undef,.undef,.undef,.undef,.undef,.undef,N Lc,N lv,.undef,.undef,.undef,.undef,.sl (1,3) 0 m none 1,N m,N i,.undef,.undef,.undef,.undef,.undef,.undef,.undef,.undef,.undef,.undef,.undef,.undef,.undef,.undef,.undef,.undef,.undef,.undef,.undef,.undef,.undef,.undef,.undef,.undef,.undef,.undef,.undef,.undef,.undef],H,2,0⟩∧H (1,0)=some (aB 32 fun _=>0#8)∧H (1,2)=some (bs (dgs lv l2 i))∧H (1,3)=some (Ab.ndC l2 m)∧H (1,1)=some ro
def bIA1 (l:List (BitVec 8)) (n:Nat) (ro:qaR) (lv:Nat) (l2:List (BitVec 8)) (m Lc:Nat) (i:Nat) (st:St):Prop:=(i=0∧bZA1 l n ro lv l2 m Lc st)∨(0 < i∧bPA1 l n ro lv l2 m Lc i st)
set_option maxRecDepth 20000 in
theorem bI_roundA1 (K k0:Nat) (hk0:400≤k0) (l:List (BitVec 8)) (n:Nat) (ro:qaR) (lv:Nat) (l2:List (BitVec 8)) (m Lc:Nat) (hl2:∀ i,i < m→(Ab.nd l2 i).length=512) (hm:m≤1000) (hLc:Lc≤1000) (hlv:lv≤1000) (hrn:ro.flatMap (nms D)=[]) (hrr:∀ π,ro.map (ren D π)=ro) (i:Nat) (hi:i < m) (st:St) (hI:bIA1 l n ro lv l2 m Lc i st) :
    ∃ st1,ev (envC C k0) K L10b0 st=some (.normal,st1)∧bIA1 l n ro lv l2 m Lc (i+1) (qby L10k0 st1):=by
  have hli:=hl2 i hi
  have hnc:=fun (b':Nat) (H:Heap)=>qdj k0 b' 15 (.inl rfl) H lv (.isl (bs (Ab.nd l2 i)) 512) (Ab.nd l2 i) (by have:=lent_isl H (Ab.nd l2 i) []; rwa [hli] at this) (by omega) (by omega)
  rcases hI with ⟨rfl,hI⟩ | ⟨hi0,hI⟩
  · obtain ⟨H, rfl, h0, hn, h1⟩ := hI
    have hcell:=nd_cell l2 m 0 hi
    apply Exists.intro
    apply And.intro
    · simp (disch := first | omega | decide | simp only [qai, qag, qak, qaj, qah, qae, qac, qad, qan]) only [qba, qau, qa3, qao, qap, qam, qaf, qaq, qaz, qaI, qar, qaF, qaB, qa1, qaT, qaa, qa4, qaw, qaY, zK, zL, zN, zO, zG, zF, zJ, zM, Nat.reduceAdd, qab, qaQ, qbe, qbx, zC, zB, zE, zT, qbH, zZ, zE, zB, qbY, qa2, qbO, Nat.reduceAdd, zT, qbB, qb8, qb9, qcb, appX_nil, qb7, qbG, qbK, qbw, qax, qaM, qay, zZ, qcI, qal, L10b0, hi, qbG, hcell, hnc, fill32, aB_dl, front32d, hn, qal]
      rfl
    · refine .inr ⟨by omega, qaU [(1, 0), (1, 1), (11, 0), (1, 2)] rfl (by simp only [qaA, FUEL, qaH, qaD, qaE, qaP, qaK, qaL, zS, zW, zP, zV, zR, zk, zF, zY, za, zD, zt, zo, ze, Nat.reduceEqDiff, zH, zU, zp, zzF, zC, zA, zd, zi, zm, zg, zl, ne_eq, zq, qab, qaJ, qaC, qav, qaO, L10k0, h0, hn, h1, Ab.ndC_nms, qbS, qbh, qbd, qaK, qaO, hrn]) ?_ ⟨_, rfl, ?_, ?_, ?_, ?_⟩⟩
      · simp only [L10k0, zG, zF, zB, qa8, qbT, qbk, qaC, qav, qaJ, qa9, qa8]
        rfl
      · exact qas (1,0) rfl (by simp only[qab,zD,Nat.reduceEqDiff,zH,zA,h0]) (qbj _ _ _)
      · exact qas (11,0) rfl (by simp only[qab,zD,Nat.reduceEqDiff,zH,zC,zA,zB]; rfl) (qaW _ _)
      · exact qas (1,2) rfl (by simp only[qab,zD,Nat.reduceEqDiff,zX,zA,hn]) (Ab.ndC_ren _ _ _)
      · exact qas (1,1) rfl (by simp only[qab,zD,Nat.reduceEqDiff,zX,zA,zd,h1]) (hrr _)
  · obtain ⟨H, rfl, h0, hb, hn, h1⟩ := hI
    have happ:=fun (H2:Heap) (h2:H2 (1,2)=some (bs (dgs lv l2 i)))=>app32_row 11 H2 (1,2) i (dgs lv l2 i) (dl (nodeB lv (Ab.nd l2 i))) h2 (dgs_length _ _ _) (by omega)
    have happ:=fun (x:Option qaR)=>happ (upd H (10,0) x) (by simp only[qab,zD,Nat.reduceEqDiff,zX,zA,hb])
    have hcell:=nd_cell l2 m i hi
    apply Exists.intro
    apply And.intro
    · simp (disch := first | omega | decide | simp only [qai, qag, qak, qaj, qah, qae, qac, qad, qan]) only [qba, qau, qa3, qao, qap, qam, qaf, qaq, qaz, qaI, qar, qaF, qaB, qa1, qaT, qaa, qa4, qaw, qaY, zK, zL, zN, zO, zG, zF, zJ, zM, Nat.reduceAdd, qab, qaQ, qbe, qbx, zC, zB, zE, zT, qbH, zZ, zE, zB, qbY, qa2, qbO, Nat.reduceAdd, zT, qbB, qb8, qb9, qcb, qb7, qbG, qbK, qbw, qax, qaM, qay, qa0, zZ, qcI, qal, L10b0, hi, qbG, hcell, hnc, fill32, aB_dl, front32d, happ, hn, qal]
      rfl
    · refine .inr ⟨by omega, qaU [(1, 0), (1, 1), (11, 0), (1, 3)] rfl (by simp only [qaA, FUEL, qaH, qaD, qaE, qaP, qaK, qaL, zS, zW, zP, zV, zR, zk, zF, zY, za, zD, zt, zo, ze, Nat.reduceEqDiff, zH, zU, zp, zzF, zC, zA, zd, zi, zm, zg, zl, ne_eq, zq, qab, qaJ, qaC, qav, qaO, L10k0, h0, hn, h1, Ab.ndC_nms, qbS, qbh, qbd, qaK, qaO, hrn]) ?_ ⟨_, rfl, ?_, ?_, ?_, ?_⟩⟩
      · simp only [L10k0, zG, zF, qa8, qbT, qbk, qaC, qav, qaJ, qa9, qa8]
        rfl
      · exact qas (1,0) rfl (by simp only[qab,zD,Nat.reduceEqDiff,zH,zU,zA,h0]) (qbj _ _ _)
      · exact qas (11,0) rfl (by simp only[qab,zD,Nat.reduceEqDiff,zH,zX,zC,zA]; rfl) (qaW _ _)
      · exact qas (1,3) rfl (by simp only[qab,zD,Nat.reduceEqDiff,zU,zX,zA,hn]) (Ab.ndC_ren _ _ _)
      · exact qas (1,1) rfl (by simp only[qab,zD,Nat.reduceEqDiff,zU,zX,zA,zd,h1]) (hrr _)
def bZB0 (l:List (BitVec 8)) (n:Nat) (cap:Option Nat) (lv:Nat) (l2:List (BitVec 8)) (m Lc:Nat) (st:St):Prop :=
  ∃ (H:Heap),st=⟨[.sl (0,0) 0 n cap 32,.undef,.undef,.ptr (1,0) 0,.undef,Nil,Nil,N lv,.sl (1,1) 0 m none 1,.undef,.undef,.undef,.undef,.undef,.undef,.undef,.undef,.undef,.undef,.undef,.undef,N Lc,N lv,.undef,.undef,.undef,.undef,.sl (1,1) 0 m none 1,N m,N 0,.undef,.undef,.undef,.undef,.undef,.undef,.undef,.undef,.undef,.undef,.undef,.undef,.undef,.undef,.undef,.undef,.undef,.undef,.undef,.undef,.undef,.undef,.undef,.undef,.undef,.undef,.undef,.undef,.undef],H,2,1⟩∧H (1,0)=some (aB 32 fun _=>0#8)∧H (1,1)=some (Ab.ndC l2 m)∧H (0,0)=some (bs l)
def bPB0 (l:List (BitVec 8)) (n:Nat) (cap:Option Nat) (lv:Nat) (l2:List (BitVec 8)) (m Lc:Nat) (i:Nat) (st:St):Prop :=
  ∃ (H:Heap),st=⟨[.sl (0,0) 0 n cap 32,.undef,.undef,.ptr (1,0) 0,.undef,Nil,.sl (1,1) 0 i none 32,N lv,.sl (1,2) 0 m none 1,.undef,.undef,.undef,.undef,.undef,.undef,.undef,.undef,.undef,.undef,.undef,.undef,N Lc,N lv,.undef,.undef,.undef,.undef,.sl (1,2) 0 m none 1,N m,N i,.undef,.undef,.undef,.undef,.undef,.undef,.undef,.undef,.undef,.undef,.undef,.undef,.undef,.undef,.undef,.undef,.undef,.undef,.undef,.undef,.undef,.undef,.undef,.undef,.undef,.undef,.undef,.undef,.undef],H,2,1⟩∧H (1,0)=some (aB 32 fun _=>0#8)∧H (1,1)=some (bs (dgs lv l2 i))∧H (1,2)=some (Ab.ndC l2 m)∧H (0,0)=some (bs l)
def bIB0 (l:List (BitVec 8)) (n:Nat) (cap:Option Nat) (lv:Nat) (l2:List (BitVec 8)) (m Lc:Nat) (i:Nat) (st:St):Prop:=(i=0∧bZB0 l n cap lv l2 m Lc st)∨(0 < i∧bPB0 l n cap lv l2 m Lc i st)
set_option maxRecDepth 20000 in
theorem bI_roundB0 (K k0:Nat) (hk0:400≤k0) (l:List (BitVec 8)) (n:Nat) (cap:Option Nat) (lv:Nat) (l2:List (BitVec 8)) (m Lc:Nat) (hl2:∀ i,i < m→(Ab.nd l2 i).length=512) (hm:m≤1000) (hLc:Lc≤1000) (hlv:lv≤1000) (i:Nat) (hi:i < m) (st:St) (hI:bIB0 l n cap lv l2 m Lc i st) :
    ∃ st1,ev (envC C k0) K L10b0 st=some (.normal,st1)∧bIB0 l n cap lv l2 m Lc (i+1) (qby L10k0 st1):=by
  have hli:=hl2 i hi
  have hnc:=fun (b':Nat) (H:Heap)=>qdj k0 b' 15 (.inl rfl) H lv (.isl (bs (Ab.nd l2 i)) 512) (Ab.nd l2 i) (by have:=lent_isl H (Ab.nd l2 i) []; rwa [hli] at this) (by omega) (by omega)
  rcases hI with ⟨rfl,hI⟩ | ⟨hi0,hI⟩
  · obtain ⟨H, rfl, h0, hn, h00⟩ := hI
    have hcell:=nd_cell l2 m 0 hi
    apply Exists.intro
    apply And.intro
    · simp (disch := first | omega | decide | simp only [qai, qag, qak, qaj, qah, qae, qac, qad, qan]) only [qba, qau, qa3, qao, qap, qam, qaf, qaq, qaz, qaI, qar, qaF, qaB, qa1, qaT, qaa, qa4, qaw, qaY, zK, zL, zN, zO, zG, zF, zJ, zM, Nat.reduceAdd, qab, qaQ, qbe, qbx, zC, zB, zE, zT, qbH, zZ, zE, zB, qbY, qa2, qbO, Nat.reduceAdd, zT, qbB, qb8, qb9, qcb, appX_nil, qb7, qbG, qbK, qbw, qax, qaM, qay, zZ, qcI, qal, L10b0, hi, qbG, hcell, hnc, fill32, aB_dl, front32d, hn, qal]
      rfl
    · refine .inr ⟨by omega, qaU [(1, 0), (11, 0), (1, 1)] rfl (by simp only [qaA, FUEL, qaH, qaD, qaE, qaP, qaK, qaL, zS, zW, zP, zV, zR, zF, zG, zY, za, zD, zt, zo, ze, Nat.reduceEqDiff, zH, zU, zp, zzF, zC, zA, zd, zm, zg, zl, ne_eq, zq, z9, qab, qaJ, qaC, qav, qce, qaO, qbu, L10k0, h0, hn, h00, Ab.ndC_nms, qbS, qbh, qaK, qbu, qaO]) ?_ ⟨_, rfl, ?_, ?_, ?_, ?_⟩⟩
      · simp only [L10k0, zG, zF, zB, qda, qcM, qbT, qbk, qbX, qaC, qav, qaJ, qa9]
        rfl
      · exact qas (1,0) rfl (by simp only[qab,zD,Nat.reduceEqDiff,zH,zA,h0]) (qbj _ _ _)
      · exact qas (11,0) rfl (by simp only[qab,zD,Nat.reduceEqDiff,zH,zC,zA,zB]; rfl) (qaW _ _)
      · exact qas (1,1) rfl (by simp only[qab,zD,Nat.reduceEqDiff,zX,zA,zd,hn]) (Ab.ndC_ren _ _ _)
      · rw [qcm]
        simp (disch:=first|omega|decide|simp only[qai,qag,qak,qaj,qah,qae,qac,qad,qan]) only[zI,qab,zD,Nat.reduceEqDiff,zH,zA,zI,qaW,h00,qaW]
  · obtain ⟨H, rfl, h0, hb, hn, h00⟩ := hI
    have happ:=fun (H2:Heap) (h2:H2 (1,1)=some (bs (dgs lv l2 i)))=>app32_row 11 H2 (1,1) i (dgs lv l2 i) (dl (nodeB lv (Ab.nd l2 i))) h2 (dgs_length _ _ _) (by omega)
    have happ:=fun (x:Option qaR)=>happ (upd H (10,0) x) (by simp only[qab,zD,Nat.reduceEqDiff,zX,zA,zd,hb])
    have hcell:=nd_cell l2 m i hi
    apply Exists.intro
    apply And.intro
    · simp (disch := first | omega | decide | simp only [qai, qag, qak, qaj, qah, qae, qac, qad, qan]) only [qba, qau, qa3, qao, qap, qam, qaf, qaq, qaz, qaI, qar, qaF, qaB, qa1, qaT, qaa, qa4, qaw, qaY, zK, zL, zN, zO, zG, zF, zJ, zM, Nat.reduceAdd, qab, qaQ, qbe, qbx, zC, zB, zE, zT, qbH, zZ, zE, zB, qbY, qa2, qbO, Nat.reduceAdd, zT, qbB, qb8, qb9, qcb, qb7, qbG, qbK, qbw, qax, qaM, qay, qa0, zZ, qcI, qal, L10b0, hi, qbG, hcell, hnc, fill32, aB_dl, front32d, happ, hn, qal]
      rfl
    · refine .inr ⟨by omega, qaU [(1, 0), (11, 0), (1, 2)] rfl (by simp only [qaA, FUEL, qaH, qaD, qaE, qaP, qaK, qaL, zS, zW, zP, zV, zR, zF, zG, zY, za, zD, zt, zo, ze, Nat.reduceEqDiff, zH, zU, zp, zzF, zC, zA, zd, zi, zm, zg, zl, ne_eq, zq, z9, qab, qaJ, qaC, qav, qce, qaO, qbu, L10k0, h0, hn, h00, Ab.ndC_nms, qbS, qbh, qaK, qbu, qaO]) ?_ ⟨_, rfl, ?_, ?_, ?_, ?_⟩⟩
      · simp only [L10k0, zG, zF, qda, qcM, qbT, qbk, qbX, qaC, qav, qaJ, qa9]
        rfl
      · exact qas (1,0) rfl (by simp only[qab,zD,Nat.reduceEqDiff,zH,zU,zA,zi,h0]) (qbj _ _ _)
      · exact qas (11,0) rfl (by simp only[qab,zD,Nat.reduceEqDiff,zH,zX,zC,zA,zi]; rfl) (qaW _ _)
      · exact qas (1,2) rfl (by simp only[qab,zD,Nat.reduceEqDiff,zU,zX,zA,hn]) (Ab.ndC_ren _ _ _)
      · rw [qcm]
        simp (disch:=first|omega|decide|simp only[qai,qag,qak,qaj,qah,qae,qac,qad,qan]) only[zI,qab,zD,Nat.reduceEqDiff,zH,zX,zA,zi,zI,qaW,h00,qaW]
def bZB1 (l:List (BitVec 8)) (n:Nat) (cap:Option Nat) (ro:qaR) (lv:Nat) (l2:List (BitVec 8)) (m Lc:Nat) (st:St):Prop :=
  ∃ (H:Heap),st=⟨[.sl (0,0) 0 n cap 32,.undef,.undef,.ptr (1,0) 0,.undef,.sl (1,1) 0 lv none 1,Nil,N lv,.sl (1,2) 0 m none 1,.undef,.undef,.undef,.undef,.undef,.undef,.undef,.undef,.undef,.undef,.undef,.undef,N Lc,N lv,.undef,.undef,.undef,.undef,.sl (1,2) 0 m none 1,N m,N 0,.undef,.undef,.undef,.undef,.undef,.undef,.undef,.undef,.undef,.undef,.undef,.undef,.undef,.undef,.undef,.undef,.undef,.undef,.undef,.undef,.undef,.undef,.undef,.undef,.undef,.undef,.undef,.undef,.undef],H,2,1⟩∧H (1,0)=some (aB 32 fun _=>0#8)∧H (1,2)=some (Ab.ndC l2 m)∧H (1,1)=some ro∧H (0,0)=some (bs l)
def bPB1 (l:List (BitVec 8)) (n:Nat) (cap:Option Nat) (ro:qaR) (lv:Nat) (l2:List (BitVec 8)) (m Lc:Nat) (i:Nat) (st:St):Prop :=
  ∃ (H:Heap),st=⟨[.sl (0,0) 0 n cap 32,.undef,.undef,.ptr (1,0) 0,.undef,.sl (1,1) 0 lv none 1,.sl (1,2) 0 i none 32,N lv,.sl (1,3) 0 m none 1,.undef,.undef,.undef,.undef,.undef,.undef,.undef,.undef,.undef,.undef,.undef,.undef,N Lc,N lv,.undef,.undef,.undef,.undef,.sl (1,3) 0 m none 1,N m,N i,.undef,.undef,.undef,.undef,.undef,.undef,.undef,.undef,.undef,.undef,.undef,.undef,.undef,.undef,.undef,.undef,.undef,.undef,.undef,.undef,.undef,.undef,.undef,.undef,.undef,.undef,.undef,.undef,.undef],H,2,1⟩∧H (1,0)=some (aB 32 fun _=>0#8)∧H (1,2)=some (bs (dgs lv l2 i))∧H (1,3)=some (Ab.ndC l2 m)∧H (1,1)=some ro∧H (0,0)=some (bs l)
def bIB1 (l:List (BitVec 8)) (n:Nat) (cap:Option Nat) (ro:qaR) (lv:Nat) (l2:List (BitVec 8)) (m Lc:Nat) (i:Nat) (st:St):Prop:=(i=0∧bZB1 l n cap ro lv l2 m Lc st)∨(0 < i∧bPB1 l n cap ro lv l2 m Lc i st)
set_option maxRecDepth 20000 in
theorem bI_roundB1 (K k0:Nat) (hk0:400≤k0) (l:List (BitVec 8)) (n:Nat) (cap:Option Nat) (ro:qaR) (lv:Nat) (l2:List (BitVec 8)) (m Lc:Nat) (hl2:∀ i,i < m→(Ab.nd l2 i).length=512) (hm:m≤1000) (hLc:Lc≤1000) (hlv:lv≤1000) (hrn:ro.flatMap (nms D)=[]) (hrr:∀ π,ro.map (ren D π)=ro) (i:Nat) (hi:i < m) (st:St) (hI:bIB1 l n cap ro lv l2 m Lc i st) :
    ∃ st1,ev (envC C k0) K L10b0 st=some (.normal,st1)∧bIB1 l n cap ro lv l2 m Lc (i+1) (qby L10k0 st1):=by
  have hli:=hl2 i hi
  have hnc:=fun (b':Nat) (H:Heap)=>qdj k0 b' 15 (.inl rfl) H lv (.isl (bs (Ab.nd l2 i)) 512) (Ab.nd l2 i) (by have:=lent_isl H (Ab.nd l2 i) []; rwa [hli] at this) (by omega) (by omega)
  rcases hI with ⟨rfl,hI⟩ | ⟨hi0,hI⟩
  · obtain ⟨H, rfl, h0, hn, h1, h00⟩ := hI
    have hcell:=nd_cell l2 m 0 hi
    apply Exists.intro
    apply And.intro
    · simp (disch := first | omega | decide | simp only [qai, qag, qak, qaj, qah, qae, qac, qad, qan]) only [qba, qau, qa3, qao, qap, qam, qaf, qaq, qaz, qaI, qar, qaF, qaB, qa1, qaT, qaa, qa4, qaw, qaY, zK, zL, zN, zO, zG, zF, zJ, zM, Nat.reduceAdd, qab, qaQ, qbe, qbx, zC, zB, zE, zT, qbH, zZ, zE, zB, qbY, qa2, qbO, Nat.reduceAdd, zT, qbB, qb8, qb9, qcb, appX_nil, qb7, qbG, qbK, qbw, qax, qaM, qay, zZ, qcI, qal, L10b0, hi, qbG, hcell, hnc, fill32, aB_dl, front32d, hn, qal]
      rfl
    · refine .inr ⟨by omega, qaU [(1, 0), (1, 1), (11, 0), (1, 2)] rfl (by simp only [qaA, FUEL, qaH, qaD, qaE, qaP, qaK, qaL, zS, zW, zP, zV, zR, zF, zG, zY, za, zD, zt, zo, ze, Nat.reduceEqDiff, zH, zU, zp, zzF, zC, zA, zd, zi, zm, zg, zl, ne_eq, zq, z9, qab, qaJ, qaC, qav, qce, qaO, L10k0, h0, hn, h1, h00, Ab.ndC_nms, qbS, qbh, qaK, qaO, hrn]) ?_ ⟨_, rfl, ?_, ?_, ?_, ?_, ?_⟩⟩
      · simp only [L10k0, zG, zF, zB, qcM, qbT, qbk, qbX, qaC, qav, qaJ, qa9]
        rfl
      · exact qas (1,0) rfl (by simp only[qab,zD,Nat.reduceEqDiff,zH,zA,h0]) (qbj _ _ _)
      · exact qas (11,0) rfl (by simp only[qab,zD,Nat.reduceEqDiff,zH,zC,zA,zB]; rfl) (qaW _ _)
      · exact qas (1,2) rfl (by simp only[qab,zD,Nat.reduceEqDiff,zX,zA,hn]) (Ab.ndC_ren _ _ _)
      · exact qas (1,1) rfl (by simp only[qab,zD,Nat.reduceEqDiff,zX,zA,zd,h1]) (hrr _)
      · rw [qcm]
        simp (disch:=first|omega|decide|simp only[qai,qag,qak,qaj,qah,qae,qac,qad,qan]) only[zI,qab,zD,Nat.reduceEqDiff,zH,zA,zI,qaW,h00,qaW]
  · obtain ⟨H, rfl, h0, hb, hn, h1, h00⟩ := hI
    have happ:=fun (H2:Heap) (h2:H2 (1,2)=some (bs (dgs lv l2 i)))=>app32_row 11 H2 (1,2) i (dgs lv l2 i) (dl (nodeB lv (Ab.nd l2 i))) h2 (dgs_length _ _ _) (by omega)
    have happ:=fun (x:Option qaR)=>happ (upd H (10,0) x) (by simp only[qab,zD,Nat.reduceEqDiff,zX,zA,hb])
    have hcell:=nd_cell l2 m i hi
    apply Exists.intro
    apply And.intro
    · simp (disch := first | omega | decide | simp only [qai, qag, qak, qaj, qah, qae, qac, qad, qan]) only [qba, qau, qa3, qao, qap, qam, qaf, qaq, qaz, qaI, qar, qaF, qaB, qa1, qaT, qaa, qa4, qaw, qaY, zK, zL, zN, zO, zG, zF, zJ, zM, Nat.reduceAdd, qab, qaQ, qbe, qbx, zC, zB, zE, zT, qbH, zZ, zE, zB, qbY, qa2, qbO, Nat.reduceAdd, zT, qbB, qb8, qb9, qcb, qb7, qbG, qbK, qbw, qax, qaM, qay, qa0, zZ, qcI, qal, L10b0, hi, qbG, hcell, hnc, fill32, aB_dl, front32d, happ, hn, qal]
      rfl
    · refine .inr ⟨by omega, qaU [(1, 0), (1, 1), (11, 0), (1, 3)] rfl (by simp only [qaA, FUEL, qaH, qaD, qaE, qaP, qaK, qaL, zS, zW, zP, zV, zR, zF, zG, zY, za, zD, zt, zo, ze, Nat.reduceEqDiff, zH, zU, zp, zzF, zC, zA, zd, zi, zm, zg, zl, ne_eq, zq, z9, qab, qaJ, qaC, qav, qce, qaO, L10k0, h0, hn, h1, h00, Ab.ndC_nms, qbS, qbh, qaK, qaO, hrn]) ?_ ⟨_, rfl, ?_, ?_, ?_, ?_, ?_⟩⟩
      · simp only [L10k0, zG, zF, qcM, qbT, qbk, qbX, qaC, qav, qaJ, qa9]
        rfl
      · exact qas (1,0) rfl (by simp only[qab,zD,Nat.reduceEqDiff,zH,zU,zA,h0]) (qbj _ _ _)
      · exact qas (11,0) rfl (by simp only[qab,zD,Nat.reduceEqDiff,zH,zX,zC,zA]; rfl) (qaW _ _)
      · exact qas (1,3) rfl (by simp only[qab,zD,Nat.reduceEqDiff,zU,zX,zA,hn]) (Ab.ndC_ren _ _ _)
      · exact qas (1,1) rfl (by simp only[qab,zD,Nat.reduceEqDiff,zU,zX,zA,zd,h1]) (hrr _)
      · rw [qcm]
        simp (disch:=first|omega|decide|simp only[qai,qag,qak,qaj,qah,qae,qac,qad,qan]) only[zI,qab,zD,Nat.reduceEqDiff,zH,zX,zA,zi,zI,qaW,h00,qaW]
def cn (n:Nat):Nat→Nat
  | 0=>n
  | j+1=>ups (cn n j)
theorem su_cn (n j:Nat):su n j=cn n (j+1):=by
  induction j with
  | zero=>rfl
  | succ j ih=>show ups (su n j)=_; rw[ih]; rfl
def lay (l:List (BitVec 8)) (n:Nat):Nat→List (BitVec 8)
  | 0=>l
  | j+1=>dgs j (lay l n j) (cn n (j+1))
theorem lay_length {l:List (BitVec 8)} {n:Nat} (hl:l.length=32*n) (j:Nat):(lay l n j).length=32*cn n j:=by
  cases j with
  | zero=>exact hl
  | succ j=>exact dgs_length _ _ _
def outC (l:List (BitVec 8)) (n j:Nat):qaR:=(List.range j).map fun i=>LV.isl (Ab.ndC (lay l n i) (cn n (i+1))) (cn n (i+1))
theorem outC_succ (l:List (BitVec 8)) (n j:Nat):outC l n (j+1)=outC l n j++[.isl (Ab.ndC (lay l n j) (cn n (j+1))) (cn n (j+1))]:=by simp[outC,List.range_succ]
theorem outC_length (l:List (BitVec 8)) (n j:Nat):(outC l n j).length=j:=by simp[outC]
theorem ndC_nms7 (l:List (BitVec 8)) (m:Nat):(Ab.ndC l m).flatMap (nms 7)=[]:=by
  rw[List.flatMap_eq_nil_iff]; intro x hx; simp only[Ab.ndC,List.mem_map] at hx; obtain ⟨i,_,rfl⟩:=hx
  show (bs (Ab.nd l i)).flatMap (nms 6)=[]
  rw[List.flatMap_eq_nil_iff]; intro x hx; simp only[bs,List.mem_map] at hx; obtain ⟨y,_,rfl⟩:=hx; rfl
theorem indC_nms (l:List (BitVec 8)) (m k:Nat):nms D (.isl (Ab.ndC l m) k)=[]:=ndC_nms7 l m
theorem indC_ren (π:Nm→Option Nm) (l:List (BitVec 8)) (m k:Nat):ren D π (.isl (Ab.ndC l m) k) = .isl (Ab.ndC l m) k:=by
  show LV.isl ((Ab.ndC l m).map (ren 7 π)) k=_
  congr 1
  simp only[Ab.ndC,List.map_map]
  apply List.map_congr_left
  intro i _
  show LV.isl ((bs (Ab.nd l i)).map (ren 6 π)) 512=_
  rw[bs_ren_d]
theorem outC_nms (l:List (BitVec 8)) (n j:Nat):(outC l n j).flatMap (nms D)=[]:=by
  rw[List.flatMap_eq_nil_iff]; intro x hx; simp only[outC,List.mem_map] at hx; obtain ⟨i,_,rfl⟩:=hx; exact indC_nms _ _ _
theorem qcN (l:List (BitVec 8)) (n j:Nat) (π:Nm→Option Nm):(outC l n j).map (ren D π)=outC l n j:=by
  simp only[outC,List.map_map]; apply List.map_congr_left; intro i _; exact indC_ren _ _ _ _
theorem nd_length {l:List (BitVec 8)} {n:Nat} (hl:l.length=32*n) (i:Nat):(Ab.nd l i).length=512:=Ab.pad_length _ (by simp only[Ab.pli,zzJ]; omega)
theorem appKz_row (b:Nat) (H:Heap) (X:LV) (rn nb:Nm) (n:Nat) (c:Option Nat) (cs:qaR) (h1:H rn=some [.sl nb 0 n c 1]) (h2:H nb=some cs) (hn:n≠0) (hq:cs.length=n) :
    appKz b 1 24 H X (.sl rn 0 1 (some 1) 1) (some 1)=appX b 1 24 1 H [(nb,none)] [.isl cs n] X:=by
  have e1:front H 1 1 (.sl rn 0 1 (some 1) 1)=some [.sl nb 0 n c 1]:=by rw[qcI _ _ _ _ _ _ _ (by omega) (by omega),h1]; rfl
  have e2:frozenAll H [.sl nb 0 n c 1]=some ([.isl cs n],[(nb,none)]):=by
    simp only[frozenAll,frozenOf,h2,if_neg hn,z8,zZ]
    rw[List.take_of_length_le (by omega)]
    rfl
  simp only[appKz,e1,e2,appFz]
  rw[if_pos ⟨by decide,rfl⟩]
theorem above_callA (k b:Nat) (H:Heap) (l:List (BitVec 8)) (n:Nat) (hl:l.length=32*n) (h0:0 < n) (hn:n≤1000000) :
    qb1 (envC C (k+1)) H b 28 [.isl (bs l) n]=some ⟨.sl (b,0) 0 (ups n) none 1,[Ab.ndC l (ups n)],[]⟩:=by
  rw[qcB l28 (by rw[zS,qbd]; rfl) (by rw[zG,qa8]; rfl),F_above ⟨l,n,hl,h0,hn,.inl ⟨rfl,rfl,rfl⟩⟩]
  simp only[calK,qc9,zG,zF,Ab.ndC_ren]
  rfl
theorem above_callB (k b:Nat) (H:Heap) (r:Nm) (l:List (BitVec 8)) (n:Nat) (cap:Option Nat) (hl:l.length=32*n) (h0:0 < n) (hn:n≤1000000) (h:H r=some (bs l)) :
    qb1 (envC C (k+1)) H b 28 [.sl r 0 n cap 32]=some ⟨.sl (b,0) 0 (ups n) none 1,[Ab.ndC l (ups n)],[(r,some (bs l))]⟩:=by
  have hr:reach H FUEL [] [r]=[r]:=by
    simp only[FUEL,qaH,zY,ze,zA,h,qaD,qbh,zP,qaE]
  have hl':lend H ((envC C (k+1)).borrow 28) 0 [.sl r 0 n cap 32]=some ([.sl r 0 n cap 32],[]):=rfl
  rw[callOp_L,hl',callL_some]
  rw[show ([LV.sl r 0 n cap 32]:List LV).flatMap (nms D)=[r] from rfl,hr,callN_eq _ _ _ _ _ rfl]
  rw[show ([r]:List Nm).filterMap H=[bs l] by simp[h]]
  have ha:([LV.sl r 0 n cap 32]:List LV).map (ren D (qc7 [r]))=[.sl (0,0) 0 n cap 32]:=by
    simp only[zG,zF,qbk,toCallee_eq,idx,zC,zI,qbX]
  rw[ha,zG,zF,qaW,envC_cal,F_above ⟨l,n,hl,h0,hn,.inr ⟨cap,rfl,rfl,rfl⟩⟩]
  rw[show ([]:List Nm).isEmpty=true from rfl,resK_sc,qc9]
  simp only[qbk,toCaller_1,zJ,zM,zB,Nat.lt_one_iff,qbX,zG,zF,Ab.ndC_ren,qaW,List.zipWith_cons_cons,List.zipWith_nil_left,zI]
theorem cn_le {n:Nat} (hn:1≤n∧n≤4096) (j:Nat):1≤cn n j∧cn n j≤4096:=by
  induction j with
  | zero=>exact hn
  | succ j ih=>simp only[cn,ups]; omega
theorem ups_le {n:Nat} (hn:1≤n∧n≤4096) (j:Nat):cn n (j+1)≤256:=by
  have:=cn_le hn j
  simp only[cn,ups]; omega
def vZA (l:List (BitVec 8)) (n:Nat) (Lc:Nat) (st:St):Prop := ∃ (H:Heap),st=⟨[.isl (bs l) n,.undef,.undef,.ptr (1,0) 0,.undef,Nil,.isl (bs l) n,.undef,.undef,.undef,.undef,.undef,.undef,.undef,.undef,.undef,.undef,.undef,.undef,.undef,.undef,N Lc,N 0,.undef,.undef,.undef,.undef,.undef,.undef,.undef,.undef,.undef,.undef,.undef,.undef,.undef,.undef,.undef,.undef,.undef,.undef,.undef,.undef,.undef,.undef,.undef,.undef,.undef,.undef,.undef,.undef,.undef,.undef,.undef,.undef,.undef,.undef,.undef,.undef],H,2,0⟩∧H (1,0)=some (aB 32 fun _=>0#8)
def vPA (l:List (BitVec 8)) (n:Nat) (Lc j:Nat) (st:St):Prop := ∃ (H:Heap),st=⟨[.isl (bs l) n,.undef,.undef,.ptr (1,0) 0,.undef,.sl (1,1) 0 j none 1,.sl (1,2) 0 (cn n j) none 32,.undef,.undef,.undef,.undef,.undef,.undef,.undef,.undef,.undef,.undef,.undef,.undef,.undef,.undef,N Lc,N j,.undef,.undef,.undef,.undef,.undef,.undef,.undef,.undef,.undef,.undef,.undef,.undef,.undef,.undef,.undef,.undef,.undef,.undef,.undef,.undef,.undef,.undef,.undef,.undef,.undef,.undef,.undef,.undef,.undef,.undef,.undef,.undef,.undef,.undef,.undef,.undef],H,2,0⟩∧H (1,0)=some (aB 32 fun _=>0#8)∧H (1,1)=some (outC l n j)∧H (1,2)=some (bs (lay l n j))
def vIA (l:List (BitVec 8)) (n:Nat) (Lc j:Nat) (st:St):Prop:=(j=0∧vZA l n  Lc st)∨(0 < j∧vPA l n  Lc j st)
set_option maxRecDepth 20000 in
theorem v_roundA0 (K k0:Nat) (hk0:600≤k0) (hK:600≤K) (l:List (BitVec 8)) (n:Nat) (hl:l.length=32*n) (hn:1≤n∧n≤4096) (Lc:Nat) (hLc:Lc≤3) (hj:0 < Lc) (st:St) (hI:vZA l n  Lc st) :
    ∃ st1,ev (envC C k0) K L10b1 st=some (.normal,st1)∧vPA l n  Lc (0+1) (qby L10k1 st1):=by
  obtain ⟨H,rfl,h0⟩:=hI
  obtain ⟨k1,rfl⟩:∃ k1,k0=k1+1:=⟨k0 - 1,by omega⟩
  have hlay:=lay_length hl 0
  have hcn:=cn_le hn 0
  have hcn1:=cn_le hn (0+1)
  have hub:=ups_le hn 0
  have hab:=fun (b:Nat) (H:Heap)=>above_callA k1 b H l n hl (by omega) (by omega)
  simp (disch:=first|omega|decide|simp only[qai,qag,qak,qaj,qah,qae,qac,qad,qan]) only[qba,qau,qa3,qao,qap,qam,qaf,qaq,qaz,qaI,qar,qaF,qaB,qa1,qaT,qaa,qaw,qaY,zK,zL,zN,zO,zG,zF,zJ,zM,qbZ,Nat.reduceAdd,zB,zE,zT,zE,zB,qa2,Nat.reduceAdd,zT,qbi,qaV,qbL,qax,qaM,qay,qal,L10b1,hj,hab,qal]
  generalize hL:qca L10k0 _ _ _=r
  have hm0:0 < cn n (0+1):=by omega
  refine qbJ hL (bIA0 l n 0 (lay l n 0) (cn n (0+1)) Lc) (cn n (0+1)) (by omega) (fun i st hi hI=>bI_roundA0 K (k1+1) (by omega) l n 0 (lay l n 0) (cn n (0+1)) Lc (fun i _=>nd_length hlay i) (by omega) (by omega) (by omega)  i hi st hI) ?_ ?_ ?_
  · refine .inl ⟨rfl, qaU [(1, 0), (6, 0)] rfl (by simp only [qaA, FUEL, qaH, qaD, qaE, qaP, qaK, qaL, zS, zW, zP, zV, zR, zk, zF, zY, za, zD, zt, zo, ze, Nat.reduceEqDiff, zH, zp, zzF, zC, zA, zd, zm, zg, zl, ne_eq, zq, qab, qaJ, qaC, qav, qaO, qbu, L10k0, h0, Ab.ndC_nms, qbS, qbd, qaK, qbu, qaO]) ?_ ⟨_, rfl, ?_, ?_⟩⟩
    · simp only [L10k0, zG, zF, zB, qda, qa8, qbT, qbk, qaC, qav, qaJ, qa9, qa8]
      rfl
    · exact qas (1,0) rfl (by simp only[qab,zD,Nat.reduceEqDiff,zH,zA,h0]) (qbj _ _ _)
    · exact qas (6,0) rfl (by simp only[qab,zC,zB]; rfl) (Ab.ndC_ren _ _ _)
  · rintro st (⟨he, _⟩ | ⟨_, H, rfl, g0, gb, gn⟩)
    · omega
    · apply qbs
      simp (disch:=first|omega|decide|simp only[qai,qag,qak,qaj,qah,qae,qac,qad,qan]) only[qa6,qau,qao,qap,qam,qaf,qaN,qaq,qaz,qar,qaB,qaa,qaG,qaw,qat,zK,zL,zN,zO,zJ,zM,Nat.reduceAdd,zB,zE,zQ,qa2,Nat.reduceAdd,zj,zQ,L10b0,zj]
      rfl
  · rintro st (⟨he, _⟩ | ⟨_, H, rfl, g0, gb, gn⟩) hr
    · omega
    · subst hr
      have hz:appKz 6 1 24 (upd H (5,0) (some [.sl (1,2) 0 (cn n (0+1)) none 1])) (Nil) (.sl (5,0) 0 1 (some 1) 1) (some 1)=some ⟨.sl (6,0) 0 (0+1) none 1,[outC l n (0+1)],[((1,2),none)]⟩:=by
        rw[appKz_row _ _ _ (5,0) (1,2) (cn n (0+1)) none (Ab.ndC (lay l n 0) (cn n (0+1))) (by simp only[qab,zC,zB]) (by simp only[qab,zD,Nat.reduceEqDiff,zX,zA,zB,gn]) (by omega) (Ab.ndC_length _ _),outC_succ]
        exact appX_nilz _ _
      simp (disch:=first|omega|decide|simp only[qai,qag,qak,qaj,qah,qae,qac,qad,qan]) only[qa6,qau,qao,qap,qam,qaf,qaq,qaz,qaI,qar,qaF,qaB,qaa,qaG,qa4,qbc,qaw,qat,zK,zL,zN,zO,zG,zF,zP,zR,zJ,zM,Nat.reduceAdd,qbW,qcx,qco,qb2,zzB,zzE,zzD,zX,zC,zB,zE,Nat.le_refl,zQ,qbH,zE,zB,qbY,qa2,Nat.reduceAdd,zj,zQ,qbB,qdi,qbK,qbw,qax,qaM,qay,qa0,qal,L10b0,zj,qdf,hz,qal]
      refine ⟨_,rfl,?_⟩
      refine qaU [(1,0),(6,0),(1,1)] rfl (by simp only[qaA,FUEL,qaH,qaD,qaE,qaP,qaK,qaL,zS,zW,zP,zV,zR,zk,zF,zY,za,zD,zt,zo,ze,Nat.reduceEqDiff,zH,zU,zp,zC,zA,zd,zm,zg,zl,ne_eq,zq,qab,Nat.reduceAdd,qaJ,qaC,qav,qaO,L10k1,g0,gb,outC_nms,qbS,qbh,qbd,qaK,qaO]) ?_ ⟨_,rfl,?_,?_,?_⟩
      · simp only [L10k1, zG, zF, qa8, qbT, qbk, qaC, qav, qaJ, qa9, qa8]
        rfl
      · exact qas (1,0) rfl (by simp only[qab,zD,Nat.reduceEqDiff,zH,zU,zA,g0]) (qbj _ _ _)
      · exact qas (6,0) rfl (by simp only[qab,zD,Nat.reduceEqDiff,zH,zX,zC,zA]) (qcN _ _ _ _)
      · exact qas (1,1) rfl (by simp only[qab,zD,Nat.reduceEqDiff,zU,zX,zA,zB,zd,gb]; rfl) (qaW _ _)
set_option maxRecDepth 20000 in
theorem v_roundA1 (K k0:Nat) (hk0:600≤k0) (hK:600≤K) (l:List (BitVec 8)) (n:Nat) (hl:l.length=32*n) (hn:1≤n∧n≤4096) (Lc:Nat) (hLc:Lc≤3) (j:Nat) (hj0:0 < j) (hj:j < Lc) (st:St) (hI:vPA l n  Lc j st) :
    ∃ st1,ev (envC C k0) K L10b1 st=some (.normal,st1)∧vPA l n  Lc (j+1) (qby L10k1 st1):=by
  obtain ⟨H,rfl,h0,h1,h2⟩:=hI
  obtain ⟨k1,rfl⟩:∃ k1,k0=k1+1:=⟨k0 - 1,by omega⟩
  have hlay:=lay_length hl j
  have hcn:=cn_le hn j
  have hcn1:=cn_le hn (j+1)
  have hub:=ups_le hn j
  have hab:=fun (b:Nat)=>above_callB k1 b H (1,2) (lay l n j) (cn n j) none hlay (by omega) (by omega) h2
  simp (disch:=first|omega|decide|simp only[qai,qag,qak,qaj,qah,qae,qac,qad,qan]) only[qba,qau,qa3,qao,qap,qam,qaf,qaq,qaz,qaI,qar,qaF,qaB,qa1,qaT,qaa,qaw,qaY,zK,zL,zN,zO,zG,zF,zJ,zM,qbZ,Nat.reduceAdd,zB,zE,zT,zE,zB,qa2,Nat.reduceAdd,zT,qbi,qaV,qbL,qax,qaM,qay,qa0,qal,L10b1,hj,hab,qal]
  generalize hL:qca L10k0 _ _ _=r
  have hm0:0 < cn n (j+1):=by omega
  refine qbJ hL (bIA1 l n (outC l n j) j (lay l n j) (cn n (j+1)) Lc) (cn n (j+1)) (by omega) (fun i st hi hI=>bI_roundA1 K (k1+1) (by omega) l n (outC l n j) j (lay l n j) (cn n (j+1)) Lc (fun i _=>nd_length hlay i) (by omega) (by omega) (by omega) (outC_nms _ _ _) (qcN _ _ _)  i hi st hI) ?_ ?_ ?_
  · refine .inl ⟨rfl, qaU [(1, 0), (1, 1), (6, 0)] rfl (by simp only [qaA, FUEL, qaH, qaD, qaE, qaP, qaK, qaL, zS, zW, zP, zV, zR, zk, zF, zY, za, zD, zt, zo, ze, Nat.reduceEqDiff, zH, zU, zp, zzF, zC, zA, zd, zi, zm, zg, zl, ne_eq, zq, qab, qaJ, qaC, qav, qaO, qbu, L10k0, h0, h1, Ab.ndC_nms, outC_nms, qbS, qbd, qaK, qbu, qaO]) ?_ ⟨_, rfl, ?_, ?_, ?_⟩⟩
    · simp only [L10k0, zG, zF, qda, qa8, qbT, qbk, qaC, qav, qaJ, qa9, qa8]
      rfl
    · exact qas (1,0) rfl (by simp only[qab,zD,Nat.reduceEqDiff,zH,zU,zA,h0]) (qbj _ _ _)
    · exact qas (6,0) rfl (by simp only[qab,zD,Nat.reduceEqDiff,zX,zC,zA]; rfl) (Ab.ndC_ren _ _ _)
    · exact qas (1,1) rfl (by simp only[qab,zD,Nat.reduceEqDiff,zU,zX,zA,zd,h1]) (qcN _ _ _ _)
  · rintro st (⟨he, _⟩ | ⟨_, H, rfl, g0, gb, gn, g1⟩)
    · omega
    · apply qbs
      simp (disch:=first|omega|decide|simp only[qai,qag,qak,qaj,qah,qae,qac,qad,qan]) only[qa6,qau,qao,qap,qam,qaf,qaN,qaq,qaz,qar,qaB,qaa,qaG,qaw,qat,zK,zL,zN,zO,zJ,zM,Nat.reduceAdd,zB,zE,zQ,qa2,Nat.reduceAdd,zj,zQ,L10b0,zj]
      rfl
  · rintro st (⟨he, _⟩ | ⟨_, H, rfl, g0, gb, gn, g1⟩) hr
    · omega
    · subst hr
      have hz:appKz 6 1 24 (upd H (5,0) (some [.sl (1,3) 0 (cn n (j+1)) none 1])) (.sl (1,1) 0 j none 1) (.sl (5,0) 0 1 (some 1) 1) (some 1)=some ⟨.sl (6,0) 0 (j+1) none 1,[outC l n (j+1)],[((1,1),none),((1,3),none)]⟩:=by
        rw[appKz_row _ _ _ (5,0) (1,3) (cn n (j+1)) none (Ab.ndC (lay l n j) (cn n (j+1))) (by simp only[qab,zC]) (by simp only[qab,zD,Nat.reduceEqDiff,zX,zA,gn]) (by omega) (Ab.ndC_length _ _),outC_succ]
        exact appX_rowz _ (1,1) j (outC l n j) _ (by simp only[qab,zD,Nat.reduceEqDiff,zX,zA,zd,g1]) (outC_length _ _ _) (by omega) rfl
      simp (disch:=first|omega|decide|simp only[qai,qag,qak,qaj,qah,qae,qac,qad,qan]) only[qa6,qau,qao,qap,qam,qaf,qaq,qaz,qaI,qar,qaF,qaB,qaa,qaG,qa4,qbc,qaw,qat,zK,zL,zN,zO,zG,zF,zP,zR,zJ,zM,Nat.reduceAdd,qbW,qcx,qco,qb2,zzB,zzE,zzD,zX,zC,zB,zE,Nat.le_refl,zQ,qbH,zE,zB,qbY,qa2,Nat.reduceAdd,zj,zQ,qbB,qdi,qbK,qbw,qax,qaM,qay,qa0,qal,L10b0,zj,qdf,hz,qal]
      refine ⟨_,rfl,?_⟩
      refine qaU [(1,0),(6,0),(1,2)] rfl (by simp only[qaA,FUEL,qaH,qaD,qaE,qaP,qaK,qaL,zS,zW,zP,zV,zR,zk,zF,zY,za,zD,zt,zo,ze,Nat.reduceEqDiff,zH,zU,zp,zC,zA,zd,zi,zm,zg,zl,ne_eq,zq,qab,qaJ,qaC,qav,qaO,L10k1,g0,gb,outC_nms,qbS,qbh,qbd,qaK,qaO]) ?_ ⟨_,rfl,?_,?_,?_⟩
      · simp only [L10k1, zG, zF, qa8, qbT, qbk, qaC, qav, qaJ, qa9, qa8]
        rfl
      · exact qas (1,0) rfl (by simp only[qab,zD,Nat.reduceEqDiff,zH,zU,zA,zi,g0]) (qbj _ _ _)
      · exact qas (6,0) rfl (by simp only[qab,zD,Nat.reduceEqDiff,zH,zX,zC,zA,zi]) (qcN _ _ _ _)
      · exact qas (1,2) rfl (by simp only[qab,zD,Nat.reduceEqDiff,zU,zX,zA,gb]; rfl) (qaW _ _)
def vZB (l:List (BitVec 8)) (n:Nat) (cap:Option Nat) (Lc:Nat) (st:St):Prop := ∃ (H:Heap),st=⟨[.sl (0,0) 0 n cap 32,.undef,.undef,.ptr (1,0) 0,.undef,Nil,.sl (0,0) 0 n cap 32,.undef,.undef,.undef,.undef,.undef,.undef,.undef,.undef,.undef,.undef,.undef,.undef,.undef,.undef,N Lc,N 0,.undef,.undef,.undef,.undef,.undef,.undef,.undef,.undef,.undef,.undef,.undef,.undef,.undef,.undef,.undef,.undef,.undef,.undef,.undef,.undef,.undef,.undef,.undef,.undef,.undef,.undef,.undef,.undef,.undef,.undef,.undef,.undef,.undef,.undef,.undef,.undef],H,2,1⟩∧H (1,0)=some (aB 32 fun _=>0#8)∧H (0,0)=some (bs l)
def vPB (l:List (BitVec 8)) (n:Nat) (cap:Option Nat) (Lc j:Nat) (st:St):Prop := ∃ (H:Heap),st=⟨[.sl (0,0) 0 n cap 32,.undef,.undef,.ptr (1,0) 0,.undef,.sl (1,1) 0 j none 1,.sl (1,2) 0 (cn n j) none 32,.undef,.undef,.undef,.undef,.undef,.undef,.undef,.undef,.undef,.undef,.undef,.undef,.undef,.undef,N Lc,N j,.undef,.undef,.undef,.undef,.undef,.undef,.undef,.undef,.undef,.undef,.undef,.undef,.undef,.undef,.undef,.undef,.undef,.undef,.undef,.undef,.undef,.undef,.undef,.undef,.undef,.undef,.undef,.undef,.undef,.undef,.undef,.undef,.undef,.undef,.undef,.undef],H,2,1⟩∧H (1,0)=some (aB 32 fun _=>0#8)∧H (1,1)=some (outC l n j)∧H (1,2)=some (bs (lay l n j))∧H (0,0)=some (bs l)
def vIB (l:List (BitVec 8)) (n:Nat) (cap:Option Nat) (Lc j:Nat) (st:St):Prop:=(j=0∧vZB l n cap  Lc st)∨(0 < j∧vPB l n cap  Lc j st)
set_option maxRecDepth 20000 in
theorem v_roundB0 (K k0:Nat) (hk0:600≤k0) (hK:600≤K) (l:List (BitVec 8)) (n:Nat) (cap:Option Nat) (hl:l.length=32*n) (hn:1≤n∧n≤4096) (Lc:Nat) (hLc:Lc≤3) (hj:0 < Lc) (st:St) (hI:vZB l n cap  Lc st) :
    ∃ st1,ev (envC C k0) K L10b1 st=some (.normal,st1)∧vPB l n cap  Lc (0+1) (qby L10k1 st1):=by
  obtain ⟨H,rfl,h0,h00⟩:=hI
  obtain ⟨k1,rfl⟩:∃ k1,k0=k1+1:=⟨k0 - 1,by omega⟩
  have hlay:=lay_length hl 0
  have hcn:=cn_le hn 0
  have hcn1:=cn_le hn (0+1)
  have hub:=ups_le hn 0
  have hab:=fun (b:Nat)=>above_callB k1 b H (0,0) l n cap hl (by omega) (by omega) h00
  simp (disch:=first|omega|decide|simp only[qai,qag,qak,qaj,qah,qae,qac,qad,qan]) only[qba,qau,qa3,qao,qap,qam,qaf,qaq,qaz,qaI,qar,qaF,qaB,qa1,qaT,qaa,qaw,qaY,zK,zL,zN,zO,zG,zF,zJ,zM,qbZ,Nat.reduceAdd,zB,zE,zT,zE,zB,qa2,Nat.reduceAdd,zT,qbi,qaV,qbL,qax,qaM,qay,qa0,qal,L10b1,hj,hab,qal]
  generalize hL:qca L10k0 _ _ _=r
  have hm0:0 < cn n (0+1):=by omega
  refine qbJ hL (bIB0 l n cap 0 (lay l n 0) (cn n (0+1)) Lc) (cn n (0+1)) (by omega) (fun i st hi hI=>bI_roundB0 K (k1+1) (by omega) l n cap 0 (lay l n 0) (cn n (0+1)) Lc (fun i _=>nd_length hlay i) (by omega) (by omega) (by omega)  i hi st hI) ?_ ?_ ?_
  · refine .inl ⟨rfl, qaU [(1, 0), (6, 0)] rfl (by simp only [qaA, FUEL, qaH, qaD, qaE, qaP, qaK, qaL, zS, zW, zP, zV, zR, zF, zG, zY, za, zD, zt, zo, ze, Nat.reduceEqDiff, zH, zp, zzF, zC, zA, zd, zm, zg, zl, ne_eq, zq, z9, qab, qaJ, qaC, qav, qce, qaO, qbu, L10k0, h0, h00, Ab.ndC_nms, qbS, qbh, qaK, qbu, qaO]) ?_ ⟨_, rfl, ?_, ?_, ?_⟩⟩
    · simp only [L10k0, zG, zF, zB, qda, qcM, qbT, qbk, qbX, qaC, qav, qaJ, qa9]
      rfl
    · exact qas (1,0) rfl (by simp only[qab,zD,Nat.reduceEqDiff,zH,zA,zd,h0]) (qbj _ _ _)
    · exact qas (6,0) rfl (by simp only[qab,zD,Nat.reduceEqDiff,zH,zC,zA,zB]; rfl) (Ab.ndC_ren _ _ _)
    · rw [qcm]
      simp (disch:=first|omega|decide|simp only[qai,qag,qak,qaj,qah,qae,qac,qad,qan]) only[zI,qab,zD,Nat.reduceEqDiff,zH,zC,zA,zI,qaW,h00,qaW]
  · rintro st (⟨he, _⟩ | ⟨_, H, rfl, g0, gb, gn, g00⟩)
    · omega
    · apply qbs
      simp (disch:=first|omega|decide|simp only[qai,qag,qak,qaj,qah,qae,qac,qad,qan]) only[qa6,qau,qao,qap,qam,qaf,qaN,qaq,qaz,qar,qaB,qaa,qaG,qaw,qat,zK,zL,zN,zO,zJ,zM,Nat.reduceAdd,zB,zE,zQ,qa2,Nat.reduceAdd,zj,zQ,L10b0,zj]
      rfl
  · rintro st (⟨he, _⟩ | ⟨_, H, rfl, g0, gb, gn, g00⟩) hr
    · omega
    · subst hr
      have hz:appKz 6 1 24 (upd H (5,0) (some [.sl (1,2) 0 (cn n (0+1)) none 1])) (Nil) (.sl (5,0) 0 1 (some 1) 1) (some 1)=some ⟨.sl (6,0) 0 (0+1) none 1,[outC l n (0+1)],[((1,2),none)]⟩:=by
        rw[appKz_row _ _ _ (5,0) (1,2) (cn n (0+1)) none (Ab.ndC (lay l n 0) (cn n (0+1))) (by simp only[qab,zC,zB]) (by simp only[qab,zD,Nat.reduceEqDiff,zX,zA,zB,gn]) (by omega) (Ab.ndC_length _ _),outC_succ]
        exact appX_nilz _ _
      simp (disch:=first|omega|decide|simp only[qai,qag,qak,qaj,qah,qae,qac,qad,qan]) only[qa6,qau,qao,qap,qam,qaf,qaq,qaz,qaI,qar,qaF,qaB,qaa,qaG,qa4,qbc,qaw,qat,zK,zL,zN,zO,zG,zF,zP,zR,zJ,zM,Nat.reduceAdd,qbW,qcx,qco,qb2,zzB,zzE,zzD,zX,zC,zB,zE,Nat.le_refl,zQ,qbH,zE,zB,qbY,qa2,Nat.reduceAdd,zj,zQ,qbB,qdi,qbK,qbw,qax,qaM,qay,qa0,qal,L10b0,zj,qdf,hz,qal]
      refine ⟨_,rfl,?_⟩
      refine qaU [(1,0),(6,0),(1,1)] rfl (by simp only[qaA,FUEL,qaH,qaD,qaE,qaP,qaK,qaL,zS,zW,zP,zV,zR,zF,zG,zY,za,zD,zt,zo,ze,Nat.reduceEqDiff,zH,zU,zp,zC,zA,zd,zi,zm,zg,zl,ne_eq,zq,z9,qab,Nat.reduceAdd,qaJ,qaC,qav,qce,qaO,L10k1,g0,gb,g00,outC_nms,qbS,qbh,qaK,qaO]) ?_ ⟨_,rfl,?_,?_,?_,?_⟩
      · simp only [L10k1, zG, zF, qcM, qbT, qbk, qbX, qaC, qav, qaJ, qa9]
        rfl
      · exact qas (1,0) rfl (by simp only[qab,zD,Nat.reduceEqDiff,zH,zU,zA,g0]) (qbj _ _ _)
      · exact qas (6,0) rfl (by simp only[qab,zD,Nat.reduceEqDiff,zH,zX,zC,zA]) (qcN _ _ _ _)
      · exact qas (1,1) rfl (by simp only[qab,zD,Nat.reduceEqDiff,zU,zX,zA,zB,zd,gb]; rfl) (qaW _ _)
      · rw [qcm]
        simp (disch:=first|omega|decide|simp only[qai,qag,qak,qaj,qah,qae,qac,qad,qan]) only[zI,qab,zD,Nat.reduceEqDiff,zH,zX,zA,zi,zI,qaW,g00,qaW]
set_option maxRecDepth 20000 in
theorem v_roundB1 (K k0:Nat) (hk0:600≤k0) (hK:600≤K) (l:List (BitVec 8)) (n:Nat) (cap:Option Nat) (hl:l.length=32*n) (hn:1≤n∧n≤4096) (Lc:Nat) (hLc:Lc≤3) (j:Nat) (hj0:0 < j) (hj:j < Lc) (st:St) (hI:vPB l n cap  Lc j st) :
    ∃ st1,ev (envC C k0) K L10b1 st=some (.normal,st1)∧vPB l n cap  Lc (j+1) (qby L10k1 st1):=by
  obtain ⟨H,rfl,h0,h1,h2,h00⟩:=hI
  obtain ⟨k1,rfl⟩:∃ k1,k0=k1+1:=⟨k0 - 1,by omega⟩
  have hlay:=lay_length hl j
  have hcn:=cn_le hn j
  have hcn1:=cn_le hn (j+1)
  have hub:=ups_le hn j
  have hab:=fun (b:Nat)=>above_callB k1 b H (1,2) (lay l n j) (cn n j) none hlay (by omega) (by omega) h2
  simp (disch:=first|omega|decide|simp only[qai,qag,qak,qaj,qah,qae,qac,qad,qan]) only[qba,qau,qa3,qao,qap,qam,qaf,qaq,qaz,qaI,qar,qaF,qaB,qa1,qaT,qaa,qaw,qaY,zK,zL,zN,zO,zG,zF,zJ,zM,qbZ,Nat.reduceAdd,zB,zE,zT,zE,zB,qa2,Nat.reduceAdd,zT,qbi,qaV,qbL,qax,qaM,qay,qa0,qal,L10b1,hj,hab,qal]
  generalize hL:qca L10k0 _ _ _=r
  have hm0:0 < cn n (j+1):=by omega
  refine qbJ hL (bIB1 l n cap (outC l n j) j (lay l n j) (cn n (j+1)) Lc) (cn n (j+1)) (by omega) (fun i st hi hI=>bI_roundB1 K (k1+1) (by omega) l n cap (outC l n j) j (lay l n j) (cn n (j+1)) Lc (fun i _=>nd_length hlay i) (by omega) (by omega) (by omega) (outC_nms _ _ _) (qcN _ _ _)  i hi st hI) ?_ ?_ ?_
  · refine .inl ⟨rfl, qaU [(1, 0), (1, 1), (6, 0)] rfl (by simp only [qaA, FUEL, qaH, qaD, qaE, qaP, qaK, qaL, zS, zW, zP, zV, zR, zF, zG, zY, za, zD, zt, zo, ze, Nat.reduceEqDiff, zH, zU, zp, zzF, zC, zA, zd, zi, zm, zg, zl, ne_eq, zq, z9, qab, qaJ, qaC, qav, qce, qaO, qbu, L10k0, h0, h1, h00, Ab.ndC_nms, outC_nms, qbS, qbh, qaK, qbu, qaO]) ?_ ⟨_, rfl, ?_, ?_, ?_, ?_⟩⟩
    · simp only [L10k0, zG, zF, qda, qcM, qbT, qbk, qbX, qaC, qav, qaJ, qa9]
      rfl
    · exact qas (1,0) rfl (by simp only[qab,zD,Nat.reduceEqDiff,zH,zU,zA,h0]) (qbj _ _ _)
    · exact qas (6,0) rfl (by simp only[qab,zD,Nat.reduceEqDiff,zX,zC,zA]; rfl) (Ab.ndC_ren _ _ _)
    · exact qas (1,1) rfl (by simp only[qab,zD,Nat.reduceEqDiff,zU,zX,zA,zd,h1]) (qcN _ _ _ _)
    · rw [qcm]
      simp (disch:=first|omega|decide|simp only[qai,qag,qak,qaj,qah,qae,qac,qad,qan]) only[zI,qab,zD,Nat.reduceEqDiff,zH,zX,zA,zi,zI,qaW,h00,qaW]
  · rintro st (⟨he, _⟩ | ⟨_, H, rfl, g0, gb, gn, g1, g00⟩)
    · omega
    · apply qbs
      simp (disch:=first|omega|decide|simp only[qai,qag,qak,qaj,qah,qae,qac,qad,qan]) only[qa6,qau,qao,qap,qam,qaf,qaN,qaq,qaz,qar,qaB,qaa,qaG,qaw,qat,zK,zL,zN,zO,zJ,zM,Nat.reduceAdd,zB,zE,zQ,qa2,Nat.reduceAdd,zj,zQ,L10b0,zj]
      rfl
  · rintro st (⟨he, _⟩ | ⟨_, H, rfl, g0, gb, gn, g1, g00⟩) hr
    · omega
    · subst hr
      have hz:appKz 6 1 24 (upd H (5,0) (some [.sl (1,3) 0 (cn n (j+1)) none 1])) (.sl (1,1) 0 j none 1) (.sl (5,0) 0 1 (some 1) 1) (some 1)=some ⟨.sl (6,0) 0 (j+1) none 1,[outC l n (j+1)],[((1,1),none),((1,3),none)]⟩:=by
        rw[appKz_row _ _ _ (5,0) (1,3) (cn n (j+1)) none (Ab.ndC (lay l n j) (cn n (j+1))) (by simp only[qab,zC]) (by simp only[qab,zD,Nat.reduceEqDiff,zX,zA,gn]) (by omega) (Ab.ndC_length _ _),outC_succ]
        exact appX_rowz _ (1,1) j (outC l n j) _ (by simp only[qab,zD,Nat.reduceEqDiff,zX,zA,zd,g1]) (outC_length _ _ _) (by omega) rfl
      simp (disch:=first|omega|decide|simp only[qai,qag,qak,qaj,qah,qae,qac,qad,qan]) only[qa6,qau,qao,qap,qam,qaf,qaq,qaz,qaI,qar,qaF,qaB,qaa,qaG,qa4,qbc,qaw,qat,zK,zL,zN,zO,zG,zF,zP,zR,zJ,zM,Nat.reduceAdd,qbW,qcx,qco,qb2,zzB,zzE,zzD,zX,zC,zB,zE,Nat.le_refl,zQ,qbH,zE,zB,qbY,qa2,Nat.reduceAdd,zj,zQ,qbB,qdi,qbK,qbw,qax,qaM,qay,qa0,qal,L10b0,zj,qdf,hz,qal]
      refine ⟨_,rfl,?_⟩
      refine qaU [(1,0),(6,0),(1,2)] rfl (by simp only[qaA,FUEL,qaH,qaD,qaE,qaP,qaK,qaL,zS,zW,zP,zV,zR,zF,zG,zY,za,zD,zt,zo,ze,Nat.reduceEqDiff,zH,zU,zp,zC,zA,zd,zi,zm,zg,zl,ne_eq,zq,z9,qab,qaJ,qaC,qav,qce,qaO,L10k1,g0,gb,g00,outC_nms,qbS,qbh,qaK,qaO]) ?_ ⟨_,rfl,?_,?_,?_,?_⟩
      · simp only [L10k1, zG, zF, qcM, qbT, qbk, qbX, qaC, qav, qaJ, qa9]
        rfl
      · exact qas (1,0) rfl (by simp only[qab,zD,Nat.reduceEqDiff,zH,zU,zA,zi,g0]) (qbj _ _ _)
      · exact qas (6,0) rfl (by simp only[qab,zD,Nat.reduceEqDiff,zH,zX,zC,zA,zi]) (qcN _ _ _ _)
      · exact qas (1,2) rfl (by simp only[qab,zD,Nat.reduceEqDiff,zU,zX,zA,gb]; rfl) (qaW _ _)
      · rw [qcm]
        simp (disch:=first|omega|decide|simp only[qai,qag,qak,qaj,qah,qae,qac,qad,qan]) only[zI,qab,zD,Nat.reduceEqDiff,zH,zX,zA,zi,zI,qaW,g00,qaW]
end Sha
namespace Sha
open Go Go.LE
def buildR (l:List (BitVec 8)) (n:Nat):Nat→BitVec 8:=dig (topL n (nl n) (Ab.nd (lay l n (nl n)) 0))
theorem cn_top {n:Nat} (hn:1≤n∧n≤4096):cn n (nl n+1)=1:=by rw[←su_cn]; exact su_last hn
theorem outC_cell (l:List (BitVec 8)) (n j i:Nat) (hi:i < j):cellK i 1 (some (outC l n j))=some [.isl (Ab.ndC (lay l n i) (cn n (i+1))) (cn n (i+1))]:=by
  rw[cellK_some,if_pos (by rw[outC_length]; omega)]
  simp only[outC,←List.map_drop]
  rw[List.drop_eq_getElem_cons (by simpa using hi)]
  simp
theorem ndC_cell0 (H:Heap) (l:List (BitVec 8)) (m:Nat) (hm:0 < m):cellAt H 1 (.ipt (Ab.ndC l m))=some [.isl (bs (Ab.nd l 0)) 512]:=by
  rw[cellAt_ipt,if_pos (by rw[Ab.ndC_length]; omega)]
  obtain ⟨k,rfl⟩:∃ k,m=k+1:=⟨m - 1,by omega⟩
  simp[Ab.ndC,List.range_succ_eq_map]
theorem tup3_nms (n:Nm) (L:Nat) (c:Option Nat) (es:Nat) (f:Nat→BitVec 8) (e:Nat):nms D (.tup [.sl n 0 L c es,.agg (aB 32 f),N e])=[n]:=by
  show [n]++((aB 32 f).flatMap (nms 6)++[])=[n]
  have:(aB 32 f).flatMap (nms 6)=[]:=by
    rw[List.flatMap_eq_nil_iff]; intro x hx; simp only[aB,arr,List.mem_map,List.mem_range] at hx; obtain ⟨i,_,rfl⟩:=hx; rfl
  rw[this]; rfl
theorem aB_ren6 (f:Nat→BitVec 8) (π:Nm→Option Nm):(aB 32 f).map (ren 6 π)=aB 32 f:=by
  conv=>rhs; rw[←List.map_id (aB 32 f)]
  apply List.map_congr_left
  intro x hx; simp only[aB,arr,List.mem_map,List.mem_range] at hx; obtain ⟨i,_,rfl⟩:=hx; rfl
theorem tup3_ren (π:Nm→Option Nm) (n n2:Nm) (L:Nat) (c:Option Nat) (es:Nat) (f:Nat→BitVec 8) (e:Nat) (h:π n=some n2):ren D π (.tup [.sl n 0 L c es,.agg (aB 32 f),N e]) = .tup [.sl n2 0 L c es,.agg (aB 32 f),N e]:=by
  show LV.tup [ren 7 π (.sl n 0 L c es),.agg ((aB 32 f).map (ren 6 π)),N e]=_
  rw[aB_ren6]
  simp only[ren,h]
theorem tup3n_nms (f:Nat→BitVec 8) (e:Nat):nms D (.tup [Nil,.agg (aB 32 f),N e])=[]:=by
  show []++((aB 32 f).flatMap (nms 6)++[])=[]
  have:(aB 32 f).flatMap (nms 6)=[]:=by
    rw[List.flatMap_eq_nil_iff]; intro x hx; simp only[aB,arr,List.mem_map,List.mem_range] at hx; obtain ⟨i,_,rfl⟩:=hx; rfl
  rw[this]; rfl
theorem tup3n_ren (π:Nm→Option Nm) (f:Nat→BitVec 8) (e:Nat):ren D π (.tup [Nil,.agg (aB 32 f),N e]) = .tup [Nil,.agg (aB 32 f),N e]:=by
  show LV.tup [Nil,.agg ((aB 32 f).map (ren 6 π)),N e]=_
  rw[aB_ren6]
set_option maxRecDepth 20000 in
theorem build_A (k:Nat) (l:List (BitVec 8)) (n:Nat) (hl:l.length=32*n) (hn:1≤n∧n≤4096) :
    F C (k+2000) 10 [.isl (bs l) n] []=some (.tup [.sl (1,0) 0 (nl n+1) none 1,.agg (aB 32 (buildR l n)),N 0],[],[outC l n (nl n+1)]):=by
  rw[qch f10]
  have hic:=isCount_FN (k+1998) n
  rw[decide_eq_true hn] at hic
  obtain ⟨c,hlv,_⟩:=levels_F (k+1989) n hn
  have hlc:=fun (b:Nat) (H:Heap)=>row_new (k+1999) b 18 H n l18 _ _ _ hlv
  have hn2:=nl_le n
  simp (disch:=first|omega|decide|simp only[nms_B8,qcy,qcR,nms_I,qaO,nms_Bo,nms_Un,qaL,nms_Hf,qaP,qaK,qbF,qbU,qci,qck,zS,zW,zP,zR,ren_B8,qcX,qcY,ren_I,ren_N,ren_Bo,ren_Un,qa9,ren_Hf,qbM,qcd,qcj,qcl,zG,zF,ren7_I,ren7_N,qc0,qc1,qcE,qcF,nms7_I,nms7_N,qc2,qc3,qcG,qcH,qc4,qc5,implies_true,l18,l27,l28,qai,qbh,qaW,qbd,qa8,qag,qak,qaj,qah,qae,qac,qad,qan]) only[qbb,qba,qau,qa3,qao,qap,qam,qaf,qaq,qaz,qaI,qar,qaF,op_un,qa1,qaT,qaa,qaw,qat,zK,zL,zN,zO,zG,zF,zP,zV,qa5,zy,zJ,zM,qcU,qcB,calK_Bo,qbZ,Nat.reduceAdd,Nat.reduceSub,qbR,zB,zE,qbH,zE,zB,Nat.reduceAdd,zf,qbi,qaV,qbL,qbD,qax,qaM,qay,qal,L10,hic,hlc,qal]
  generalize hL:qca L10k1 _ _ _=r
  refine qbJ hL (vIA l n (nl n+1)) (nl n+1) (by omega) (fun j st hj hI => ?_) ?_ ?_ ?_
  · have hv:∃ st1,ev (envC C (k+1999)) (k+1999) L10b1 st=some (.normal,st1)∧vPA l n (nl n+1) (j+1) (qby L10k1 st1):=by
      rcases hI with ⟨rfl,hI⟩ | ⟨hj0,hI⟩
      · exact v_roundA0 _ _ (by omega) (by omega) l n hl hn _ (by omega) (by omega) st hI
      · exact v_roundA1 _ _ (by omega) (by omega) l n hl hn _ (by omega) j hj0 hj st hI
    obtain ⟨st1,q1,q2⟩:=hv
    exact ⟨st1,q1,.inr ⟨by omega,q2⟩⟩
  · refine .inl ⟨rfl, qaU [(3, 0)] rfl (by simp only [qaA, FUEL, qaH, qaD, qaE, qaP, qaL, zS, zW, zP, zR, zk, zF, zY, zD, ze, Nat.reduceEqDiff, zH, zC, zA, zm, zg, zl, ne_eq, zq, qab, qaJ, qaC, qav, qaZ, qaO, qbu, L10k1, qbS, qbd, qbu, qaO]) ?_ ⟨_, rfl, ?_⟩⟩
    · simp only [L10k1, zG, zF, qda, qa8, qbT, qaC, qav, qaJ, qa9, qa8]
      rfl
    · exact qas (3,0) rfl (by simp only[qab,zD,Nat.reduceEqDiff,zH,zC,zA]) (qbj _ _ _)
  · rintro st (⟨he, _⟩ | ⟨_, H, rfl, h0, h1, h2⟩)
    · omega
    · apply qbs
      simp (disch:=first|omega|decide|simp only[qai,qag,qak,qaj,qah,qae,qac,qad,qan]) only[qa6,qau,qao,qap,qam,qaf,qaN,qaq,qaz,qar,qaB,qaa,qaG,qaw,qat,zK,zL,zN,zO,zJ,zM,Nat.reduceAdd,zB,zE,zQ,qa2,Nat.reduceAdd,zj,zQ,L10b1,zj]
      rfl
  · rintro st (⟨he, _⟩ | ⟨_, H, rfl, h0, h1, h2⟩) hr
    · omega
    · subst hr
      have hc1:=outC_cell l n (nl n+1) (nl n) (by omega)
      have ht:=cn_top hn
      have hc2:=fun (H:Heap)=>ndC_cell0 H (lay l n (nl n)) (cn n (nl n+1)) (by omega)
      have hll:=lay_length hl (nl n)
      have hnd:=nd_length hll 0
      have hrt:=root_F (k+1998) n (nl n) (Ab.nd (lay l n (nl n)) 0) (by omega) (by omega)
      have hia:iaSV 1 (some 0) (.isl (Ab.ndC (lay l n (nl n)) (cn n (nl n+1))) (cn n (nl n+1)))=some (.ipt (Ab.ndC (lay l n (nl n)) (cn n (nl n+1)))):=by rw[qbC _ _ _ _ (by omega)]; rfl
      rw[hnd] at hrt
      have htc:=fun (b:Nat) (H:Heap)=>call_isl (k+1999) b 29 H _ _ rfl (by rw[zS,zS,zS,qbd]; rfl) (by rw[zG,zG,zG,qa8]; rfl) hrt (by intro π; exact qbM _ _ _)
      have e1:nl n+1 - 1=nl n:=by omega
      have e2:nl n < nl n+1:=by omega
      simp (disch:=first|omega|decide|simp only[qai,qag,qak,qaj,qah,qae,qac,qad,qan]) only[qbp,qa6,qau,qao,qap,qam,qaf,qaq,qa7,qaz,qaI,qar,qaF,qaB,qa1,qaT,qaa,qaG,qbc,qaw,qat,qbg,zK,zL,zN,zO,zG,zF,zJ,zM,zI,Nat.reduceAdd,qab,qaX,qaQ,qbe,qbx,qbt,qbf,zC,zB,zE,zQ,qbP,qbm,zZ,zE,zB,N_sub,qa2,qbO,Nat.reduceAdd,zj,zQ,qbi,qaV,qbL,qbD,qb7,qbG,qax,qay,qa0,zI,zZ,qal,L10b1,zj,h0,h1,hc1,hc2,hia,htc,e1,qbG,zZ,zB,resVal_3,tup3K_some,qal]
      rw[qcc 0 _ _ [(1,1)] (by simp only[qaA,FUEL,qaH,qaD,qaE,zS,zW,zP,zR,zk,zF,zY,zD,ze,zU,zC,zA,zd,zm,zg,zl,ne_eq,zq,qab,tup3_nms,outC_nms,h1])]
      rw[tup3_ren (qdg [(1,1)]) (1,1) (1,0) _ _ _ _ _ rfl]
      simp (disch:=first|omega|decide|simp only[qai,qag,qak,qaj,qah,qae,qac,qad,qan]) only[zG,zF,qab,zD,zU,false_and,zA,zd,zi,zzC,List.filterMap_cons,zk,h1,qcN]
      rfl
theorem build_noA (k:Nat) (l:List (BitVec 8)) (n:Nat) (hn:¬ (1≤n∧n≤4096)) (hn2:n < 9000000000000):F C (k+2000) 10 [.isl (bs l) n] []=some (.tup [Nil,.agg (aB 32 zero32),N 1],[],[]):=by
  rw[qch f10]
  have hic:=isCount_FN (k+1998) n
  rw[decide_eq_false hn] at hic
  simp (disch:=first|omega|decide|simp only[nms_B8,qcy,qcR,nms_I,qaO,nms_Bo,nms_Un,qaL,nms_Hf,qaP,qaK,qbF,qbU,qci,qck,zS,zW,zP,zR,ren_B8,qcX,qcY,ren_I,ren_N,ren_Bo,ren_Un,qa9,ren_Hf,qbM,qcd,qcj,qcl,zG,zF,ren7_I,ren7_N,qc0,qc1,qcE,qcF,nms7_I,nms7_N,qc2,qc3,qcG,qcH,qc4,qc5,implies_true,l18,l27,l28,qai,qbh,qaW,qbd,qa8,qag,qak,qaj,qah,qae,qac,qad,qan]) only[qbb,qbp,qau,qao,qap,qam,qaf,qaq,qa7,qaz,qaI,qar,qaF,op_un,qa1,qaT,qaa,qbQ,qaw,qaY,qbg,zK,zL,zN,zO,zG,zF,zP,zV,qa5,zy,zJ,zM,qcU,qcB,calK_Bo,zI,Nat.reduceAdd,Nat.reduceSub,qab,qaX,qaQ,qbR,qbt,qbf,qbW,aggR_some,op_build,zC,zB,zE,qbH,qbP,qbm,zE,zB,Nat.reduceAdd,zu,qbi,qaV,qbD,qax,qaM,qay,qa0,zI,qaZ,qal,L10,hic,resVal_3,tup3K_some,qal]
  rw[qcc 0 _ _ [] (by simp only[qaA,FUEL,qaE,zS,zW,zR,zk,zF,zg,tup3n_nms])]
  simp (disch:=first|omega|decide|simp only[qai,qag,qak,qaj,qah,qae,qac,qad,qan]) only[zF,qab,zD,Nat.reduceEqDiff,false_and,zA,zzC,qbn,zk,tup3n_ren]
  rfl
set_option maxRecDepth 20000 in
theorem build_B (k:Nat) (l:List (BitVec 8)) (n:Nat) (cap:Option Nat) (hl:l.length=32*n) (hn:1≤n∧n≤4096) :
    F C (k+2000) 10 [.sl (0,0) 0 n cap 32] [bs l]=some (.tup [.sl (1,0) 0 (nl n+1) none 1,.agg (aB 32 (buildR l n)),N 0],[some (bs l)],[outC l n (nl n+1)]):=by
  rw[qch f10]
  have hic:=isCount_FN (k+1998) n
  rw[decide_eq_true hn] at hic
  obtain ⟨c,hlv,_⟩:=levels_F (k+1989) n hn
  have hlc:=fun (b:Nat) (H:Heap)=>row_new (k+1999) b 18 H n l18 _ _ _ hlv
  have hn2:=nl_le n
  simp (disch:=first|omega|decide|simp only[nms_B8,qcy,qcR,nms_I,qaO,nms_Bo,nms_Un,qaL,nms_Hf,qaP,qaK,qbF,qbU,qci,qck,zS,zW,zP,zR,ren_B8,qcX,qcY,ren_I,ren_N,ren_Bo,ren_Un,qa9,ren_Hf,qbM,qcd,qcj,qcl,zG,zF,ren7_I,ren7_N,qc0,qc1,qcE,qcF,nms7_I,nms7_N,qc2,qc3,qcG,qcH,qc4,qc5,implies_true,l18,l27,l28,qai,qbh,qaW,qbd,qa8,qag,qak,qaj,qah,qae,qac,qad,qan]) only[qbb,qba,qau,qa3,qao,qap,qam,qaf,qaq,qaz,qaI,qar,qaF,op_un,qa1,qaT,qaa,qaw,qat,zK,zL,zN,zO,zG,zF,zP,zV,qa5,zy,zJ,zM,qcU,qcB,calK_Bo,qbZ,Nat.reduceAdd,Nat.reduceSub,qbR,zB,zE,qbH,zE,zB,Nat.reduceAdd,zf,qbi,qaV,qbL,qax,qaM,qay,qal,L10,hic,hlc,qal]
  generalize hL:qca L10k1 _ _ _=r
  refine qbJ hL (vIB l n cap (nl n+1)) (nl n+1) (by omega) (fun j st hj hI => ?_) ?_ ?_ ?_
  · have hv:∃ st1,ev (envC C (k+1999)) (k+1999) L10b1 st=some (.normal,st1)∧vPB l n cap (nl n+1) (j+1) (qby L10k1 st1):=by
      rcases hI with ⟨rfl,hI⟩ | ⟨hj0,hI⟩
      · exact v_roundB0 _ _ (by omega) (by omega) l n cap hl hn _ (by omega) (by omega) st hI
      · exact v_roundB1 _ _ (by omega) (by omega) l n cap hl hn _ (by omega) j hj0 hj st hI
    obtain ⟨st1,q1,q2⟩:=hv
    exact ⟨st1,q1,.inr ⟨by omega,q2⟩⟩
  · refine .inl ⟨rfl, qaU [(3, 0)] rfl (by simp only [qaA, FUEL, qaH, qaD, qaE, qaP, qaK, qaL, zS, zW, zP, zV, zR, zF, zG, zY, za, zD, zt, zo, ze, Nat.reduceEqDiff, zH, zp, zzF, zC, zA, zm, zg, zl, ne_eq, zq, z9, qab, qaJ, qaC, qav, qbn, qaZ, qce, List.getElem?_cons_zero, qaO, qbu, L10k1, qbS, qbh, qaK, qbu, qaO, qbn, List.getElem?_cons_zero]) ?_ ⟨_, rfl, ?_, ?_⟩⟩
    · simp only [L10k1, zG, zF, qda, qcM, qbT, qbk, qbX, qaC, qav, qaJ, qa9]
      rfl
    · exact qas (3,0) rfl (by simp only[qab,zD,Nat.reduceEqDiff,zH,zC,zA]) (qbj _ _ _)
    · rw [qcm]
      simp (disch:=first|omega|decide|simp only[qai,qag,qak,qaj,qah,qae,qac,qad,qan]) only[zI,qab,zD,Nat.reduceEqDiff,zH,zA,zI,qaW,qbn,List.getElem?_cons_zero,qbn,List.getElem?_cons_zero,qaW]
  · rintro st (⟨he, _⟩ | ⟨_, H, rfl, h0, h1, h2, h00⟩)
    · omega
    · apply qbs
      simp (disch:=first|omega|decide|simp only[qai,qag,qak,qaj,qah,qae,qac,qad,qan]) only[qa6,qau,qao,qap,qam,qaf,qaN,qaq,qaz,qar,qaB,qaa,qaG,qaw,qat,zK,zL,zN,zO,zJ,zM,Nat.reduceAdd,zB,zE,zQ,qa2,Nat.reduceAdd,zj,zQ,L10b1,zj]
      rfl
  · rintro st (⟨he, _⟩ | ⟨_, H, rfl, h0, h1, h2, h00⟩) hr
    · omega
    · subst hr
      have hc1:=outC_cell l n (nl n+1) (nl n) (by omega)
      have ht:=cn_top hn
      have hc2:=fun (H:Heap)=>ndC_cell0 H (lay l n (nl n)) (cn n (nl n+1)) (by omega)
      have hll:=lay_length hl (nl n)
      have hnd:=nd_length hll 0
      have hrt:=root_F (k+1998) n (nl n) (Ab.nd (lay l n (nl n)) 0) (by omega) (by omega)
      have hia:iaSV 1 (some 0) (.isl (Ab.ndC (lay l n (nl n)) (cn n (nl n+1))) (cn n (nl n+1)))=some (.ipt (Ab.ndC (lay l n (nl n)) (cn n (nl n+1)))):=by rw[qbC _ _ _ _ (by omega)]; rfl
      rw[hnd] at hrt
      have htc:=fun (b:Nat) (H:Heap)=>call_isl (k+1999) b 29 H _ _ rfl (by rw[zS,zS,zS,qbd]; rfl) (by rw[zG,zG,zG,qa8]; rfl) hrt (by intro π; exact qbM _ _ _)
      have e1:nl n+1 - 1=nl n:=by omega
      have e2:nl n < nl n+1:=by omega
      simp (disch:=first|omega|decide|simp only[qai,qag,qak,qaj,qah,qae,qac,qad,qan]) only[qbp,qa6,qau,qao,qap,qam,qaf,qaq,qa7,qaz,qaI,qar,qaF,qaB,qa1,qaT,qaa,qaG,qbc,qaw,qat,qbg,zK,zL,zN,zO,zG,zF,zJ,zM,zI,Nat.reduceAdd,qab,qaX,qaQ,qbe,qbx,qbt,qbf,zC,zB,zE,zQ,qbP,qbm,zZ,zE,zB,N_sub,qa2,qbO,Nat.reduceAdd,zj,zQ,qbi,qaV,qbL,qb7,qbG,qax,qay,qa0,zI,zZ,qal,L10b1,zj,h0,h1,hc1,hc2,hia,htc,e1,qbG,zZ,zB,resVal_3,tup3K_some,qal]
      rw[qcc 1 _ _ [(1,1)] (by simp only[qaA,FUEL,qaH,qaD,qaE,zS,zW,zP,zV,zR,zF,zG,zY,za,zD,zt,zo,ze,zH,zU,zp,zC,zA,zd,zi,zm,zg,zl,ne_eq,zq,z9,qab,qce,tup3_nms,outC_nms,h1,h00,qbh])]
      rw[tup3_ren (qdg [(1,1)]) (1,1) (1,0) _ _ _ _ _ rfl]
      simp (disch:=first|omega|decide|simp only[qai,qag,qak,qaj,qah,qae,qac,qad,qan]) only[zG,zF,zI,qab,zD,zU,false_and,zA,zd,zi,zzC,zI,qaW,qce,List.filterMap_cons,h1,h00,qcN,qaW]
      rfl
theorem build_noB (k:Nat) (l:List (BitVec 8)) (n:Nat) (cap:Option Nat) (hn:¬ (1≤n∧n≤4096)) (hn2:n < 9000000000000):F C (k+2000) 10 [.sl (0,0) 0 n cap 32] [bs l]=some (.tup [Nil,.agg (aB 32 zero32),N 1],[some (bs l)],[]):=by
  rw[qch f10]
  have hic:=isCount_FN (k+1998) n
  rw[decide_eq_false hn] at hic
  simp (disch:=first|omega|decide|simp only[nms_B8,qcy,qcR,nms_I,qaO,nms_Bo,nms_Un,qaL,nms_Hf,qaP,qaK,qbF,qbU,qci,qck,zS,zW,zP,zR,ren_B8,qcX,qcY,ren_I,ren_N,ren_Bo,ren_Un,qa9,ren_Hf,qbM,qcd,qcj,qcl,zG,zF,ren7_I,ren7_N,qc0,qc1,qcE,qcF,nms7_I,nms7_N,qc2,qc3,qcG,qcH,qc4,qc5,implies_true,l18,l27,l28,qai,qbh,qaW,qbd,qa8,qag,qak,qaj,qah,qae,qac,qad,qan]) only[qbb,qbp,qau,qao,qap,qam,qaf,qaq,qa7,qaz,qaI,qar,qaF,op_un,qa1,qaT,qaa,qbQ,qaw,qaY,qbg,zK,zL,zN,zO,zG,zF,zP,zV,qa5,zy,zJ,zM,qcU,qcB,calK_Bo,zI,Nat.reduceAdd,Nat.reduceSub,qab,qaX,qaQ,qbR,qbt,qbf,qbW,aggR_some,op_build,zC,zB,zE,qbH,qbP,qbm,zE,zB,Nat.reduceAdd,zu,qbi,qaV,qbL,qax,qaM,qay,qa0,zI,qaZ,qal,L10,hic,resVal_3,tup3K_some,qal]
  rw[qcc 1 _ _ [] (by simp only[qaA,FUEL,qaH,qaD,qaE,zS,zW,zP,zR,zF,zG,zY,zD,ze,Nat.reduceEqDiff,zH,zA,zm,zg,zl,ne_eq,z9,qab,qbn,qce,List.getElem?_cons_zero,tup3n_nms,qbn,List.getElem?_cons_zero,qbh])]
  simp (disch:=first|omega|decide|simp only[qai,qag,qak,qaj,qah,qae,qac,qad,qan]) only[zG,zF,zI,qab,zD,Nat.reduceEqDiff,false_and,zA,zzC,zI,qaW,qbn,qce,List.getElem?_cons_zero,tup3n_ren,qaW]
  rfl
end Sha
namespace Sha
open Go Go.LE
theorem build_callA (k b:Nat) (H:Heap) (l:List (BitVec 8)) (n:Nat) (hl:l.length=32*n) (hn:1≤n∧n≤4096) :
    qb1 (envC C (k+2000)) H b 10 [.isl (bs l) n]=some ⟨.tup [.sl (b,0) 0 (nl n+1) none 1,.agg (aB 32 (buildR l n)),N 0],[outC l n (nl n+1)],[]⟩:=by
  rw[qcB l10 (by rw[zS,qbd]; rfl) (by rw[zG,qa8]; rfl),build_A k l n hl hn]
  simp only[calK,qc9,zG,zF,qcN,List.zipWith_nil_left]
  rw[tup3_ren _ (1,0) (b,0) _ _ _ _ _ (toCaller_1 _ _ _ _ (by simp))]
theorem build_call_noA (k b:Nat) (H:Heap) (l:List (BitVec 8)) (n:Nat) (hn:¬ (1≤n∧n≤4096)) (hn2:n < 9000000000000) :
    qb1 (envC C (k+2000)) H b 10 [.isl (bs l) n]=some ⟨.tup [Nil,.agg (aB 32 zero32),N 1],[],[]⟩:=by
  rw[qcB l10 (by rw[zS,qbd]; rfl) (by rw[zG,qa8]; rfl),build_noA k l n hn hn2]
  simp only[calK,qc9,zG,zF,List.zipWith_nil_left,tup3n_ren]
theorem callB (k b g:Nat) (hb:lentF g 0=false) (H:Heap) (r:Nm) (l:List (BitVec 8)) (n:Nat) (cap:Option Nat) (h:H r=some (bs l)) (res:CallRes) (hF:F C k g [.sl (0,0) 0 n cap 32] [bs l]=some res) :
    qb1 (envC C k) H b g [.sl r 0 n cap 32]=some (backTo [r] b res):=by
  have hr:reach H FUEL [] [r]=[r]:=by
    simp only[FUEL,qaH,zY,ze,zA,h,qaD,qbh,zP,qaE]
  have hl':lend H ((envC C k).borrow g) 0 [.sl r 0 n cap 32]=some ([.sl r 0 n cap 32],[]):=by
    rw[qde,lend_nil,envC_borrow,C_bor,if_neg (by rw[hb]; decide),lendC_some]; rfl
  rw[callOp_L,hl',callL_some]
  rw[show ([LV.sl r 0 n cap 32]:List LV).flatMap (nms D)=[r] from rfl,hr,callN_eq _ _ _ _ _ rfl]
  rw[show ([r]:List Nm).filterMap H=[bs l] by simp[h]]
  have ha:([LV.sl r 0 n cap 32]:List LV).map (ren D (qc7 [r]))=[.sl (0,0) 0 n cap 32]:=by
    simp only[zG,zF,qbk,toCallee_eq,idx,zC,zI,qbX]
  rw[ha,zG,zF,qaW,envC_cal,hF,show ([]:List Nm).isEmpty=true from rfl,resK_sc]
theorem build_callB (k b:Nat) (H:Heap) (r:Nm) (l:List (BitVec 8)) (n:Nat) (cap:Option Nat) (hl:l.length=32*n) (hn:1≤n∧n≤4096) (h:H r=some (bs l)) :
    qb1 (envC C (k+2000)) H b 10 [.sl r 0 n cap 32]=some ⟨.tup [.sl (b,0) 0 (nl n+1) none 1,.agg (aB 32 (buildR l n)),N 0],[outC l n (nl n+1)],[(r,some (bs l))]⟩:=by
  rw[callB _ b 10 (by rw[l10]) H r l n cap h _ (build_B k l n cap hl hn)]
  simp only[qc9,zG,zF,qcN,qaW,List.zipWith_cons_cons,List.zipWith_nil_left,zI]
  rw[tup3_ren _ (1,0) (b,0) _ _ _ _ _ (toCaller_1 _ _ _ _ (by simp))]
theorem build_call_noB (k b:Nat) (H:Heap) (r:Nm) (l:List (BitVec 8)) (n:Nat) (cap:Option Nat) (hn:¬ (1≤n∧n≤4096)) (hn2:n < 9000000000000) (h:H r=some (bs l)) :
    qb1 (envC C (k+2000)) H b 10 [.sl r 0 n cap 32]=some ⟨.tup [Nil,.agg (aB 32 zero32),N 1],[],[(r,some (bs l))]⟩:=by
  rw[callB _ b 10 (by rw[l10]) H r l n cap h _ (build_noB k l n cap hn hn2)]
  simp only[qc9,zG,zF,qaW,List.zipWith_cons_cons,List.zipWith_nil_left,zI,tup3n_ren]
end Sha
namespace Sha
open Go Go.LE
def toV (l:List (BitVec 32)):Nat→BitVec 32:=vec8 (l.getD 0 0#32) (l.getD 1 0#32) (l.getD 2 0#32) (l.getD 3 0#32) (l.getD 4 0#32) (l.getD 5 0#32) (l.getD 6 0#32) (l.getD 7 0#32)
def stepL (l:List (BitVec 32)) (k w:BitVec 32):List (BitVec 32):=let s:=toV l
  [one s k w+two s,s 0,s 1,s 2,s 3+one s k w,s 4,s 5,s 6]
theorem set_take (L:List (BitVec 32)) (i:Nat) (h:i < L.length):set1 (fun j=>(L.take i).getD j 0#32) i (L.getD i 0#32)=fun j=>(L.take (i+1)).getD j 0#32:=by
  funext j
  simp only[set1,List.getD_eq_getElem?_getD,List.getElem?_take]
  by_cases hj:j=i
  · subst hj; simp
  · rw [if_neg hj]
    by_cases h2:j < i
    · rw[if_pos h2,if_pos (by omega)]
    · rw[if_neg h2,if_neg (by omega)]
theorem W_list (p:Nat→BitVec 8) (L:List (BitVec 32)) (hl:L.length=64) (h:∀ i,i < 64→wstep p (fun j=>(L.take i).getD j 0#32) i=L.getD i 0#32) :
    ∀ i,i≤64→W p i=fun j=>(L.take i).getD j 0#32:=by
  intro i
  induction i with
  | zero=>intro _; funext j; simp[W]
  | succ i ih=>intro hi; rw[W,ih (by omega),h i (by omega),set_take L i (by omega)]
theorem R_list (w:Nat→BitVec 32) (S:List (List (BitVec 32))) (h:∀ i,i < 64→stepL (S.getD i []) (kc i) (w i)=S.getD (i+1) []) :
    ∀ i,i≤64→R (toV (S.getD 0 [])) w i=toV (S.getD i []):=by
  intro i
  induction i with
  | zero=>intro _; rfl
  | succ i ih=>intro hi; rw[R,ih (by omega),←h i (by omega)]; rfl
theorem add_toV (a b c:List (BitVec 32)) (h:∀ j,j < 8→toV a j+toV b j=toV c j):addW (toV a) (toV b)=toV c:=by
  funext j
  by_cases hj:j < 8
  · exact h j hj
  · obtain ⟨d, rfl⟩ : ∃ d, j = d + 8 := ⟨j - 8, by omega⟩
    show (0#32:BitVec 32)+0#32=0#32
    decide
theorem blk_list (p:Nat→BitVec 8) (L:List (BitVec 32)) (S:List (List (BitVec 32))) (c:List (BitVec 32)) (hl:L.length=64) (h1:∀ i,i < 64→wstep p (fun j=>(L.take i).getD j 0#32) i=L.getD i 0#32)
    (h2:∀ i,i < 64→stepL (S.getD i []) (kc i) (L.getD i 0#32)=S.getD (i+1) []) (h3:∀ j,j < 8→toV (S.getD 0 []) j+toV (S.getD 64 []) j=toV c j):blk (toV (S.getD 0 [])) p=toV c:=by
  have e:W p 64=fun j=>L.getD j 0#32:=by
    rw[W_list p L hl h1 64 (Nat.le_refl _),List.take_of_length_le (by omega)]
  rw[blk,e,R_list _ S h2 64 (Nat.le_refl _),add_toV _ _ c h3]
def p_a:List (BitVec 8):=[0#8,97#8,128#8,0#8,0#8,0#8,0#8,0#8,0#8,0#8,0#8,0#8,0#8,0#8,0#8,0#8,0#8,0#8,0#8,0#8,0#8,0#8,0#8,0#8,0#8,0#8,0#8,0#8,0#8,0#8,0#8,0#8,0#8,0#8,0#8,0#8,0#8,0#8,0#8,0#8,0#8,0#8,0#8,0#8,0#8,0#8,0#8,0#8,0#8,0#8,0#8,0#8,0#8,0#8,0#8,0#8,0#8,0#8,0#8,0#8,0#8,0#8,0#8,16#8]
def L_a:List (BitVec 32):=[0x00618000#32,0x00000000#32,0x00000000#32,0x00000000#32,0x00000000#32,0x00000000#32,0x00000000#32,0x00000000#32,0x00000000#32,0x00000000#32,0x00000000#32,0x00000000#32,0x00000000#32,0x00000000#32,0x00000000#32,0x00000010#32,0x00618000#32,0x000a0000#32,0xf000185c#32,0x40000284#32,0x0f19e606#32,0x0102a800#32,0xcfc00026#32,0x0161c00b#32,0x002e4e18#32,0xc804d148#32,0x2ecf0e05#32,0x01d9623c#32,0x67cc297d#32,0x6d19f6b5#32,0xb2eeac22#32,0x25d29e92#32,0xcc2159cb#32,0xed627034#32,0x79ea22af#32,0x92706c4c#32,0x7b72560b#32,0x43eacf83#32,0xbd98e8d3#32,0xaf27e265#32,0x13b02f1b#32,0x1b49d3f5#32,0xf46120eb#32,0x4d37f98e#32,0x7ae0ec71#32,0x26c926b2#32,0x55143839#32,0xc9784e23#32,0x6af5a4a4#32,0xea10a309#32,0xbe77eb57#32,0xdf4b15d0#32,0x68448e61#32,0x0c6171f2#32,0x841b9740#32,0xf079883a#32,0x54cd159a#32,0x504612e1#32,0xe7768e04#32,0x576a9e8c#32,0x4775d082#32,0x3d6e3423#32,0xe5038199#32,0x27824bb4#32]
def S_a:List (List (BitVec 32)):=[[0x6a09e667#32,0xbb67ae85#32,0x3c6ef372#32,0xa54ff53a#32,0x510e527f#32,0x9b05688c#32,0x1f83d9ab#32,0x5be0cd19#32],
  [0xfc6a084d#32,0x6a09e667#32,0xbb67ae85#32,0x3c6ef372#32,0x992962a2#32,0x510e527f#32,0x9b05688c#32,0x1f83d9ab#32],
  [0x7e0e3f4b#32,0xfc6a084d#32,0x6a09e667#32,0xbb67ae85#32,0x2abd2dc6#32,0x992962a2#32,0x510e527f#32,0x9b05688c#32],
  [0x441a97c7#32,0x7e0e3f4b#32,0xfc6a084d#32,0x6a09e667#32,0x6452c5a2#32,0x2abd2dc6#32,0x992962a2#32,0x510e527f#32],
  [0x8a2a1da6#32,0x441a97c7#32,0x7e0e3f4b#32,0xfc6a084d#32,0x72c64c89#32,0x6452c5a2#32,0x2abd2dc6#32,0x992962a2#32],
  [0x4890fbdd#32,0x8a2a1da6#32,0x441a97c7#32,0x7e0e3f4b#32,0x0f289852#32,0x72c64c89#32,0x6452c5a2#32,0x2abd2dc6#32],
  [0xd46daae5#32,0x4890fbdd#32,0x8a2a1da6#32,0x441a97c7#32,0x3b403b17#32,0x0f289852#32,0x72c64c89#32,0x6452c5a2#32],
  [0x3cf7a2c0#32,0xd46daae5#32,0x4890fbdd#32,0x8a2a1da6#32,0x244b201d#32,0x3b403b17#32,0x0f289852#32,0x72c64c89#32],
  [0xc095c9ee#32,0x3cf7a2c0#32,0xd46daae5#32,0x4890fbdd#32,0x26132cd1#32,0x244b201d#32,0x3b403b17#32,0x0f289852#32],
  [0x7908d501#32,0xc095c9ee#32,0x3cf7a2c0#32,0xd46daae5#32,0x442f5823#32,0x26132cd1#32,0x244b201d#32,0x3b403b17#32],
  [0x5e8ea200#32,0x7908d501#32,0xc095c9ee#32,0x3cf7a2c0#32,0xe5489243#32,0x442f5823#32,0x26132cd1#32,0x244b201d#32],
  [0x07eeaba6#32,0x5e8ea200#32,0x7908d501#32,0xc095c9ee#32,0xaf302fd7#32,0xe5489243#32,0x442f5823#32,0x26132cd1#32],
  [0x62817ae7#32,0x07eeaba6#32,0x5e8ea200#32,0x7908d501#32,0x5d239452#32,0xaf302fd7#32,0xe5489243#32,0x442f5823#32],
  [0x084a40d5#32,0x62817ae7#32,0x07eeaba6#32,0x5e8ea200#32,0x305393f8#32,0x5d239452#32,0xaf302fd7#32,0xe5489243#32],
  [0x2bdda9ea#32,0x084a40d5#32,0x62817ae7#32,0x07eeaba6#32,0x19e85abd#32,0x305393f8#32,0x5d239452#32,0xaf302fd7#32],
  [0xd5049584#32,0x2bdda9ea#32,0x084a40d5#32,0x62817ae7#32,0xff283c0b#32,0x19e85abd#32,0x305393f8#32,0x5d239452#32],
  [0x075681ac#32,0xd5049584#32,0x2bdda9ea#32,0x084a40d5#32,0xd559dcbe#32,0xff283c0b#32,0x19e85abd#32,0x305393f8#32],
  [0x1161db55#32,0x075681ac#32,0xd5049584#32,0x2bdda9ea#32,0xbba46fbc#32,0xd559dcbe#32,0xff283c0b#32,0x19e85abd#32],
  [0xe4e97592#32,0x1161db55#32,0x075681ac#32,0xd5049584#32,0xe1e4e45a#32,0xbba46fbc#32,0xd559dcbe#32,0xff283c0b#32],
  [0x7d2df4b6#32,0xe4e97592#32,0x1161db55#32,0x075681ac#32,0x9c5586ea#32,0xe1e4e45a#32,0xbba46fbc#32,0xd559dcbe#32],
  [0x3dc15b9d#32,0x7d2df4b6#32,0xe4e97592#32,0x1161db55#32,0x428399fd#32,0x9c5586ea#32,0xe1e4e45a#32,0xbba46fbc#32],
  [0x3a5d4980#32,0x3dc15b9d#32,0x7d2df4b6#32,0xe4e97592#32,0x36dde325#32,0x428399fd#32,0x9c5586ea#32,0xe1e4e45a#32],
  [0xcb67af95#32,0x3a5d4980#32,0x3dc15b9d#32,0x7d2df4b6#32,0x3b534b30#32,0x36dde325#32,0x428399fd#32,0x9c5586ea#32],
  [0x16f6f7bb#32,0xcb67af95#32,0x3a5d4980#32,0x3dc15b9d#32,0xc815b8e7#32,0x3b534b30#32,0x36dde325#32,0x428399fd#32],
  [0x40f12b45#32,0x16f6f7bb#32,0xcb67af95#32,0x3a5d4980#32,0xc07eb14f#32,0xc815b8e7#32,0x3b534b30#32,0x36dde325#32],
  [0x05b4d7e9#32,0x40f12b45#32,0x16f6f7bb#32,0xcb67af95#32,0x2e5f1979#32,0xc07eb14f#32,0xc815b8e7#32,0x3b534b30#32],
  [0x826853f8#32,0x05b4d7e9#32,0x40f12b45#32,0x16f6f7bb#32,0x1b604f5a#32,0x2e5f1979#32,0xc07eb14f#32,0xc815b8e7#32],
  [0xc35221e8#32,0x826853f8#32,0x05b4d7e9#32,0x40f12b45#32,0xbb46e005#32,0x1b604f5a#32,0x2e5f1979#32,0xc07eb14f#32],
  [0x50bae419#32,0xc35221e8#32,0x826853f8#32,0x05b4d7e9#32,0x97268990#32,0xbb46e005#32,0x1b604f5a#32,0x2e5f1979#32],
  [0x3d4b877a#32,0x50bae419#32,0xc35221e8#32,0x826853f8#32,0xe111a3d8#32,0x97268990#32,0xbb46e005#32,0x1b604f5a#32],
  [0x75abaaa5#32,0x3d4b877a#32,0x50bae419#32,0xc35221e8#32,0x0c1a75ae#32,0xe111a3d8#32,0x97268990#32,0xbb46e005#32],
  [0x25974f09#32,0x75abaaa5#32,0x3d4b877a#32,0x50bae419#32,0xcc51f896#32,0x0c1a75ae#32,0xe111a3d8#32,0x97268990#32],
  [0x00e3b729#32,0x25974f09#32,0x75abaaa5#32,0x3d4b877a#32,0xb002302b#32,0xcc51f896#32,0x0c1a75ae#32,0xe111a3d8#32],
  [0xa9009909#32,0x00e3b729#32,0x25974f09#32,0x75abaaa5#32,0x48fc2286#32,0xb002302b#32,0xcc51f896#32,0x0c1a75ae#32],
  [0xa5829341#32,0xa9009909#32,0x00e3b729#32,0x25974f09#32,0x594155fb#32,0x48fc2286#32,0xb002302b#32,0xcc51f896#32],
  [0x08f29bef#32,0xa5829341#32,0xa9009909#32,0x00e3b729#32,0x93e6c99d#32,0x594155fb#32,0x48fc2286#32,0xb002302b#32],
  [0x264a2ef0#32,0x08f29bef#32,0xa5829341#32,0xa9009909#32,0xa67fed84#32,0x93e6c99d#32,0x594155fb#32,0x48fc2286#32],
  [0x1e46cd51#32,0x264a2ef0#32,0x08f29bef#32,0xa5829341#32,0x4bdc5105#32,0xa67fed84#32,0x93e6c99d#32,0x594155fb#32],
  [0xc632174c#32,0x1e46cd51#32,0x264a2ef0#32,0x08f29bef#32,0x27461581#32,0x4bdc5105#32,0xa67fed84#32,0x93e6c99d#32],
  [0xb86d3b55#32,0xc632174c#32,0x1e46cd51#32,0x264a2ef0#32,0x77664099#32,0x27461581#32,0x4bdc5105#32,0xa67fed84#32],
  [0x7c8d4216#32,0xb86d3b55#32,0xc632174c#32,0x1e46cd51#32,0x04157654#32,0x77664099#32,0x27461581#32,0x4bdc5105#32],
  [0x7084a838#32,0x7c8d4216#32,0xb86d3b55#32,0xc632174c#32,0xd8057518#32,0x04157654#32,0x77664099#32,0x27461581#32],
  [0x9ca2d765#32,0x7084a838#32,0x7c8d4216#32,0xb86d3b55#32,0x9b0574b4#32,0xd8057518#32,0x04157654#32,0x77664099#32],
  [0x644c1b66#32,0x9ca2d765#32,0x7084a838#32,0x7c8d4216#32,0x48dacdca#32,0x9b0574b4#32,0xd8057518#32,0x04157654#32],
  [0x949e23eb#32,0x644c1b66#32,0x9ca2d765#32,0x7084a838#32,0x2a590d75#32,0x48dacdca#32,0x9b0574b4#32,0xd8057518#32],
  [0x2be2f2a3#32,0x949e23eb#32,0x644c1b66#32,0x9ca2d765#32,0x84e5051b#32,0x2a590d75#32,0x48dacdca#32,0x9b0574b4#32],
  [0x999e97c4#32,0x2be2f2a3#32,0x949e23eb#32,0x644c1b66#32,0x3d47cc36#32,0x84e5051b#32,0x2a590d75#32,0x48dacdca#32],
  [0x11ea1cf8#32,0x999e97c4#32,0x2be2f2a3#32,0x949e23eb#32,0xfa7b0918#32,0x3d47cc36#32,0x84e5051b#32,0x2a590d75#32],
  [0x2429b65c#32,0x11ea1cf8#32,0x999e97c4#32,0x2be2f2a3#32,0x53135b3e#32,0xfa7b0918#32,0x3d47cc36#32,0x84e5051b#32],
  [0xcddf7b41#32,0x2429b65c#32,0x11ea1cf8#32,0x999e97c4#32,0xcae59abe#32,0x53135b3e#32,0xfa7b0918#32,0x3d47cc36#32],
  [0x706a81b5#32,0xcddf7b41#32,0x2429b65c#32,0x11ea1cf8#32,0x2f892405#32,0xcae59abe#32,0x53135b3e#32,0xfa7b0918#32],
  [0xeb7c4869#32,0x706a81b5#32,0xcddf7b41#32,0x2429b65c#32,0x9d42bb14#32,0x2f892405#32,0xcae59abe#32,0x53135b3e#32],
  [0xfa9faf1c#32,0xeb7c4869#32,0x706a81b5#32,0xcddf7b41#32,0x6c992dc2#32,0x9d42bb14#32,0x2f892405#32,0xcae59abe#32],
  [0xac2a4b88#32,0xfa9faf1c#32,0xeb7c4869#32,0x706a81b5#32,0x468ef0bc#32,0x6c992dc2#32,0x9d42bb14#32,0x2f892405#32],
  [0xd3163c08#32,0xac2a4b88#32,0xfa9faf1c#32,0xeb7c4869#32,0x7ae0a1b5#32,0x468ef0bc#32,0x6c992dc2#32,0x9d42bb14#32],
  [0xdd3a31cf#32,0xd3163c08#32,0xac2a4b88#32,0xfa9faf1c#32,0x42251631#32,0x7ae0a1b5#32,0x468ef0bc#32,0x6c992dc2#32],
  [0x8cc96365#32,0xdd3a31cf#32,0xd3163c08#32,0xac2a4b88#32,0x18377e23#32,0x42251631#32,0x7ae0a1b5#32,0x468ef0bc#32],
  [0x013bc582#32,0x8cc96365#32,0xdd3a31cf#32,0xd3163c08#32,0x72b8371c#32,0x18377e23#32,0x42251631#32,0x7ae0a1b5#32],
  [0xf2e4da8a#32,0x013bc582#32,0x8cc96365#32,0xdd3a31cf#32,0xf576c411#32,0x72b8371c#32,0x18377e23#32,0x42251631#32],
  [0x218d257e#32,0xf2e4da8a#32,0x013bc582#32,0x8cc96365#32,0x8259097c#32,0xf576c411#32,0x72b8371c#32,0x18377e23#32],
  [0x972c6946#32,0x218d257e#32,0xf2e4da8a#32,0x013bc582#32,0x6b404971#32,0x8259097c#32,0xf576c411#32,0x72b8371c#32],
  [0x3f0f895d#32,0x972c6946#32,0x218d257e#32,0xf2e4da8a#32,0x2e442c23#32,0x6b404971#32,0x8259097c#32,0xf576c411#32],
  [0x1e75d073#32,0x3f0f895d#32,0x972c6946#32,0x218d257e#32,0x9f3e12c8#32,0x2e442c23#32,0x6b404971#32,0x8259097c#32],
  [0x2b730925#32,0x1e75d073#32,0x3f0f895d#32,0x972c6946#32,0x9a8e1981#32,0x9f3e12c8#32,0x2e442c23#32,0x6b404971#32],
  [0x98208312#32,0x2b730925#32,0x1e75d073#32,0x3f0f895d#32,0x20045567#32,0x9a8e1981#32,0x9f3e12c8#32,0x2e442c23#32]]
def c_a:List (BitVec 32):=[0x022a6979#32,0xe6dab7aa#32,0x5ae4c3e5#32,0xe45f7e97#32,0x7112a7e6#32,0x3593820d#32,0xbec1ec73#32,0x8a24f93c#32]
theorem blk_a:blk (toV (S_a.getD 0 [])) (chunk p_a 0)=toV c_a :=
  blk_list _ L_a S_a c_a rfl (by decide +kernel) (by decide +kernel) (by decide +kernel)
def p_b:List (BitVec 8):=[0#8,98#8,128#8,0#8,0#8,0#8,0#8,0#8,0#8,0#8,0#8,0#8,0#8,0#8,0#8,0#8,0#8,0#8,0#8,0#8,0#8,0#8,0#8,0#8,0#8,0#8,0#8,0#8,0#8,0#8,0#8,0#8,0#8,0#8,0#8,0#8,0#8,0#8,0#8,0#8,0#8,0#8,0#8,0#8,0#8,0#8,0#8,0#8,0#8,0#8,0#8,0#8,0#8,0#8,0#8,0#8,0#8,0#8,0#8,0#8,0#8,0#8,0#8,16#8]
def L_b:List (BitVec 32):=[0x00628000#32,0x00000000#32,0x00000000#32,0x00000000#32,0x00000000#32,0x00000000#32,0x00000000#32,0x00000000#32,0x00000000#32,0x00000000#32,0x00000000#32,0x00000000#32,0x00000000#32,0x00000000#32,0x00000000#32,0x00000010#32,0x00628000#32,0x000a0000#32,0x1000189d#32,0x40000284#32,0x0f592a06#32,0x0102a800#32,0xb040101d#32,0x0162c00b#32,0x0a2b7e2c#32,0x4804d0ca#32,0x10d11113#32,0x01c7963c#32,0xabb28636#32,0xea1a015b#32,0x355e2c1b#32,0xeaf42222#32,0x9bec505b#32,0xe451ed61#32,0xb3e904cd#32,0xfe4c7855#32,0x46691139#32,0x12f0963f#32,0xec0aa1d5#32,0x7e06231c#32,0x9d0ab672#32,0x325f4b16#32,0xbaa2668b#32,0x6ec28f51#32,0x691eadc0#32,0xa84581d6#32,0x86aaa3fb#32,0xa9571d2e#32,0x78099bfb#32,0xd836c69c#32,0xcb68cdea#32,0x6126c260#32,0xc81db150#32,0x712be9bc#32,0xc40e1108#32,0xdb0da041#32,0x38c0d173#32,0xfb6a1543#32,0x9b34837b#32,0xa5998ba2#32,0x846c9c80#32,0xb006d38d#32,0xcedd75a2#32,0x34c35ca2#32]
def S_b:List (List (BitVec 32)):=[[0x6a09e667#32,0xbb67ae85#32,0x3c6ef372#32,0xa54ff53a#32,0x510e527f#32,0x9b05688c#32,0x1f83d9ab#32,0x5be0cd19#32],
  [0xfc6b084d#32,0x6a09e667#32,0xbb67ae85#32,0x3c6ef372#32,0x992a62a2#32,0x510e527f#32,0x9b05688c#32,0x1f83d9ab#32],
  [0x7a910af3#32,0xfc6b084d#32,0x6a09e667#32,0xbb67ae85#32,0x2b403966#32,0x992a62a2#32,0x510e527f#32,0x9b05688c#32],
  [0x056708d2#32,0x7a910af3#32,0xfc6b084d#32,0x6a09e667#32,0x79b15112#32,0x2b403966#32,0x992a62a2#32,0x510e527f#32],
  [0x6f1d8604#32,0x056708d2#32,0x7a910af3#32,0xfc6b084d#32,0x00d9c27f#32,0x79b15112#32,0x2b403966#32,0x992a62a2#32],
  [0xaa25f563#32,0x6f1d8604#32,0x056708d2#32,0x7a910af3#32,0xd97fea0d#32,0x00d9c27f#32,0x79b15112#32,0x2b403966#32],
  [0x749e1c50#32,0xaa25f563#32,0x6f1d8604#32,0x056708d2#32,0xe9c80022#32,0xd97fea0d#32,0x00d9c27f#32,0x79b15112#32],
  [0x373794fd#32,0x749e1c50#32,0xaa25f563#32,0x6f1d8604#32,0x46aba759#32,0xe9c80022#32,0xd97fea0d#32,0x00d9c27f#32],
  [0xcc637d72#32,0x373794fd#32,0x749e1c50#32,0xaa25f563#32,0xd0d1c6a6#32,0x46aba759#32,0xe9c80022#32,0xd97fea0d#32],
  [0x8c3dbcd5#32,0xcc637d72#32,0x373794fd#32,0x749e1c50#32,0xecb11e52#32,0xd0d1c6a6#32,0x46aba759#32,0xe9c80022#32],
  [0x97cf9337#32,0x8c3dbcd5#32,0xcc637d72#32,0x373794fd#32,0x0ce599aa#32,0xecb11e52#32,0xd0d1c6a6#32,0x46aba759#32],
  [0x05c0ad55#32,0x97cf9337#32,0x8c3dbcd5#32,0xcc637d72#32,0x6e84ffed#32,0x0ce599aa#32,0xecb11e52#32,0xd0d1c6a6#32],
  [0x6c372296#32,0x05c0ad55#32,0x97cf9337#32,0x8c3dbcd5#32,0x895f916c#32,0x6e84ffed#32,0x0ce599aa#32,0xecb11e52#32],
  [0xf58d8d6a#32,0x6c372296#32,0x05c0ad55#32,0x97cf9337#32,0x28ceb67c#32,0x895f916c#32,0x6e84ffed#32,0x0ce599aa#32],
  [0x7a1754e6#32,0xf58d8d6a#32,0x6c372296#32,0x05c0ad55#32,0xcc5fd5e7#32,0x28ceb67c#32,0x895f916c#32,0x6e84ffed#32],
  [0x00ce439c#32,0x7a1754e6#32,0xf58d8d6a#32,0x6c372296#32,0x25924fa0#32,0xcc5fd5e7#32,0x28ceb67c#32,0x895f916c#32],
  [0xab7cd0d5#32,0x00ce439c#32,0x7a1754e6#32,0xf58d8d6a#32,0x8146c6e7#32,0x25924fa0#32,0xcc5fd5e7#32,0x28ceb67c#32],
  [0x860dc232#32,0xab7cd0d5#32,0x00ce439c#32,0x7a1754e6#32,0x320bc54a#32,0x8146c6e7#32,0x25924fa0#32,0xcc5fd5e7#32],
  [0x4f940551#32,0x860dc232#32,0xab7cd0d5#32,0x00ce439c#32,0xc03f0ca9#32,0x320bc54a#32,0x8146c6e7#32,0x25924fa0#32],
  [0x2cf5749f#32,0x4f940551#32,0x860dc232#32,0xab7cd0d5#32,0x752cbf20#32,0xc03f0ca9#32,0x320bc54a#32,0x8146c6e7#32],
  [0xe3b3c944#32,0x2cf5749f#32,0x4f940551#32,0x860dc232#32,0xc6850fc7#32,0x752cbf20#32,0xc03f0ca9#32,0x320bc54a#32],
  [0x869593fa#32,0xe3b3c944#32,0x2cf5749f#32,0x4f940551#32,0xdeff1496#32,0xc6850fc7#32,0x752cbf20#32,0xc03f0ca9#32],
  [0xb85addfe#32,0x869593fa#32,0xe3b3c944#32,0x2cf5749f#32,0xf8fa5729#32,0xdeff1496#32,0xc6850fc7#32,0x752cbf20#32],
  [0x6e3c620f#32,0xb85addfe#32,0x869593fa#32,0xe3b3c944#32,0xce096d68#32,0xf8fa5729#32,0xdeff1496#32,0xc6850fc7#32],
  [0x0b10283f#32,0x6e3c620f#32,0xb85addfe#32,0x869593fa#32,0x062ac8ad#32,0xce096d68#32,0xf8fa5729#32,0xdeff1496#32],
  [0x22d29315#32,0x0b10283f#32,0x6e3c620f#32,0xb85addfe#32,0xbbb3102e#32,0x062ac8ad#32,0xce096d68#32,0xf8fa5729#32],
  [0x5a6f1244#32,0x22d29315#32,0x0b10283f#32,0x6e3c620f#32,0x4e67e749#32,0xbbb3102e#32,0x062ac8ad#32,0xce096d68#32],
  [0xdc2ebf4a#32,0x5a6f1244#32,0x22d29315#32,0x0b10283f#32,0x072908c4#32,0x4e67e749#32,0xbbb3102e#32,0x062ac8ad#32],
  [0x74260b36#32,0xdc2ebf4a#32,0x5a6f1244#32,0x22d29315#32,0x2d273a5a#32,0x072908c4#32,0x4e67e749#32,0xbbb3102e#32],
  [0xded89a23#32,0x74260b36#32,0xdc2ebf4a#32,0x5a6f1244#32,0x48e617c5#32,0x2d273a5a#32,0x072908c4#32,0x4e67e749#32],
  [0xdcc8f4bd#32,0xded89a23#32,0x74260b36#32,0xdc2ebf4a#32,0x16490ca8#32,0x48e617c5#32,0x2d273a5a#32,0x072908c4#32],
  [0x4c6c4e6c#32,0xdcc8f4bd#32,0xded89a23#32,0x74260b36#32,0x5ac44764#32,0x16490ca8#32,0x48e617c5#32,0x2d273a5a#32],
  [0x0c743631#32,0x4c6c4e6c#32,0xdcc8f4bd#32,0xded89a23#32,0xd290a172#32,0x5ac44764#32,0x16490ca8#32,0x48e617c5#32],
  [0x7f4d4ade#32,0x0c743631#32,0x4c6c4e6c#32,0xdcc8f4bd#32,0xef6bc4a8#32,0xd290a172#32,0x5ac44764#32,0x16490ca8#32],
  [0xc6f4d45e#32,0x7f4d4ade#32,0x0c743631#32,0x4c6c4e6c#32,0x5b45a97f#32,0xef6bc4a8#32,0xd290a172#32,0x5ac44764#32],
  [0xa68ccc1a#32,0xc6f4d45e#32,0x7f4d4ade#32,0x0c743631#32,0xe46a4a7e#32,0x5b45a97f#32,0xef6bc4a8#32,0xd290a172#32],
  [0xd1d20942#32,0xa68ccc1a#32,0xc6f4d45e#32,0x7f4d4ade#32,0xfd33051b#32,0xe46a4a7e#32,0x5b45a97f#32,0xef6bc4a8#32],
  [0x536bad1e#32,0xd1d20942#32,0xa68ccc1a#32,0xc6f4d45e#32,0x559d241b#32,0xfd33051b#32,0xe46a4a7e#32,0x5b45a97f#32],
  [0x2128fa07#32,0x536bad1e#32,0xd1d20942#32,0xa68ccc1a#32,0xc1b737f4#32,0x559d241b#32,0xfd33051b#32,0xe46a4a7e#32],
  [0xd2d7be3d#32,0x2128fa07#32,0x536bad1e#32,0xd1d20942#32,0x6c5eb60f#32,0xc1b737f4#32,0x559d241b#32,0xfd33051b#32],
  [0x6159ce20#32,0xd2d7be3d#32,0x2128fa07#32,0x536bad1e#32,0x041c8aca#32,0x6c5eb60f#32,0xc1b737f4#32,0x559d241b#32],
  [0x4a05060c#32,0x6159ce20#32,0xd2d7be3d#32,0x2128fa07#32,0x2da8bc42#32,0x041c8aca#32,0x6c5eb60f#32,0xc1b737f4#32],
  [0xae8d5943#32,0x4a05060c#32,0x6159ce20#32,0xd2d7be3d#32,0x5665a49b#32,0x2da8bc42#32,0x041c8aca#32,0x6c5eb60f#32],
  [0x394ee859#32,0xae8d5943#32,0x4a05060c#32,0x6159ce20#32,0x8d3e2c16#32,0x5665a49b#32,0x2da8bc42#32,0x041c8aca#32],
  [0x082bd110#32,0x394ee859#32,0xae8d5943#32,0x4a05060c#32,0x083d4263#32,0x8d3e2c16#32,0x5665a49b#32,0x2da8bc42#32],
  [0xf3968865#32,0x082bd110#32,0x394ee859#32,0xae8d5943#32,0xefbcbfe6#32,0x083d4263#32,0x8d3e2c16#32,0x5665a49b#32],
  [0x35b996da#32,0xf3968865#32,0x082bd110#32,0x394ee859#32,0x454c7e69#32,0xefbcbfe6#32,0x083d4263#32,0x8d3e2c16#32],
  [0x32d721c8#32,0x35b996da#32,0xf3968865#32,0x082bd110#32,0x5c85d925#32,0x454c7e69#32,0xefbcbfe6#32,0x083d4263#32],
  [0x2e7b931d#32,0x32d721c8#32,0x35b996da#32,0xf3968865#32,0xa49c6565#32,0x5c85d925#32,0x454c7e69#32,0xefbcbfe6#32],
  [0xaf7b4069#32,0x2e7b931d#32,0x32d721c8#32,0x35b996da#32,0x2eda5154#32,0xa49c6565#32,0x5c85d925#32,0x454c7e69#32],
  [0x7b7ba150#32,0xaf7b4069#32,0x2e7b931d#32,0x32d721c8#32,0xfd282964#32,0x2eda5154#32,0xa49c6565#32,0x5c85d925#32],
  [0xd1a70f3b#32,0x7b7ba150#32,0xaf7b4069#32,0x2e7b931d#32,0xda2a3d46#32,0xfd282964#32,0x2eda5154#32,0xa49c6565#32],
  [0xeb203fd6#32,0xd1a70f3b#32,0x7b7ba150#32,0xaf7b4069#32,0x0c952fca#32,0xda2a3d46#32,0xfd282964#32,0x2eda5154#32],
  [0x84c39c83#32,0xeb203fd6#32,0xd1a70f3b#32,0x7b7ba150#32,0x749ba042#32,0x0c952fca#32,0xda2a3d46#32,0xfd282964#32],
  [0x652cc641#32,0x84c39c83#32,0xeb203fd6#32,0xd1a70f3b#32,0x13a678cf#32,0x749ba042#32,0x0c952fca#32,0xda2a3d46#32],
  [0xca7286a9#32,0x652cc641#32,0x84c39c83#32,0xeb203fd6#32,0xde9fd9bf#32,0x13a678cf#32,0x749ba042#32,0x0c952fca#32],
  [0x5bf007d7#32,0xca7286a9#32,0x652cc641#32,0x84c39c83#32,0xf4e56c15#32,0xde9fd9bf#32,0x13a678cf#32,0x749ba042#32],
  [0x15185b44#32,0x5bf007d7#32,0xca7286a9#32,0x652cc641#32,0x2611edec#32,0xf4e56c15#32,0xde9fd9bf#32,0x13a678cf#32],
  [0xa3ab973d#32,0x15185b44#32,0x5bf007d7#32,0xca7286a9#32,0xef5ca772#32,0x2611edec#32,0xf4e56c15#32,0xde9fd9bf#32],
  [0x541508a3#32,0xa3ab973d#32,0x15185b44#32,0x5bf007d7#32,0x8b7469da#32,0xef5ca772#32,0x2611edec#32,0xf4e56c15#32],
  [0x9b3a7c99#32,0x541508a3#32,0xa3ab973d#32,0x15185b44#32,0x1dd3f97b#32,0x8b7469da#32,0xef5ca772#32,0x2611edec#32],
  [0x50ad7f26#32,0x9b3a7c99#32,0x541508a3#32,0xa3ab973d#32,0x669a9d18#32,0x1dd3f97b#32,0x8b7469da#32,0xef5ca772#32],
  [0x8aa5d75b#32,0x50ad7f26#32,0x9b3a7c99#32,0x541508a3#32,0x052eae15#32,0x669a9d18#32,0x1dd3f97b#32,0x8b7469da#32],
  [0xa1e044c9#32,0x8aa5d75b#32,0x50ad7f26#32,0x9b3a7c99#32,0x8c1f7f7f#32,0x052eae15#32,0x669a9d18#32,0x1dd3f97b#32],
  [0xede14efa#32,0xa1e044c9#32,0x8aa5d75b#32,0x50ad7f26#32,0x39503b91#32,0x8c1f7f7f#32,0x052eae15#32,0x669a9d18#32]]
def c_b:List (BitVec 32):=[0x57eb3561#32,0x5d47f34e#32,0xc714cacd#32,0xf5fd7460#32,0x8a5e8e10#32,0x2724e80b#32,0x24b287c0#32,0xc27b6a31#32]
theorem blk_b:blk (toV (S_b.getD 0 [])) (chunk p_b 0)=toV c_b :=
  blk_list _ L_b S_b c_b rfl (by decide +kernel) (by decide +kernel) (by decide +kernel)
end Sha
namespace Sha
open Go Go.LE
def lf (l:List (BitVec 8)) (i:Nat):List (BitVec 8):=(l.drop (32*i)).take 32
theorem lf_length {l:List (BitVec 8)} {n i:Nat} (hl:l.length=32*n) (hi:i < n):(lf l i).length=32:=by simp only[lf,zzJ,zzG]; omega
theorem ch_nd {l:List (BitVec 8)} {n i:Nat} (hl:l.length=32*n) (hi:i < n):ch (Ab.nd l (i / 16)) i=lf l i:=by
  have h1:(Ab.pli l (i / 16)).length=min 512 (32*n - 512*(i / 16)):=by simp only[Ab.pli,zzJ,zzG,hl]
  rw[ch,lf,Ab.nd,Ab.pad,List.drop_append_of_le_length (by omega),List.take_append_of_le_length (by rw[zzG]; omega)]
  rw[Ab.pli,List.drop_take,List.take_take,List.drop_drop]
  congr 1
  · omega
  · congr 1; omega
theorem dgs_lf (j:Nat) (l:List (BitVec 8)) (m i:Nat) (hi:i < m):lf (dgs j l m) i=dl (nodeB j (Ab.nd l i)):=by
  induction m with
  | zero=>omega
  | succ m ih =>
    rw[dgs,lf]
    by_cases h:i < m
    · rw [List.drop_append_of_le_length (by rw [dgs_length]; omega), List.take_append_of_le_length (by rw [zzG, dgs_length]; omega)]
      exact ih h
    · obtain rfl : i = m := by omega
      rw[List.drop_append_of_le_length (by rw[dgs_length]; omega),List.drop_of_length_le (by rw[dgs_length]; omega),zP,List.take_of_length_le (by rw[dl_length]; omega)]
theorem cn_div {n i:Nat} (hi:i < n) (k:Nat):i / 16 ^ k < cn n k:=by
  induction k with
  | zero=>rw[Nat.pow_zero,Nat.div_one]; exact hi
  | succ k ih =>
    rw[Nat.pow_succ,←Nat.div_div_eq_div_mul,cn,ups]
    omega
def pth (l:List (BitVec 8)) (n i:Nat):List (List (BitVec 8)):=(List.range (nl n+1)).map fun k=>Ab.nd (lay l n k) (i / 16 ^ (k+1))
theorem pth_length (l:List (BitVec 8)) (n i:Nat):(pth l n i).length=nl n+1:=by simp[pth]
theorem pth_getD (l:List (BitVec 8)) (n i k:Nat) (h:k≤nl n):(pth l n i).getD k []=Ab.nd (lay l n k) (i / 16 ^ (k+1)):=by
  rw[List.getD_eq_getElem?_getD,pth,List.getElem?_map,List.getElem?_range (by omega)]; rfl
theorem pth_right {l:List (BitVec 8)} {n:Nat} (hl:l.length=32*n) (hn:1≤n∧n≤4096) (i:Nat):rightB n (pth l n i)=true:=by
  have h1:(1:Int)≤n∧(n:Int)≤4096:=by omega
  rw[rightB,decide_eq_true h1,Int.toNat_natCast,pth_length,decide_eq_true rfl,Bool.true_and,Bool.true_and,Bool.not_eq_true',List.any_eq_false]
  intro b hb
  simp only[pth,List.mem_map] at hb
  obtain ⟨k,_,rfl⟩:=hb
  rw[bad,nd_length (lay_length hl k)]
  decide
theorem pth_root {l:List (BitVec 8)} {n i:Nat} (hl:l.length=32*n) (hn:1≤n∧n≤4096) (hi:i < n):rootF n (pth l n i)=buildR l n:=by
  rw[rootF,if_pos (pth_right hl hn i),Int.toNat_natCast,pth_length,Nat.add_sub_cancel,pth_getD _ _ _ _ (Nat.le_refl _),buildR]
  have h:=cn_div hi (nl n+1)
  rw[cn_top hn] at h
  rw[show i / 16 ^ (nl n+1)=0 from Nat.lt_one_iff.1 h]
theorem pth_joined {l:List (BitVec 8)} {n i:Nat} (hl:l.length=32*n) (hi:i < n):joinedB i (pth l n i)=true:=by
  rw[joinedB,pth_length,List.all_eq_true]
  intro k hk
  rw[List.mem_range] at hk
  rw[okAt,pth_getD _ _ _ _ (by omega),pth_getD _ _ _ _ (by omega)]
  have h1:=ch_nd (lay_length hl (k+1)) (cn_div hi (k+1))
  rw[Nat.div_div_eq_div_mul,←Nat.pow_succ] at h1
  rw[h1,lay,dgs_lf _ _ _ _ (cn_div hi (k+1)),decide_eq_true rfl]
theorem pth_first {l:List (BitVec 8)} {n i:Nat} (hl:l.length=32*n) (hi:i < n):ch ((pth l n i).getD 0 []) i=lf l i:=by
  rw[pth_getD _ _ _ _ (by omega),zB,Nat.pow_one]
  exact ch_nd hl hi
theorem pth_check {l:List (BitVec 8)} {n i:Nat} (hl:l.length=32*n) (hn:1≤n∧n≤4096) (hi:i < n) (leaf:Nat→BitVec 8) :
    checkV n i leaf (pth l n i) (buildR l n)=if lf l i=lb32 leaf then 0 else 160:=by
  have h1:(0:Int)≤i∧(i:Int) < n:=by omega
  rw[checkV,pth_right hl hn i,decide_eq_true h1,Bool.true_and,if_pos rfl,pth_root hl hn hi,(aB_same_iff _ _ _).2 (fun _ _=>rfl),Int.toNat_natCast,pth_first hl hi,pth_joined hl hi,Bool.true_and,zh]
  by_cases h:lf l i=lb32 leaf
  · rw[decide_eq_true h,if_pos h]; rfl
  · rw[decide_eq_false h,if_neg h]; rfl
def lvN (l:List (BitVec 8)) (n i:Nat):List (List (BitVec 8)):=(List.range (cn n (i+1))).map (Ab.nd (lay l n i))
theorem lvN_length (l:List (BitVec 8)) (n i:Nat):(lvN l n i).length=cn n (i+1):=by simp[lvN]
theorem ndC_sls {l:List (BitVec 8)} {n:Nat} (hl:l.length=32*n) (i:Nat):Ab.ndC (lay l n i) (cn n (i+1))=sls (lvN l n i):=by
  simp only[Ab.ndC,sls,lvN,List.map_map]
  apply List.map_congr_left
  intro k _
  simp only[Function.comp,nd_length (lay_length hl i)]
theorem lent_call (k b g:Nat) (H:Heap) (args args':List LV) (lent:List Nm) (r:LV) (hs:lend H (lentF g) 0 args=some (args',lent)) (hn:args'.flatMap (nms D)=[]) (ha:args'.map (ren D (qc7 []))=args')
    (hw:F C k g args' []=some (r,[],[])) (hp:plainRes (r,[],[])=true) (hr:∀ π,ren D π r=r):qb1 (envC C k) H b g args=some ⟨r,[],[]⟩:=by
  rw[callOp_L,envC_borrow,C_bor,hs,callL_some,hn,show reach H FUEL [] []=[] from rfl,callN_eq _ _ _ _ _ (by rw[List.any_eq_false]; intro x _; simp),ha,zzC,zF,envC_cal,hw,resK_any _ _ _ _ hp,qc9,hr]
  rfl
def PathIs (H:Heap) (X:LV) (L:List (List (BitVec 8))):Prop := ∃ lent,snap H D X=some (.isl (sls L) L.length,lent)
theorem path_isl (H:Heap) (L:List (List (BitVec 8))):PathIs H (.isl (sls L) L.length) L:=⟨[],rfl⟩
theorem path_nil (H:Heap):PathIs H Nil []:=⟨[],rfl⟩
theorem snapL_sls (H:Heap) (d:Nat) (L:List (List (BitVec 8))):snapL (snap H (d+1)) (sls L)=some (sls L,[]):=by
  induction L with
  | nil=>rfl
  | cons x l ih=>simp only[sls,zG] at ih ⊢; simp only[snapL,ih]; rfl
theorem path_sl (H:Heap) (m:Nm) (c:Option Nat) (L:List (List (BitVec 8))) (n:Nat) (hn:L.length=n) (h0:n≠0) (h:H m=some (sls L)):PathIs H (.sl m 0 n c 1) L:=by
  refine ⟨[m],?_⟩
  show (if n=0 then some (LV.isl [] 0,[]) else match H m with | some cs=>(snapL (snap H 7) ((cs.drop 0).take (n*1))).map fun r=>(LV.isl r.1 n,m::r.2) | none=>none)=_
  rw[if_neg h0,h,hn]
  simp only[z8,zZ]
  rw[List.take_of_length_le (by rw[show (sls L).length=L.length by simp[sls]]; omega),snapL_sls]
  rfl
theorem check_call (k b g:Nat) (hg:g=22∨g=26) (H:Heap) (z i:Int) (leaf:Nat→BitVec 8) (X:LV) (L:List (List (BitVec 8))) (want:Nat→BitVec 8) (hX:PathIs H X L) :
    qb1 (envC C (k+1200)) H b g [I z,I i,.agg (aB 32 leaf),X,.agg (aB 32 want)]=some ⟨N (checkV z i leaf L want),[],[]⟩:=by
  obtain ⟨lent,hs⟩:=hX
  rcases hg with rfl | rfl
  · exact lent_call _ _ _ H _ [I z, I i, .agg (aB 32 leaf), .isl (sls L) L.length, .agg (aB 32 want)] lent _ (by rw [qde, qde, qde, qde, qde, lend_nil, if_pos (show lentF 22 (0 + 1 + 1 + 1) = true from rfl), hs]; simp [lentF, lendC_some]) (by simp only [zS, qcJ, qbS, zW, zR]; rfl) (by simp only [zG, qc6, qbM, zF]; rfl)
      (check_F k z i leaf L want) rfl (fun _=>rfl)
  · exact lent_call _ _ _ H _ [I z, I i, .agg (aB 32 leaf), .isl (sls L) L.length, .agg (aB 32 want)] lent _ (by rw [qde, qde, qde, qde, qde, lend_nil, if_pos (show lentF 26 (0 + 1 + 1 + 1) = true from rfl), hs]; simp [lentF, lendC_some]) (by simp only [zS, qcJ, qbS, zW, zR]; rfl) (by simp only [zG, qc6, qbM, zF]; rfl)
      (rcheck_F k z i leaf L want) rfl (fun _=>rfl)
theorem tup_plain (f:Nat→BitVec 8) (e:Nat):plainRes (.tup [.agg (aB 32 f),N e],[],[])=true:=by
  have h:noImm 7 (.agg (aB 32 f))=true:=by
    show (aB 32 f).all (noImm 6)=true
    rw[List.all_eq_true]; intro x hx
    simp only[aB,arr,List.mem_map,List.mem_range] at hx
    obtain ⟨i,_,rfl⟩:=hx; rfl
  simp only[plainRes,zx,zh]
  show (noImm 7 (.agg (aB 32 f)) && _)=true
  rw[h]; rfl
theorem root_call (k b g:Nat) (hg:g=21∨g=23) (H:Heap) (z:Int) (X:LV) (L:List (List (BitVec 8))) (hX:PathIs H X L) :
    qb1 (envC C (k+500)) H b g [I z,X]=some ⟨.tup [.agg (aB 32 (rootF z L)),N (rootE z L)],[],[]⟩:=by
  obtain ⟨lent,hs⟩:=hX
  rcases hg with rfl | rfl
  · exact lent_call _ _ _ H _ [I z, .isl (sls L) L.length] lent _ (by rw [qde, qde, lend_nil, if_pos (show lentF 21 (0 + 1) = true from rfl), hs]; simp [lentF, lendC_some]) (by simp only [zS, qcJ, zW, zR]; rfl) (by simp only [zG, qc6, zF]; rfl)
      (root1_F k z L) (tup_plain _ _) (fun _=>tup_ren _ _ _ _)
  · exact lent_call _ _ _ H _ [I z, .isl (sls L) L.length] lent _ (by rw [qde, qde, lend_nil, if_pos (show lentF 23 (0 + 1) = true from rfl), hs]; simp [lentF, lendC_some]) (by simp only [zS, qcJ, zW, zR]; rfl) (by simp only [zG, qc6, zF]; rfl)
      (root2_F k z L) (tup_plain _ _) (fun _=>tup_ren _ _ _ _)
end Sha
namespace Sha
open Go Go.LE
theorem dig_a:dig [0#8,97#8]=outB (toV c_a):=by
  have h1:pad [0#8,97#8]=p_a:=by decide
  rw[dig,h1,show p_a.length / 64=1 from rfl,absN,absN]
  rw[show ini=toV (S_a.getD 0 []) from rfl,blk_a]
theorem dig_b:dig [0#8,98#8]=outB (toV c_b):=by
  have h1:pad [0#8,98#8]=p_b:=by decide
  rw[dig,h1,show p_b.length / 64=1 from rfl,absN,absN]
  rw[show ini=toV (S_b.getD 0 []) from rfl,blk_b]
theorem dig_ne:dig [0#8,97#8] 0≠dig [0#8,98#8] 0:=by rw[dig_a,dig_b]; decide
theorem leaf_one (k b:Nat) (H:Heap) (r:Nm) (x:BitVec 8) (h:H r=some [B8 x]):qb1 (envC C (k+400)) H b 13 [.sl r 0 1 (some 1) 1]=some ⟨.agg (aB 32 (dig [0#8,x])),[],[]⟩:=by
  have hl:=lent_sl H r 0 1 (some 1) [x] [] h (by simp) rfl
  exact leaf_call (k+400) b 13 (.inl rfl) H _ [x] hl (by simp) (by simp)
theorem fill_two (f g:Nat→BitVec 8):(if 64≤(aB 32 f++List.drop 32 (aB 64 fun x=>0#8)).length then some (List.take 32 (aB 32 f++List.drop 32 (aB 64 fun x=>0#8))++aB 32 g++List.drop 64 (aB 32 f++List.drop 32 (aB 64 fun x=>0#8))) else none)=some (bs (lb32 f++lb32 g)):=rfl
theorem lb_ne {f g:Nat→BitVec 8} (h:f 0≠g 0):lb32 f≠lb32 g:=by
  intro e
  have:(lb32 f).head? = (lb32 g).head? := by rw[e]
  exact h (Option.some.inj this)
set_option maxRecDepth 20000 in
theorem lives_F (k:Nat):F C (k+3000) 12 [] []=some (Bo true,[],[]):=by
  rw[qch f12]
  simp (disch:=first|omega|decide|simp only[qai,qag,qak,qaj,qah,qae,qac,qad,qan]) only[qbb,qau,qao,qap,qam,qaf,qaq,qaz,qaI,qaF,qa1,qaT,qaa,zK,zL,zN,zO,zG,zF,zP,zR,qa5,zy,zJ,zM,Nat.reduceAdd,qab,qdl,qbW,qcx,qco,qb2,zzB,zzE,zzD,zX,zC,zB,zE,Nat.le_refl,qbH,zE,zB,Nat.reduceAdd,qbK,qbw,op_cvs,cvsV_sl,cvsK_some,qax,qaM,qay,qa0,Nat.sub_zero,qaZ,qal,L12]
  rw[leaf_one (k+2599) _ _ _ 97#8 (by simp only[qab,zC])]
  simp (disch:=first|omega|decide|simp only[qai,qag,qak,qaj,qah,qae,qac,qad,qan]) only[qaf,qaq,qaz,qaI,qa1,qaT,zK,zL,zN,zO,zG,zF,zP,zR,zJ,zM,Nat.reduceAdd,qab,qdl,qbW,qcx,qco,qb2,zzB,zzE,zzD,zD,Nat.reduceEqDiff,zH,zX,zC,zA,zB,Nat.le_refl,zB,Nat.reduceEqDiff,Nat.reduceAdd,qbK,qbw,op_cvs,cvsV_sl,cvsK_some,qax,qaM,qay,qa0,qaZ,qal,qal]
  rw[leaf_one (k+2599) _ _ _ 98#8 (by simp only[qab,zD,Nat.reduceEqDiff,zH,zC,zA])]
  simp (disch:=first|omega|decide|simp only[qai,qag,qak,qaj,qah,qae,qac,qad,qan]) only[qaf,qaq,qaz,zK,zL,zN,zO,zG,zF,zP,Nat.reduceAdd,qaX,qbW,qcx,qco,qb2,zzB,Nat.reduceLeDiff,true_and,zX,zC,zB,aB_length,zB,Nat.reduceLeDiff,Nat.reduceAdd,qbK,qax,qay,qal,qal]
  rw[fill_two]
  simp (disch:=first|omega|decide|simp only[qai,qag,qak,qaj,qah,qae,qac,qad,qan]) only[qau,qao,qap,qam,qaf,qaq,qaz,qaI,qaF,qa1,qaT,qaa,zK,zL,zN,zO,zG,zF,zJ,zM,Nat.reduceAdd,zB,zE,zE,zB,Nat.reduceAdd,qbw,qax,qaM,qay,qal,qal]
  generalize hl:lb32 (dig [0#8,97#8])++lb32 (dig [0#8,98#8])=l
  have hll:l.length=32*2:=by rw[←hl]; rfl
  have hb := build_callB (k + 999) 12 (upd
                (upd
                  (upd (upd (upd (qcV []) (3,0) (some [B8 97#8])) (3,0) (some [B8 97#8])) (6,0) (some [B8 98#8]))
                  (6,0) (some [B8 98#8]))
                (9,0) (some (bs l))) (9,0) l 2 (some 2) hll (by decide) (by simp only[qab,zD,Nat.reduceEqDiff,zH,zC,zA])
  rw[hb]
  have ho':outC l 2 1=[.isl (sls (pth l 2 0)) 1]:=by
    have:=ndC_sls hll 0
    show [LV.isl (Ab.ndC (lay l 2 0) (cn 2 (0+1))) 1]=_
    rw[this]; rfl
  have ho:outC l 2 (nl 2+1)=[.isl (sls (pth l 2 0)) 1]:=ho'
  have h1:nl 2=0:=rfl
  have hlf0:lf l 0=lb32 (dig [0#8,97#8]):=by rw[←hl]; rfl
  have hlf1:lf l 1=lb32 (dig [0#8,98#8]):=by rw[←hl]; rfl
  have k0:=pth_check hll (by decide) (show 0 < 2 by decide) (dig [0#8,98#8])
  rw[hlf0,if_neg (lb_ne dig_ne)] at k0
  have k1:=pth_check hll (by decide) (show 1 < 2 by decide) (dig [0#8,98#8])
  rw[hlf1,if_pos rfl] at k1
  have c1:∀ (b:Nat) (H:Heap),qb1 (envC C (k+2999)) H b 22 [N 2,N 1,.agg (aB 32 (dig [0#8,98#8])),.isl (sls (pth l 2 0)) 1,.agg (aB 32 (buildR l 2))]=some ⟨N 0,[],[]⟩:=by
    intro b H
    have:=check_call (k+1799) b 22 (.inl rfl) H (2:Nat) (1:Nat) (dig [0#8,98#8]) _ (pth l 2 1) (buildR l 2) (path_isl H (pth l 2 1))
    rw[k1] at this
    exact this
  have c0:∀ (b:Nat) (H:Heap),qb1 (envC C (k+2999)) H b 22 [N 2,N 0,.agg (aB 32 (dig [0#8,98#8])),.isl (sls (pth l 2 0)) 1,.agg (aB 32 (buildR l 2))]=some ⟨N 160,[],[]⟩:=by
    intro b H
    have:=check_call (k+1799) b 22 (.inl rfl) H (2:Nat) (0:Nat) (dig [0#8,98#8]) _ (pth l 2 0) (buildR l 2) (path_isl H (pth l 2 0))
    rw[k0] at this
    exact this
  have d1:cellK 32 32 (some (bs l))=some (aB 32 (dig [0#8,98#8])):=by rw[←hl]; rfl
  have d0:cellK 0 32 (some (bs l))=some (aB 32 (dig [0#8,97#8])):=by rw[←hl]; rfl
  obtain ⟨c,hlv,_⟩:=levels_F (k+2989) 17 (by decide)
  rw[show nl 17+1=2 from rfl,show lvs 17=[2,1] from rfl] at hlv
  have hn0:cellK 0 1 (some (ns [2,1]))=some [N 2]:=rfl
  have hq:aB_same 32 (dig [0#8,97#8]) (dig [0#8,98#8])=false:=by
    cases h:aB_same 32 (dig [0#8,97#8]) (dig [0#8,98#8]) with
    | false=>rfl
    | true=>exact absurd ((aB_same_iff _ _ _).1 h 0 (by decide)) dig_ne
  have hlc:=fun (b:Nat) (H:Heap)=>row_new (k+2999) b 18 H 17 l18 _ _ _ hlv
  simp (disch:=first|omega|decide|simp only[qai,qag,qak,qaj,qah,qae,qac,qad,qan]) only[qba,qbp,qau,qao,qap,qam,qaf,qaS,qcC,qbA,qaq,qa7,qaz,qaI,qar,qb0,qbq,qaF,qbr,qaB,qa1,qaT,qaa,qaw,qat,qbg,qbl,zK,zL,zN,zO,zG,zF,zS,zW,zR,zJ,zM,qct,zI,Nat.reduceAdd,Nat.reduceSub,qab,qaX,qaQ,cellK_cons,qbe,qb6,qbx,op_ld,qbR,qbt,qbf,zzK,z8,zzL,zw,zx,zh,zD,Nat.reduceEqDiff,Nat.reduceLT,zH,zC,zA,zB,zE,Nat.le_refl,zT,qbP,qbm,qbF,zZ,zE,zB,N_eql,N_neq,qbO,qaO,decide_not,Nat.reduceLT,Nat.reduceEqDiff,Nat.reduceMul,Nat.reduceAdd,zT,zu,zf,qbi,qaV,qbL,qbD,qb7,qbG,qax,qaM,qay,qa0,zI,zZ,qaZ,List.getElem?_cons_zero,List.getElem?_cons_succ,qbo,qal,qal,qcD,qcZ,h1,ho',c0,c1,d0,d1,hlc,qcJ,hn0,hq,aB_neq,qaE,qbz,qc8,guardO_true,qb3,qbE,qcr,touch_ld,qcL,nms_fn,qaP,za,zY,zz,z6,z0,ordOk,qbv,zw,zx,Nat.testBit,Nat.reduceShiftRight,Nat.reduceAnd,Nat.reduceBEq,zf,zu,z7,zh,Nat.reduceSub,Nat.reduceLT,bne,qbN,qcp,qbI,qcf,qdk,qcv,zh,qbo]
theorem lives_call (k b:Nat) (H:Heap):qb1 (envC C (k+3000)) H b 12 []=some ⟨Bo true,[],[]⟩:=by
  rw[qcB l12 rfl rfl,lives_F]; rfl
end Sha
