/- Words turned, a piece's words, evaluated. -/
import Derived.Test.YtbdjmicabfclcaaDoorLeT
import Derived.Test.YtbdjmicabfclcaaDoorLeE
set_option linter.unusedVariables false
set_option linter.unusedSimpArgs false
open List renaming reduceReplicate → rR
open Nat renaming reduceSubDiff → rS
namespace Sha
open Go Go.LE Tb
def rr (x:BitVec 32) (n:Nat):BitVec 32:=x >>> n ||| x <<< (32 - n)
theorem turn_F (k n:Nat) (hn:n≤32) (x:BitVec 32):F C (k+1) 72 [N n,B32 x] []=some (B32 (rr x n),[],[]):=by
  rw[qaH f72]
  simp (disch:=first|omega|decide|simp only[nmsB,lB]) only[simprocAttr,-rR,-rS,leB,memB,numB,L72,rr,qae,qab]
theorem rot_F (k:Nat) (x:BitVec 32) (z:Int):F C (k+1) 92 [B32 x,I z] []=some (B32 ((x <<< (BitVec.ofInt 64 z &&& 31#64).toNat) ||| (x >>> (32#64 - (BitVec.ofInt 64 z &&& 31#64)).toNat)),[],[]):=by
  rw[qaH f92]
  simp (disch:=first|omega|decide|simp only[nmsB,lB]) only[simprocAttr,-rR,-rS,leB,memB,numB,L92,qae,qab]
theorem right_G (k n:Nat) (hn:n < 64) (x:BitVec 32):F C (k+2) 87 [B32 x,N n] []=some (B32 ((x <<< (BitVec.ofInt 64 (-(n:Int)) &&& 31#64).toNat) ||| (x >>> (32#64 - (BitVec.ofInt 64 (-(n:Int)) &&& 31#64)).toNat)),[],[]):=by
  rw[qaH f87]
  simp (disch:=first|omega|decide|simp only[nmsB,lB]) only[simprocAttr,-rR,-rS,leB,memB,numB,L87,N_neg,rot_F,qae,qab]
theorem right_F (k n:Nat) (hn:0 < n∧n < 32) (x:BitVec 32):F C (k+2) 87 [B32 x,N n] []=some (B32 (rr x n),[],[]):=by
  rw[right_G k n (by omega)]
  have e:(BitVec.ofInt 64 (-(n:Int)) &&& 31#64).toNat=32 - n∧(32#64 - (BitVec.ofInt 64 (-(n:Int)) &&& 31#64)).toNat=n:=by
    have:∀ m:Fin 32,0 < m.val→(BitVec.ofInt 64 (-(m.val:Int)) &&& 31#64).toNat=32 - m.val∧(32#64 - (BitVec.ofInt 64 (-(m.val:Int)) &&& 31#64)).toNat=m.val:=by decide
    exact this ⟨n,hn.2⟩ hn.1
  rw[e.1,e.2,BitVec.or_comm]; rfl
def be (p:Nat→BitVec 8) (i:Nat):BitVec 32 :=
  (p (4*i)).setWidth 32 <<< 24 ||| (p (4*i+1)).setWidth 32 <<< 16 ||| (p (4*i+2)).setWidth 32 <<< 8 ||| (p (4*i+3)).setWidth 32
def wnew (w:Nat→BitVec 32) (i:Nat):BitVec 32 :=
  w (i - 16)+w (i - 7)+(rr (w (i - 15)) 7 ^^^ rr (w (i - 15)) 18 ^^^ w (i - 15) >>> 3)+(rr (w (i - 2)) 17 ^^^ rr (w (i - 2)) 19 ^^^ w (i - 2) >>> 10)
def wstep (p:Nat→BitVec 8) (w:Nat→BitVec 32) (i:Nat):BitVec 32:=if i < 16 then be p i else wnew w i
def W (p:Nat→BitVec 8):Nat→(Nat→BitVec 32)
  | 0=>fun _=>0#32
  | i+1=>set1 (W p i) i (wstep p (W p i) i)
def wJ (p:Nat→BitVec 8) (i:Nat) (st:St):Prop := ∃ (H:Heap),st=⟨[.undef,.ptr (1,0) 0,.ptr (1,1) 0,.ptr (1,2) 0,.undef,.undef,.undef,N i,.undef,.undef,.undef,.undef,.undef,.undef,.undef,.undef,.undef,.undef,.undef,.undef,.undef,.undef,.undef,.undef,.undef,.undef,.undef,.undef,.undef,.undef,.undef,.undef,.undef,.undef,.undef,.undef,.undef,.undef,.undef,.undef,.undef,.undef,.undef,.undef,.undef,.undef,.undef,.undef,.undef,.undef,.undef,.undef,.undef,.undef,.undef,.undef,.undef,.undef,.undef,.undef,.undef,.undef,.undef,.undef,.undef,.undef,.undef,.undef,.undef,.undef,.undef,.undef,.undef,.undef,.undef,.undef,.undef,.undef,.undef,.undef,.undef,.undef],H,2,0⟩ ∧
  H (1,0)=some (aB 64 p)∧H (1,1)=some (aW 64 fun _=>0#32)∧H (1,2)=some (aW 64 (W p i))
theorem w_round (K k0:Nat) (p:Nat→BitVec 8) (i:Nat) (hi:i < 64) (st:St) (hI:wJ p i st) :
    ∃ st1,ev (envC C (k0+2)) K L86b0 st=some (.normal,st1)∧wJ p (i+1) (qa8 L86k0 st1):=by
  obtain ⟨H,rfl,h0,h1,h2⟩:=hI
  by_cases h16:i < 16
  · apply Exists.intro
    apply And.intro
    · simp (disch := first | omega | decide | simp only [nmsB, lB]) only [simprocAttr, -rR, -rS, leB, memB, arrB, numB, ordB, L86b0, hi, h16, h0, h2, qae, qab, qas]
      rfl
    · refine qao [(1, 0), (1, 1), (1, 2)] rfl (by simp only [simprocAttr, -rR, -rS, qak, L86k0, h0, h1, h2, qaN, qct, qcR, qah, qac, qaa]) rfl ⟨_, rfl, ?_, ?_, ?_⟩
      · exact qaj (1,0) rfl (by simp only[simprocAttr,-rR,-rS,memB,h0,qab]) (qaE _ _ _)
      · exact qaj (1,1) rfl (by simp only[simprocAttr,-rR,-rS,memB,h1,qab]) (qbi _ _ _)
      · rw [W, wstep, if_pos h16]
        exact qaj (1,2) rfl (by simp only[simprocAttr,-rR,-rS,memB,be,qab]) (qbi _ _ _)
  · apply Exists.intro
    apply And.intro
    · simp (disch := first | omega | decide | simp only [nmsB, lB]) only [simprocAttr, -rR, -rS, leB, memB, arrB, numB, ordB, L86b0, hi, h16, h0, h2, right_F, qae, qab, qas]
      rfl
    · refine qao [(1, 0), (1, 1), (1, 2)] rfl (by simp only [simprocAttr, -rR, -rS, qak, L86k0, h0, h1, h2, qaN, qct, qcR, qah, qac, qaa]) rfl ⟨_, rfl, ?_, ?_, ?_⟩
      · exact qaj (1,0) rfl (by simp only[simprocAttr,-rR,-rS,memB,h0,qab]) (qaE _ _ _)
      · exact qaj (1,1) rfl (by simp only[simprocAttr,-rR,-rS,memB,h1,qab]) (qbi _ _ _)
      · rw [W, wstep, if_neg h16]
        exact qaj (1,2) rfl (by simp only[simprocAttr,-rR,-rS,memB,wnew,qab]) (qbi _ _ _)
theorem words_F (k:Nat) (p:Nat→BitVec 8):F C (k+70) 86 [.agg (aB 64 p)] []=some (.agg (aW 64 (W p 64)),[],[]):=by
  rw[qaH f86]
  simp only[simprocAttr,-rR,-rS,leB,memB,arrB,numB,L86,qae,qab]
  generalize hL:qa1 L86k0 _ _ _=r
  refine qaR hL (wJ p) 64 (by omega) (fun i st hi hI=>w_round _ (k+67) p i hi st hI) ?_ ?_ ?_
  · refine qao [(2, 0), (3, 0), (4, 0)] rfl (by simp only [simprocAttr, -rR, -rS, qak, L86k0, qaN, qct, qcR, qah, qac, qaa]) rfl ⟨_, rfl, ?_, ?_, ?_⟩
    · exact qaj (2,0) rfl (by simp only[simprocAttr,-rR,-rS,memB,qab]) (qaE _ _ _)
    · exact qaj (3,0) rfl (by simp only[simprocAttr,-rR,-rS,memB,qab]) (qbi _ _ _)
    · exact qaj (4,0) rfl (by simp only[simprocAttr,-rR,-rS,memB,qab] <;> rfl) (qbi _ _ _)
  · rintro st ⟨H, rfl, h0, h1, h2⟩
    apply qaO
    simp only[simprocAttr,-rR,-rS,leB,memB,numB,L86b0,qae,qab]
    rfl
  · rintro st ⟨H, rfl, h0, h1, h2⟩ rfl
    simp only[simprocAttr,-rR,-rS,leB,memB,arrB,numB,L86b0,h0,h1,h2,qae,qab]
end Sha
namespace Sha
open Go Go.LE Tb
def vec8 (a b c d e f g h:BitVec 32):Nat→BitVec 32
  | 0=>a | 1=>b | 2=>c | 3=>d | 4=>e | 5=>f | 6=>g | 7=>h | _=>0#32
theorem aW8 (a b c d e f g h:BitVec 32):[B32 a,B32 b,B32 c,B32 d,B32 e,B32 f,B32 g,B32 h]=aW 8 (vec8 a b c d e f g h):=rfl
theorem build8 (z:Nat→BitVec 32) (a b c d e f g h:BitVec 32) :
    fill (aW 8 z) [(0,1,B32 a),(1,1,B32 b),(2,1,B32 c),(3,1,B32 d),(4,1,B32 e),(5,1,B32 f),(6,1,B32 g),(7,1,B32 h)]=some (aW 8 (vec8 a b c d e f g h)):=by
  have e:aW 8 z=[B32 (z 0),B32 (z 1),B32 (z 2),B32 (z 3),B32 (z 4),B32 (z 5),B32 (z 6),B32 (z 7)]:=rfl
  rw[e,←aW8]
  simp only[simprocAttr,-rR,-rS,leB,memB,qae,qab]
def one (s:Nat→BitVec 32) (k w:BitVec 32):BitVec 32:=s 7+(rr (s 4) 6 ^^^ rr (s 4) 11 ^^^ rr (s 4) 25)+(s 6 ^^^ s 4 &&& (s 5 ^^^ s 6))+k+w
def two (s:Nat→BitVec 32):BitVec 32:=(rr (s 0) 2 ^^^ rr (s 0) 13 ^^^ rr (s 0) 22)+(s 0 &&& s 1 ||| s 2 &&& (s 0 ||| s 1))
def rstep (s:Nat→BitVec 32) (k w:BitVec 32):Nat→BitVec 32:=vec8 (one s k w+two s) (s 0) (s 1) (s 2) (s 3+one s k w) (s 4) (s 5) (s 6)
def R (s:Nat→BitVec 32) (w:Nat→BitVec 32):Nat→(Nat→BitVec 32)
  | 0=>s
  | i+1=>rstep (R s w i) (kc i) (w i)
def addW (s x:Nat→BitVec 32):Nat→BitVec 32:=fun j=>s j+x j
def blk (s:Nat→BitVec 32) (p:Nat→BitVec 8):Nat→BitVec 32:=addW s (R s (W p 64) 64)
theorem R_zero (s w:Nat→BitVec 32):R s w 0=s:=rfl
theorem R_succ (s w:Nat→BitVec 32) (i:Nat):R s w (i+1)=rstep (R s w i) (kc i) (w i):=rfl
theorem v0 (a b c d e f g h:BitVec 32):vec8 a b c d e f g h 0=a:=rfl
theorem v1 (a b c d e f g h:BitVec 32):vec8 a b c d e f g h 1=b:=rfl
theorem v2 (a b c d e f g h:BitVec 32):vec8 a b c d e f g h 2=c:=rfl
theorem v3 (a b c d e f g h:BitVec 32):vec8 a b c d e f g h 3=d:=rfl
theorem v4 (a b c d e f g h:BitVec 32):vec8 a b c d e f g h 4=e:=rfl
theorem vec8_self (s:Nat→BitVec 32):aW 8 (vec8 (s 0) (s 1) (s 2) (s 3) (s 4) (s 5) (s 6) (s 7))=aW 8 s:=rfl
def bJ (s w:Nat→BitVec 32) (i:Nat) (st:St):Prop := ∃ (H:Heap),
  st=⟨[.undef,.undef,.ptr (1,0) 0,.undef,.ptr (1,1) 0,.ptr (1,2) 0,B32 (R s w i 0),B32 (R s w i 1),B32 (R s w i 2),B32 (R s w i 3),B32 (R s w i 4),B32 (R s w i 5),B32 (R s w i 6),B32 (R s w i 7),.undef,.undef,.undef,.undef,.undef,.undef,.undef,.undef,.undef,.undef,.undef,.undef,.undef,.undef,.undef,.undef,.undef,.undef,.undef,.undef,.undef,.undef,.undef,.undef,.agg (aW 64 kc),N i,.undef,.undef,.undef,.undef,.undef,.undef,.undef,.undef,.undef,.undef,.undef,.undef,.undef,.undef,.undef,.undef,.undef,.undef,.undef,.undef,.undef,.undef,.undef,.undef,.undef,.undef,.undef,.undef,.undef,.undef,.undef,.undef,.undef,.undef,.undef,.undef,.undef,.undef,.undef,.undef,.undef,.undef,.undef,.undef,.undef,.undef,.undef,.undef,.undef,.undef,.undef,.undef,.undef,.undef,.undef,.undef,.undef,.undef,.undef,.undef,.undef,.undef,.undef,.undef,.undef,.undef,.undef,.undef,.undef,.undef,.undef,.undef,.undef,.undef,.undef,.undef,.undef,.undef,.undef],H,2,0⟩ ∧
  H (1,0)=some (aW 8 s)∧H (1,1)=some (aW 8 fun _=>0#32)∧H (1,2)=some (aW 64 w)
theorem b_round (K k0:Nat) (s w:Nat→BitVec 32) (i:Nat) (hi:i < 64) (st:St) (hI:bJ s w i st) :
    ∃ st1,ev (envC C (k0+2)) K L70b1 st=some (.normal,st1)∧bJ s w (i+1) (qa8 L70k1 st1):=by
  obtain ⟨H,rfl,h0,h1,h2⟩:=hI
  apply Exists.intro
  apply And.intro
  · simp (disch := first | omega | decide | simp only [nmsB, lB]) only [simprocAttr, -rR, -rS, leB, memB, arrB, numB, ordB, L70b1, hi, h0, h1, h2, right_F, qae, qab, qas]
    rfl
  · refine qao [(1, 0), (1, 1), (1, 2)] rfl (by simp only [simprocAttr, -rR, -rS, qak, L70k1, h0, h1, h2, qct, qcl, qcR, qah, qac, qaa]) rfl ⟨_, rfl, ?_, ?_, ?_⟩
    · exact qaj (1,0) rfl (by simp only[simprocAttr,-rR,-rS,memB,h0,qab]) (qbi _ _ _)
    · exact qaj (1,1) rfl (by simp only[simprocAttr,-rR,-rS,memB,h1,qab]) (qbi _ _ _)
    · exact qaj (1,2) rfl (by simp only[simprocAttr,-rR,-rS,memB,h2,qab]) (qbi _ _ _)
def addP (s x:Nat→BitVec 32) (i:Nat):Nat→BitVec 32:=fun j=>if j < i then s j+x j else s j
theorem addP_succ (s x:Nat→BitVec 32) (i:Nat):addP s x (i+1)=set1 (addP s x i) i (addP s x i i+x i):=by
  funext j
  simp only[set1,addP]
  by_cases h:j=i
  · subst h; simp
  · rw [if_neg h]
    have:(j < i+1)↔(j < i):=by omega
    simp only[this]
def aJ (s x:Nat→BitVec 32) (i:Nat) (st:St):Prop := ∃ (H:Heap),
  st=⟨[.undef,.undef,.ptr (1,0) 0,.undef,.ptr (1,1) 0,.undef,.undef,.undef,.undef,.undef,.undef,.undef,.undef,.undef,.undef,.undef,.undef,.undef,.undef,.undef,.undef,.undef,.undef,.undef,.undef,.undef,.undef,.undef,.undef,.undef,.undef,.undef,.undef,.undef,.undef,.undef,.undef,.undef,.undef,.undef,.undef,.undef,.undef,.undef,.undef,.undef,.undef,.undef,.undef,.undef,.undef,.undef,.undef,.undef,.undef,.undef,.undef,.undef,.undef,.undef,.undef,.undef,.undef,.undef,.undef,.undef,.undef,.undef,.undef,.undef,.undef,.undef,.undef,.undef,.undef,.undef,.undef,.undef,.undef,.undef,.undef,.undef,.undef,.undef,.undef,.undef,.undef,.undef,.undef,.undef,.undef,.undef,.undef,.undef,.undef,.undef,.undef,.undef,.undef,.undef,.undef,.undef,.undef,.undef,.undef,.undef,.agg (aW 8 x),N i,.undef,.undef,.undef,.undef,.undef,.undef,.undef,.undef,.undef,.undef,.undef],H,2,0⟩∧H (1,0)=some (aW 8 (addP s x i))∧H (1,1)=some (aW 8 fun _=>0#32)
theorem a_round (K k0:Nat) (s x:Nat→BitVec 32) (i:Nat) (hi:i < 8) (st:St) (hI:aJ s x i st) :
    ∃ st1,ev (envC C k0) K L70b0 st=some (.normal,st1)∧aJ s x (i+1) (qa8 L70k0 st1):=by
  obtain ⟨H,rfl,h0,h1⟩:=hI
  apply Exists.intro
  apply And.intro
  · simp (disch := first | omega | decide | simp only [nmsB, lB]) only [simprocAttr, -rR, -rS, leB, memB, arrB, numB, L70b0, hi, h0, h1, qae, qab]
    rfl
  · refine qao [(1, 0), (1, 1)] rfl (by simp only [simprocAttr, -rR, -rS, qak, L70k0, h0, h1, qct, qcl, qcR, qah, qac, qaa]) rfl ⟨_, rfl, ?_, ?_⟩
    · rw [addP_succ]
      exact qaj (1,0) rfl (by simp only[simprocAttr,-rR,-rS,memB,qab]) (qbi _ _ _)
    · exact qaj (1,1) rfl (by simp only[simprocAttr,-rR,-rS,memB,h1,qab]) (qbi _ _ _)
theorem ipt_kc (H:Heap):qb6 H 64 (.ipt (aW 64 kc))=some (aW 64 kc):=by
  rw[qgy,if_pos (by rw[qbr]; exact Nat.le_refl _),List.take_of_length_le (by rw[qbr]; exact Nat.le_refl _)]
theorem evX_g (k:Nat) (tm:List LV):evX (envC C k).gl tm (.g 0) = .ipt (aW 64 kc):=rfl
theorem block_A (k:Nat) (s w:Nat→BitVec 32) (p:Nat→BitVec 8) (hw:F C (k+79) 86 [.agg (aB 64 p)] []=some (.agg (aW 64 w),[],[])) :
    F C (k+80) 70 [.agg (aW 8 s),.agg (aB 64 p)] []=some (.agg (aW 8 (addW s (R s w 64))),[],[]):=by
  rw[qaH f70]
  simp (disch:=first|omega|decide|simp only[nmsB,lB]) only[simprocAttr,-rR,-rS,leB,memB,arrB,numB,ordB,L70,hw,evX_g,ipt_kc,qae,qab,qas]
  generalize hL:qa1 L70k1 _ _ _=r
  refine qaR hL (bJ s (w)) 64 (by omega) (fun i st hi hI=>b_round _ (k+77) s (w) i hi st hI) ?_ ?_ ?_
  · refine qao [(2, 0), (4, 0), (7, 0)] rfl (by simp only [simprocAttr, -rR, -rS, qak, L70k1, qaN, qct, qcl, qcR, qah, qac, qaa]) rfl ⟨_, rfl, ?_, ?_, ?_⟩
    · exact qaj (2,0) rfl (by simp only[simprocAttr,-rR,-rS,memB,qab]) (qbi _ _ _)
    · exact qaj (4,0) rfl (by simp only[simprocAttr,-rR,-rS,memB,qab]) (qbi _ _ _)
    · exact qaj (7,0) rfl (by simp only[simprocAttr,-rR,-rS,memB,qab]) (qbi _ _ _)
  · rintro st ⟨H, rfl, h0, h1, h2⟩
    apply qaO
    simp (disch:=first|omega|decide|simp only[nmsB,lB]) only[simprocAttr,-rR,-rS,leB,memB,numB,L70b1,qae,qab]
    rfl
  · rintro st ⟨H, rfl, h0, h1, h2⟩ rfl
    clear hL
    generalize R s w 64=x
    simp (disch:=first|omega|decide|simp only[nmsB,lB]) only[simprocAttr,-rR,-rS,leB,memB,arrB,numB,ordB,L70b1,build8,vec8_self,qae,qas]
    generalize hL:qa1 L70k0 _ _ _=r
    refine qaR hL (aJ s x) 8 (by omega) (fun i st hi hI=>a_round _ _ s _ i hi st hI) ?_ ?_ ?_
    · refine qao [(1, 0), (1, 1)] rfl (by simp only [simprocAttr, -rR, -rS, qak, L70k0, h0, h1, h2, qct, qcl, qcR, qah, qac, qaa]) rfl ⟨_, rfl, ?_, ?_⟩
      · rw [show aW 8 (addP s x 0) = aW 8 s from aW_ext 8 fun j _ => by simp [addP]]
        exact qaj (1,0) rfl (by simp only[simprocAttr,-rR,-rS,memB,h0,qab]) (qbi _ _ _)
      · exact qaj (1,1) rfl (by simp only[simprocAttr,-rR,-rS,memB,h1,qab]) (qbi _ _ _)
    · rintro st ⟨H, rfl, h0, h1⟩
      apply qaO
      simp (disch:=first|omega|decide|simp only[nmsB,lB]) only[simprocAttr,-rR,-rS,leB,memB,numB,L70b0,qae,qab]
      rfl
    · rintro st ⟨H, rfl, h0, h1⟩ rfl
      have e:aW 8 (addP s x 8)=aW 8 (addW s x):=aW_ext 8 fun j hj=>by simp only[addP,addW,if_pos hj]
      rw[e] at h0
      simp (disch:=first|omega|decide|simp only[nmsB,lB]) only[simprocAttr,-rR,-rS,leB,memB,arrB,numB,L70b0,h0,h1,qae,qab]
theorem block_F (k:Nat) (s:Nat→BitVec 32) (p:Nat→BitVec 8):F C (k+80) 70 [.agg (aW 8 s),.agg (aB 64 p)] []=some (.agg (aW 8 (blk s p)),[],[]) :=
  block_A k s _ p (words_F (k+9) p)
end Sha
namespace Sha
open Go Go.LE Tb
theorem consts_F (k:Nat):F C (k+1) 71 [] []=some (.agg (aW 64 kc),[],[]):=by kernel_rfl
theorem rnew_eq (w:Nat→BitVec 32) (i:Nat) :
    w (i - 16)+(rr (w (i - 15)) 7 ^^^ rr (w (i - 15)) 18 ^^^ w (i - 15) >>> 3)+w (i - 7)+(rr (w (i - 2)) 17 ^^^ rr (w (i - 2)) 19 ^^^ w (i - 2) >>> 10)=wnew w i:=by
  simp only[wnew]
  rw[BitVec.add_assoc (w (i - 16)),BitVec.add_comm (rr (w (i - 15)) 7 ^^^ rr (w (i - 15)) 18 ^^^ w (i - 15) >>> 3),←BitVec.add_assoc]
theorem ch_eq (e f g:BitVec 32):(e &&& f) ^^^ (~~~e &&& g)=g ^^^ e &&& (f ^^^ g):=by
  apply BitVec.eq_of_getLsbD_eq
  intro i hi
  simp only[BitVec.getLsbD_xor,BitVec.getLsbD_and,BitVec.getLsbD_not,hi,decide_true,Bool.true_and]
  cases e.getLsbD i <;> cases f.getLsbD i <;> cases g.getLsbD i <;> rfl
theorem maj_eq (a b c:BitVec 32):(a &&& b) ^^^ (a &&& c) ^^^ (b &&& c)=a &&& b ||| c &&& (a ||| b):=by
  apply BitVec.eq_of_getLsbD_eq
  intro i hi
  simp only[BitVec.getLsbD_xor,BitVec.getLsbD_and,BitVec.getLsbD_or]
  cases a.getLsbD i <;> cases b.getLsbD i <;> cases c.getLsbD i <;> rfl
structure BF (H:Heap) (s w:Nat→BitVec 32):Prop where
  s:H (1,0)=some (aW 8 s)
  z:H (1,1)=some (aW 8 fun _=>0#32)
  k:H (1,2)=some (aW 64 kc)
  w:H (1,3)=some (aW 64 w)
def q3 (s:Nat→BitVec 32) (p:Nat→BitVec 8) (i:Nat) (st:St):Prop := ∃ (H:Heap),st=⟨[.undef,.undef,.ptr (1,0) 0,.ptr (1,1) 0,.ptr (1,2) 0,.ptr (1,3) 0,.ptr (1,4) 0,N i,.undef,.undef,.undef,.undef,.undef,.undef,.undef,.undef,.undef,.undef,.undef,.undef,.undef,.undef,.undef,.undef,.undef,.undef,.undef,.undef,.undef,.undef,.undef,.undef,.undef,.undef,.undef,.undef,.undef,.undef,.undef,.undef,.undef,.undef,.undef,.undef,.undef,.undef,.undef,.undef,.undef,.undef,.undef,.undef,.undef,.undef,.undef,.undef,.undef,.undef,.undef,.undef,.undef,.undef,.undef,.undef,.undef,.undef,.undef,.undef,.undef,.undef,.undef,.undef,.undef,.undef,.undef,.undef,.undef,.undef,.undef,.undef,.undef,.undef,.undef,.undef,.undef,.undef,.undef,.undef,.undef,.undef,.undef,.undef,.undef,.undef,.undef,.undef,.undef,.undef,.undef,.undef,.undef,.undef,.undef,.undef,.undef,.undef,.undef,.undef,.undef,.undef,.undef,.undef,.undef,.undef,.undef,.undef,.undef,.undef,.undef,.undef,.undef,.undef,.undef,.undef,.undef,.undef,.undef,.undef,.undef,.undef,.undef,.undef,.undef,.undef,.undef,.undef,.undef,.undef,.undef,.undef,.undef,.undef,.undef,.undef,.undef,.undef,.undef,.undef,.undef,.undef,.undef,.undef,.undef,.undef,.undef,.undef,.undef,.undef,.undef,.undef,.undef,.undef,.undef,.undef,.undef,.undef,.undef,.undef,.undef,.undef,.undef,.undef,.undef,.undef,.undef,.undef,.undef,.undef,.undef,.undef,.undef,.undef,.undef,.undef,.undef,.undef,.undef,.undef,.undef,.undef],H,2,0⟩ ∧
  H (1,0)=some (aW 8 s)∧H (1,1)=some (aB 64 p)∧H (1,2)=some (aW 8 fun _=>0#32)∧H (1,3)=some (aW 64 kc)∧H (1,4)=some (aW 64 (W p i))
set_option maxRecDepth 10000 in
theorem q3_round (K k0:Nat) (s:Nat→BitVec 32) (p:Nat→BitVec 8) (i:Nat) (hi:i < 16) (st:St) (hI:q3 s p i st) :
    ∃ st1,ev (envC C k0) K L61b3 st=some (.normal,st1)∧q3 s p (i+1) (qa8 L61k3 st1):=by
  obtain ⟨H,rfl,h0,h1,h2,h3,h4⟩:=hI
  apply Exists.intro
  apply And.intro
  · simp (disch := first | omega | decide | simp only [nmsB, lB]) only [simprocAttr, -rR, -rS, leB, memB, arrB, numB, ordB, L61b3, hi, h1, h4, qae, qab, qas]
    rfl
  · refine qao [(1, 0), (1, 1), (1, 2), (1, 3), (1, 4)] rfl (by simp only [simprocAttr, -rR, -rS, qak, L61k3, h0, h1, h2, h3, h4, qaN, qct, qcR, qah, qac, qaa]) rfl ⟨_, rfl, ?_, ?_, ?_, ?_, ?_⟩
    · exact qaj (1,0) rfl (by simp only[simprocAttr,-rR,-rS,memB,h0,qab]) (qbi _ _ _)
    · exact qaj (1,1) rfl (by simp only[simprocAttr,-rR,-rS,memB,h1,qab]) (qaE _ _ _)
    · exact qaj (1,2) rfl (by simp only[simprocAttr,-rR,-rS,memB,h2,qab]) (qbi _ _ _)
    · exact qaj (1,3) rfl (by simp only[simprocAttr,-rR,-rS,memB,h3,qab]) (qbi _ _ _)
    · rw [W, wstep, if_pos hi]
      exact qaj (1,4) rfl (by simp only[simprocAttr,-rR,-rS,memB,be,qab]) (qbi _ _ _)
def q2 (s:Nat→BitVec 32) (p:Nat→BitVec 8) (t:Nat) (st:St):Prop := ∃ (H:Heap),st=⟨[.undef,.undef,.ptr (1,0) 0,.undef,.ptr (1,1) 0,.ptr (1,2) 0,.ptr (1,3) 0,.undef,N t,.undef,.undef,.undef,.undef,.undef,.undef,.undef,.undef,.undef,.undef,.undef,.undef,.undef,.undef,.undef,.undef,.undef,.undef,.undef,.undef,.undef,.undef,.undef,.undef,.undef,.undef,.undef,.undef,.undef,.undef,.undef,.undef,.undef,.undef,.undef,.undef,.undef,.undef,.undef,.undef,.undef,.undef,.undef,.undef,.undef,.undef,.undef,.undef,.undef,.undef,.undef,.undef,.undef,.undef,.undef,.undef,.undef,.undef,.undef,.undef,.undef,.undef,.undef,.undef,.undef,.undef,.undef,.undef,.undef,.undef,.undef,.undef,.undef,.undef,.undef,.undef,.undef,.undef,.undef,.undef,.undef,.undef,.undef,.undef,.undef,.undef,.undef,.undef,.undef,.undef,.undef,.undef,.undef,.undef,.undef,.undef,.undef,.undef,.undef,.undef,.undef,.undef,.undef,.undef,.undef,.undef,.undef,.undef,.undef,.undef,.undef,.undef,.undef,.undef,.undef,.undef,.undef,.undef,.undef,.undef,.undef,.undef,.undef,.undef,.undef,.undef,.undef,.undef,.undef,.undef,.undef,.undef,.undef,.undef,.undef,.undef,.undef,.undef,.undef,.undef,.undef,.undef,.undef,.undef,.undef,.undef,.undef,.undef,.undef,.undef,.undef,.undef,.undef,.undef,.undef,.undef,.undef,.undef,.undef,.undef,.undef,.undef,.undef,.undef,.undef,.undef,.undef,.undef,.undef,.undef,.undef,.undef,.undef,.undef,.undef,.undef,.undef,.undef,.undef,.undef,.undef],H,2,0⟩∧BF H s (W p t)
set_option maxRecDepth 10000 in
theorem q2_round (K k0:Nat) (s:Nat→BitVec 32) (p:Nat→BitVec 8) (t:Nat) (h64:t < 64) (h16:16≤t) (st:St) (hI:q2 s p t st) :
    ∃ st1,ev (envC C (k0+1)) K L61b2 st=some (.normal,st1)∧q2 s p (t+1) (qa8 L61k2 st1):=by
  obtain ⟨H,rfl,hF⟩:=hI
  have hs:=hF.s
  have hz:=hF.z
  have hk:=hF.k
  have hw:=hF.w
  apply Exists.intro
  apply And.intro
  · simp (disch := first | omega | decide | simp only [nmsB, lB]) only [simprocAttr, -rR, -rS, leB, memB, arrB, numB, ordB, L61b2, h64, hw, turn_F, qae, qab, qas]
    rfl
  · refine qao [(1, 0), (1, 1), (1, 2), (1, 3)] rfl (by simp only [simprocAttr, -rR, -rS, qak, L61k2, hs, hz, hk, hw, qaN, qct, qcR, qah, qac, qaa]) rfl ⟨_, rfl, ?_, ?_, ?_, ?_⟩
    · exact qaj (1,0) rfl (by simp only[simprocAttr,-rR,-rS,memB,hs,qab]) (qbi _ _ _)
    · exact qaj (1,1) rfl (by simp only[simprocAttr,-rR,-rS,memB,hz,qab]) (qbi _ _ _)
    · exact qaj (1,2) rfl (by simp only[simprocAttr,-rR,-rS,memB,hk,qab]) (qbi _ _ _)
    · rw [W, wstep, if_neg (by omega), ← rnew_eq]
      exact qaj (1,3) rfl (by simp only[simprocAttr,-rR,-rS,memB,qab]) (qbi _ _ _)
def q1 (s w:Nat→BitVec 32) (i:Nat) (st:St):Prop := ∃ (H:Heap),st=⟨[.undef,.undef,.ptr (1,0) 0,.undef,.ptr (1,1) 0,.ptr (1,2) 0,.ptr (1,3) 0,.undef,.undef,.undef,.undef,.ptr (1,4) 0,N i,.undef,.undef,.undef,.undef,.undef,.undef,.undef,.undef,.undef,.undef,.undef,.undef,.undef,.undef,.undef,.undef,.undef,.undef,.undef,.undef,.undef,.undef,.undef,.undef,.undef,.undef,.undef,.undef,.undef,.undef,.undef,.undef,.undef,.undef,.undef,.undef,.undef,.undef,.undef,.undef,.undef,.undef,.undef,.undef,.undef,.undef,.undef,.undef,.undef,.undef,.undef,.undef,.undef,.undef,.undef,.undef,.undef,.undef,.undef,.undef,.undef,.undef,.undef,.undef,.undef,.undef,.undef,.undef,.undef,.undef,.undef,.undef,.undef,.undef,.undef,.undef,.undef,.undef,.undef,.undef,.undef,.undef,.undef,.undef,.undef,.undef,.undef,.undef,.undef,.undef,.undef,.undef,.undef,.undef,.undef,.undef,.undef,.undef,.undef,.undef,.undef,.undef,.undef,.undef,.undef,.undef,.undef,.undef,.undef,.undef,.undef,.undef,.undef,.undef,.undef,.undef,.undef,.undef,.undef,.undef,.undef,.undef,.undef,.undef,.undef,.undef,.undef,.undef,.undef,.undef,.undef,.undef,.undef,.undef,.undef,.undef,.undef,.undef,.undef,.undef,.undef,.undef,.undef,.undef,.undef,.undef,.undef,.undef,.undef,.undef,.undef,.undef,.undef,.undef,.undef,.undef,.undef,.undef,.undef,.undef,.undef,.undef,.undef,.undef,.undef,.undef,.undef,.undef,.undef,.undef,.undef,.undef,.undef,.undef,.undef,.undef,.undef],H,2,0⟩∧BF H s w∧H (1,4)=some (aW 8 (R s w i))
theorem rstep_eq (s:Nat→BitVec 32) (k w:BitVec 32) :
    vec8 (s 7 + (rr (s 4) 6 ^^^ rr (s 4) 11 ^^^ rr (s 4) 25) + (s 4 &&& s 5 ^^^ ~~~(s 4) &&& s 6) + k + w + ((rr (s 0) 2 ^^^ rr (s 0) 13 ^^^ rr (s 0) 22) + (s 0 &&& s 1 ^^^ s 0 &&& s 2 ^^^ s 1 &&& s 2))) (s 0) (s 1) (s 2)
      (s 3+(s 7+(rr (s 4) 6 ^^^ rr (s 4) 11 ^^^ rr (s 4) 25)+(s 4 &&& s 5 ^^^ ~~~(s 4) &&& s 6)+k+w)) (s 4) (s 5) (s 6)=rstep s k w:=by
  simp only[rstep,one,two]
  rw[ch_eq]
  rw[maj_eq]
set_option maxRecDepth 10000 in
theorem q1_round (K k0:Nat) (s w:Nat→BitVec 32) (i:Nat) (hi:i < 64) (st:St) (hI:q1 s w i st) :
    ∃ st1,ev (envC C (k0+1)) K L61b1 st=some (.normal,st1)∧q1 s w (i+1) (qa8 L61k1 st1):=by
  obtain ⟨H,rfl,hF,hx⟩:=hI
  have hs:=hF.s
  have hz:=hF.z
  have hk:=hF.k
  have hw:=hF.w
  apply Exists.intro
  apply And.intro
  · simp (disch := first | omega | decide | simp only [nmsB, lB]) only [simprocAttr, -rR, -rS, leB, memB, arrB, numB, ordB, L61b1, hi, hk, hw, hx, turn_F, build8, qe6, qae, qas]
    rfl
  · refine qao [(1, 0), (1, 1), (1, 2), (1, 3), (1, 4)] rfl (by simp only [simprocAttr, -rR, -rS, qak, L61k1, hs, hz, hk, hw, hx, qaN, qct, qcR, qah, qac, qaa]) rfl ⟨_, rfl, ⟨?_, ?_, ?_, ?_⟩, ?_⟩
    · exact qaj (1,0) rfl (by simp only[simprocAttr,-rR,-rS,memB,hs,qab]) (qbi _ _ _)
    · exact qaj (1,1) rfl (by simp only[simprocAttr,-rR,-rS,memB,hz,qab]) (qbi _ _ _)
    · exact qaj (1,2) rfl (by simp only[simprocAttr,-rR,-rS,memB,hk,qab]) (qbi _ _ _)
    · exact qaj (1,3) rfl (by simp only[simprocAttr,-rR,-rS,memB,hw,qab]) (qbi _ _ _)
    · rw[R_succ,←rstep_eq]; exact qaj (1,4) rfl (by simp only[simprocAttr,-rR,-rS,memB,qab]) (qbi _ _ _)
def q0 (s x:Nat→BitVec 32) (i:Nat) (st:St):Prop := ∃ (H:Heap),st=⟨[.undef,.undef,.ptr (1,0) 0,.undef,.ptr (1,1) 0,.undef,.undef,.undef,.undef,.undef,.undef,.ptr (1,2) 0,.undef,.undef,.undef,.undef,.undef,N i,.undef,.undef,.undef,.undef,.undef,.undef,.undef,.undef,.undef,.undef,.undef,.undef,.undef,.undef,.undef,.undef,.undef,.undef,.undef,.undef,.undef,.undef,.undef,.undef,.undef,.undef,.undef,.undef,.undef,.undef,.undef,.undef,.undef,.undef,.undef,.undef,.undef,.undef,.undef,.undef,.undef,.undef,.undef,.undef,.undef,.undef,.undef,.undef,.undef,.undef,.undef,.undef,.undef,.undef,.undef,.undef,.undef,.undef,.undef,.undef,.undef,.undef,.undef,.undef,.undef,.undef,.undef,.undef,.undef,.undef,.undef,.undef,.undef,.undef,.undef,.undef,.undef,.undef,.undef,.undef,.undef,.undef,.undef,.undef,.undef,.undef,.undef,.undef,.undef,.undef,.undef,.undef,.undef,.undef,.undef,.undef,.undef,.undef,.undef,.undef,.undef,.undef,.undef,.undef,.undef,.undef,.undef,.undef,.undef,.undef,.undef,.undef,.undef,.undef,.undef,.undef,.undef,.undef,.undef,.undef,.undef,.undef,.undef,.undef,.undef,.undef,.undef,.undef,.undef,.undef,.undef,.undef,.undef,.undef,.undef,.undef,.undef,.undef,.undef,.undef,.undef,.undef,.undef,.undef,.undef,.undef,.undef,.undef,.undef,.undef,.undef,.undef,.undef,.undef,.undef,.undef,.undef,.undef,.undef,.undef,.undef,.undef,.undef,.undef,.undef,.undef,.undef,.undef,.undef,.undef,.undef,.undef],H,2,0⟩ ∧
  H (1,0)=some (aW 8 s)∧H (1,1)=some (aW 8 fun _=>0#32)∧H (1,2)=some (aW 8 (addP x s i))
set_option maxRecDepth 10000 in
theorem q0_round (K k0:Nat) (s x:Nat→BitVec 32) (i:Nat) (hi:i < 8) (st:St) (hI:q0 s x i st) :
    ∃ st1,ev (envC C k0) K L61b0 st=some (.normal,st1)∧q0 s x (i+1) (qa8 L61k0 st1):=by
  obtain ⟨H,rfl,h0,h1,h2⟩:=hI
  apply Exists.intro
  apply And.intro
  · simp (disch := first | omega | decide | simp only [nmsB, lB]) only [simprocAttr, -rR, -rS, leB, memB, arrB, numB, ordB, L61b0, hi, h0, h2, qae, qab, qas]
    rfl
  · refine qao [(1, 0), (1, 1), (1, 2)] rfl (by simp only [simprocAttr, -rR, -rS, qak, L61k0, h0, h1, h2, qaN, qct, qcR, qah, qac, qaa]) rfl ⟨_, rfl, ?_, ?_, ?_⟩
    · exact qaj (1,0) rfl (by simp only[simprocAttr,-rR,-rS,memB,h0,qab]) (qbi _ _ _)
    · exact qaj (1,1) rfl (by simp only[simprocAttr,-rR,-rS,memB,h1,qab]) (qbi _ _ _)
    · rw [addP_succ]
      exact qaj (1,2) rfl (by simp only[simprocAttr,-rR,-rS,memB,qab]) (qbi _ _ _)
set_option maxRecDepth 10000 in
theorem rblock_F (k:Nat) (s:Nat→BitVec 32) (p:Nat→BitVec 8):F C (k+80) 61 [.agg (aW 8 s),.agg (aB 64 p)] []=some (.agg (aW 8 (blk s p)),[],[]):=by
  rw[qaH f61]
  simp (disch:=first|omega|decide|simp only[nmsB,lB]) only[simprocAttr,-rR,-rS,leB,memB,arrB,numB,L61,consts_F,qae,qab]
  generalize hL:qa1 L61k3 _ _ _=r
  refine qaR hL (q3 s p) 16 (by omega) (fun i st hi hI=>q3_round _ _ s p i hi st hI) ?_ ?_ ?_
  · refine qao [(2, 0), (3, 0), (4, 0), (6, 0), (8, 0)] rfl (by simp only [simprocAttr, -rR, -rS, qak, L61k3, qaN, qct, qcR, qah, qac, qaa]) rfl ⟨_, rfl, ?_, ?_, ?_, ?_, ?_⟩
    · exact qaj (2,0) rfl (by simp only[simprocAttr,-rR,-rS,memB,qab]) (qbi _ _ _)
    · exact qaj (3,0) rfl (by simp only[simprocAttr,-rR,-rS,memB,qab]) (qaE _ _ _)
    · exact qaj (4,0) rfl (by simp only[simprocAttr,-rR,-rS,memB,qab]) (qbi _ _ _)
    · exact qaj (6,0) rfl (by simp only[simprocAttr,-rR,-rS,memB,qab]) (qbi _ _ _)
    · exact qaj (8,0) rfl (by simp only[simprocAttr,-rR,-rS,memB,qab] <;> rfl) (qbi _ _ _)
  · rintro st ⟨H, rfl, h0, h1, h2, h3, h4⟩
    apply qaO
    simp (disch:=first|omega|decide|simp only[nmsB,lB]) only[simprocAttr,-rR,-rS,leB,memB,numB,L61b3,qae,qab]
    rfl
  · rintro st ⟨H, rfl, h0, h1, h2, h3, h4⟩ rfl
    clear hL
    simp (disch:=first|omega|decide|simp only[nmsB,lB]) only[simprocAttr,-rR,-rS,leB,memB,arrB,numB,L61b3,qae,qab]
    generalize hL:qa1 L61k2 _ _ _=r
    refine qaR hL (fun i=>q2 s p (16+i)) 48 (by omega) (fun i st hi hI=>q2_round _ (k+78) s p (16+i) (by omega) (by omega) st hI) ?_ ?_ ?_
    · refine qao [(1, 0), (1, 2), (1, 3), (1, 4)] rfl (by simp only [simprocAttr, -rR, -rS, qak, L61k2, h0, h1, h2, h3, h4, qaN, qct, qcR, qah, qac, qaa]) rfl ⟨_, rfl, ?_, ?_, ?_, ?_⟩
      · exact qaj (1,0) rfl (by simp only[simprocAttr,-rR,-rS,memB,h0,qab]) (qbi _ _ _)
      · exact qaj (1,2) rfl (by simp only[simprocAttr,-rR,-rS,memB,h2,qab]) (qbi _ _ _)
      · exact qaj (1,3) rfl (by simp only[simprocAttr,-rR,-rS,memB,h3,qab]) (qbi _ _ _)
      · exact qaj (1,4) rfl (by simp only[simprocAttr,-rR,-rS,memB,h4,qab]) (qbi _ _ _)
    · rintro st ⟨H, rfl, hF⟩
      apply qaO
      simp (disch:=first|omega|decide|simp only[nmsB,lB]) only[simprocAttr,-rR,-rS,leB,memB,numB,L61b2,qae,qab]
      rfl
    · rintro st ⟨H, rfl, hF⟩ rfl
      clear hL h0 h1 h2 h3 h4
      have hs:=hF.s
      have hz:=hF.z
      have hk:=hF.k
      have hw:=hF.w
      simp only[Nat.reduceAdd] at hw ⊢
      simp only[blk]
      generalize W p 64=w at *
      clear hF
      simp (disch:=first|omega|decide|simp only[nmsB,lB]) only[simprocAttr,-rR,-rS,leB,memB,arrB,numB,L61b2,hs,qae,qab]
      generalize hL:qa1 L61k1 _ _ _=r
      refine qaR hL (q1 s w) 64 (by omega) (fun i st hi hI=>q1_round _ (k+78) s w i hi st hI) ?_ ?_ ?_
      · refine qao [(1, 0), (1, 1), (1, 2), (1, 3), (5, 0)] rfl (by simp only [simprocAttr, -rR, -rS, qak, L61k1, hs, hz, hk, hw, qaN, qct, qcR, qah, qac, qaa]) rfl ⟨_, rfl, ⟨?_, ?_, ?_, ?_⟩, ?_⟩
        · exact qaj (1,0) rfl (by simp only[simprocAttr,-rR,-rS,memB,hs,qab]) (qbi _ _ _)
        · exact qaj (1,1) rfl (by simp only[simprocAttr,-rR,-rS,memB,hz,qab]) (qbi _ _ _)
        · exact qaj (1,2) rfl (by simp only[simprocAttr,-rR,-rS,memB,hk,qab]) (qbi _ _ _)
        · exact qaj (1,3) rfl (by simp only[simprocAttr,-rR,-rS,memB,hw,qab]) (qbi _ _ _)
        · rw[R_zero]; exact qaj (5,0) rfl (by simp only[simprocAttr,-rR,-rS,memB,qab]) (qbi _ _ _)
      · rintro st ⟨H, rfl, hF, hx⟩
        apply qaO
        simp (disch:=first|omega|decide|simp only[nmsB,lB]) only[simprocAttr,-rR,-rS,leB,memB,numB,L61b1,qae,qab]
        rfl
      · clear hL hs hz hk hw
        rintro st ⟨H,rfl,hF,hx⟩ rfl
        have hs:=hF.s
        have hz:=hF.z
        have hk:=hF.k
        have hw:=hF.w
        generalize R s w 64=x at *
        clear hF
        simp (disch:=first|omega|decide|simp only[nmsB,lB]) only[simprocAttr,-rR,-rS,leB,memB,arrB,numB,L61b1,qae,qab]
        generalize hL:qa1 L61k0 _ _ _=r
        refine qaR hL (q0 s x) 8 (by omega) (fun i st hi hI=>q0_round _ _ s x i hi st hI) ?_ ?_ ?_
        · refine qao [(1, 0), (1, 1), (1, 4)] rfl (by simp only [simprocAttr, -rR, -rS, qak, L61k0, hs, hz, hk, hw, hx, qaN, qct, qcR, qah, qac, qaa]) rfl ⟨_, rfl, ?_, ?_, ?_⟩
          · exact qaj (1,0) rfl (by simp only[simprocAttr,-rR,-rS,memB,hs,qab]) (qbi _ _ _)
          · exact qaj (1,1) rfl (by simp only[simprocAttr,-rR,-rS,memB,hz,qab]) (qbi _ _ _)
          · rw [show aW 8 (addP x s 0) = aW 8 x from aW_ext 8 fun j _ => by simp [addP]]
            exact qaj (1,4) rfl (by simp only[simprocAttr,-rR,-rS,memB,hx,qab]) (qbi _ _ _)
        · rintro st ⟨H, rfl, h0, h1, h2⟩
          apply qaO
          simp (disch:=first|omega|decide|simp only[nmsB,lB]) only[simprocAttr,-rR,-rS,leB,memB,numB,L61b0,qae,qab]
          rfl
        · rintro st ⟨H, rfl, h0, h1, h2⟩ rfl
          have e:aW 8 (addP x s 8)=aW 8 (addW s x):=aW_ext 8 fun j hj=>by simp only[addP,addW,if_pos hj]; exact BitVec.add_comm _ _
          rw[e] at h2
          simp (disch:=first|omega|decide|simp only[nmsB,lB]) only[simprocAttr,-rR,-rS,leB,memB,arrB,numB,L61b0,h0,h1,h2,qae,qab]
end Sha
namespace Sha
open Go Go.LE Tb
def HsC (s:Nat→BitVec 32) (r:LV) (n:Nat):qal:=aW 8 s++[r,N n]
theorem qdF (s:Nat→BitVec 32) (r:LV) (n:Nat):(HsC s r n).length=10:=by simp[HsC,qbr]
theorem qdX (s:Nat→BitVec 32) (r:LV) (n:Nat):qaS 0 8 (some (HsC s r n))=some (aW 8 s):=by
  rw[qbH,if_pos (by rw[qdF]; decide),zF,HsC,List.take_append_of_le_length (by rw[qbr]; exact Nat.le_refl _),List.take_of_length_le (by rw[qbr]; exact Nat.le_refl _)]
theorem qci (s:Nat→BitVec 32) (r:LV) (n:Nat):qaS 8 1 (some (HsC s r n))=some [r]:=by
  rw[qbH,if_pos (by rw[qdF]; decide),HsC,List.drop_append_of_le_length (by rw[qbr]; exact Nat.le_refl _),List.drop_of_length_le (by rw[qbr]; exact Nat.le_refl _)]; rfl
theorem Hs_n (s:Nat→BitVec 32) (r:LV) (n:Nat):qaS 9 1 (some (HsC s r n))=some [N n]:=by
  rw[qbH,if_pos (by rw[qdF]; decide),HsC,List.drop_append,List.drop_of_length_le (by rw[qbr]; decide),qbr]; rfl
theorem Hs_st0 (m:Nm) (s s':Nat→BitVec 32) (r:LV) (n:Nat):stK 8 0 m (some (aW 8 s')) (some (HsC s r n))=some ⟨Un,[],[(m,some (HsC s' r n))]⟩:=by
  rw[qcw,if_pos ⟨qbr _ _,by rw[qdF]; decide,aW_isCell _ _⟩]
  simp only[qbh,zW,zI,qbr,zO,HsC]
  rw[List.drop_append_of_le_length (by rw[qbr]; exact Nat.le_refl _),List.drop_of_length_le (by rw[qbr]; exact Nat.le_refl _)]; rfl
theorem qdS (m:Nm) (s:Nat→BitVec 32) (r r':LV) (n:Nat) (h:qaB r'=true):stK 1 8 m (some [r']) (some (HsC s r n))=some ⟨Un,[],[(m,some (HsC s r' n))]⟩:=by
  rw[qcw,if_pos ⟨rfl,by rw[qdF]; decide,by simp[h]⟩]
  simp only[qbh,HsC]
  rw[List.take_append_of_le_length (by rw[qbr]; exact Nat.le_refl _),List.take_of_length_le (by rw[qbr]; exact Nat.le_refl _),List.drop_append,List.drop_of_length_le (by rw[qbr]; simp),qbr]
  simp
theorem Hs_st9 (m:Nm) (s:Nat→BitVec 32) (r:LV) (n n':Nat):stK 1 9 m (some [N n']) (some (HsC s r n))=some ⟨Un,[],[(m,some (HsC s r n'))]⟩:=by
  rw[qcw,if_pos ⟨rfl,by rw[qdF]; decide,rfl⟩]
  simp only[qbh,HsC]
  rw[List.take_append,List.take_of_length_le (by rw[qbr]; decide),qbr,List.drop_append,List.drop_of_length_le (by rw[qbr]; simp),qbr]
  simp
theorem qa6 (s:Nat→BitVec 32) (r:LV) (n:Nat):(HsC s r n).flatMap (nms D)=nms D r:=by
  simp only[HsC,List.flatMap_append,qct,zK,zN,qcR,zI,zD]
theorem qaP (π:Nm→Option Nm) (s:Nat→BitVec 32) (r:LV) (n:Nat):(HsC s r n).map (ren D π)=HsC s (ren D π r) n:=by
  simp only[HsC,List.map_append,qbi,zB,zA,qew]
theorem zero10:[B32 0#32,B32 0#32,B32 0#32,B32 0#32,B32 0#32,B32 0#32,B32 0#32,B32 0#32,Nil,N 0]=HsC (fun _=>0#32) Nil 0:=rfl
theorem splice_s (s s':Nat→BitVec 32) (r:LV) (n:Nat):qbh (HsC s r n) 0 (aW 8 s')=HsC s' r n:=by
  simp only[qbh,zW,zI,qbr,zO,HsC]
  rw[List.drop_append_of_le_length (by rw[qbr]; exact Nat.le_refl _),List.drop_of_length_le (by rw[qbr]; exact Nat.le_refl _)]; rfl
theorem fill_new (s:Nat→BitVec 32):fill (HsC (fun _=>0#32) Nil 0) [(0,8,.agg (aW 8 s))]=some (HsC s Nil 0):=by
  simp only[fill,qfZ,qbr,qdF,splice_s]
  rw[if_pos (by decide)]
theorem fill_fork (s:Nat→BitVec 32) (r:LV) (n:Nat) (h:qbe r=some [r]):fill (HsC (fun _=>0#32) Nil 0) [(0,8,.agg (aW 8 s)),(8,1,r),(9,1,N n)]=some (HsC s r n):=by
  have e1:qbh (HsC s Nil 0) 8 [r]=HsC s r 0:=by
    simp only[qbh,HsC]
    rw[List.take_append_of_le_length (by rw[qbr]; exact Nat.le_refl _),List.take_of_length_le (by rw[qbr]; exact Nat.le_refl _),List.drop_append,List.drop_of_length_le (by rw[qbr]; simp),qbr]
    simp
  have e2:qbh (HsC s r 0) 9 [N n]=HsC s r n:=by
    simp only[qbh,HsC]
    rw[List.take_append,List.take_of_length_le (by rw[qbr]; decide),qbr,List.drop_append,List.drop_of_length_le (by rw[qbr]; simp),qbr]
    simp
  simp only[fill,qfZ,qbr,qdF,splice_s,h,cellsOf_N,zE,zL,e1,e2]
  rw[if_pos (by decide),if_pos (by decide),if_pos (by decide)]
def ini:Nat→BitVec 32:=vec8 0x6a09e667#32 0xbb67ae85#32 0x3c6ef372#32 0xa54ff53a#32 0x510e527f#32 0x9b05688c#32 0x1f83d9ab#32 0x5be0cd19#32
theorem firstA (k:Nat):F C (k+1) 85 [] []=some (.agg (aW 8 ini),[],[]):=by kernel_rfl
theorem firstB (k:Nat):F C (k+1) 60 [] []=some (.agg (aW 8 ini),[],[]):=by kernel_rfl
theorem new_F (k:Nat):F C (k+2) 69 [] []=some (.ptr (1,0) 0,[],[HsC ini Nil 0]):=by
  rw[qaH f69]
  simp (disch:=first|omega|decide|simp only[nmsB,lB]) only[simprocAttr,-rR,-rS,leB,memB,arrB,numB,qaf,L69,firstA,zero10,fill_new,qae,qad,qac,qaa]
  rw[qaX 0 _ _ [(5,0)] (by simp only[simprocAttr,-rR,-rS,qak,qa6,qbD,qah,qac,qaa])]
  simp only[simprocAttr,-rR,-rS,memB,qaf,List.filterMap_cons,List.range_zero,zA,zB,qaP,qab,qad,qac,qaa]
  rfl
theorem clone_nil (k:Nat):F C (k+1) 37 [Nil] []=some (Nil,[],[]):=by
  rw[qaH f37]
  simp (disch:=first|omega|decide|simp only[nmsB,lB]) only[simprocAttr,-rR,-rS,leB,memB,arrB,numB,qaf,L37,qae,qab,qad,qac,qaa]
  rw[qaX 0 _ _ [] (by simp only[simprocAttr,-rR,-rS,qak,qbD,qah,qac,qaa])]
  simp only[simprocAttr,-rR,-rS,leB,memB,qaf,qae,qab,qad,qac,qaa]
theorem clone_0 (k:Nat) (l:List (BitVec 8)):F C (k+1) 37 [.sl (0,0) 0 0 none 1] [bs l]=some (.sl (1,0) 0 0 (some 0) 1,[some (bs l)],[bs []]):=by
  rw[qaH f37]
  have ha:∀ H:Heap,H (5,0)=some []→appX 7 1 1 0 H [] [] (.sl (5,0) 0 0 (some 0) 1)=some ⟨.sl (5,0) 0 0 (some 0) 1,[],[((5,0),some [])]⟩:=by
    intro H h
    simp only[appX,h,qbh]
    rfl
  have hb:=ha (upd (qaY [bs l]) (5,0) (some [])) rfl
  simp (disch:=first|omega|decide|simp only[nmsB,lB]) only[simprocAttr,-rR,-rS,leB,memB,arrB,numB,qaf,L37,hb,qae,qab,qad,qac,qaa]
  rw[qaX 1 _ _ [(5,0)] (by simp only[simprocAttr,-rR,-rS,qak,qam,qah,qac,qaa])]
  simp only[simprocAttr,-rR,-rS,leB,memB,qaf,qae,qab,qad,qac,qaa]
  rfl
theorem clone_F (k:Nat) (len:Nat) (l:List (BitVec 8)) (hl:len≤l.length) (h0:0 < len) (hb:len≤211106232532992) :
    F C (k+1) 37 [.sl (0,0) 0 len none 1] [bs l]=some (.sl (1,0) 0 len none 1,[some (bs l)],[bs (l.take len)]):=by
  rw[qaH f37]
  have hf:qbp (upd (qaY [bs l]) (5,0) (some [])) 1 len (.sl (0,0) 0 len none 1)=some (bs (l.take len)):=by
    rw[qbQ (0,0) 0 len none l (by simp only[simprocAttr,-rR,-rS,leB,memB,qaf,qae,qab,qad,qac,qaa]) (by omega),zF]
  have ha:=qc9 (b:=7) (H:=upd (qaY [bs l]) (5,0) (some [])) len (5,0) 0 0 0 [] (l.take len) (by simp only[simprocAttr,-rR,-rS,memB,qab] <;> rfl) (by simp) (by omega) (by omega)
  simp only[List.drop_nil,List.take_nil,zI,zO] at ha
  simp (disch:=first|omega|decide|simp only[nmsB,lB]) only[simprocAttr,-rR,-rS,leB,memB,arrB,numB,qaf,L37,hf,ha,qae,qab,qad,qac,qaa]
  rw[qaX 1 _ _ [(7,0)] (by simp only[simprocAttr,-rR,-rS,qak,qam,qah,qac,qaa])]
  simp only[simprocAttr,-rR,-rS,leB,memB,qaf,qae,qab,qad,qac,qaa]
  rfl
end Sha
namespace Sha
open Go Go.LE Tb
def qdL (m:List (BitVec 8)) (i:Nat):Nat→BitVec 8:=fun j=>if j < 64 then m.getD (64*i+j) 0#8 else 0#8
def absN (m:List (BitVec 8)) (s:Nat→BitVec 32):Nat→(Nat→BitVec 32)
  | 0=>s
  | i+1=>blk (absN m s i) (qdL m i)
theorem bs_chunk (m:List (BitVec 8)) (i:Nat) (h:64*i+64≤m.length):qaS (64*i) 64 (some (bs m))=some (aB 64 (qdL m i)):=by
  rw[bs_cells _ _ _ h,qe0 _ 64 (by rw[zU,zR]; omega)]
  congr 1
  apply qcn
  intro j hj
  simp only[qdL,List.getD_eq_getElem?_getD,List.getElem?_take,List.getElem?_drop,if_pos hj]
theorem copied (m:List (BitVec 8)) (a left:Nat) (h1:a+left=m.length) :
    ∃ (l' : List (BitVec 8)) (ms : List (Nm × Option qal)), (∀ H : Heap, H (1, 0) = some (bs m) → cpK 1 H (.sl (1, 0) 0 m.length none 1) (.sl (1, 0) a left none 1) (some left) = some ⟨N left, [], ms⟩) ∧
      (ms=[]∧l'=m∨ms=[((1,0),some (bs l'))])∧l'.take left=m.drop a∧left≤l'.length:=by
  by_cases h0:left=0
  · subst h0
    refine ⟨m,[],fun H _=>cp_zero _ _ _ _ _ _ _ _ (Nat.zero_min _),.inl ⟨rfl,rfl⟩,?_,Nat.zero_le _⟩
    rw[zW,List.drop_of_length_le (by omega)]
  · have hmin : min left m.length = left := Nat.min_eq_left (by omega)
    have hd:(m.drop a).take left=m.drop a:=List.take_of_length_le (by rw[zR]; omega)
    have hf:∀ H:Heap,H (1,0)=some (bs m)→qbp H 1 (min left m.length) (.sl (1,0) a left none 1)=some (bs (m.drop a)):=by
      intro H hm
      rw[hmin,qbQ (1,0) a left none m hm (by omega),hd]
    refine ⟨m.take 0++m.drop a++m.drop (0+(m.drop a).length),[((1,0),some (bs (m.take 0++m.drop a++m.drop (0+(m.drop a).length))))],?_,.inr rfl,?_,?_⟩
    · intro H hm
      rw[qeT left (1,0) 0 m.length none _ m (m.drop a) (by omega) (hf H hm) hm (by omega),hmin]
    · rw[zW,zI,List.take_append_of_le_length (by rw[zR]; omega),List.take_of_length_le (by rw[zR]; omega)]
    · simp only[zW,zI,zH,zR]; omega
def wJA (s:Nat→BitVec 32) (m:List (BitVec 8)) (n:Nat) (i:Nat) (st:St):Prop := ∃ (H:Heap),st=⟨[.ptr (0,0) 0,.undef,.undef,.undef,N (64*i),.undef,.undef,.undef,.undef,.undef,.undef,.undef,.undef,.undef,.undef,.undef,.undef,.undef,.undef,.undef,.undef,.undef,.undef,.undef,.undef,.undef,.undef,.undef,.undef,.undef,.undef,.undef,.undef,.undef,.undef,.undef,.undef,.undef,.undef,.undef,.undef,.undef,.undef,.undef,.undef,.undef,.undef,.undef,.undef,.undef,.undef,.undef,.undef,.undef,.undef,.undef,.undef,.undef,.undef,.undef,.undef,.undef,.undef,.undef,.undef,.undef,.undef,.undef,.undef,.undef,.undef,.undef,.undef,.undef],H,2,1⟩ ∧
  H (0,0)=some (HsC (absN m s i) (.sl (1,0) 0 m.length none 1) n)∧H (1,0)=some (bs m)
set_option maxRecDepth 10000 in
theorem wr_roundA (K k0:Nat) (hblk:∀ s p,F C k0 70 [.agg (aW 8 s),.agg (aB 64 p)] []=some (.agg (aW 8 (blk s p)),[],[])) (s:Nat→BitVec 32) (m:List (BitVec 8)) (n:Nat) (hm:m.length≤211106232532992)
    (i:Nat) (hi:64*i+64≤m.length) (st:St) (hI:wJA s m n i st) :
    ∃ st1,ev (envC C k0) K L57b0 st=some (.normal,st1)∧wJA s m n (i+1) (qa8 L57k0 st1):=by
  obtain ⟨H,rfl,h0,h1⟩:=hI
  have hc:=bs_chunk m i hi
  have e1:64≤m.length - 64*i:=by omega
  have e2:64*i+64 - 64*i=64:=by omega
  apply Exists.intro
  apply And.intro
  · simp (disch := first | omega | decide | simp only [nmsB, lB]) only [simprocAttr, -rR, -rS, leB, memB, arrB, numB, qaf, ordB, L57b0, h0, h1, e1, e2, hc, hblk, qdX, qci, Hs_st0, qae, qab, qad, qac, qaa, qas]
    rfl
  · refine qao [(1, 0)] rfl (by simp only [simprocAttr, -rR, -rS, qak, L57k0, h0, h1, qa6, qam, qaL, qah, qac, qaa]) rfl ⟨_, rfl, ?_, ?_⟩
    · rw [qaG]
      simp (disch:=first|omega|decide|simp only[nmsB,lB]) only[simprocAttr,-rR,-rS,leB,memB,qaf,h0,qaP,absN,qae,qab,qad,qac,qaa]
    · exact qaj (1,0) rfl (by simp only[simprocAttr,-rR,-rS,memB,h1,qab]) (qaq _ _)
set_option maxRecDepth 10000 in
theorem writeA (k:Nat) (s:Nat→BitVec 32) (n:Nat)  (b m:List (BitVec 8)) (hm:m=b)  (hb0:b≠[]) (hml:m.length≤211106232532992) (hn:n+b.length≤4611686018427387904) :
    ∃ l' : List (BitVec 8), F C (k + m.length / 64 + 100) 57 [.ptr (0, 0) 0, .isl (bs b) b.length] [HsC s Nil n] =
      some (.tup [],[some (HsC (absN m s (m.length / 64)) (.sl (1,0) 0 (m.length - 64*(m.length / 64)) none 1) (n+b.length))],[bs l'])∧l'.take (m.length - 64*(m.length / 64))=m.drop (64*(m.length / 64))∧m.length - 64*(m.length / 64)≤l'.length:=by
  have hbl:0 < b.length:=List.length_pos_iff.2 hb0
  have hfr:∀ H:Heap,qbp H 1 b.length (.isl (bs b) b.length)=some (bs b):=fun H=>qb9 b b.length rfl
  obtain ⟨q,hq⟩:∃ q,q=m.length / 64:=⟨_,rfl⟩
  rw[←hq]
  have hblk:∀ s p,F C (k+q+99) 70 [.agg (aW 8 s),.agg (aB 64 p)] []=some (.agg (aW 8 (blk s p)),[],[]):=fun s p=>block_F (k+q+19) s p
  rw[qaH f57]
  have ha:∀ H:Heap,appX 20 1 1 b.length H [] (bs b) Nil=some ⟨.sl (20,0) 0 m.length none 1,[bs m],[]⟩:=by
    intro H; subst hm; exact appX_nil 1 1 _ (bs m) (by omega) (by omega)
  simp (disch:=first|omega|decide|simp only[nmsB,lB]) only[simprocAttr,-rR,-rS,leB,memB,arrB,numB,qaf,L57,Hs_n,qci,Hs_st9,qdS,hfr,ha,qae,qab,qad,qac,qaa]
  generalize hL:qa1 L57k0 _ _ _=r
  refine qaR hL (wJA s m (n+b.length)) q (by omega) (fun i st hi hI=>wr_roundA _ _ hblk s m (n+b.length) hml i (by omega) st hI) ?_ ?_ ?_
  · refine qao [(20, 0)] rfl (by simp only [simprocAttr, -rR, -rS, qak, L57k0, qa6, qam, qaL, qah, qac, qaa]) rfl ⟨_, rfl, ?_, ?_⟩
    · rw [qaG]
      simp (disch:=first|omega|decide|simp only[nmsB,lB]) only[simprocAttr,-rR,-rS,leB,memB,qaf,qaP,absN,qae,qab,qad,qac,qaa]
    · exact qaj (20,0) rfl (by simp only[simprocAttr,-rR,-rS,memB,qab]) (qaq _ _)
  · rintro st ⟨H, rfl, h0, h1⟩
    have e1:¬ 64≤m.length - 64*q:=by omega
    apply qaO
    simp (disch:=first|omega|decide|simp only[nmsB,lB]) only[simprocAttr,-rR,-rS,leB,memB,numB,qaf,L57b0,h0,qci,e1,qae,qab,qad,qac,qaa]
    rfl
  · rintro st ⟨H, rfl, h0, h1⟩ rfl
    have e1:¬ 64≤m.length - 64*q:=by omega
    have e2:64*q≤m.length:=by omega
    obtain ⟨l',ms,hcp,hms,ht1,ht2⟩:=copied m (64*q) (m.length - 64*q) (by omega)
    have hcp':=hcp (only [(1,0),(1,0)] H) (by simp only[simprocAttr,-rR,-rS,leB,memB,ordB,h1,qae,qab,qas])
    refine ⟨l',?_,ht1,ht2⟩
    rcases hms with ⟨rfl,rfl⟩ | rfl
    · simp (disch := first | omega | decide | simp only [nmsB, lB]) only [simprocAttr, -rR, -rS, leB, memB, arrB, numB, qaf, ordB, L57b0, h0, h1, qa3, qci, qdS, e1, e2, hcp', qae, qab, qad, qac, qaa, qas]
      rw[qaX 1 _ _ [(1,0)] (by simp only[simprocAttr,-rR,-rS,qak,h1,qa6,qam,qcr,qaL,qah,qac,qaa])]
      simp (disch:=first|omega|decide|simp only[nmsB,lB]) only[simprocAttr,-rR,-rS,leB,memB,qaf,h1,qaP,qae,qab,qad,qac,qaa]
    · simp (disch := first | omega | decide | simp only [nmsB, lB]) only [simprocAttr, -rR, -rS, leB, memB, arrB, numB, qaf, ordB, L57b0, h0, h1, qa3, qci, qdS, e1, e2, hcp', qae, qab, qad, qac, qaa, qas]
      rw[qaX 1 _ _ [(1,0)] (by simp only[simprocAttr,-rR,-rS,qak,qa6,qam,qcr,qaL,qah,qac,qaa])]
      simp (disch:=first|omega|decide|simp only[nmsB,lB]) only[simprocAttr,-rR,-rS,leB,memB,qaf,qaP,qae,qab,qad,qac,qaa]
def wJB (s:Nat→BitVec 32) (m:List (BitVec 8)) (n:Nat) (i:Nat) (st:St):Prop := ∃ (H:Heap),st=⟨[.ptr (0,0) 0,.undef,.undef,.undef,N (64*i),.undef,.undef,.undef,.undef,.undef,.undef,.undef,.undef,.undef,.undef,.undef,.undef,.undef,.undef,.undef,.undef,.undef,.undef,.undef,.undef,.undef,.undef,.undef,.undef,.undef,.undef,.undef,.undef,.undef,.undef,.undef,.undef,.undef,.undef,.undef,.undef,.undef,.undef,.undef,.undef,.undef,.undef,.undef,.undef,.undef,.undef,.undef,.undef,.undef,.undef,.undef,.undef,.undef,.undef,.undef,.undef,.undef,.undef,.undef,.undef,.undef,.undef,.undef,.undef,.undef,.undef,.undef,.undef,.undef],H,2,2⟩ ∧
  H (0,0)=some (HsC (absN m s i) (.sl (1,0) 0 m.length none 1) n)∧H (1,0)=some (bs m)∧H (0,1)=none
set_option maxRecDepth 10000 in
theorem wr_roundB (K k0:Nat) (hblk:∀ s p,F C k0 70 [.agg (aW 8 s),.agg (aB 64 p)] []=some (.agg (aW 8 (blk s p)),[],[])) (s:Nat→BitVec 32) (m:List (BitVec 8)) (n:Nat) (hm:m.length≤211106232532992)
    (i:Nat) (hi:64*i+64≤m.length) (st:St) (hI:wJB s m n i st) :
    ∃ st1,ev (envC C k0) K L57b0 st=some (.normal,st1)∧wJB s m n (i+1) (qa8 L57k0 st1):=by
  obtain ⟨H,rfl,h0,h1,h01⟩:=hI
  have hc:=bs_chunk m i hi
  have e1:64≤m.length - 64*i:=by omega
  have e2:64*i+64 - 64*i=64:=by omega
  apply Exists.intro
  apply And.intro
  · simp (disch := first | omega | decide | simp only [nmsB, lB]) only [simprocAttr, -rR, -rS, leB, memB, arrB, numB, qaf, ordB, L57b0, h0, h1, e1, e2, hc, hblk, qdX, qci, Hs_st0, qae, qab, qad, qac, qaa, qas]
    rfl
  · refine qao [(1, 0)] rfl (by simp only [simprocAttr, -rR, -rS, qak, L57k0, h0, h1, h01, qa6, qam, qaL, qah, qac, qaa]) rfl ⟨_, rfl, ?_, ?_, ?_⟩
    · rw [qaG]
      simp (disch:=first|omega|decide|simp only[nmsB,lB]) only[simprocAttr,-rR,-rS,leB,memB,qaf,h0,qaP,absN,qae,qab,qad,qac,qaa]
    · exact qaj (1,0) rfl (by simp only[simprocAttr,-rR,-rS,memB,h1,qab]) (qaq _ _)
    · rw [qaG]
      simp only[simprocAttr,-rR,-rS,leB,memB,qaf,h01,qae,qab,qad,qac,qaa]
set_option maxRecDepth 10000 in
theorem writeB (k:Nat) (s:Nat→BitVec 32) (n:Nat) (len:Nat) (l:List (BitVec 8)) (hl:len≤l.length) (b m:List (BitVec 8)) (hm:m=l.take len++b)  (hml:m.length≤211106232532992) (hn:n+b.length≤4611686018427387904) :
    ∃ l' : List (BitVec 8), F C (k + m.length / 64 + 100) 57 [.ptr (0, 0) 0, .isl (bs b) b.length] [HsC s (.sl (0, 1) 0 len none 1) n, bs l] =
      some (.tup [],[some (HsC (absN m s (m.length / 64)) (.sl (1,0) 0 (m.length - 64*(m.length / 64)) none 1) (n+b.length)),none],[bs l'])∧l'.take (m.length - 64*(m.length / 64))=m.drop (64*(m.length / 64))∧m.length - 64*(m.length / 64)≤l'.length:=by
  have hfr:∀ H:Heap,qbp H 1 b.length (.isl (bs b) b.length)=some (bs b):=fun H=>qb9 b b.length rfl
  obtain ⟨q,hq⟩:∃ q,q=m.length / 64:=⟨_,rfl⟩
  rw[←hq]
  have hblk:∀ s p,F C (k+q+99) 70 [.agg (aW 8 s),.agg (aB 64 p)] []=some (.agg (aW 8 (blk s p)),[],[]):=fun s p=>block_F (k+q+19) s p
  rw[qaH f57]
  have hml2:m.length=len+b.length:=by rw[hm,zH,zU,Nat.min_eq_left hl]
  have ha:∀ H:Heap,H (0,1)=some (bs l)→appX 20 1 1 b.length H [] (bs b) (.sl (0,1) 0 len none 1)=some ⟨.sl (20,0) 0 m.length none 1,[bs m],[((0,1),none)]⟩:=by
    intro H h
    rw[qad 1 1 _ _ _ _ _ (by omega),h,qdf _ _ _ _ _ _ (by omega),zF,←hm,←hml2]
  have ha:=ha (upd (qaY [HsC s (.sl (0,1) 0 len none 1) n,bs l]) (0,0) (some (HsC s (.sl (0,1) 0 len none 1) (n+b.length)))) (by simp only[simprocAttr,-rR,-rS,leB,memB,qaf,qae,qab,qad,qac,qaa])
  simp (disch:=first|omega|decide|simp only[nmsB,lB]) only[simprocAttr,-rR,-rS,leB,memB,arrB,numB,qaf,L57,Hs_n,qci,Hs_st9,qdS,hfr,ha,qae,qab,qad,qac,qaa]
  generalize hL:qa1 L57k0 _ _ _=r
  refine qaR hL (wJB s m (n+b.length)) q (by omega) (fun i st hi hI=>wr_roundB _ _ hblk s m (n+b.length) hml i (by omega) st hI) ?_ ?_ ?_
  · refine qao [(20, 0)] rfl (by simp only [simprocAttr, -rR, -rS, qak, L57k0, qa6, qam, qaL, qah, qac, qaa]) rfl ⟨_, rfl, ?_, ?_, ?_⟩
    · rw [qaG]
      simp (disch:=first|omega|decide|simp only[nmsB,lB]) only[simprocAttr,-rR,-rS,leB,memB,qaf,qaP,absN,qae,qab,qad,qac,qaa]
    · exact qaj (20,0) rfl (by simp only[simprocAttr,-rR,-rS,memB,qab]) (qaq _ _)
    · rw [qaG]
      simp only[simprocAttr,-rR,-rS,leB,memB,qaf,qaq,qae,qab,qad,qac,qaa]
  · rintro st ⟨H, rfl, h0, h1, h01⟩
    have e1:¬ 64≤m.length - 64*q:=by omega
    apply qaO
    simp (disch:=first|omega|decide|simp only[nmsB,lB]) only[simprocAttr,-rR,-rS,leB,memB,numB,qaf,L57b0,h0,qci,e1,qae,qab,qad,qac,qaa]
    rfl
  · rintro st ⟨H, rfl, h0, h1, h01⟩ rfl
    have e1:¬ 64≤m.length - 64*q:=by omega
    have e2:64*q≤m.length:=by omega
    obtain ⟨l',ms,hcp,hms,ht1,ht2⟩:=copied m (64*q) (m.length - 64*q) (by omega)
    have hcp':=hcp (only [(1,0),(1,0)] H) (by simp only[simprocAttr,-rR,-rS,leB,memB,ordB,h1,qae,qab,qas])
    refine ⟨l',?_,ht1,ht2⟩
    rcases hms with ⟨rfl,rfl⟩ | rfl
    · simp (disch := first | omega | decide | simp only [nmsB, lB]) only [simprocAttr, -rR, -rS, leB, memB, arrB, numB, qaf, ordB, L57b0, h0, h1, qa3, qci, qdS, e1, e2, hcp', qae, qab, qad, qac, qaa, qas]
      rw[qaX 2 _ _ [(1,0)] (by simp only[simprocAttr,-rR,-rS,qak,h1,h01,qa6,qam,qcr,qaL,qah,qac,qaa])]
      simp (disch:=first|omega|decide|simp only[nmsB,lB]) only[simprocAttr,-rR,-rS,leB,memB,qaf,h1,h01,qaP,qae,qab,qad,qac,qaa]
    · simp (disch := first | omega | decide | simp only [nmsB, lB]) only [simprocAttr, -rR, -rS, leB, memB, arrB, numB, qaf, ordB, L57b0, h0, h1, qa3, qci, qdS, e1, e2, hcp', qae, qab, qad, qac, qaa, qas]
      rw[qaX 2 _ _ [(1,0)] (by simp only[simprocAttr,-rR,-rS,qak,h01,qa6,qam,qcr,qaL,qah,qac,qaa])]
      simp (disch:=first|omega|decide|simp only[nmsB,lB]) only[simprocAttr,-rR,-rS,leB,memB,qaf,h01,qaP,qae,qab,qad,qac,qaa]
def wJC (s:Nat→BitVec 32) (m:List (BitVec 8)) (n:Nat) (i:Nat) (st:St):Prop := ∃ (H:Heap),st=⟨[.ptr (0,0) 0,.undef,.undef,.undef,N (64*i),.undef,.undef,.undef,.undef,.undef,.undef,.undef,.undef,.undef,.undef,.undef,.undef,.undef,.undef,.undef,.undef,.undef,.undef,.undef,.undef,.undef,.undef,.undef,.undef,.undef,.undef,.undef,.undef,.undef,.undef,.undef,.undef,.undef,.undef,.undef,.undef,.undef,.undef,.undef,.undef,.undef,.undef,.undef,.undef,.undef,.undef,.undef,.undef,.undef,.undef,.undef,.undef,.undef,.undef,.undef,.undef,.undef,.undef,.undef,.undef,.undef,.undef,.undef,.undef,.undef,.undef,.undef,.undef,.undef],H,2,2⟩ ∧
  H (0,0)=some (HsC (absN m s i) (.sl (1,0) 0 m.length none 1) n)∧H (1,0)=some (bs m)∧H (0,1)=(some (bs []))
set_option maxRecDepth 10000 in
theorem wr_roundC (K k0:Nat) (hblk:∀ s p,F C k0 70 [.agg (aW 8 s),.agg (aB 64 p)] []=some (.agg (aW 8 (blk s p)),[],[])) (s:Nat→BitVec 32) (m:List (BitVec 8)) (n:Nat) (hm:m.length≤211106232532992)
    (i:Nat) (hi:64*i+64≤m.length) (st:St) (hI:wJC s m n i st) :
    ∃ st1,ev (envC C k0) K L57b0 st=some (.normal,st1)∧wJC s m n (i+1) (qa8 L57k0 st1):=by
  obtain ⟨H,rfl,h0,h1,h01⟩:=hI
  have hc:=bs_chunk m i hi
  have e1:64≤m.length - 64*i:=by omega
  have e2:64*i+64 - 64*i=64:=by omega
  apply Exists.intro
  apply And.intro
  · simp (disch := first | omega | decide | simp only [nmsB, lB]) only [simprocAttr, -rR, -rS, leB, memB, arrB, numB, qaf, ordB, L57b0, h0, h1, e1, e2, hc, hblk, qdX, qci, Hs_st0, qae, qab, qad, qac, qaa, qas]
    rfl
  · refine qao [(1, 0)] rfl (by simp only [simprocAttr, -rR, -rS, qak, L57k0, h0, h1, h01, qa6, qam, qaL, qah, qac, qaa]) rfl ⟨_, rfl, ?_, ?_, ?_⟩
    · rw [qaG]
      simp (disch:=first|omega|decide|simp only[nmsB,lB]) only[simprocAttr,-rR,-rS,leB,memB,qaf,h0,qaP,absN,qae,qab,qad,qac,qaa]
    · exact qaj (1,0) rfl (by simp only[simprocAttr,-rR,-rS,memB,h1,qab]) (qaq _ _)
    · rw [qaG]
      simp only[simprocAttr,-rR,-rS,leB,memB,qaf,h01,qae,qab,qad,qac,qaa]
set_option maxRecDepth 10000 in
theorem writeC (k:Nat) (s:Nat→BitVec 32) (n:Nat)  (b m:List (BitVec 8)) (hm:m=b)  (hb0:b≠[]) (hml:m.length≤211106232532992) (hn:n+b.length≤4611686018427387904) :
    ∃ l' : List (BitVec 8), F C (k + m.length / 64 + 100) 57 [.ptr (0, 0) 0, .isl (bs b) b.length] [HsC s (.sl (0, 1) 0 0 (some 0) 1) n, bs []] =
      some (.tup [],[some (HsC (absN m s (m.length / 64)) (.sl (1,0) 0 (m.length - 64*(m.length / 64)) none 1) (n+b.length)),some (bs [])],[bs l'])∧l'.take (m.length - 64*(m.length / 64))=m.drop (64*(m.length / 64))∧m.length - 64*(m.length / 64)≤l'.length:=by
  have hbl:0 < b.length:=List.length_pos_iff.2 hb0
  have hfr:∀ H:Heap,qbp H 1 b.length (.isl (bs b) b.length)=some (bs b):=fun H=>qb9 b b.length rfl
  obtain ⟨q,hq⟩:∃ q,q=m.length / 64:=⟨_,rfl⟩
  rw[←hq]
  have hblk:∀ s p,F C (k+q+99) 70 [.agg (aW 8 s),.agg (aB 64 p)] []=some (.agg (aW 8 (blk s p)),[],[]):=fun s p=>block_F (k+q+19) s p
  rw[qaH f57]
  have ha:∀ H:Heap,H (0,1)=some (bs [])→appX 20 1 1 b.length H [] (bs b) (.sl (0,1) 0 0 (some 0) 1)=some ⟨.sl (20,0) 0 m.length none 1,[bs m],[]⟩:=by
    intro H h
    rw[qc9 _ (0,1) 0 0 0 [] b h (by simp) (by subst hm; omega) (by omega),←hm]
    simp only[List.drop_nil,List.take_nil,zI,zO,←hm]
  have ha:=ha (upd (qaY [HsC s (.sl (0,1) 0 0 (some 0) 1) n,bs []]) (0,0) (some (HsC s (.sl (0,1) 0 0 (some 0) 1) (n+b.length)))) (by simp only[simprocAttr,-rR,-rS,leB,memB,qaf,qae,qab,qad,qac,qaa])
  simp (disch:=first|omega|decide|simp only[nmsB,lB]) only[simprocAttr,-rR,-rS,leB,memB,arrB,numB,qaf,L57,Hs_n,qci,Hs_st9,qdS,hfr,ha,qae,qab,qad,qac,qaa]
  generalize hL:qa1 L57k0 _ _ _=r
  refine qaR hL (wJC s m (n+b.length)) q (by omega) (fun i st hi hI=>wr_roundC _ _ hblk s m (n+b.length) hml i (by omega) st hI) ?_ ?_ ?_
  · refine qao [(20, 0)] rfl (by simp only [simprocAttr, -rR, -rS, qak, L57k0, qa6, qam, qaL, qah, qac, qaa]) rfl ⟨_, rfl, ?_, ?_, ?_⟩
    · rw [qaG]
      simp (disch:=first|omega|decide|simp only[nmsB,lB]) only[simprocAttr,-rR,-rS,leB,memB,qaf,qaP,absN,qae,qab,qad,qac,qaa]
    · exact qaj (20,0) rfl (by simp only[simprocAttr,-rR,-rS,memB,qab]) (qaq _ _)
    · rw [qaG]
      simp only[simprocAttr,-rR,-rS,leB,memB,qaf,qaq,qae,qab,qad,qac,qaa]
  · rintro st ⟨H, rfl, h0, h1, h01⟩
    have e1:¬ 64≤m.length - 64*q:=by omega
    apply qaO
    simp (disch:=first|omega|decide|simp only[nmsB,lB]) only[simprocAttr,-rR,-rS,leB,memB,numB,qaf,L57b0,h0,qci,e1,qae,qab,qad,qac,qaa]
    rfl
  · rintro st ⟨H, rfl, h0, h1, h01⟩ rfl
    have e1:¬ 64≤m.length - 64*q:=by omega
    have e2:64*q≤m.length:=by omega
    obtain ⟨l',ms,hcp,hms,ht1,ht2⟩:=copied m (64*q) (m.length - 64*q) (by omega)
    have hcp':=hcp (only [(1,0),(1,0)] H) (by simp only[simprocAttr,-rR,-rS,leB,memB,ordB,h1,qae,qab,qas])
    refine ⟨l',?_,ht1,ht2⟩
    rcases hms with ⟨rfl,rfl⟩ | rfl
    · simp (disch := first | omega | decide | simp only [nmsB, lB]) only [simprocAttr, -rR, -rS, leB, memB, arrB, numB, qaf, ordB, L57b0, h0, h1, qa3, qci, qdS, e1, e2, hcp', qae, qab, qad, qac, qaa, qas]
      rw[qaX 2 _ _ [(1,0)] (by simp only[simprocAttr,-rR,-rS,qak,h1,h01,qa6,qam,qcr,qaL,qah,qac,qaa])]
      simp (disch:=first|omega|decide|simp only[nmsB,lB]) only[simprocAttr,-rR,-rS,leB,memB,qaf,h1,h01,qaP,qae,qab,qad,qac,qaa]
    · simp (disch := first | omega | decide | simp only [nmsB, lB]) only [simprocAttr, -rR, -rS, leB, memB, arrB, numB, qaf, ordB, L57b0, h0, h1, qa3, qci, qdS, e1, e2, hcp', qae, qab, qad, qac, qaa, qas]
      rw[qaX 2 _ _ [(1,0)] (by simp only[simprocAttr,-rR,-rS,qak,h01,qa6,qam,qcr,qaL,qah,qac,qaa])]
      simp (disch:=first|omega|decide|simp only[nmsB,lB]) only[simprocAttr,-rR,-rS,leB,memB,qaf,h01,qaP,qae,qab,qad,qac,qaa]
end Sha
namespace Sha
open Go Go.LE Tb
def w0A (s:Nat→BitVec 32) (n:Nat) (i:Nat) (st:St):Prop := ∃ (H:Heap),st=⟨[.ptr (0,0) 0,.undef,.undef,.undef,N 0,.undef,.undef,.undef,.undef,.undef,.undef,.undef,.undef,.undef,.undef,.undef,.undef,.undef,.undef,.undef,.undef,.undef,.undef,.undef,.undef,.undef,.undef,.undef,.undef,.undef,.undef,.undef,.undef,.undef,.undef,.undef,.undef,.undef,.undef,.undef,.undef,.undef,.undef,.undef,.undef,.undef,.undef,.undef,.undef,.undef,.undef,.undef,.undef,.undef,.undef,.undef,.undef,.undef,.undef,.undef,.undef,.undef,.undef,.undef,.undef,.undef,.undef,.undef,.undef,.undef,.undef,.undef,.undef,.undef],H,2,1⟩∧H (0,0)=some (HsC s Nil n)
theorem write0A (k:Nat) (s:Nat→BitVec 32) (n:Nat) (hn:n≤4611686018427387904):F C (k+3) 57 [.ptr (0,0) 0,.isl (bs []) 0] [HsC s Nil n]=some (.tup [],[some (HsC s Nil n)],[]):=by
  rw[qaH f57]
  have hfr:∀ H:Heap,qbp H 1 0 (.isl (bs []) 0)=some (bs []):=fun H=>qb9 [] 0 rfl
  simp (disch:=first|omega|decide|simp only[nmsB,lB]) only[simprocAttr,-rR,-rS,leB,memB,arrB,numB,qaf,L57,Hs_n,qci,Hs_st9,qdS,hfr,qae,qab,qad,qac,qaa]
  generalize hL:qa1 L57k0 _ _ _=r
  refine qaR hL (w0A s n) 0 (by omega) (fun i st hi hI=>by omega) ?_ ?_ ?_
  · refine qao [] rfl (by simp only [simprocAttr, -rR, -rS, qak, L57k0, qa6, qam, qaL, qah, qac, qaa]) rfl ⟨_, rfl, ?_⟩
    rw[qaG]
    simp (disch:=first|omega|decide|simp only[nmsB,lB]) only[simprocAttr,-rR,-rS,leB,memB,qaf,qaP,absN,qae,qab,qad,qac,qaa]
  · rintro st ⟨H, rfl, h0⟩
    apply qaO
    simp (disch:=first|omega|decide|simp only[nmsB,lB]) only[simprocAttr,-rR,-rS,leB,memB,numB,qaf,L57b0,h0,qci,qae,qab,qad,qac,qaa]
    rfl
  · rintro st ⟨H, rfl, h0⟩ rfl
    have hcp:∀ H:Heap,cpK 1 H Nil Nil (some 0)=some ⟨N 0,[],[]⟩:=fun H=>rfl
    simp (disch:=first|omega|decide|simp only[nmsB,lB]) only[simprocAttr,-rR,-rS,leB,memB,arrB,numB,qaf,ordB,L57b0,h0,qci,qdS,hcp,qae,qab,qad,qac,qaa,qas]
    rw[qaX 1 _ _ [] (by simp only[simprocAttr,-rR,-rS,qak,qa6,qam,qcr,qaL,qah,qac,qaa])]
    simp (disch:=first|omega|decide|simp only[nmsB,lB]) only[simprocAttr,-rR,-rS,leB,memB,qaf,qaP,qae,qab,qad,qac,qaa]
theorem clone_call0 (k b:Nat) (H:Heap):qar (envC C (k+1)) H b 37 [Nil]=some ⟨Nil,[],[]⟩:=by
  rw[qae l37 rfl rfl,clone_nil]
  exact qdD b fun _=>rfl
theorem clone_callG (k b:Nat) (H:Heap) (j len len':Nat) (c c':Option Nat) (l l':List (BitVec 8)) (h:H (0,j)=some (bs l))
    (hc:F C (k+1) 37 [.sl (0,0) 0 len c 1] [bs l]=some (.sl (1,0) 0 len' c' 1,[some (bs l)],[bs l'])) :
    qar (envC C (k+1)) H b 37 [.sl (0,j) 0 len c 1]=some ⟨.sl (b,0) 0 len' c' 1,[bs l'],[((0,j),some (bs l))]⟩:=by
  have hr:qa7 H FUEL [] [(0,j)]=[(0,j)]:=by
    simp only[FUEL,qah,ze,zP,zM,h,qcc,qam,zI,qba]
  have hl:lend H ((envC C (k+1)).borrow 37) 0 [.sl (0,j) 0 len c 1]=some ([.sl (0,j) 0 len c 1],[]):=rfl
  rw[qbU,hl,qbA]
  rw[show ([LV.sl (0,j) 0 len c 1]:List LV).flatMap (nms D)=[(0,j)] from rfl,hr,qbV _ _ _ _ _ rfl]
  rw[show ([(0,j)]:List Nm).filterMap H=[bs l] by simp[h]]
  have hi:∀ x:Nm,idx x [x] 0=some 0:=fun x=>by simp[idx]
  have ha:([LV.sl (0,j) 0 len c 1]:List LV).map (ren D (qaK [(0,j)]))=[.sl (0,0) 0 len c 1]:=by
    simp only[zB,zA,qaZ,qbC,hi,zC,qa9]
  rw[ha,zB,zA,qaq,qbT,hc]
  rw[show ([]:List Nm).isEmpty=true from rfl,qeB,qaT]
  simp only[qaZ,qbd,zE,zL,zO,Nat.lt_one_iff,qa9,zB,zA,qaq,List.zipWith_cons_cons,List.zipWith_nil_left,zC]
theorem forkA (k:Nat) (s:Nat→BitVec 32) (n:Nat):F C (k+2) 59 [.ptr (0,0) 0] [HsC s Nil n]=some (.ptr (1,0) 0,[some (HsC s Nil n)],[HsC s Nil n]):=by
  rw[qaH f59]
  have hf:=fill_fork s Nil n rfl
  simp (disch:=first|omega|decide|simp only[nmsB,lB]) only[simprocAttr,-rR,-rS,leB,memB,arrB,numB,qaf,ordB,L59,Hs_n,qci,qdX,zero10,hf,clone_call0,qae,qad,qac,qaa,qas]
  rw[qaX 1 _ _ [(19,0)] (by simp only[simprocAttr,-rR,-rS,qak,qa6,qam,qaL,qah,qac,qaa])]
  simp (disch:=first|omega|decide|simp only[nmsB,lB]) only[simprocAttr,-rR,-rS,leB,memB,qaf,qaP,qae,qab,qad,qac,qaa]
theorem sameL_bs (l:List (BitVec 8)):qdJ (bs l) (bs l)=true:=by
  induction l with
  | nil=>rfl
  | cons x l ih=>simp only[bs,zB,qdJ] at ih ⊢; rw[ih]; simp[qeu,B8]
theorem tr_bs {H:Heap} {m:Nm} {l:List (BitVec 8)} (h:H m=some (bs l)) (v:LV) (news:List qal):qdp true H (some ⟨v,news,[(m,some (bs l))]⟩)=some ⟨v,news,[]⟩ :=
  qeL _ _ _ _ fun q hq=>by
    simp only[List.mem_cons,List.not_mem_nil,or_false] at hq
    subst hq
    simp only[h,qcY,sameL_bs]
theorem forkG (k:Nat) (s:Nat→BitVec 32) (n len len':Nat) (c c':Option Nat) (l l':List (BitVec 8))
    (hc:F C (k+1) 37 [.sl (0,0) 0 len c 1] [bs l]=some (.sl (1,0) 0 len' c' 1,[some (bs l)],[bs l'])) :
    F C (k+2) 59 [.ptr (0,0) 0] [HsC s (.sl (0,1) 0 len c 1) n,bs l]=some (.ptr (1,0) 0,[some (HsC s (.sl (0,1) 0 len c 1) n),some (bs l)],[HsC s (.sl (1,1) 0 len' c' 1) n,bs l']):=by
  rw[qaH f59]
  have hf:=fill_fork s (.sl (13,0) 0 len' c' 1) n rfl
  have htr:=fun v news=>tr_bs (H:=only [(0,1)] (qaY [HsC s (.sl (0,1) 0 len c 1) n,bs l])) (m:=(0,1)) (l:=l) rfl v news
  have hcl:=clone_callG k 13 (only [(0,1)] (qaY [HsC s (.sl (0,1) 0 len c 1) n,bs l])) 1 len len' c c' l l' (by simp only[simprocAttr,-rR,-rS,leB,memB,qaf,ordB,qae,qab,qad,qac,qaa,qas]) hc
  simp (disch:=first|omega|decide|simp only[nmsB,lB]) only[simprocAttr,-rR,-rS,leB,memB,arrB,numB,qaf,ordB,qak,L59,Hs_n,qci,qdX,zero10,hf,hcl,htr,qaI,qae,qad,qac,qaa,qas,qah]
  rw[qaX 2 _ _ [(19,0),(13,0)] (by simp only[simprocAttr,-rR,-rS,qak,qa6,qam,qaL,qah,qac,qaa])]
  simp (disch:=first|omega|decide|simp only[nmsB,lB]) only[simprocAttr,-rR,-rS,leB,memB,qaf,qaP,qae,qab,qad,qac,qaa]
theorem clone_C (k:Nat):F C (k+1) 37 [.sl (0,0) 0 0 (some 0) 1] [bs []]=some (.sl (1,0) 0 0 (some 0) 1,[some (bs [])],[bs []]):=by
  rw[qaH f37]
  have ha:∀ H:Heap,H (5,0)=some []→appX 7 1 1 0 H [] [] (.sl (5,0) 0 0 (some 0) 1)=some ⟨.sl (5,0) 0 0 (some 0) 1,[],[((5,0),some [])]⟩:=by
    intro H h
    simp only[appX,h,qbh]
    rfl
  have hb:=ha (upd (qaY [bs []]) (5,0) (some [])) rfl
  simp (disch:=first|omega|decide|simp only[nmsB,lB]) only[simprocAttr,-rR,-rS,leB,memB,arrB,numB,qaf,L37,hb,qae,qab,qad,qac,qaa]
  rw[qaX 1 _ _ [(5,0)] (by simp only[simprocAttr,-rR,-rS,qak,qam,qah,qac,qaa])]
  simp only[simprocAttr,-rR,-rS,leB,memB,qaf,qae,qab,qad,qac,qaa]
  rfl
end Sha
namespace Sha
open Go Go.LE Tb
theorem qfd (s:Nat→BitVec 32) (m:Nm) (off len:Nat) (c:Option Nat) (n:Nat):(HsC s (.sl m off len c 1) n).all (qbP D)=true:=by
  simp only[HsC,List.all_append,zT,List.all_nil,Bool.and_true]
  have h1:(aW 8 s).all (qbP D)=true:=by
    rw[List.all_eq_true]; intro x hx
    simp only[aW,arr,List.mem_map,List.mem_range] at hx
    obtain ⟨i,_,rfl⟩:=hx; rfl
  rw[h1]; rfl
theorem qcD (l:List (BitVec 8)):(bs l).all (qbP D)=true:=by
  rw[List.all_eq_true]; intro x hx
  simp only[bs,List.mem_map] at hx
  obtain ⟨i,_,rfl⟩:=hx; rfl
structure Lent (H:Heap) (B:LV) (b:List (BitVec 8)) (names:List Nm):Prop where
  snap:∃ lent,snap H D B=some (.isl (bs b) b.length,lent)∧lent.any (fun n=>names.contains n)=false
theorem qem (H:Heap) (m:Nm) (off len:Nat) (c:Option Nat) (l:List (BitVec 8)) (names:List Nm) (h:H m=some (bs l)) (hl:off+len≤l.length) (hn:names.contains m=false) :
    Lent H (.sl m off len c 1) ((l.drop off).take len) names:=by
  by_cases h0:len=0
  · subst h0
    refine ⟨[],?_,rfl⟩
    rw[snap_zero,zW]; rfl
  · refine ⟨[m], ?_, by rw [List.any_cons, hn]; rfl⟩
    rw[qhG m off len c l h h0]
    have:((l.drop off).take len).length=len:=by rw[zU,zR]; omega
    rw[this]
theorem qbq (H:Heap) (b:List (BitVec 8)) (names:List Nm):Lent H (.isl (bs b) b.length) b names:=⟨[],snap_isl _ _,rfl⟩
theorem lend_w (k:Nat) (H:Heap) (fN:Nm) (B:LV) (b:List (BitVec 8)) (lent:List Nm) (h:snap H D B=some (.isl (bs b) b.length,lent)) :
    lend H ((envC C k).borrow 57) 0 [.ptr fN 0,B]=some ([.ptr fN 0,.isl (bs b) b.length],lent):=by
  rw[qbo,qbo,qcC,qbF,qc3]
  rw[if_neg (show ¬ qaJ 57 0=true by decide),if_pos (show qaJ 57 (0+1)=true by decide),h,qbc,qbc]
  simp
theorem qcs (names:List Nm) (base:Nat) (plain:Bool) (res:qcg) (h:qa5 res=true):resK names base plain (some res)=some (qcG names base res):=by
  simp[resK,h]
theorem idx0 (x:Nm) (xs:List Nm):idx x (x::xs) 0=some 0:=by simp[idx]
theorem idx1 (x y:Nm) (xs:List Nm) (h:x≠y):idx y (x::y::xs) 0=some 1:=by simp[idx,h]
theorem qf3 (k b:Nat) (H:Heap) (fN:Nm) (s s':Nat→BitVec 32) (n n' len:Nat) (B:LV) (bb l':List (BitVec 8)) (h:H fN=some (HsC s Nil n)) (hB:Lent H B bb [fN])
    (hw:F C k 57 [.ptr (0,0) 0,.isl (bs bb) bb.length] [HsC s Nil n]=some (.tup [],[some (HsC s' (.sl (1,0) 0 len none 1) n')],[bs l'])) :
    qar (envC C k) H b 57 [.ptr fN 0,B]=some ⟨.tup [],[bs l'],[(fN,some (HsC s' (.sl (b,0) 0 len none 1) n'))]⟩:=by
  obtain ⟨lent,hs,hl⟩:=hB.snap
  have hr:qa7 H FUEL [] [fN]=[fN]:=by
    simp only[FUEL,qah,ze,zP,zM,h,qcc,qa6,qbD,zI,qba]
  rw[qbU,lend_w k H fN B bb lent hs,qbA]
  have hn:([.ptr fN 0,.isl (bs bb) bb.length]:List LV).flatMap (nms D)=[fN]:=by
    simp only[zK,zN,qcp,qbg,zD]
  rw[hn,hr,qbV _ _ _ _ _ hl,show ([fN]:List Nm).filterMap H=[HsC s Nil n] by simp[h]]
  have ha:([.ptr fN 0,.isl (bs bb) bb.length]:List LV).map (ren D (qaK [fN]))=[.ptr (0,0) 0,.isl (bs bb) bb.length]:=by
    simp only[zB,zA,qbk,qbC,idx0,zC,qbs,qbj]
  rw[ha,zB,zA,qaP,qbS,qbT,hw,qcs _ _ _ _ (by simp[qa5,qfd,qcD] <;> rfl),qaT]
  simp only[qeV,qaP,qaZ,qbd,zE,zL,zO,Nat.lt_one_iff,qa9,zB,zA,qaq,List.zipWith_cons_cons,List.zipWith_nil_left,zC]
theorem qe3 (k b:Nat) (H:Heap) (fN rN:Nm) (s s':Nat→BitVec 32) (n n' len rl:Nat) (c:Option Nat) (B:LV) (bb l l':List (BitVec 8)) (z:Option (List (BitVec 8))) (h:H fN=some (HsC s (.sl rN 0 rl c 1) n)) (h2:H rN=some (bs l)) (hne:fN≠rN)
    (hB:Lent H B bb [fN,rN])
    (hw:F C k 57 [.ptr (0,0) 0,.isl (bs bb) bb.length] [HsC s (.sl (0,1) 0 rl c 1) n,bs l]=some (.tup [],[some (HsC s' (.sl (1,0) 0 len none 1) n'),z.map bs],[bs l'])) :
    qar (envC C k) H b 57 [.ptr fN 0,B]=some ⟨.tup [],[bs l'],[(fN,some (HsC s' (.sl (b,0) 0 len none 1) n')),(rN,z.map bs)]⟩:=by
  obtain ⟨lent,hs,hl⟩:=hB.snap
  have hc:([fN]:List Nm).contains rN=false:=by simp; exact fun e=>hne e.symm
  have hr:qa7 H FUEL [] [fN]=[fN,rN]:=by
    simp only[FUEL,qah,ze,zP,zM,h,qcc,qa6,qa3,zI,zS,hc,h2,qam,qba]
  rw[qbU,lend_w k H fN B bb lent hs,qbA]
  have hn:([.ptr fN 0,.isl (bs bb) bb.length]:List LV).flatMap (nms D)=[fN]:=by
    simp only[zK,zN,qcp,qbg,zD]
  rw[hn,hr,qbV _ _ _ _ _ hl,show ([fN,rN]:List Nm).filterMap H=[HsC s (.sl rN 0 rl c 1) n,bs l] by simp[h,h2]]
  have ha:([.ptr fN 0,.isl (bs bb) bb.length]:List LV).map (ren D (qaK [fN,rN]))=[.ptr (0,0) 0,.isl (bs bb) bb.length]:=by
    simp only[zB,zA,qbk,qbC,idx0,zC,qbs,qbj]
  have hp:qa5 (.tup [],[some (HsC s' (.sl (1,0) 0 len none 1) n'),z.map bs],[bs l'])=true:=by
    cases z <;> simp[qa5,qfd,qcD] <;> rfl
  rw[ha,zB,zB,zA,qaP,qaZ,qbC,idx1 _ _ _ hne,zC,qa9,qaq,qbT,hw,qcs _ _ _ _ hp,qaT]
  have hz:∀ π,(z.map bs).map (fun cs=>List.map (ren D π) cs)=z.map bs:=by intro π; cases z <;> simp[qaq]
  simp only[qeV,qaP,qaZ,qbd,zE,zL,zO,Nat.lt_one_iff,qa9,zB,zA,qaq,List.zipWith_cons_cons,List.zipWith_nil_left,zC,hz]
theorem lend_p (k:Nat) (g:Nat) (hg:qaJ g=fun _=>false) (H:Heap) (fN:Nm):lend H ((envC C k).borrow g) 0 [.ptr fN 0]=some ([.ptr fN 0],[]):=by
  rw[qbF,qc3,hg,qdC]
theorem ptr_callA (k b g:Nat) (hg:qaJ g=fun _=>false) (H:Heap) (fN:Nm) (s:Nat→BitVec 32) (n:Nat) (h:H fN=some (HsC s Nil n)) (r r':LV) (news news':List qal)
    (hw:F C k g [.ptr (0,0) 0] [HsC s Nil n]=some (r,[some (HsC s Nil n)],news)) (hr:ren D (qbf [fN] b news.length) r=r')
    (hn:news.map (fun cs=>cs.map (ren D (qbf [fN] b news.length)))=news') :
    qar (envC C k) H b g [.ptr fN 0]=some ⟨r',news',[(fN,some (HsC s Nil n))]⟩:=by
  have hre:qa7 H FUEL [] [fN]=[fN]:=by
    simp only[FUEL,qah,ze,zP,zM,h,qcc,qa6,qbD,zI,qba]
  rw[qbU,lend_p k g hg H fN,qbA]
  rw[show ([.ptr fN 0]:List LV).flatMap (nms D)=[fN] from rfl,hre,qbV _ _ _ _ _ rfl,show ([fN]:List Nm).filterMap H=[HsC s Nil n] by simp[h]]
  have ha:([.ptr fN 0]:List LV).map (ren D (qaK [fN]))=[.ptr (0,0) 0]:=by
    simp only[zB,zA,qbk,qbC,idx0,zC,qbs]
  rw[ha,zB,zA,qaP,qbS,qbT,hw,show ([]:List Nm).isEmpty=true from rfl,qeB,qaT,hr,hn]
  simp only[List.zipWith_cons_cons,List.zipWith_nil_left,zC,qaP,qbS]
theorem qeD (k b g:Nat) (hg:qaJ g=fun _=>false) (H:Heap) (fN rN:Nm) (s:Nat→BitVec 32) (n rl:Nat) (c:Option Nat) (l:List (BitVec 8)) (h:H fN=some (HsC s (.sl rN 0 rl c 1) n)) (h2:H rN=some (bs l)) (hne:fN≠rN)
    (r r':LV) (news news':List qal)
    (hw:F C k g [.ptr (0,0) 0] [HsC s (.sl (0,1) 0 rl c 1) n,bs l]=some (r,[some (HsC s (.sl (0,1) 0 rl c 1) n),some (bs l)],news)) (hr:ren D (qbf [fN,rN] b news.length) r=r')
    (hn:news.map (fun cs=>cs.map (ren D (qbf [fN,rN] b news.length)))=news') :
    qar (envC C k) H b g [.ptr fN 0]=some ⟨r',news',[(fN,some (HsC s (.sl rN 0 rl c 1) n)),(rN,some (bs l))]⟩:=by
  have hc:([fN]:List Nm).contains rN=false:=by simp; exact fun e=>hne e.symm
  have hre:qa7 H FUEL [] [fN]=[fN,rN]:=by
    simp only[FUEL,qah,ze,zP,zM,h,qcc,qa6,qa3,zI,zS,hc,h2,qam,qba]
  rw[qbU,lend_p k g hg H fN,qbA]
  rw[show ([.ptr fN 0]:List LV).flatMap (nms D)=[fN] from rfl,hre,qbV _ _ _ _ _ rfl,show ([fN,rN]:List Nm).filterMap H=[HsC s (.sl rN 0 rl c 1) n,bs l] by simp[h,h2]]
  have ha:([.ptr fN 0]:List LV).map (ren D (qaK [fN,rN]))=[.ptr (0,0) 0]:=by
    simp only[zB,zA,qbk,qbC,idx0,zC,qbs]
  rw[ha,zB,zB,zA,qaP,qaZ,qbC,idx1 _ _ _ hne,zC,qa9,qaq,qbT,hw,show ([]:List Nm).isEmpty=true from rfl,qeB,qaT,hr,hn]
  simp only[List.zipWith_cons_cons,List.zipWith_nil_left,zC,qaP,qaZ,qcI,List.getElem?_cons_succ,List.getElem?_cons_zero,qa9,qaq]
end Sha
namespace Sha
open Go Go.LE Tb
def zs (n:Nat):Nat:=(119 - n % 64) % 64
def lenb (n i:Nat):BitVec 8:=((BitVec.ofNat 64 n*8#64) >>> (56 - 8*i)).setWidth 8
def fb (n i:Nat):List (BitVec 8):=128#8::(List.replicate (zs n) 0#8++(List.range i).map (lenb n))
theorem qcX (n i:Nat):(fb n i).length=zs n+1+i:=by simp[fb]; omega
theorem fb_zero (n:Nat):fb n 0=(List.replicate (zs n+1) 0#8).set 0 128#8:=by simp[fb,List.replicate_succ]
theorem qen (n i:Nat):fb n (i+1)=fb n i++[lenb n i]:=by simp[fb,List.range_succ]
theorem fill1 (z x:BitVec 8):fill [B8 z] [(0,1,B8 x)]=some (bs [x]):=rfl
theorem qd8 (n:Nat):zs n < 64:=by unfold zs; omega
def outB (s:Nat→BitVec 32) (j:Nat):BitVec 8:=(s (j / 4) >>> (24 - 8*(j % 4))).setWidth 8
def outP (s:Nat→BitVec 32) (i j:Nat):BitVec 8:=if j < 4*i then outB s j else 0#8
theorem qfT (s:Nat→BitVec 32) (i:Nat):outP s (i+1)=set1 (set1 (set1 (set1 (outP s i) (4*i) ((s i >>> 24).setWidth 8)) (4*i+1) ((s i >>> 16).setWidth 8)) (4*i+2) ((s i >>> 8).setWidth 8)) (4*i+3) ((s i).setWidth 8):=by
  funext j
  simp only[set1,outP,outB]
  by_cases h3:j=4*i+3
  · subst h3
    rw[if_pos (by omega),if_pos rfl]
    have e1:(4*i+3) / 4=i:=by omega
    have e2:(4*i+3) % 4=3:=by omega
    rw[e1,e2]; simp
  rw[if_neg h3]
  by_cases h2:j=4*i+2
  · subst h2
    rw[if_pos (by omega),if_pos rfl]
    have e1:(4*i+2) / 4=i:=by omega
    have e2:(4*i+2) % 4=2:=by omega
    rw[e1,e2]
  rw[if_neg h2]
  by_cases h1:j=4*i+1
  · subst h1
    rw[if_pos (by omega),if_pos rfl]
    have e1:(4*i+1) / 4=i:=by omega
    have e2:(4*i+1) % 4=1:=by omega
    rw[e1,e2]
  rw[if_neg h1]
  by_cases h0:j=4*i
  · subst h0
    rw[if_pos (by omega),if_pos rfl]
    have e1:(4*i) / 4=i:=by omega
    have e2:(4*i) % 4=0:=by omega
    rw[e1,e2]
  rw[if_neg h0]
  have:(j < 4*(i+1))↔(j < 4*i):=by omega
  simp only[this]
def fJA (s:Nat→BitVec 32) (n:Nat) (i:Nat) (st:St):Prop := ∃ (c:Option Nat) (H:Heap),st=⟨[.ptr (0,0) 0,.undef,.ptr (1,0) 0,.ptr (1,1) 0,.ptr (1,2) 0,.sl (1,3) 0 (zs n+1+i) c 1,.undef,.undef,.undef,.undef,.undef,.undef,.undef,.undef,.undef,.undef,.undef,.undef,.undef,.undef,.undef,.undef,.undef,.undef,.undef,N i,.undef,.undef,.undef,.undef,.undef,.undef,.undef,.undef,.undef,.undef,.undef,.undef,.undef,.undef,.undef,.undef,.undef,.undef,.undef,.undef,.undef,.undef,.undef,.undef,.undef,.undef,.undef,.undef,.undef,.undef,.undef,.undef,.undef,.undef,.undef,.undef,.undef,.undef,.undef,.undef,.undef,.undef,.undef,.undef,.undef,.undef,.undef,.undef,.undef,.undef,.undef,.undef,.undef,.undef,.undef,.undef],H,2,1⟩ ∧
  (c=none∨(i=0∧c=some (zs n+1)))∧H (0,0)=some (HsC s Nil n)∧H (1,0)=some (aB 32 fun _=>0#8)∧H (1,1)=some (aB 32 fun _=>0#8)∧H (1,2)=some (HsC s Nil n)∧H (1,3)=some (bs (fb n i))
set_option maxRecDepth 10000 in
theorem f_roundA (K k0:Nat) (s:Nat→BitVec 32) (n:Nat) (hn:n≤4611686018427387904) (i:Nat) (hi:i < 8) (st:St) (hI:fJA s n i st) :
    ∃ st1,ev (envC C k0) K L58b1 st=some (.normal,st1)∧fJA s n (i+1) (qa8 L58k1 st1):=by
  obtain ⟨c,H,rfl,hc,h0,h1,h2,h3,hF⟩:=hI
  have hz:=qd8 n
  have hl:=qcX n i
  have hlen:((BitVec.ofNat 64 n*8#64) >>> (56 - 8*i)).setWidth 8=lenb n i:=rfl
  have hx:H (1,3)=some (bs (fb n i)):=hF
  have hfr:qbp (upd H (17,0) (some (bs [lenb n i]))) 1 1 (.sl (17,0) 0 1 (some 1) 1)=some (bs [lenb n i]):=qbQ (17,0) 0 1 (some 1) [lenb n i] (by simp only[simprocAttr,-rR,-rS,memB,qab]) (by simp)
  have hF':upd H (17,0) (some (bs [lenb n i])) (1,3)=some (bs (fb n i)):=by simp only[simprocAttr,-rR,-rS,memB,hF,qab]
  have ha:∃ ms,(ms=[]∨ms=[((1,3),none)])∧appX 18 1 1 1 (upd H (17,0) (some (bs [lenb n i]))) [] (bs [lenb n i]) (.sl (1,3) 0 (zs n+1+i) c 1)=some ⟨.sl (18,0) 0 (zs n+1+i+1) none 1,[bs (fb n (i+1))],ms⟩:=by
    rcases hc with rfl | ⟨rfl,rfl⟩
    · refine ⟨_, .inr rfl, ?_⟩
      rw[qad 1 1 _ _ _ _ _ (by omega),hF',qdf _ _ _ _ _ _ (by omega),zF,List.take_of_length_le (by omega),←qen]
    · refine ⟨_, .inl rfl, ?_⟩
      rw[qc9 _ (1,3) 0 _ _ _ _ hF' (by omega) (by omega) (by omega),zF,List.take_of_length_le (by omega),←qen]
  obtain ⟨ms,hms,ha⟩:=ha
  rcases hms with rfl | rfl
  all_goals
    apply Exists.intro
    apply And.intro
    · simp (disch := first | omega | decide | simp only [nmsB, lB]) only [simprocAttr, -rR, -rS, leB, memB, arrB, numB, qaf, L58b1, hi, h0, hF, Hs_n, hlen, fill1, hfr, ha, qae, qad, qac, qaa]
      rfl
    · refine qao [(1, 0), (1, 1), (1, 2), (18, 0)] rfl (by simp only [simprocAttr, -rR, -rS, qak, L58k1, h0, h1, h2, h3, hF, qaN, qa6, qam, qaL, qah, qac, qaa]) rfl ⟨none, _, rfl, .inl rfl, ?_, ?_, ?_, ?_, ?_⟩
      · rw[qaG]; simp (disch:=first|omega|decide|simp only[nmsB,lB]) only[simprocAttr,-rR,-rS,leB,memB,qaf,h0,qaP,qae,qab,qad,qac,qaa]
      · exact qaj (1,0) rfl (by simp only[simprocAttr,-rR,-rS,memB,h1,qab]) (qaE _ _ _)
      · exact qaj (1,1) rfl (by simp only[simprocAttr,-rR,-rS,memB,h2,qab]) (qaE _ _ _)
      · rw[qcQ _ _ _ (1,2) (HsC s Nil n) rfl (by simp only[simprocAttr,-rR,-rS,memB,h3,qab]),qaP]; rfl
      · exact qaj (18,0) rfl (by simp only[simprocAttr,-rR,-rS,memB,qab]) (qaq _ _)
def gJA (s s':Nat→BitVec 32) (n:Nat) (i:Nat) (st:St):Prop := ∃ (H:Heap),st=⟨[.undef,.undef,.ptr (1,0) 0,.ptr (1,1) 0,.undef,.undef,.undef,.undef,.undef,.undef,.undef,.undef,.undef,.undef,.undef,.undef,.undef,.undef,.undef,.undef,.undef,.undef,.undef,.undef,.undef,.undef,.undef,.undef,.undef,.undef,.undef,.undef,.undef,.undef,.undef,.undef,.undef,.undef,.undef,.undef,.undef,.undef,.undef,.undef,.undef,.undef,.undef,.undef,.undef,.agg (aW 8 s'),N i,.undef,.undef,.undef,.undef,.undef,.undef,.undef,.undef,.undef,.undef,.undef,.undef,.undef,.undef,.undef,.undef,.undef,.undef,.undef,.undef,.undef,.undef,.undef,.undef,.undef,.undef,.undef,.undef,.undef,.undef,.undef],H,2,1⟩ ∧
  H (0,0)=some (HsC s Nil n)∧H (1,0)=some (aB 32 fun _=>0#8)∧H (1,1)=some (aB 32 (outP s' i))
set_option maxRecDepth 10000 in
theorem g_roundA (K k0:Nat) (s s':Nat→BitVec 32) (n:Nat) (i:Nat) (hi:i < 8) (st:St) (hI:gJA s s' n i st) :
    ∃ st1,ev (envC C k0) K L58b0 st=some (.normal,st1)∧gJA s s' n (i+1) (qa8 L58k0 st1):=by
  obtain ⟨H,rfl,h0,h1,h2⟩:=hI
  apply Exists.intro
  apply And.intro
  · simp (disch := first | omega | decide | simp only [nmsB, lB]) only [simprocAttr, -rR, -rS, leB, memB, arrB, numB, L58b0, hi, h2, qae, qab]
    rfl
  · refine qao [(1, 0), (1, 1)] rfl (by simp only [simprocAttr, -rR, -rS, qak, L58k0, h0, h1, h2, qaN, qa6, qam, qcl, qaL, qah, qac, qaa]) rfl ⟨_, rfl, ?_, ?_, ?_⟩
    · rw[qaG]; simp (disch:=first|omega|decide|simp only[nmsB,lB]) only[simprocAttr,-rR,-rS,leB,memB,qaf,h0,qaP,qae,qab,qad,qac,qaa]
    · exact qaj (1,0) rfl (by simp only[simprocAttr,-rR,-rS,memB,h1,qab]) (qaE _ _ _)
    · rw[qfT]; exact qaj (1,1) rfl (by simp only[simprocAttr,-rR,-rS,memB,qab]) (qaE _ _ _)
set_option maxRecDepth 10000 in
theorem sumA (k:Nat) (s:Nat→BitVec 32) (n:Nat) (hn:n≤4611686018427387000) :
    F C (k+(fb n 8).length / 64+101) 58 [.ptr (0,0) 0] [HsC s Nil n]=some (.agg (aB 32 (outB (absN (fb n 8) s ((fb n 8).length / 64)))),[some (HsC s Nil n)],[]):=by
  have hz:=qd8 n
  have hfl:=qcX n 8
  obtain ⟨m,hm⟩:∃ m,m=fb n 8:=⟨_,rfl⟩
  rw[←hm]
  rw[qaH f58]
  have hfork:=ptr_callA (k+m.length / 64+100) 7 59 l59 (upd (upd (qaY [HsC s Nil n]) (2,0) (some (aB 32 fun _=>0#8))) (3,0) (some (aB 32 fun _=>0#8))) (0,0) s n rfl (.ptr (1,0) 0) (.ptr (7,0) 0) [HsC s Nil n] [HsC s Nil n] (forkA (k+m.length / 64+98) s n) rfl (by simp only[zB,zA,qaP,qbS])
  have hzs:(119 - n % 64) % 64=zs n:=rfl
  have hst:∀ nm:Nm,stK 1 0 nm (some [B8 128#8]) (some (bs (List.replicate (zs n+1) 0#8)))=some ⟨Un,[],[(nm,some (bs (fb n 0)))]⟩:=by
    intro nm; rw[bs_st _ _ _ _ (by simp),←fb_zero]
  simp (disch:=first|omega|decide|simp only[nmsB,lB]) only[simprocAttr,-rR,-rS,leB,memB,arrB,numB,qaf,L58,Hs_n,hfork,qeU,hzs,hst,qae,qab,qad,qac,qaa]
  generalize hL:qa1 L58k1 _ _ _=r
  refine qaR hL (fJA s n) 8 (by omega) (fun i st hi hI=>f_roundA _ _ s n (by omega) i hi st hI) ?_ ?_ ?_
  · refine qao [(2, 0), (3, 0), (7, 0), (17, 0)] rfl (by simp only [simprocAttr, -rR, -rS, qak, L58k1, qaN, qa6, qam, qaL, qah, qac, qaa]) rfl ⟨some (zs n + 1), _, rfl, .inr ⟨rfl, rfl⟩, ?_, ?_, ?_, ?_, ?_⟩
    · rw[qaG]; simp (disch:=first|omega|decide|simp only[nmsB,lB]) only[simprocAttr,-rR,-rS,leB,memB,qaf,qaP,qae,qab,qad,qac,qaa]
    · exact qaj (2,0) rfl (by simp only[simprocAttr,-rR,-rS,memB,qab]) (qaE _ _ _)
    · exact qaj (3,0) rfl (by simp only[simprocAttr,-rR,-rS,memB,qab]) (qaE _ _ _)
    · rw[qcQ _ _ _ (7,0) (HsC s Nil n) rfl (by simp only[simprocAttr,-rR,-rS,memB,qab]),qaP]; rfl
    · exact qaj (17,0) rfl (by simp only[simprocAttr,-rR,-rS,memB,qab]) (qaq _ _)
  · rintro st ⟨c, H, rfl, hc, h0, h1, h2, h3, hF⟩
    apply qaO
    simp (disch:=first|omega|decide|simp only[nmsB,lB]) only[simprocAttr,-rR,-rS,leB,memB,numB,qaf,L58b1,qae,qab,qad,qac,qaa]
    rfl
  · rintro st ⟨c, H, rfl, hc, h0, h1, h2, h3, hF⟩ rfl
    clear hL
    obtain ⟨l',hw,_,_⟩:=writeA k s n (fb n 8) m hm (by simp[fb]) (by rw[hm]; omega) (by omega)
    have hB:=qem H (1,3) 0 (zs n+1+8) c (fb n 8) [(1,2)] hF (by omega) rfl
    rw[zF,List.take_of_length_le (by omega)] at hB
    have hcall:=fun b=>qf3 _ b H (1,2) s _ n _ _ _ (fb n 8) l' h3 hB hw
    obtain ⟨s',hs'⟩:∃ s',s'=absN m s (m.length / 64):=⟨_,rfl⟩
    rw[←hs'] at hcall ⊢
    simp (disch:=first|omega|decide|simp only[nmsB,lB]) only[simprocAttr,-rR,-rS,leB,memB,arrB,numB,qaf,L58b1,hcall,qdX,h1,h2,qae,qab,qad,qac,qaa]
    generalize hL:qa1 L58k0 _ _ _=r
    refine qaR hL (gJA s s' n) 8 (by omega) (fun i st hi hI=>g_roundA _ _ s s' n i hi st hI) ?_ ?_ ?_
    · refine qao [(1, 0), (1, 1)] rfl (by simp only [simprocAttr, -rR, -rS, qak, L58k0, h0, h1, h2, qaN, qa6, qam, qcl, qaL, qah, qac, qaa]) rfl ⟨_, rfl, ?_, ?_, ?_⟩
      · rw[qaG]; simp (disch:=first|omega|decide|simp only[nmsB,lB]) only[simprocAttr,-rR,-rS,leB,memB,qaf,h0,qaP,qae,qab,qad,qac,qaa]
      · exact qaj (1,0) rfl (by simp only[simprocAttr,-rR,-rS,memB,h1,qab]) (qaE _ _ _)
      · rw [show outP s' 0 = fun _ => 0#8 by funext j; simp [outP]]
        exact qaj (1,1) rfl (by simp only[simprocAttr,-rR,-rS,memB,h2,qab]) (qaE _ _ _)
    · rintro st ⟨H, rfl, h0, h1, h2⟩
      apply qaO
      simp (disch:=first|omega|decide|simp only[nmsB,lB]) only[simprocAttr,-rR,-rS,leB,memB,numB,qaf,L58b0,qae,qab,qad,qac,qaa]
      rfl
    · rintro st ⟨H, rfl, h0, h1, h2⟩ rfl
      have e:aB 32 (outP s' 8)=aB 32 (outB s'):=qcn 32 fun j hj=>by simp only[outP]; rw[if_pos (by omega)]
      rw[e] at h2
      simp (disch:=first|omega|decide|simp only[nmsB,lB]) only[simprocAttr,-rR,-rS,leB,memB,arrB,numB,qaf,L58b0,h1,h2,qae,qab,qad,qac,qaa]
      rw[qaX 1 _ _ [] (by simp only[simprocAttr,-rR,-rS,qak,h0,qbt,qa6,qam,qaL,qah,qac,qaa])]
      simp (disch:=first|omega|decide|simp only[nmsB,lB]) only[simprocAttr,-rR,-rS,leB,memB,arrB,qaf,h0,qaP,qae,qab,qad,qac,qaa]
def fJB (s:Nat→BitVec 32) (n:Nat) (len:Nat) (l:List (BitVec 8)) (i:Nat) (st:St):Prop := ∃ (c:Option Nat) (H:Heap),st=⟨[.ptr (0,0) 0,.undef,.ptr (1,0) 0,.ptr (1,1) 0,.ptr (1,2) 0,.sl (1,4) 0 (zs n+1+i) c 1,.undef,.undef,.undef,.undef,.undef,.undef,.undef,.undef,.undef,.undef,.undef,.undef,.undef,.undef,.undef,.undef,.undef,.undef,.undef,N i,.undef,.undef,.undef,.undef,.undef,.undef,.undef,.undef,.undef,.undef,.undef,.undef,.undef,.undef,.undef,.undef,.undef,.undef,.undef,.undef,.undef,.undef,.undef,.undef,.undef,.undef,.undef,.undef,.undef,.undef,.undef,.undef,.undef,.undef,.undef,.undef,.undef,.undef,.undef,.undef,.undef,.undef,.undef,.undef,.undef,.undef,.undef,.undef,.undef,.undef,.undef,.undef,.undef,.undef,.undef,.undef],H,2,2⟩ ∧
  (c=none∨(i=0∧c=some (zs n+1)))∧H (0,0)=some (HsC s (.sl (0,1) 0 len none 1) n)∧H (1,0)=some (aB 32 fun _=>0#8)∧H (1,1)=some (aB 32 fun _=>0#8)∧H (1,2)=some (HsC s (.sl (1,3) 0 len none 1) n)∧H (1,4)=some (bs (fb n i))∧H (1,3)=some (bs (l.take len))∧H (0,1)=some (bs l)
set_option maxRecDepth 10000 in
theorem f_roundB (K k0:Nat) (s:Nat→BitVec 32) (n:Nat) (len:Nat) (l:List (BitVec 8)) (hn:n≤4611686018427387904) (i:Nat) (hi:i < 8) (st:St) (hI:fJB s n len l i st) :
    ∃ st1,ev (envC C k0) K L58b1 st=some (.normal,st1)∧fJB s n len l (i+1) (qa8 L58k1 st1):=by
  obtain ⟨c,H,rfl,hc,h0,h1,h2,h3,hF,h13,h01⟩:=hI
  have hz:=qd8 n
  have hl:=qcX n i
  have hlen:((BitVec.ofNat 64 n*8#64) >>> (56 - 8*i)).setWidth 8=lenb n i:=rfl
  have hx:H (1,4)=some (bs (fb n i)):=hF
  have hfr:qbp (upd H (17,0) (some (bs [lenb n i]))) 1 1 (.sl (17,0) 0 1 (some 1) 1)=some (bs [lenb n i]):=qbQ (17,0) 0 1 (some 1) [lenb n i] (by simp only[simprocAttr,-rR,-rS,memB,qab]) (by simp)
  have hF':upd H (17,0) (some (bs [lenb n i])) (1,4)=some (bs (fb n i)):=by simp only[simprocAttr,-rR,-rS,memB,hF,qab]
  have ha:∃ ms,(ms=[]∨ms=[((1,4),none)])∧appX 18 1 1 1 (upd H (17,0) (some (bs [lenb n i]))) [] (bs [lenb n i]) (.sl (1,4) 0 (zs n+1+i) c 1)=some ⟨.sl (18,0) 0 (zs n+1+i+1) none 1,[bs (fb n (i+1))],ms⟩:=by
    rcases hc with rfl | ⟨rfl,rfl⟩
    · refine ⟨_, .inr rfl, ?_⟩
      rw[qad 1 1 _ _ _ _ _ (by omega),hF',qdf _ _ _ _ _ _ (by omega),zF,List.take_of_length_le (by omega),←qen]
    · refine ⟨_, .inl rfl, ?_⟩
      rw[qc9 _ (1,4) 0 _ _ _ _ hF' (by omega) (by omega) (by omega),zF,List.take_of_length_le (by omega),←qen]
  obtain ⟨ms,hms,ha⟩:=ha
  rcases hms with rfl | rfl
  all_goals
    apply Exists.intro
    apply And.intro
    · simp (disch := first | omega | decide | simp only [nmsB, lB]) only [simprocAttr, -rR, -rS, leB, memB, arrB, numB, qaf, L58b1, hi, h0, hF, Hs_n, hlen, fill1, hfr, ha, qae, qad, qac, qaa]
      rfl
    · refine qao [(1, 0), (1, 1), (1, 2), (1, 3), (18, 0)] rfl (by simp only [simprocAttr, -rR, -rS, qak, L58k1, h0, h1, h2, h3, hF, h13, h01, qaN, qa6, qam, qaL, qah, qac, qaa]) rfl ⟨none, _, rfl, .inl rfl, ?_, ?_, ?_, ?_, ?_, ?_, ?_⟩
      · rw[qaG]; simp (disch:=first|omega|decide|simp only[nmsB,lB]) only[simprocAttr,-rR,-rS,leB,memB,qaf,h0,qaP,qae,qab,qad,qac,qaa]
      · exact qaj (1,0) rfl (by simp only[simprocAttr,-rR,-rS,memB,h1,qab]) (qaE _ _ _)
      · exact qaj (1,1) rfl (by simp only[simprocAttr,-rR,-rS,memB,h2,qab]) (qaE _ _ _)
      · rw[qcQ _ _ _ (1,2) (HsC s (.sl (1,3) 0 len none 1) n) rfl (by simp only[simprocAttr,-rR,-rS,memB,h3,qab]),qaP]; rfl
      · exact qaj (18,0) rfl (by simp only[simprocAttr,-rR,-rS,memB,qab]) (qaq _ _)
      · exact qaj (1,3) rfl (by simp only[simprocAttr,-rR,-rS,memB,h13,qab]) (qaq _ _)
      · rw[qaG]; simp (disch:=first|omega|decide|simp only[nmsB,lB]) only[simprocAttr,-rR,-rS,leB,memB,qaf,h01,qae,qab,qad,qac,qaa]
def gJB (s s':Nat→BitVec 32) (n:Nat) (len:Nat) (l:List (BitVec 8)) (i:Nat) (st:St):Prop := ∃ (H:Heap),st=⟨[.undef,.undef,.ptr (1,0) 0,.ptr (1,1) 0,.undef,.undef,.undef,.undef,.undef,.undef,.undef,.undef,.undef,.undef,.undef,.undef,.undef,.undef,.undef,.undef,.undef,.undef,.undef,.undef,.undef,.undef,.undef,.undef,.undef,.undef,.undef,.undef,.undef,.undef,.undef,.undef,.undef,.undef,.undef,.undef,.undef,.undef,.undef,.undef,.undef,.undef,.undef,.undef,.undef,.agg (aW 8 s'),N i,.undef,.undef,.undef,.undef,.undef,.undef,.undef,.undef,.undef,.undef,.undef,.undef,.undef,.undef,.undef,.undef,.undef,.undef,.undef,.undef,.undef,.undef,.undef,.undef,.undef,.undef,.undef,.undef,.undef,.undef,.undef],H,2,2⟩ ∧
  H (0,0)=some (HsC s (.sl (0,1) 0 len none 1) n)∧H (1,0)=some (aB 32 fun _=>0#8)∧H (1,1)=some (aB 32 (outP s' i))∧H (0,1)=some (bs l)
set_option maxRecDepth 10000 in
theorem g_roundB (K k0:Nat) (s s':Nat→BitVec 32) (n:Nat) (len:Nat) (l:List (BitVec 8)) (i:Nat) (hi:i < 8) (st:St) (hI:gJB s s' n len l i st) :
    ∃ st1,ev (envC C k0) K L58b0 st=some (.normal,st1)∧gJB s s' n len l (i+1) (qa8 L58k0 st1):=by
  obtain ⟨H,rfl,h0,h1,h2,h01⟩:=hI
  apply Exists.intro
  apply And.intro
  · simp (disch := first | omega | decide | simp only [nmsB, lB]) only [simprocAttr, -rR, -rS, leB, memB, arrB, numB, L58b0, hi, h2, qae, qab]
    rfl
  · refine qao [(1, 0), (1, 1)] rfl (by simp only [simprocAttr, -rR, -rS, qak, L58k0, h0, h1, h2, h01, qaN, qa6, qam, qcl, qaL, qah, qac, qaa]) rfl ⟨_, rfl, ?_, ?_, ?_, ?_⟩
    · rw[qaG]; simp (disch:=first|omega|decide|simp only[nmsB,lB]) only[simprocAttr,-rR,-rS,leB,memB,qaf,h0,qaP,qae,qab,qad,qac,qaa]
    · exact qaj (1,0) rfl (by simp only[simprocAttr,-rR,-rS,memB,h1,qab]) (qaE _ _ _)
    · rw[qfT]; exact qaj (1,1) rfl (by simp only[simprocAttr,-rR,-rS,memB,qab]) (qaE _ _ _)
    · rw[qaG]; simp (disch:=first|omega|decide|simp only[nmsB,lB]) only[simprocAttr,-rR,-rS,leB,memB,qaf,h01,qae,qab,qad,qac,qaa]
set_option maxRecDepth 10000 in
theorem sumB (k:Nat) (s:Nat→BitVec 32) (n:Nat) (len:Nat) (l:List (BitVec 8)) (hn:n≤4611686018427387000) (hl:len≤l.length) (h0:0 < len) (hlb:len≤211106232000000):
    F C (k+(l.take len++fb n 8).length / 64+101) 58 [.ptr (0,0) 0] [HsC s (.sl (0,1) 0 len none 1) n,bs l]=some (.agg (aB 32 (outB (absN (l.take len++fb n 8) s ((l.take len++fb n 8).length / 64)))),[some (HsC s (.sl (0,1) 0 len none 1) n),some (bs l)],[]):=by
  have hz:=qd8 n
  have hfl:=qcX n 8
  obtain ⟨m,hm⟩:∃ m,m=l.take len++fb n 8:=⟨_,rfl⟩
  rw[←hm]
  rw[qaH f58]
  have hfork := qeD (k + m.length / 64 + 100) 7 59 l59 (upd (upd (qaY [HsC s (.sl (0, 1) 0 len none 1) n, bs l]) (2, 0) (some (aB 32 fun _ => 0#8))) (3, 0) (some (aB 32 fun _ => 0#8))) (0, 0) (0, 1) s n len none l rfl rfl (by decide)
    (.ptr (1, 0) 0) (.ptr (7, 0) 0) [HsC s (.sl (1, 1) 0 len none 1) n, bs (l.take len)] [HsC s (.sl (7, 1) 0 len none 1) n, bs (l.take len)] (forkG (k + m.length / 64 + 98) s n len len none none l (l.take len) (clone_F _ len l hl h0 (by omega))) rfl (by
      simp only[zB,zA,qaP,qaq] <;> rfl)
  have hzs:(119 - n % 64) % 64=zs n:=rfl
  have hst:∀ nm:Nm,stK 1 0 nm (some [B8 128#8]) (some (bs (List.replicate (zs n+1) 0#8)))=some ⟨Un,[],[(nm,some (bs (fb n 0)))]⟩:=by
    intro nm; rw[bs_st _ _ _ _ (by simp),←fb_zero]
  simp (disch:=first|omega|decide|simp only[nmsB,lB]) only[simprocAttr,-rR,-rS,leB,memB,arrB,numB,qaf,L58,Hs_n,hfork,qeU,hzs,hst,qae,qab,qad,qac,qaa]
  generalize hL:qa1 L58k1 _ _ _=r
  refine qaR hL (fJB s n len l) 8 (by omega) (fun i st hi hI=>f_roundB _ _ s n len l (by omega) i hi st hI) ?_ ?_ ?_
  · refine qao [(2, 0), (3, 0), (7, 0), (7, 1), (17, 0)] rfl (by simp only [simprocAttr, -rR, -rS, qak, L58k1, qaN, qa6, qam, qaL, qah, qac, qaa]) rfl ⟨some (zs n + 1), _, rfl, .inr ⟨rfl, rfl⟩, ?_, ?_, ?_, ?_, ?_, ?_, ?_⟩
    · rw[qaG]; simp (disch:=first|omega|decide|simp only[nmsB,lB]) only[simprocAttr,-rR,-rS,leB,memB,qaf,qaP,qae,qab,qad,qac,qaa]
    · exact qaj (2,0) rfl (by simp only[simprocAttr,-rR,-rS,memB,qab]) (qaE _ _ _)
    · exact qaj (3,0) rfl (by simp only[simprocAttr,-rR,-rS,memB,qab]) (qaE _ _ _)
    · rw[qcQ _ _ _ (7,0) (HsC s (.sl (7,1) 0 len none 1) n) rfl (by simp only[simprocAttr,-rR,-rS,memB,qab]),qaP]; rfl
    · exact qaj (17,0) rfl (by simp only[simprocAttr,-rR,-rS,memB,qab]) (qaq _ _)
    · exact qaj (7,1) rfl (by simp only[simprocAttr,-rR,-rS,memB,qab]) (qaq _ _)
    · rw[qaG]; simp (disch:=first|omega|decide|simp only[nmsB,lB]) only[simprocAttr,-rR,-rS,leB,memB,qaf,qaq,qae,qab,qad,qac,qaa]
  · rintro st ⟨c, H, rfl, hc, h0, h1, h2, h3, hF, h13, h01⟩
    apply qaO
    simp (disch:=first|omega|decide|simp only[nmsB,lB]) only[simprocAttr,-rR,-rS,leB,memB,numB,qaf,L58b1,qae,qab,qad,qac,qaa]
    rfl
  · rintro st ⟨c, H, rfl, hc, h0, h1, h2, h3, hF, h13, h01⟩ rfl
    clear hL
    have hlt:(l.take len).length=len:=by rw[zU,Nat.min_eq_left hl]
    have hmt:m=(l.take len).take len++fb n 8:=by rw[hm,List.take_take,Nat.min_self]
    have hml:m.length=len+(fb n 8).length:=by rw[hm,zH,hlt]
    obtain ⟨l',hw,_,_⟩:=writeB k s n len (l.take len) (by omega) (fb n 8) m hmt (by omega) (by omega)
    have hB:=qem H (1,4) 0 (zs n+1+8) c (fb n 8) [(1,2),(1,3)] hF (by omega) rfl
    rw[zF,List.take_of_length_le (by omega)] at hB
    have hcall:=fun b=>qe3 _ b H (1,2) (1,3) s _ n _ _ len none _ (fb n 8) (l.take len) l' none h3 h13 (by decide) hB hw
    obtain ⟨s',hs'⟩:∃ s',s'=absN m s (m.length / 64):=⟨_,rfl⟩
    rw[←hs'] at hcall ⊢
    simp (disch:=first|omega|decide|simp only[nmsB,lB]) only[simprocAttr,-rR,-rS,leB,memB,arrB,numB,qaf,L58b1,hcall,qdX,h1,h2,qae,qab,qad,qac,qaa]
    generalize hL:qa1 L58k0 _ _ _=r
    refine qaR hL (gJB s s' n len l) 8 (by omega) (fun i st hi hI=>g_roundB _ _ s s' n len l i hi st hI) ?_ ?_ ?_
    · refine qao [(1, 0), (1, 1)] rfl (by simp only [simprocAttr, -rR, -rS, qak, L58k0, h0, h1, h2, h01, qaN, qa6, qam, qcl, qaL, qah, qac, qaa]) rfl ⟨_, rfl, ?_, ?_, ?_, ?_⟩
      · rw[qaG]; simp (disch:=first|omega|decide|simp only[nmsB,lB]) only[simprocAttr,-rR,-rS,leB,memB,qaf,h0,qaP,qae,qab,qad,qac,qaa]
      · exact qaj (1,0) rfl (by simp only[simprocAttr,-rR,-rS,memB,h1,qab]) (qaE _ _ _)
      · rw [show outP s' 0 = fun _ => 0#8 by funext j; simp [outP]]
        exact qaj (1,1) rfl (by simp only[simprocAttr,-rR,-rS,memB,h2,qab]) (qaE _ _ _)
      · rw[qaG]; simp (disch:=first|omega|decide|simp only[nmsB,lB]) only[simprocAttr,-rR,-rS,leB,memB,qaf,h01,qaq,qae,qab,qad,qac,qaa]
    · rintro st ⟨H, rfl, h0, h1, h2, h01⟩
      apply qaO
      simp (disch:=first|omega|decide|simp only[nmsB,lB]) only[simprocAttr,-rR,-rS,leB,memB,numB,qaf,L58b0,qae,qab,qad,qac,qaa]
      rfl
    · rintro st ⟨H, rfl, h0, h1, h2, h01⟩ rfl
      have e:aB 32 (outP s' 8)=aB 32 (outB s'):=qcn 32 fun j hj=>by simp only[outP]; rw[if_pos (by omega)]
      rw[e] at h2
      simp (disch:=first|omega|decide|simp only[nmsB,lB]) only[simprocAttr,-rR,-rS,leB,memB,arrB,numB,qaf,L58b0,h1,h2,qae,qab,qad,qac,qaa]
      rw[qaX 2 _ _ [] (by simp only[simprocAttr,-rR,-rS,qak,h0,h01,qbt,qa6,qam,qaL,qah,qac,qaa])]
      simp (disch:=first|omega|decide|simp only[nmsB,lB]) only[simprocAttr,-rR,-rS,leB,memB,arrB,qaf,h0,h01,qaP,qae,qab,qad,qac,qaa]
def fJZ (s:Nat→BitVec 32) (n:Nat) (l:List (BitVec 8)) (i:Nat) (st:St):Prop := ∃ (c:Option Nat) (H:Heap),st=⟨[.ptr (0,0) 0,.undef,.ptr (1,0) 0,.ptr (1,1) 0,.ptr (1,2) 0,.sl (1,4) 0 (zs n+1+i) c 1,.undef,.undef,.undef,.undef,.undef,.undef,.undef,.undef,.undef,.undef,.undef,.undef,.undef,.undef,.undef,.undef,.undef,.undef,.undef,N i,.undef,.undef,.undef,.undef,.undef,.undef,.undef,.undef,.undef,.undef,.undef,.undef,.undef,.undef,.undef,.undef,.undef,.undef,.undef,.undef,.undef,.undef,.undef,.undef,.undef,.undef,.undef,.undef,.undef,.undef,.undef,.undef,.undef,.undef,.undef,.undef,.undef,.undef,.undef,.undef,.undef,.undef,.undef,.undef,.undef,.undef,.undef,.undef,.undef,.undef,.undef,.undef,.undef,.undef,.undef,.undef],H,2,2⟩ ∧
  (c=none∨(i=0∧c=some (zs n+1)))∧H (0,0)=some (HsC s (.sl (0,1) 0 0 none 1) n)∧H (1,0)=some (aB 32 fun _=>0#8)∧H (1,1)=some (aB 32 fun _=>0#8)∧H (1,2)=some (HsC s (.sl (1,3) 0 0 (some 0) 1) n)∧H (1,4)=some (bs (fb n i))∧H (1,3)=some (bs [])∧H (0,1)=some (bs l)
set_option maxRecDepth 10000 in
theorem f_roundZ (K k0:Nat) (s:Nat→BitVec 32) (n:Nat) (l:List (BitVec 8)) (hn:n≤4611686018427387904) (i:Nat) (hi:i < 8) (st:St) (hI:fJZ s n l i st) :
    ∃ st1,ev (envC C k0) K L58b1 st=some (.normal,st1)∧fJZ s n l (i+1) (qa8 L58k1 st1):=by
  obtain ⟨c,H,rfl,hc,h0,h1,h2,h3,hF,h13,h01⟩:=hI
  have hz:=qd8 n
  have hl:=qcX n i
  have hlen:((BitVec.ofNat 64 n*8#64) >>> (56 - 8*i)).setWidth 8=lenb n i:=rfl
  have hx:H (1,4)=some (bs (fb n i)):=hF
  have hfr:qbp (upd H (17,0) (some (bs [lenb n i]))) 1 1 (.sl (17,0) 0 1 (some 1) 1)=some (bs [lenb n i]):=qbQ (17,0) 0 1 (some 1) [lenb n i] (by simp only[simprocAttr,-rR,-rS,memB,qab]) (by simp)
  have hF':upd H (17,0) (some (bs [lenb n i])) (1,4)=some (bs (fb n i)):=by simp only[simprocAttr,-rR,-rS,memB,hF,qab]
  have ha:∃ ms,(ms=[]∨ms=[((1,4),none)])∧appX 18 1 1 1 (upd H (17,0) (some (bs [lenb n i]))) [] (bs [lenb n i]) (.sl (1,4) 0 (zs n+1+i) c 1)=some ⟨.sl (18,0) 0 (zs n+1+i+1) none 1,[bs (fb n (i+1))],ms⟩:=by
    rcases hc with rfl | ⟨rfl,rfl⟩
    · refine ⟨_, .inr rfl, ?_⟩
      rw[qad 1 1 _ _ _ _ _ (by omega),hF',qdf _ _ _ _ _ _ (by omega),zF,List.take_of_length_le (by omega),←qen]
    · refine ⟨_, .inl rfl, ?_⟩
      rw[qc9 _ (1,4) 0 _ _ _ _ hF' (by omega) (by omega) (by omega),zF,List.take_of_length_le (by omega),←qen]
  obtain ⟨ms,hms,ha⟩:=ha
  rcases hms with rfl | rfl
  all_goals
    apply Exists.intro
    apply And.intro
    · simp (disch := first | omega | decide | simp only [nmsB, lB]) only [simprocAttr, -rR, -rS, leB, memB, arrB, numB, qaf, L58b1, hi, h0, hF, Hs_n, hlen, fill1, hfr, ha, qae, qad, qac, qaa]
      rfl
    · refine qao [(1, 0), (1, 1), (1, 2), (1, 3), (18, 0)] rfl (by simp only [simprocAttr, -rR, -rS, qak, L58k1, h0, h1, h2, h3, hF, h13, h01, qaN, qa6, qam, qaL, qah, qac, qaa]) rfl ⟨none, _, rfl, .inl rfl, ?_, ?_, ?_, ?_, ?_, ?_, ?_⟩
      · rw[qaG]; simp (disch:=first|omega|decide|simp only[nmsB,lB]) only[simprocAttr,-rR,-rS,leB,memB,qaf,h0,qaP,qae,qab,qad,qac,qaa]
      · exact qaj (1,0) rfl (by simp only[simprocAttr,-rR,-rS,memB,h1,qab]) (qaE _ _ _)
      · exact qaj (1,1) rfl (by simp only[simprocAttr,-rR,-rS,memB,h2,qab]) (qaE _ _ _)
      · rw[qcQ _ _ _ (1,2) (HsC s (.sl (1,3) 0 0 (some 0) 1) n) rfl (by simp only[simprocAttr,-rR,-rS,memB,h3,qab]),qaP]; rfl
      · exact qaj (18,0) rfl (by simp only[simprocAttr,-rR,-rS,memB,qab]) (qaq _ _)
      · exact qaj (1,3) rfl (by simp only[simprocAttr,-rR,-rS,memB,h13,qab]) (qaq _ _)
      · rw[qaG]; simp (disch:=first|omega|decide|simp only[nmsB,lB]) only[simprocAttr,-rR,-rS,leB,memB,qaf,h01,qae,qab,qad,qac,qaa]
def gJZ (s s':Nat→BitVec 32) (n:Nat) (l:List (BitVec 8)) (i:Nat) (st:St):Prop := ∃ (H:Heap),st=⟨[.undef,.undef,.ptr (1,0) 0,.ptr (1,1) 0,.undef,.undef,.undef,.undef,.undef,.undef,.undef,.undef,.undef,.undef,.undef,.undef,.undef,.undef,.undef,.undef,.undef,.undef,.undef,.undef,.undef,.undef,.undef,.undef,.undef,.undef,.undef,.undef,.undef,.undef,.undef,.undef,.undef,.undef,.undef,.undef,.undef,.undef,.undef,.undef,.undef,.undef,.undef,.undef,.undef,.agg (aW 8 s'),N i,.undef,.undef,.undef,.undef,.undef,.undef,.undef,.undef,.undef,.undef,.undef,.undef,.undef,.undef,.undef,.undef,.undef,.undef,.undef,.undef,.undef,.undef,.undef,.undef,.undef,.undef,.undef,.undef,.undef,.undef,.undef],H,2,2⟩ ∧
  H (0,0)=some (HsC s (.sl (0,1) 0 0 none 1) n)∧H (1,0)=some (aB 32 fun _=>0#8)∧H (1,1)=some (aB 32 (outP s' i))∧H (0,1)=some (bs l)
set_option maxRecDepth 10000 in
theorem g_roundZ (K k0:Nat) (s s':Nat→BitVec 32) (n:Nat) (l:List (BitVec 8)) (i:Nat) (hi:i < 8) (st:St) (hI:gJZ s s' n l i st) :
    ∃ st1,ev (envC C k0) K L58b0 st=some (.normal,st1)∧gJZ s s' n l (i+1) (qa8 L58k0 st1):=by
  obtain ⟨H,rfl,h0,h1,h2,h01⟩:=hI
  apply Exists.intro
  apply And.intro
  · simp (disch := first | omega | decide | simp only [nmsB, lB]) only [simprocAttr, -rR, -rS, leB, memB, arrB, numB, L58b0, hi, h2, qae, qab]
    rfl
  · refine qao [(1, 0), (1, 1)] rfl (by simp only [simprocAttr, -rR, -rS, qak, L58k0, h0, h1, h2, h01, qaN, qa6, qam, qcl, qaL, qah, qac, qaa]) rfl ⟨_, rfl, ?_, ?_, ?_, ?_⟩
    · rw[qaG]; simp (disch:=first|omega|decide|simp only[nmsB,lB]) only[simprocAttr,-rR,-rS,leB,memB,qaf,h0,qaP,qae,qab,qad,qac,qaa]
    · exact qaj (1,0) rfl (by simp only[simprocAttr,-rR,-rS,memB,h1,qab]) (qaE _ _ _)
    · rw[qfT]; exact qaj (1,1) rfl (by simp only[simprocAttr,-rR,-rS,memB,qab]) (qaE _ _ _)
    · rw[qaG]; simp (disch:=first|omega|decide|simp only[nmsB,lB]) only[simprocAttr,-rR,-rS,leB,memB,qaf,h01,qae,qab,qad,qac,qaa]
set_option maxRecDepth 10000 in
theorem sumZ (k:Nat) (s:Nat→BitVec 32) (n:Nat) (l:List (BitVec 8)) (hn:n≤4611686018427387000) :
    F C (k+(fb n 8).length / 64+101) 58 [.ptr (0,0) 0] [HsC s (.sl (0,1) 0 0 none 1) n,bs l]=some (.agg (aB 32 (outB (absN (fb n 8) s ((fb n 8).length / 64)))),[some (HsC s (.sl (0,1) 0 0 none 1) n),some (bs l)],[]):=by
  have hz:=qd8 n
  have hfl:=qcX n 8
  obtain ⟨m,hm⟩:∃ m,m=fb n 8:=⟨_,rfl⟩
  rw[←hm]
  rw[qaH f58]
  have hfork := qeD (k + m.length / 64 + 100) 7 59 l59 (upd (upd (qaY [HsC s (.sl (0, 1) 0 0 none 1) n, bs l]) (2, 0) (some (aB 32 fun _ => 0#8))) (3, 0) (some (aB 32 fun _ => 0#8))) (0, 0) (0, 1) s n 0 none l rfl rfl (by decide)
    (.ptr (1,0) 0) (.ptr (7,0) 0) [HsC s (.sl (1,1) 0 0 (some 0) 1) n,bs []] [HsC s (.sl (7,1) 0 0 (some 0) 1) n,bs []] (forkG (k+m.length / 64+98) s n 0 0 none (some 0) l [] (clone_0 _ l)) rfl (by
      simp only[zB,zA,qaP,qaq] <;> rfl)
  have hzs:(119 - n % 64) % 64=zs n:=rfl
  have hst:∀ nm:Nm,stK 1 0 nm (some [B8 128#8]) (some (bs (List.replicate (zs n+1) 0#8)))=some ⟨Un,[],[(nm,some (bs (fb n 0)))]⟩:=by
    intro nm; rw[bs_st _ _ _ _ (by simp),←fb_zero]
  simp (disch:=first|omega|decide|simp only[nmsB,lB]) only[simprocAttr,-rR,-rS,leB,memB,arrB,numB,qaf,L58,Hs_n,hfork,qeU,hzs,hst,qae,qab,qad,qac,qaa]
  generalize hL:qa1 L58k1 _ _ _=r
  refine qaR hL (fJZ s n l) 8 (by omega) (fun i st hi hI=>f_roundZ _ _ s n l (by omega) i hi st hI) ?_ ?_ ?_
  · refine qao [(2, 0), (3, 0), (7, 0), (7, 1), (17, 0)] rfl (by simp only [simprocAttr, -rR, -rS, qak, L58k1, qaN, qa6, qam, qaL, qah, qac, qaa]) rfl ⟨some (zs n + 1), _, rfl, .inr ⟨rfl, rfl⟩, ?_, ?_, ?_, ?_, ?_, ?_, ?_⟩
    · rw[qaG]; simp (disch:=first|omega|decide|simp only[nmsB,lB]) only[simprocAttr,-rR,-rS,leB,memB,qaf,qaP,qae,qab,qad,qac,qaa]
    · exact qaj (2,0) rfl (by simp only[simprocAttr,-rR,-rS,memB,qab]) (qaE _ _ _)
    · exact qaj (3,0) rfl (by simp only[simprocAttr,-rR,-rS,memB,qab]) (qaE _ _ _)
    · rw[qcQ _ _ _ (7,0) (HsC s (.sl (7,1) 0 0 (some 0) 1) n) rfl (by simp only[simprocAttr,-rR,-rS,memB,qab]),qaP]; rfl
    · exact qaj (17,0) rfl (by simp only[simprocAttr,-rR,-rS,memB,qab]) (qaq _ _)
    · exact qaj (7,1) rfl (by simp only[simprocAttr,-rR,-rS,memB,qab]) (qaq _ _)
    · rw[qaG]; simp (disch:=first|omega|decide|simp only[nmsB,lB]) only[simprocAttr,-rR,-rS,leB,memB,qaf,qaq,qae,qab,qad,qac,qaa]
  · rintro st ⟨c, H, rfl, hc, h0, h1, h2, h3, hF, h13, h01⟩
    apply qaO
    simp (disch:=first|omega|decide|simp only[nmsB,lB]) only[simprocAttr,-rR,-rS,leB,memB,numB,qaf,L58b1,qae,qab,qad,qac,qaa]
    rfl
  · rintro st ⟨c, H, rfl, hc, h0, h1, h2, h3, hF, h13, h01⟩ rfl
    clear hL
    obtain ⟨l',hw,_,_⟩:=writeC k s n (fb n 8) m hm (by simp[fb]) (by rw[hm]; omega) (by omega)
    have hB:=qem H (1,4) 0 (zs n+1+8) c (fb n 8) [(1,2),(1,3)] hF (by omega) rfl
    rw[zF,List.take_of_length_le (by omega)] at hB
    have hcall:=fun b=>qe3 _ b H (1,2) (1,3) s _ n _ _ 0 (some 0) _ (fb n 8) [] l' (some []) h3 h13 (by decide) hB hw
    obtain ⟨s',hs'⟩:∃ s',s'=absN m s (m.length / 64):=⟨_,rfl⟩
    rw[←hs'] at hcall ⊢
    simp (disch:=first|omega|decide|simp only[nmsB,lB]) only[simprocAttr,-rR,-rS,leB,memB,arrB,numB,qaf,L58b1,hcall,qdX,h1,h2,qae,qab,qad,qac,qaa]
    generalize hL:qa1 L58k0 _ _ _=r
    refine qaR hL (gJZ s s' n l) 8 (by omega) (fun i st hi hI=>g_roundZ _ _ s s' n l i hi st hI) ?_ ?_ ?_
    · refine qao [(1, 0), (1, 1)] rfl (by simp only [simprocAttr, -rR, -rS, qak, L58k0, h0, h1, h2, h01, qaN, qa6, qam, qcl, qaL, qah, qac, qaa]) rfl ⟨_, rfl, ?_, ?_, ?_, ?_⟩
      · rw[qaG]; simp (disch:=first|omega|decide|simp only[nmsB,lB]) only[simprocAttr,-rR,-rS,leB,memB,qaf,h0,qaP,qae,qab,qad,qac,qaa]
      · exact qaj (1,0) rfl (by simp only[simprocAttr,-rR,-rS,memB,h1,qab]) (qaE _ _ _)
      · rw [show outP s' 0 = fun _ => 0#8 by funext j; simp [outP]]
        exact qaj (1,1) rfl (by simp only[simprocAttr,-rR,-rS,memB,h2,qab]) (qaE _ _ _)
      · rw[qaG]; simp (disch:=first|omega|decide|simp only[nmsB,lB]) only[simprocAttr,-rR,-rS,leB,memB,qaf,h01,qaq,qae,qab,qad,qac,qaa]
    · rintro st ⟨H, rfl, h0, h1, h2, h01⟩
      apply qaO
      simp (disch:=first|omega|decide|simp only[nmsB,lB]) only[simprocAttr,-rR,-rS,leB,memB,numB,qaf,L58b0,qae,qab,qad,qac,qaa]
      rfl
    · rintro st ⟨H, rfl, h0, h1, h2, h01⟩ rfl
      have e:aB 32 (outP s' 8)=aB 32 (outB s'):=qcn 32 fun j hj=>by simp only[outP]; rw[if_pos (by omega)]
      rw[e] at h2
      simp (disch:=first|omega|decide|simp only[nmsB,lB]) only[simprocAttr,-rR,-rS,leB,memB,arrB,numB,qaf,L58b0,h1,h2,qae,qab,qad,qac,qaa]
      rw[qaX 2 _ _ [] (by simp only[simprocAttr,-rR,-rS,qak,h0,h01,qbt,qa6,qam,qaL,qah,qac,qaa])]
      simp (disch:=first|omega|decide|simp only[nmsB,lB]) only[simprocAttr,-rR,-rS,leB,memB,arrB,qaf,h0,h01,qaP,qae,qab,qad,qac,qaa]
def fJC (s:Nat→BitVec 32) (n:Nat) (l:List (BitVec 8)) (i:Nat) (st:St):Prop := ∃ (c:Option Nat) (H:Heap),st=⟨[.ptr (0,0) 0,.undef,.ptr (1,0) 0,.ptr (1,1) 0,.ptr (1,2) 0,.sl (1,4) 0 (zs n+1+i) c 1,.undef,.undef,.undef,.undef,.undef,.undef,.undef,.undef,.undef,.undef,.undef,.undef,.undef,.undef,.undef,.undef,.undef,.undef,.undef,N i,.undef,.undef,.undef,.undef,.undef,.undef,.undef,.undef,.undef,.undef,.undef,.undef,.undef,.undef,.undef,.undef,.undef,.undef,.undef,.undef,.undef,.undef,.undef,.undef,.undef,.undef,.undef,.undef,.undef,.undef,.undef,.undef,.undef,.undef,.undef,.undef,.undef,.undef,.undef,.undef,.undef,.undef,.undef,.undef,.undef,.undef,.undef,.undef,.undef,.undef,.undef,.undef,.undef,.undef,.undef,.undef],H,2,2⟩ ∧
  (c=none∨(i=0∧c=some (zs n+1)))∧H (0,0)=some (HsC s (.sl (0,1) 0 0 (some 0) 1) n)∧H (1,0)=some (aB 32 fun _=>0#8)∧H (1,1)=some (aB 32 fun _=>0#8)∧H (1,2)=some (HsC s (.sl (1,3) 0 0 (some 0) 1) n)∧H (1,4)=some (bs (fb n i))∧H (1,3)=some (bs [])∧H (0,1)=some (bs l)
set_option maxRecDepth 10000 in
theorem f_roundC (K k0:Nat) (s:Nat→BitVec 32) (n:Nat) (l:List (BitVec 8)) (hn:n≤4611686018427387904) (i:Nat) (hi:i < 8) (st:St) (hI:fJC s n l i st) :
    ∃ st1,ev (envC C k0) K L58b1 st=some (.normal,st1)∧fJC s n l (i+1) (qa8 L58k1 st1):=by
  obtain ⟨c,H,rfl,hc,h0,h1,h2,h3,hF,h13,h01⟩:=hI
  have hz:=qd8 n
  have hl:=qcX n i
  have hlen:((BitVec.ofNat 64 n*8#64) >>> (56 - 8*i)).setWidth 8=lenb n i:=rfl
  have hx:H (1,4)=some (bs (fb n i)):=hF
  have hfr:qbp (upd H (17,0) (some (bs [lenb n i]))) 1 1 (.sl (17,0) 0 1 (some 1) 1)=some (bs [lenb n i]):=qbQ (17,0) 0 1 (some 1) [lenb n i] (by simp only[simprocAttr,-rR,-rS,memB,qab]) (by simp)
  have hF':upd H (17,0) (some (bs [lenb n i])) (1,4)=some (bs (fb n i)):=by simp only[simprocAttr,-rR,-rS,memB,hF,qab]
  have ha:∃ ms,(ms=[]∨ms=[((1,4),none)])∧appX 18 1 1 1 (upd H (17,0) (some (bs [lenb n i]))) [] (bs [lenb n i]) (.sl (1,4) 0 (zs n+1+i) c 1)=some ⟨.sl (18,0) 0 (zs n+1+i+1) none 1,[bs (fb n (i+1))],ms⟩:=by
    rcases hc with rfl | ⟨rfl,rfl⟩
    · refine ⟨_, .inr rfl, ?_⟩
      rw[qad 1 1 _ _ _ _ _ (by omega),hF',qdf _ _ _ _ _ _ (by omega),zF,List.take_of_length_le (by omega),←qen]
    · refine ⟨_, .inl rfl, ?_⟩
      rw[qc9 _ (1,4) 0 _ _ _ _ hF' (by omega) (by omega) (by omega),zF,List.take_of_length_le (by omega),←qen]
  obtain ⟨ms,hms,ha⟩:=ha
  rcases hms with rfl | rfl
  all_goals
    apply Exists.intro
    apply And.intro
    · simp (disch := first | omega | decide | simp only [nmsB, lB]) only [simprocAttr, -rR, -rS, leB, memB, arrB, numB, qaf, L58b1, hi, h0, hF, Hs_n, hlen, fill1, hfr, ha, qae, qad, qac, qaa]
      rfl
    · refine qao [(1, 0), (1, 1), (1, 2), (1, 3), (18, 0)] rfl (by simp only [simprocAttr, -rR, -rS, qak, L58k1, h0, h1, h2, h3, hF, h13, h01, qaN, qa6, qam, qaL, qah, qac, qaa]) rfl ⟨none, _, rfl, .inl rfl, ?_, ?_, ?_, ?_, ?_, ?_, ?_⟩
      · rw[qaG]; simp (disch:=first|omega|decide|simp only[nmsB,lB]) only[simprocAttr,-rR,-rS,leB,memB,qaf,h0,qaP,qae,qab,qad,qac,qaa]
      · exact qaj (1,0) rfl (by simp only[simprocAttr,-rR,-rS,memB,h1,qab]) (qaE _ _ _)
      · exact qaj (1,1) rfl (by simp only[simprocAttr,-rR,-rS,memB,h2,qab]) (qaE _ _ _)
      · rw[qcQ _ _ _ (1,2) (HsC s (.sl (1,3) 0 0 (some 0) 1) n) rfl (by simp only[simprocAttr,-rR,-rS,memB,h3,qab]),qaP]; rfl
      · exact qaj (18,0) rfl (by simp only[simprocAttr,-rR,-rS,memB,qab]) (qaq _ _)
      · exact qaj (1,3) rfl (by simp only[simprocAttr,-rR,-rS,memB,h13,qab]) (qaq _ _)
      · rw[qaG]; simp (disch:=first|omega|decide|simp only[nmsB,lB]) only[simprocAttr,-rR,-rS,leB,memB,qaf,h01,qae,qab,qad,qac,qaa]
def gJC (s s':Nat→BitVec 32) (n:Nat) (l:List (BitVec 8)) (i:Nat) (st:St):Prop := ∃ (H:Heap),st=⟨[.undef,.undef,.ptr (1,0) 0,.ptr (1,1) 0,.undef,.undef,.undef,.undef,.undef,.undef,.undef,.undef,.undef,.undef,.undef,.undef,.undef,.undef,.undef,.undef,.undef,.undef,.undef,.undef,.undef,.undef,.undef,.undef,.undef,.undef,.undef,.undef,.undef,.undef,.undef,.undef,.undef,.undef,.undef,.undef,.undef,.undef,.undef,.undef,.undef,.undef,.undef,.undef,.undef,.agg (aW 8 s'),N i,.undef,.undef,.undef,.undef,.undef,.undef,.undef,.undef,.undef,.undef,.undef,.undef,.undef,.undef,.undef,.undef,.undef,.undef,.undef,.undef,.undef,.undef,.undef,.undef,.undef,.undef,.undef,.undef,.undef,.undef,.undef],H,2,2⟩ ∧
  H (0,0)=some (HsC s (.sl (0,1) 0 0 (some 0) 1) n)∧H (1,0)=some (aB 32 fun _=>0#8)∧H (1,1)=some (aB 32 (outP s' i))∧H (0,1)=some (bs l)
set_option maxRecDepth 10000 in
theorem g_roundC (K k0:Nat) (s s':Nat→BitVec 32) (n:Nat) (l:List (BitVec 8)) (i:Nat) (hi:i < 8) (st:St) (hI:gJC s s' n l i st) :
    ∃ st1,ev (envC C k0) K L58b0 st=some (.normal,st1)∧gJC s s' n l (i+1) (qa8 L58k0 st1):=by
  obtain ⟨H,rfl,h0,h1,h2,h01⟩:=hI
  apply Exists.intro
  apply And.intro
  · simp (disch := first | omega | decide | simp only [nmsB, lB]) only [simprocAttr, -rR, -rS, leB, memB, arrB, numB, L58b0, hi, h2, qae, qab]
    rfl
  · refine qao [(1, 0), (1, 1)] rfl (by simp only [simprocAttr, -rR, -rS, qak, L58k0, h0, h1, h2, h01, qaN, qa6, qam, qcl, qaL, qah, qac, qaa]) rfl ⟨_, rfl, ?_, ?_, ?_, ?_⟩
    · rw[qaG]; simp (disch:=first|omega|decide|simp only[nmsB,lB]) only[simprocAttr,-rR,-rS,leB,memB,qaf,h0,qaP,qae,qab,qad,qac,qaa]
    · exact qaj (1,0) rfl (by simp only[simprocAttr,-rR,-rS,memB,h1,qab]) (qaE _ _ _)
    · rw[qfT]; exact qaj (1,1) rfl (by simp only[simprocAttr,-rR,-rS,memB,qab]) (qaE _ _ _)
    · rw[qaG]; simp (disch:=first|omega|decide|simp only[nmsB,lB]) only[simprocAttr,-rR,-rS,leB,memB,qaf,h01,qae,qab,qad,qac,qaa]
set_option maxRecDepth 10000 in
theorem sumC (k:Nat) (s:Nat→BitVec 32) (n:Nat) (l:List (BitVec 8)) (hn:n≤4611686018427387000) (hl:l=[]):
    F C (k+(fb n 8).length / 64+101) 58 [.ptr (0,0) 0] [HsC s (.sl (0,1) 0 0 (some 0) 1) n,bs l]=some (.agg (aB 32 (outB (absN (fb n 8) s ((fb n 8).length / 64)))),[some (HsC s (.sl (0,1) 0 0 (some 0) 1) n),some (bs l)],[]):=by
  have hz:=qd8 n
  have hfl:=qcX n 8
  obtain ⟨m,hm⟩:∃ m,m=fb n 8:=⟨_,rfl⟩
  rw[←hm]
  rw[qaH f58]
  have hfork := qeD (k + m.length / 64 + 100) 7 59 l59 (upd (upd (qaY [HsC s (.sl (0, 1) 0 0 (some 0) 1) n, bs l]) (2, 0) (some (aB 32 fun _ => 0#8))) (3, 0) (some (aB 32 fun _ => 0#8))) (0, 0) (0, 1) s n 0 (some 0) l rfl rfl (by decide)
    (.ptr (1, 0) 0) (.ptr (7, 0) 0) [HsC s (.sl (1, 1) 0 0 (some 0) 1) n, bs []] [HsC s (.sl (7, 1) 0 0 (some 0) 1) n, bs []] (forkG (k + m.length / 64 + 98) s n 0 0 (some 0) (some 0) l [] (by subst hl; exact clone_C _)) rfl (by
      simp only[zB,zA,qaP,qaq] <;> rfl)
  have hzs:(119 - n % 64) % 64=zs n:=rfl
  have hst:∀ nm:Nm,stK 1 0 nm (some [B8 128#8]) (some (bs (List.replicate (zs n+1) 0#8)))=some ⟨Un,[],[(nm,some (bs (fb n 0)))]⟩:=by
    intro nm; rw[bs_st _ _ _ _ (by simp),←fb_zero]
  simp (disch:=first|omega|decide|simp only[nmsB,lB]) only[simprocAttr,-rR,-rS,leB,memB,arrB,numB,qaf,L58,Hs_n,hfork,qeU,hzs,hst,qae,qab,qad,qac,qaa]
  generalize hL:qa1 L58k1 _ _ _=r
  refine qaR hL (fJC s n l) 8 (by omega) (fun i st hi hI=>f_roundC _ _ s n l (by omega) i hi st hI) ?_ ?_ ?_
  · refine qao [(2, 0), (3, 0), (7, 0), (7, 1), (17, 0)] rfl (by simp only [simprocAttr, -rR, -rS, qak, L58k1, qaN, qa6, qam, qaL, qah, qac, qaa]) rfl ⟨some (zs n + 1), _, rfl, .inr ⟨rfl, rfl⟩, ?_, ?_, ?_, ?_, ?_, ?_, ?_⟩
    · rw[qaG]; simp (disch:=first|omega|decide|simp only[nmsB,lB]) only[simprocAttr,-rR,-rS,leB,memB,qaf,qaP,qae,qab,qad,qac,qaa]
    · exact qaj (2,0) rfl (by simp only[simprocAttr,-rR,-rS,memB,qab]) (qaE _ _ _)
    · exact qaj (3,0) rfl (by simp only[simprocAttr,-rR,-rS,memB,qab]) (qaE _ _ _)
    · rw[qcQ _ _ _ (7,0) (HsC s (.sl (7,1) 0 0 (some 0) 1) n) rfl (by simp only[simprocAttr,-rR,-rS,memB,qab]),qaP]; rfl
    · exact qaj (17,0) rfl (by simp only[simprocAttr,-rR,-rS,memB,qab]) (qaq _ _)
    · exact qaj (7,1) rfl (by simp only[simprocAttr,-rR,-rS,memB,qab]) (qaq _ _)
    · rw[qaG]; simp (disch:=first|omega|decide|simp only[nmsB,lB]) only[simprocAttr,-rR,-rS,leB,memB,qaf,qaq,qae,qab,qad,qac,qaa]
  · rintro st ⟨c, H, rfl, hc, h0, h1, h2, h3, hF, h13, h01⟩
    apply qaO
    simp (disch:=first|omega|decide|simp only[nmsB,lB]) only[simprocAttr,-rR,-rS,leB,memB,numB,qaf,L58b1,qae,qab,qad,qac,qaa]
    rfl
  · rintro st ⟨c, H, rfl, hc, h0, h1, h2, h3, hF, h13, h01⟩ rfl
    clear hL
    obtain ⟨l',hw,_,_⟩:=writeC k s n (fb n 8) m hm (by simp[fb]) (by rw[hm]; omega) (by omega)
    have hB:=qem H (1,4) 0 (zs n+1+8) c (fb n 8) [(1,2),(1,3)] hF (by omega) rfl
    rw[zF,List.take_of_length_le (by omega)] at hB
    have hcall:=fun b=>qe3 _ b H (1,2) (1,3) s _ n _ _ 0 (some 0) _ (fb n 8) [] l' (some []) h3 h13 (by decide) hB hw
    obtain ⟨s',hs'⟩:∃ s',s'=absN m s (m.length / 64):=⟨_,rfl⟩
    rw[←hs'] at hcall ⊢
    simp (disch:=first|omega|decide|simp only[nmsB,lB]) only[simprocAttr,-rR,-rS,leB,memB,arrB,numB,qaf,L58b1,hcall,qdX,h1,h2,qae,qab,qad,qac,qaa]
    generalize hL:qa1 L58k0 _ _ _=r
    refine qaR hL (gJC s s' n l) 8 (by omega) (fun i st hi hI=>g_roundC _ _ s s' n l i hi st hI) ?_ ?_ ?_
    · refine qao [(1, 0), (1, 1)] rfl (by simp only [simprocAttr, -rR, -rS, qak, L58k0, h0, h1, h2, h01, qaN, qa6, qam, qcl, qaL, qah, qac, qaa]) rfl ⟨_, rfl, ?_, ?_, ?_, ?_⟩
      · rw[qaG]; simp (disch:=first|omega|decide|simp only[nmsB,lB]) only[simprocAttr,-rR,-rS,leB,memB,qaf,h0,qaP,qae,qab,qad,qac,qaa]
      · exact qaj (1,0) rfl (by simp only[simprocAttr,-rR,-rS,memB,h1,qab]) (qaE _ _ _)
      · rw [show outP s' 0 = fun _ => 0#8 by funext j; simp [outP]]
        exact qaj (1,1) rfl (by simp only[simprocAttr,-rR,-rS,memB,h2,qab]) (qaE _ _ _)
      · rw[qaG]; simp (disch:=first|omega|decide|simp only[nmsB,lB]) only[simprocAttr,-rR,-rS,leB,memB,qaf,h01,qaq,qae,qab,qad,qac,qaa]
    · rintro st ⟨H, rfl, h0, h1, h2, h01⟩
      apply qaO
      simp (disch:=first|omega|decide|simp only[nmsB,lB]) only[simprocAttr,-rR,-rS,leB,memB,numB,qaf,L58b0,qae,qab,qad,qac,qaa]
      rfl
    · rintro st ⟨H, rfl, h0, h1, h2, h01⟩ rfl
      have e:aB 32 (outP s' 8)=aB 32 (outB s'):=qcn 32 fun j hj=>by simp only[outP]; rw[if_pos (by omega)]
      rw[e] at h2
      simp (disch:=first|omega|decide|simp only[nmsB,lB]) only[simprocAttr,-rR,-rS,leB,memB,arrB,numB,qaf,L58b0,h1,h2,qae,qab,qad,qac,qaa]
      rw[qaX 2 _ _ [] (by simp only[simprocAttr,-rR,-rS,qak,h0,h01,qbt,qa6,qam,qaL,qah,qac,qaa])]
      simp (disch:=first|omega|decide|simp only[nmsB,lB]) only[simprocAttr,-rR,-rS,leB,memB,arrB,qaf,h0,h01,qaP,qae,qab,qad,qac,qaa]
end Sha
namespace Sha
open Go Go.LE Tb
def pad (b:List (BitVec 8)):List (BitVec 8):=b++fb b.length 8
def dig (b:List (BitVec 8)):Nat→BitVec 8:=outB (absN (pad b) ini ((pad b).length / 64))
theorem chunk_front (b f:List (BitVec 8)) (i:Nat) (h:64*i+64≤b.length):qdL (b++f) i=qdL b i:=by
  funext j
  simp only[qdL]
  split
  · rw[List.getD_eq_getElem?_getD,List.getD_eq_getElem?_getD,List.getElem?_append_left (by omega)]
  · rfl
theorem chunk_drop (m:List (BitVec 8)) (q i:Nat):qdL (m.drop (64*q)) i=qdL m (q+i):=by
  funext j
  simp only[qdL]
  split
  · rw [List.getD_eq_getElem?_getD, List.getD_eq_getElem?_getD, List.getElem?_drop]
    congr 2; omega
  · rfl
theorem absN_front (b f:List (BitVec 8)) (s:Nat→BitVec 32):∀ i,64*i≤b.length→absN (b++f) s i=absN b s i:=by
  intro i
  induction i with
  | zero=>intro _; rfl
  | succ i ih=>intro h; rw[absN,absN,ih (by omega),chunk_front b f i (by omega)]
theorem absN_add (m:List (BitVec 8)) (s:Nat→BitVec 32) (q:Nat):∀ i,absN m s (q+i)=absN (m.drop (64*q)) (absN m s q) i:=by
  intro i
  induction i with
  | zero=>rfl
  | succ i ih=>rw[←Nat.add_assoc,absN,absN,ih,chunk_drop]
theorem absN_two (b f:List (BitVec 8)) (s:Nat→BitVec 32) (q:Nat) (hq:64*q≤b.length) :
    absN (b.drop (64*q)++f) (absN b s q) ((b.drop (64*q)++f).length / 64)=absN (b++f) s ((b++f).length / 64):=by
  have e1:(b++f).drop (64*q)=b.drop (64*q)++f:=List.drop_append_of_le_length hq
  have e2:(b++f).length / 64=q+(b.drop (64*q)++f).length / 64:=by
    rw[zH,zH,zR]; omega
  rw[e2,absN_add,e1,absN_front b f s q hq]
theorem new_call (k b:Nat) (H:Heap):qar (envC C (k+2)) H b 69 []=some ⟨.ptr (b,0) 0,[HsC ini Nil 0],[]⟩:=by
  rw[qae l69 rfl rfl,new_F]
  exact calK_ptr_new b _ 0 (by rw[qaP,qbS])
theorem write_call0 (k b:Nat) (H:Heap) (fN:Nm) (s:Nat→BitVec 32) (n:Nat) (hn:n≤4611686018427387904) (B:LV) (h:H fN=some (HsC s Nil n)) (hB:Lent H B [] [fN]) :
    qar (envC C (k+3)) H b 57 [.ptr fN 0,B]=some ⟨.tup [],[],[(fN,some (HsC s Nil n))]⟩:=by
  obtain ⟨lent,hs,hl⟩:=hB.snap
  have hr:qa7 H FUEL [] [fN]=[fN]:=by
    simp only[FUEL,qah,ze,zP,zM,h,qcc,qa6,qbD,zI,qba]
  rw[qbU,lend_w (k+3) H fN B [] lent hs,qbA]
  have hn':([.ptr fN 0,.isl (bs []) ([]:List (BitVec 8)).length]:List LV).flatMap (nms D)=[fN]:=by
    simp only[zK,zN,qcp,qbg,zD]
  rw[hn',hr,qbV _ _ _ _ _ hl,show ([fN]:List Nm).filterMap H=[HsC s Nil n] by simp[h]]
  have ha:([.ptr fN 0,.isl (bs []) ([]:List (BitVec 8)).length]:List LV).map (ren D (qaK [fN]))=[.ptr (0,0) 0,.isl (bs []) 0]:=by
    simp only[zB,zA,qbk,qbC,idx0,zC,qbs,qbj,zL]
  have hp:qa5 (.tup [],[some (HsC s Nil n)],[])=true:=by
    have h1:(HsC s Nil n).all (qbP D)=true:=by
      have h1:(aW 8 s).all (qbP D)=true:=by
        rw[List.all_eq_true]; intro x hx
        simp only[aW,arr,List.mem_map,List.mem_range] at hx
        obtain ⟨i,_,rfl⟩:=hx; rfl
      simp only[HsC,List.all_append,zT,List.all_nil,Bool.and_true,h1]; rfl
    simp[qa5,h1]; rfl
  rw[ha,zB,zA,qaP,qbS,qbT,write0A k s n hn,qcs _ _ _ _ hp,qaT]
  simp only[qeV,qaP,qbS,zA,List.zipWith_cons_cons,List.zipWith_nil_left,zC]
set_option maxRecDepth 10000 in
theorem sum_F (k:Nat) (b:List (BitVec 8)) (hb:b.length≤211106232000000):F C (k+b.length / 64+301) 55 [.isl (bs b) b.length] []=some (.agg (aB 32 (dig b)),[],[]):=by
  rw[qaH f55]
  have hz:=qd8 b.length
  have hfl:=qcX b.length 8
  obtain ⟨K,hK⟩:∃ K,K=k+b.length / 64+300:=⟨_,rfl⟩
  rw[←hK]
  have hnew:=fun b H=>new_call (K - 2) b H
  rw[show K - 2+2=K by omega] at hnew
  by_cases h0:b=[]
  · subst h0
    have hw:=fun bb H h=>write_call0 (K - 3) bb H (3,0) ini 0 (by omega) (.isl (bs []) 0) h (qbq H [] [(3,0)])
    rw[show K - 3+3=K by omega] at hw
    have hz0:=qd8 0
    have hf0:=qcX 0 8
    have hs:=sumA (K - (fb 0 8).length / 64 - 101) ini 0 (by omega)
    rw[show K - (fb 0 8).length / 64 - 101+(fb 0 8).length / 64+101=K by omega] at hs
    have hsum:=fun bb H h=>ptr_callA K bb 58 l58 H (3,0) ini 0 h _ _ [] [] hs (qbx _ _ _) rfl
    have hw':=hw 7 (upd (upd (qaY []) (2,0) (some (aB 32 fun _=>0#8))) (3,0) (some (HsC ini Nil 0))) rfl
    have hsum':=hsum 9 (upd (upd (upd (qaY []) (2,0) (some (aB 32 fun _=>0#8))) (3,0) (some (HsC ini Nil 0))) (3,0) (some (HsC ini Nil 0))) rfl
    simp (disch:=first|omega|decide|simp only[nmsB,lB]) only[simprocAttr,-rR,-rS,leB,memB,arrB,numB,qaf,L55,hnew,hw',hsum',qae,qab,qad,qac,qaa]
    rfl
  · obtain ⟨l', hw, ht1, ht2⟩ := writeA (k + 200) ini 0 b b rfl h0 (by omega) (by omega)
    rw[show k+200+b.length / 64+100=K by omega] at hw
    simp only[zO] at hw
    obtain ⟨left,hleft⟩:∃ left,left=b.length - 64*(b.length / 64):=⟨_,rfl⟩
    rw[←hleft] at hw ht1 ht2
    have hw':=qf3 K 7 (upd (upd (qaY []) (2,0) (some (aB 32 fun _=>0#8))) (3,0) (some (HsC ini Nil 0))) (3,0) ini _ 0 _ left (.isl (bs b) b.length) b l' rfl (qbq _ b _) hw
    have h2:=absN_two b (fb b.length 8) ini (b.length / 64) (by omega)
    have hdl:(b.drop (64*(b.length / 64))).length=left:=by rw[zR]; omega
    have hs : F C K 58 [.ptr (0, 0) 0] [HsC (absN b ini (b.length / 64)) (.sl (0, 1) 0 left none 1) b.length, bs l'] =
        some (.agg (aB 32 (dig b)),[some (HsC (absN b ini (b.length / 64)) (.sl (0,1) 0 left none 1) b.length),some (bs l')],[]):=by
      have hd:dig b=outB (absN (b.drop (64*(b.length / 64))++fb b.length 8) (absN b ini (b.length / 64)) ((b.drop (64*(b.length / 64))++fb b.length 8).length / 64)):=by
        rw[h2]; rfl
      have hlen:(b.drop (64*(b.length / 64))++fb b.length 8).length=left+(zs b.length+1+8):=by rw[zH,hdl,hfl]
      rw[hd]
      by_cases hz0:left=0
      · have he : b.drop (64 * (b.length / 64)) = [] := List.eq_nil_of_length_eq_zero (by omega)
        rw[he,zI] at hlen ⊢
        have:=sumZ (K - (fb b.length 8).length / 64 - 101) (absN b ini (b.length / 64)) b.length l' (by omega)
        rw[show K - (fb b.length 8).length / 64 - 101+(fb b.length 8).length / 64+101=K by omega] at this
        rw[hz0]
        exact this
      · rw [← ht1] at hlen ⊢
        have:=sumB (K - (l'.take left++fb b.length 8).length / 64 - 101) (absN b ini (b.length / 64)) b.length left l' (by omega) ht2 (by omega) (by omega)
        rw[show K - (l'.take left++fb b.length 8).length / 64 - 101+(l'.take left++fb b.length 8).length / 64+101=K by omega] at this
        exact this
    have hsum:=fun bb H h h2=>qeD K bb 58 l58 H (3,0) (7,0) (absN b ini (b.length / 64)) b.length left none l' h h2 (by decide) _ _ [] [] hs (qbx _ _ _) rfl
    have hsum':=hsum 9 (upd (upd (upd (upd (qaY []) (2,0) (some (aB 32 fun _=>0#8))) (3,0) (some (HsC ini Nil 0))) (3,0) (some (HsC (absN b ini (b.length / 64)) (.sl (7,0) 0 left none 1) b.length))) (7,0) (some (bs l'))) rfl rfl
    simp (disch:=first|omega|decide|simp only[nmsB,lB]) only[simprocAttr,-rR,-rS,leB,memB,arrB,numB,qaf,L55,hnew,hw',hsum',qae,qab,qad,qac,qaa]
end Sha
namespace Sha
open Go Go.LE Tb
def zb (b:List (BitVec 8)) (i:Nat):List (BitVec 8):=b++128#8::List.replicate i 0#8
theorem zb_length (b:List (BitVec 8)) (i:Nat):(zb b i).length=b.length+1+i:=by simp[zb]; omega
theorem zb_succ (b:List (BitVec 8)) (i:Nat):zb b (i+1)=zb b i++[0#8]:=by simp[zb,List.replicate_succ']
def lb (b:List (BitVec 8)) (i:Nat):List (BitVec 8):=b++fb b.length i
theorem qg3 (b:List (BitVec 8)) (i:Nat):(lb b i).length=b.length+(zs b.length+1+i):=by simp[lb,qcX]
theorem lb_succ (b:List (BitVec 8)) (i:Nat):lb b (i+1)=lb b i++[lenb b.length i]:=by simp[lb,qen]
theorem lb_zero (b:List (BitVec 8)):lb b 0=zb b (zs b.length):=by simp[lb,zb,fb]
theorem app_one (bn:Nat) (H:Heap) (m:Nm) (x:BitVec 8) (l:List (BitVec 8)) (len:Nat) (hl:len=l.length) (h:H m=some (bs l)) (hb:len≤211106232532000) :
    appX bn 1 1 1 H [] (bs [x]) (.sl m 0 len none 1)=some ⟨.sl (bn,0) 0 (len+1) none 1,[bs (l++[x])],[(m,none)]⟩:=by
  rw[qad 1 1 _ _ _ _ _ (by omega),h,qdf _ _ _ _ _ _ (by omega),zF,List.take_of_length_le (by omega)]
def u4 (b:List (BitVec 8)) (i:Nat) (st:St):Prop := ∃ (H:Heap),st=⟨[.isl (bs b) b.length,.undef,.ptr (1,0) 0,.sl (1,1) 0 (b.length+1+i) none 1,.undef,.undef,.undef,.undef,.undef,.undef,.undef,.undef,.undef,.undef,.undef,.undef,.undef,.undef,.undef,.undef,.undef,.undef,.undef,.undef,.undef,.undef,.undef,.undef,.undef,.undef,.undef,.undef,.undef,.undef,.undef,.undef,.undef,.undef,.undef,.undef,.undef,.undef,.undef,.undef,.undef,.undef,.undef,.undef,.undef,.undef,.undef,.undef,.undef,.undef,.undef,.undef,.undef,.undef,.undef,.undef,.undef,.undef,.undef,.undef,.undef,.undef,.undef,.undef,.undef,.undef,.undef,.undef,.undef,.undef,.undef,.undef,.undef,.undef,.undef,.undef],H,2,0⟩ ∧
  H (1,0)=some (aB 32 fun _=>0#8)∧H (1,1)=some (bs (zb b i))
set_option maxRecDepth 10000 in
theorem u4_round (K k0:Nat) (b:List (BitVec 8)) (hb:b.length≤211106232000000) (i:Nat) (hi:i < zs b.length) (st:St) (hI:u4 b i st) :
    ∃ st1,ev (envC C k0) K L46b4 st=some (.normal,st1)∧u4 b (i+1) (qa8 L46k4 st1):=by
  obtain ⟨H,rfl,h0,h1⟩:=hI
  have e1:(b.length+1+i) % 64≠56:=by unfold zs at hi; omega
  have hz:=qd8 b.length
  have hl:=zb_length b i
  have hfr:qbp (upd H (7,0) (some (bs [0#8]))) 1 1 (.sl (7,0) 0 1 (some 1) 1)=some (bs [0#8]):=qbQ (7,0) 0 1 (some 1) [0#8] (by simp only[simprocAttr,-rR,-rS,memB,qab]) (by simp)
  have ha:=app_one 8 (upd H (7,0) (some (bs [0#8]))) (1,1) 0#8 (zb b i) (b.length+1+i) (by omega) (by simp only[simprocAttr,-rR,-rS,memB,h1,qab]) (by omega)
  rw[←zb_succ] at ha
  apply Exists.intro
  apply And.intro
  · simp (disch := first | omega | decide | simp only [nmsB, lB]) only [simprocAttr, -rR, -rS, leB, memB, arrB, numB, qaf, L46b4, e1, h1, fill1, hfr, ha, qae, qad, qac, qaa]
    rfl
  · refine qao [(1, 0), (8, 0)] rfl (by simp only [simprocAttr, -rR, -rS, qak, L46k4, h0, qbg, qaN, qam, qaL, qah, qac, qaa]) ?_ ⟨_, rfl, ?_, ?_⟩
    · simp only [simprocAttr, -rR, -rS, L46k4, leB, memB, qaf, qc7, qcP, qdn, qdj, qae, qab, qad, qac, qaa]
      rfl
    · exact qaj (1,0) rfl (by simp only[simprocAttr,-rR,-rS,memB,h0,qab]) (qaE _ _ _)
    · exact qaj (8,0) rfl (by simp only[simprocAttr,-rR,-rS,memB,qab]) (qaq _ _)
def u3 (b:List (BitVec 8)) (i:Nat) (st:St):Prop := ∃ (H:Heap),st=⟨[.undef,.undef,.ptr (1,0) 0,.sl (1,1) 0 (b.length+(zs b.length+1+i)) none 1,B64 (BitVec.ofNat 64 b.length*8#64),N i,.undef,.undef,.undef,.undef,.undef,.undef,.undef,.undef,.undef,.undef,.undef,.undef,.undef,.undef,.undef,.undef,.undef,.undef,.undef,.undef,.undef,.undef,.undef,.undef,.undef,.undef,.undef,.undef,.undef,.undef,.undef,.undef,.undef,.undef,.undef,.undef,.undef,.undef,.undef,.undef,.undef,.undef,.undef,.undef,.undef,.undef,.undef,.undef,.undef,.undef,.undef,.undef,.undef,.undef,.undef,.undef,.undef,.undef,.undef,.undef,.undef,.undef,.undef,.undef,.undef,.undef,.undef,.undef,.undef,.undef,.undef,.undef,.undef,.undef],H,2,0⟩ ∧
  H (1,0)=some (aB 32 fun _=>0#8)∧H (1,1)=some (bs (lb b i))
set_option maxRecDepth 10000 in
theorem u3_round (K k0:Nat) (b:List (BitVec 8)) (hb:b.length≤211106232000000) (i:Nat) (hi:i < 8) (st:St) (hI:u3 b i st) :
    ∃ st1,ev (envC C k0) K L46b3 st=some (.normal,st1)∧u3 b (i+1) (qa8 L46k3 st1):=by
  obtain ⟨H,rfl,h0,h1⟩:=hI
  have hz:=qd8 b.length
  have hl:=qg3 b i
  have hlen:((BitVec.ofNat 64 b.length*8#64) >>> (56 - 8*i)).setWidth 8=lenb b.length i:=rfl
  have hfr:qbp (upd H (11,0) (some (bs [lenb b.length i]))) 1 1 (.sl (11,0) 0 1 (some 1) 1)=some (bs [lenb b.length i]):=qbQ (11,0) 0 1 (some 1) [lenb b.length i] (by simp only[simprocAttr,-rR,-rS,memB,qab]) (by simp)
  have ha:=app_one 12 (upd H (11,0) (some (bs [lenb b.length i]))) (1,1) (lenb b.length i) (lb b i) (b.length+(zs b.length+1+i)) (by omega) (by simp only[simprocAttr,-rR,-rS,memB,h1,qab]) (by omega)
  rw[←lb_succ] at ha
  apply Exists.intro
  apply And.intro
  · simp (disch := first | omega | decide | simp only [nmsB, lB]) only [simprocAttr, -rR, -rS, leB, memB, arrB, numB, qaf, L46b3, hi, h1, hlen, fill1, hfr, ha, qae, qad, qac, qaa]
    rfl
  · refine qao [(1, 0), (12, 0)] rfl (by simp only [simprocAttr, -rR, -rS, qak, L46k3, h0, qaN, qam, qaL, qah, qac, qaa]) rfl ⟨_, rfl, ?_, ?_⟩
    · exact qaj (1,0) rfl (by simp only[simprocAttr,-rR,-rS,memB,h0,qab]) (qaE _ _ _)
    · exact qaj (12,0) rfl (by simp only[simprocAttr,-rR,-rS,memB,qab]) (qaq _ _)
def cutP (c:Nat→BitVec 8) (j:Nat):Nat→BitVec 8:=fun x=>if x < j then c x else 0#8
theorem cutP_succ (c:Nat→BitVec 8) (j:Nat):cutP c (j+1)=set1 (cutP c j) j (c j):=by
  funext x
  simp only[cutP,set1]
  by_cases h:x=j
  · subst h; simp
  · rw [if_neg h]
    have:(x < j+1)↔(x < j):=by omega
    simp only[this]
def u1 (M:List (BitVec 8)) (s:Nat→BitVec 32) (i j:Nat) (st:St):Prop := ∃ (H:Heap),st=⟨[.undef,.undef,.ptr (1,0) 0,.sl (1,1) 0 M.length none 1,.undef,.undef,.ptr (1,2) 0,N (64*i),.ptr (1,3) 0,N j,.undef,.undef,.undef,.undef,.undef,.undef,.undef,.undef,.undef,.undef,.undef,.undef,.undef,.undef,.undef,.undef,.undef,.undef,.undef,.undef,.undef,.undef,.undef,.undef,.undef,.undef,.undef,.undef,.undef,.undef,.undef,.undef,.undef,.undef,.undef,.undef,.undef,.undef,.undef,.undef,.undef,.undef,.undef,.undef,.undef,.undef,.undef,.undef,.undef,.undef,.undef,.undef,.undef,.undef,.undef,.undef,.undef,.undef,.undef,.undef,.undef,.undef,.undef,.undef,.undef,.undef,.undef,.undef,.undef,.undef],H,2,0⟩ ∧
  H (1,0)=some (aB 32 fun _=>0#8)∧H (1,1)=some (bs M)∧H (1,2)=some (aW 8 s)∧H (1,3)=some (aB 64 (cutP (qdL M i) j))
set_option maxRecDepth 10000 in
theorem u1_round (K k0:Nat) (M:List (BitVec 8)) (hM:M.length≤211106232532992) (s:Nat→BitVec 32) (i:Nat) (hi:64*i+64≤M.length) (j:Nat) (hj:j < 64) (st:St) (hI:u1 M s i j st) :
    ∃ st1,ev (envC C k0) K L46b1 st=some (.normal,st1)∧u1 M s i (j+1) (qa8 L46k1 st1):=by
  obtain ⟨H,rfl,h0,h1,h2,h3⟩:=hI
  have hc:qaS (64*i+j) 1 (some (bs M))=some [B8 (qdL M i j)]:=by
    rw[bs_cell _ _ (by omega)]; simp only[qdL,if_pos hj]
  have e1:64*i+j < M.length:=by omega
  apply Exists.intro
  apply And.intro
  · simp (disch := first | omega | decide | simp only [nmsB, lB]) only [simprocAttr, -rR, -rS, leB, memB, arrB, numB, qaf, L46b1, hj, h1, h3, hc, e1, qae, qab, qad, qac, qaa]
    rfl
  · refine qao [(1, 0), (1, 1), (1, 2), (1, 3)] rfl (by simp only [simprocAttr, -rR, -rS, qak, L46k1, h0, h1, h2, h3, qaN, qct, qam, qah, qac, qaa]) rfl ⟨_, rfl, ?_, ?_, ?_, ?_⟩
    · exact qaj (1,0) rfl (by simp only[simprocAttr,-rR,-rS,memB,h0,qab]) (qaE _ _ _)
    · exact qaj (1,1) rfl (by simp only[simprocAttr,-rR,-rS,memB,h1,qab]) (qaq _ _)
    · exact qaj (1,2) rfl (by simp only[simprocAttr,-rR,-rS,memB,h2,qab]) (qbi _ _ _)
    · rw[cutP_succ]; exact qaj (1,3) rfl (by simp only[simprocAttr,-rR,-rS,memB,qab]) (qaE _ _ _)
def u2 (M:List (BitVec 8)) (i:Nat) (st:St):Prop := ∃ (H:Heap),st=⟨[.undef,.undef,.ptr (1,0) 0,.sl (1,1) 0 M.length none 1,.undef,.undef,.ptr (1,2) 0,N (64*i),.undef,.undef,.undef,.undef,.undef,.undef,.undef,.undef,.undef,.undef,.undef,.undef,.undef,.undef,.undef,.undef,.undef,.undef,.undef,.undef,.undef,.undef,.undef,.undef,.undef,.undef,.undef,.undef,.undef,.undef,.undef,.undef,.undef,.undef,.undef,.undef,.undef,.undef,.undef,.undef,.undef,.undef,.undef,.undef,.undef,.undef,.undef,.undef,.undef,.undef,.undef,.undef,.undef,.undef,.undef,.undef,.undef,.undef,.undef,.undef,.undef,.undef,.undef,.undef,.undef,.undef,.undef,.undef,.undef,.undef,.undef,.undef],H,2,0⟩ ∧
  H (1,0)=some (aB 32 fun _=>0#8)∧H (1,1)=some (bs M)∧H (1,2)=some (aW 8 (absN M ini i))
set_option maxRecDepth 10000 in
theorem u2_round (K k0:Nat) (hK:64 < K) (hblk:∀ s p,F C k0 61 [.agg (aW 8 s),.agg (aB 64 p)] []=some (.agg (aW 8 (blk s p)),[],[])) (M:List (BitVec 8)) (hM:M.length≤211106232532992) (i:Nat) (hi:64*i+64≤M.length) (st:St) (hI:u2 M i st) :
    ∃ st1,ev (envC C k0) K L46b2 st=some (.normal,st1)∧u2 M (i+1) (qa8 L46k2 st1):=by
  obtain ⟨H,rfl,h0,h1,h2⟩:=hI
  have e1:64*i < M.length:=by omega
  obtain ⟨s,hs⟩:∃ s,s=absN M ini i:=⟨_,rfl⟩
  rw[←hs] at h2
  simp (disch:=first|omega|decide|simp only[nmsB,lB]) only[simprocAttr,-rR,-rS,leB,memB,arrB,numB,qaf,L46b2,e1,qae,qab,qad,qac,qaa]
  generalize hL:qa1 L46k1 _ _ _=r
  refine qaR hL (u1 M s i) 64 hK (fun j st hj hI=>u1_round _ _ M hM s i hi j hj st hI) ?_ ?_ ?_
  · refine qao [(1, 0), (1, 1), (1, 2), (6, 0)] rfl (by simp only [simprocAttr, -rR, -rS, qak, L46k1, h0, h1, h2, qaN, qct, qam, qah, qac, qaa]) rfl ⟨_, rfl, ?_, ?_, ?_, ?_⟩
    · exact qaj (1,0) rfl (by simp only[simprocAttr,-rR,-rS,memB,h0,qab]) (qaE _ _ _)
    · exact qaj (1,1) rfl (by simp only[simprocAttr,-rR,-rS,memB,h1,qab]) (qaq _ _)
    · exact qaj (1,2) rfl (by simp only[simprocAttr,-rR,-rS,memB,h2,qab]) (qbi _ _ _)
    · rw [show cutP (qdL M i) 0 = fun _ => 0#8 by funext x; simp [cutP]]
      exact qaj (6,0) rfl (by simp only[simprocAttr,-rR,-rS,memB,qab]) (qaE _ _ _)
  · rintro st ⟨H, rfl, h0, h1, h2, h3⟩
    apply qaO
    simp (disch:=first|omega|decide|simp only[nmsB,lB]) only[simprocAttr,-rR,-rS,leB,memB,numB,qaf,L46b1,qae,qab,qad,qac,qaa]
    rfl
  · clear h0 h1 h2 hL
    rintro st ⟨H,rfl,h0,h1,h2,h3⟩ rfl
    have e:aB 64 (cutP (qdL M i) 64)=aB 64 (qdL M i):=qcn 64 fun j hj=>by simp only[cutP,if_pos hj]
    rw[e] at h3
    apply Exists.intro
    apply And.intro
    · simp (disch := first | omega | decide | simp only [nmsB, lB]) only [simprocAttr, -rR, -rS, leB, memB, arrB, numB, qaf, L46b1, h2, h3, hblk, qe6, qae, qab, qad, qac, qaa]
      rfl
    · refine qao [(1, 0), (1, 1), (1, 2)] rfl (by simp only [simprocAttr, -rR, -rS, qak, L46k2, h0, h1, h2, h3, qaN, qct, qam, qah, qac, qaa]) rfl ⟨_, rfl, ?_, ?_, ?_⟩
      · exact qaj (1,0) rfl (by simp only[simprocAttr,-rR,-rS,memB,h0,qab]) (qaE _ _ _)
      · exact qaj (1,1) rfl (by simp only[simprocAttr,-rR,-rS,memB,h1,qab]) (qaq _ _)
      · rw[absN,←hs]; exact qaj (1,2) rfl (by simp only[simprocAttr,-rR,-rS,memB,qab]) (qbi _ _ _)
def u0 (s:Nat→BitVec 32) (i:Nat) (st:St):Prop := ∃ (H:Heap),st=⟨[.undef,.undef,.ptr (1,0) 0,.undef,.undef,.undef,.ptr (1,1) 0,.undef,.undef,.undef,.ptr (1,2) 0,N i,.undef,.undef,.undef,.undef,.undef,.undef,.undef,.undef,.undef,.undef,.undef,.undef,.undef,.undef,.undef,.undef,.undef,.undef,.undef,.undef,.undef,.undef,.undef,.undef,.undef,.undef,.undef,.undef,.undef,.undef,.undef,.undef,.undef,.undef,.undef,.undef,.undef,.undef,.undef,.undef,.undef,.undef,.undef,.undef,.undef,.undef,.undef,.undef,.undef,.undef,.undef,.undef,.undef,.undef,.undef,.undef,.undef,.undef,.undef,.undef,.undef,.undef,.undef,.undef,.undef,.undef,.undef,.undef],H,2,0⟩ ∧
  H (1,0)=some (aB 32 fun _=>0#8)∧H (1,1)=some (aW 8 s)∧H (1,2)=some (aB 32 (cutP (outB s) i))
set_option maxRecDepth 10000 in
theorem u0_round (K k0:Nat) (s:Nat→BitVec 32) (i:Nat) (hi:i < 32) (st:St) (hI:u0 s i st) :
    ∃ st1,ev (envC C k0) K L46b0 st=some (.normal,st1)∧u0 s (i+1) (qa8 L46k0 st1):=by
  obtain ⟨H,rfl,h0,h1,h2⟩:=hI
  have ho:(s (i / 4) >>> (24 - 8*(i % 4))).setWidth 8=outB s i:=rfl
  apply Exists.intro
  apply And.intro
  · simp (disch := first | omega | decide | simp only [nmsB, lB]) only [simprocAttr, -rR, -rS, leB, memB, arrB, numB, L46b0, hi, h1, h2, ho, qae, qab]
    rfl
  · refine qao [(1, 0), (1, 1), (1, 2)] rfl (by simp only [simprocAttr, -rR, -rS, qak, L46k0, h0, h1, h2, qaN, qct, qam, qah, qac, qaa]) rfl ⟨_, rfl, ?_, ?_, ?_⟩
    · exact qaj (1,0) rfl (by simp only[simprocAttr,-rR,-rS,memB,h0,qab]) (qaE _ _ _)
    · exact qaj (1,1) rfl (by simp only[simprocAttr,-rR,-rS,memB,h1,qab]) (qbi _ _ _)
    · rw[cutP_succ]; exact qaj (1,2) rfl (by simp only[simprocAttr,-rR,-rS,memB,qab]) (qaE _ _ _)
set_option maxRecDepth 10000 in
theorem rsum_F (k:Nat) (b:List (BitVec 8)) (hb:b.length≤211106232000000):F C (k+b.length / 64+301) 46 [.isl (bs b) b.length] []=some (.agg (aB 32 (dig b)),[],[]):=by
  rw[qaH f46]
  have hz:=qd8 b.length
  obtain ⟨K,hK⟩:∃ K,K=k+b.length / 64+300:=⟨_,rfl⟩
  rw[←hK]
  have hblk:∀ s p,F C K 61 [.agg (aW 8 s),.agg (aB 64 p)] []=some (.agg (aW 8 (blk s p)),[],[]):=fun s p=>by
    have:=rblock_F (K - 80) s p
    rw[show K - 80+80=K by omega] at this
    exact this
  have hfirst:F C K 60 [] []=some (.agg (aW 8 ini),[],[]):=by
    have:=firstB (K - 1)
    rw[show K - 1+1=K by omega] at this
    exact this
  have hfr:∀ H:Heap,qbp H 1 b.length (.isl (bs b) b.length)=some (bs b):=fun H=>qb9 b b.length rfl
  have hzb:zb b 0=b++[128#8]:=rfl
  have key : ∃ (n1 : Nm) (c : Option Nat) (news : List qal) (ms ms2 : List (Nm × Option qal)), (n1 = (3, 0) ∧ c = some 0 ∧ news = [] ∧ ms = [((3, 0), some (bs b))] ∧ ms2 = [] ∨ n1 = (5, 0) ∧ c = none ∧ news = [bs b] ∧ ms = [] ∧ ms2 = [((5, 0), none)]) ∧
      (∀ H:Heap,H (3,0)=some []→appX 5 1 1 b.length H [] (bs b) (.sl (3,0) 0 0 (some 0) 1)=some ⟨.sl n1 0 b.length c 1,news,ms⟩) ∧
      (∀ H:Heap,H n1=some (bs b)→appX 7 1 1 1 H [] (bs [128#8]) (.sl n1 0 b.length c 1)=some ⟨.sl (7,0) 0 (b.length+1) none 1,[bs (zb b 0)],ms2⟩):=by
    by_cases h0:b=[]
    · refine ⟨(3, 0), some 0, _, _, _, .inl ⟨rfl, rfl, rfl, rfl, rfl⟩, ?_, ?_⟩
      · intro H h; subst h0; simp only[appX,h,qbh]; rfl
      · intro H h; subst h0
        rw[qc9 1 (3,0) 0 _ 0 [] [128#8] h (by simp) (by simp) (by simp)]; rfl
    · have hl : 0 < b.length := List.length_pos_iff.2 h0
      refine ⟨(5,0),none,_,_,_,.inr ⟨rfl,rfl,rfl,rfl,rfl⟩,?_,?_⟩
      · intro H h
        rw[qc9 b.length (3,0) 0 0 0 [] b h (by simp) (by omega) (by omega)]
        simp only[List.drop_nil,List.take_nil,zI,zO]
      · intro H h
        rw[app_one 7 H (5,0) 128#8 b b.length rfl h (by omega),hzb]
  obtain ⟨n1,c,news,ms,ms2,hcase,ha1,ha2⟩:=key
  have ha1':=ha1 (upd (upd (qaY []) (2,0) (some (aB 32 fun _=>0#8))) (3,0) (some [])) rfl
  have e1:(b.length+1+zs b.length) % 64=56:=by unfold zs; omega
  have hz64:(b.length+(zs b.length+1+8)) % 64=0:=by unfold zs; omega
  rcases hcase with ⟨rfl,rfl,rfl,rfl,rfl⟩ | ⟨rfl,rfl,rfl,rfl,rfl⟩
  · have hfr2 := qbQ (H := upd (upd (upd (upd (qaY []) (2, 0) (some (aB 32 fun _ => 0#8))) (3, 0) (some [])) (3, 0) (some (bs b))) (6, 0) (some (bs [128#8]))) (6, 0) 0 1 (some 1) [128#8] rfl (by simp)
    have ha2':=ha2 (upd (upd (upd (upd (qaY []) (2,0) (some (aB 32 fun _=>0#8))) (3,0) (some [])) (3,0) (some (bs b))) (6,0) (some (bs [128#8]))) rfl
    simp only[zF,zf,zW] at hfr2
    simp (disch:=first|omega|decide|simp only[nmsB,lB]) only[simprocAttr,-rR,-rS,leB,memB,arrB,numB,qaf,L46,hfirst,fill1,hfr,ha1',hfr2,ha2',qae,qad,qac,qaa]
    generalize hL:qa1 L46k4 _ _ _=r
    refine qaR hL (u4 b) (zs b.length) (by omega) (fun i st hi hI=>u4_round _ _ b hb i hi st hI) ?_ ?_ ?_
    · refine qao [(2, 0), (7, 0)] rfl (by simp only [simprocAttr, -rR, -rS, qak, L46k4, qbg, qaN, qam, qaL, qah, qac, qaa]) ?_ ⟨_, rfl, ?_, ?_⟩
      · simp only [simprocAttr, -rR, -rS, L46k4, leB, memB, qaf, qc7, qcP, qdn, qdj, qae, qab, qad, qac, qaa]
        rfl
      · exact qaj (2,0) rfl (by simp only[simprocAttr,-rR,-rS,memB,qab]) (qaE _ _ _)
      · exact qaj (7,0) rfl (by simp only[simprocAttr,-rR,-rS,memB,qab]) (qaq _ _)
    · rintro st ⟨H, rfl, h0, h1⟩
      apply qaO
      simp (disch:=first|omega|decide|simp only[nmsB,lB]) only[simprocAttr,-rR,-rS,leB,memB,numB,qaf,L46b4,e1,qae,qab,qad,qac,qaa]
      rfl
    · clear hL
      rintro st ⟨H,rfl,h0,h1⟩ rfl
      rw[←lb_zero] at h1
      simp (disch:=first|omega|decide|simp only[nmsB,lB]) only[simprocAttr,-rR,-rS,leB,memB,arrB,numB,qaf,L46b4,e1,qae,qab,qad,qac,qaa]
      generalize hL:qa1 L46k3 _ _ _=r
      refine qaR hL (u3 b) 8 (by omega) (fun i st hi hI=>u3_round _ _ b hb i hi st hI) ?_ ?_ ?_
      · refine qao [(1, 0), (1, 1)] rfl (by simp only [simprocAttr, -rR, -rS, qak, L46k3, h0, h1, qaN, qam, qaL, qah, qac, qaa]) rfl ⟨_, by rw [show b.length + (zs b.length + 1 + 0) = b.length + 1 + zs b.length by omega]; rfl, ?_, ?_⟩
        · exact qaj (1,0) rfl (by simp only[simprocAttr,-rR,-rS,memB,h0,qab]) (qaE _ _ _)
        · exact qaj (1,1) rfl (by simp only[simprocAttr,-rR,-rS,memB,h1,qab]) (qaq _ _)
      · rintro st ⟨H, rfl, h0, h1⟩
        apply qaO
        simp (disch:=first|omega|decide|simp only[nmsB,lB]) only[simprocAttr,-rR,-rS,leB,memB,numB,qaf,L46b3,qae,qab,qad,qac,qaa]
        rfl
      · clear hL h0 h1
        rintro st ⟨H,rfl,h0,h1⟩ rfl
        have hl8:=qg3 b 8
        obtain ⟨M,hM⟩:∃ M,M=lb b 8:=⟨_,rfl⟩
        rw[←hM] at h1 hl8
        have hMd:dig b=outB (absN M ini (M.length / 64)):=by rw[hM]; rfl
        rw[←hl8]
        simp (disch:=first|omega|decide|simp only[nmsB,lB]) only[simprocAttr,-rR,-rS,leB,memB,arrB,numB,qaf,L46b3,hfirst,qe6,qae,qab,qad,qac,qaa]
        generalize hL:qa1 L46k2 _ _ _=r
        refine qaR hL (u2 M) (M.length / 64) (by omega) (fun i st hi hI=>u2_round _ _ (by omega) hblk M (by omega) i (by omega) st hI) ?_ ?_ ?_
        · refine qao [(1, 0), (1, 1), (5, 0)] rfl (by simp only [simprocAttr, -rR, -rS, qak, L46k2, h0, h1, qaN, qct, qam, qaL, qah, qac, qaa]) rfl ⟨_, rfl, ?_, ?_, ?_⟩
          · exact qaj (1,0) rfl (by simp only[simprocAttr,-rR,-rS,memB,h0,qab]) (qaE _ _ _)
          · exact qaj (1,1) rfl (by simp only[simprocAttr,-rR,-rS,memB,h1,qab]) (qaq _ _)
          · exact qaj (5,0) rfl (by simp only[simprocAttr,-rR,-rS,memB,absN,qab]) (qbi _ _ _)
        · rintro st ⟨H, rfl, h0, h1, h2⟩
          have e2:¬ 64*(M.length / 64) < M.length:=by omega
          apply qaO
          simp (disch:=first|omega|decide|simp only[nmsB,lB]) only[simprocAttr,-rR,-rS,leB,memB,numB,qaf,L46b2,e2,qae,qab,qad,qac,qaa]
          rfl
        · clear hL h0 h1
          rintro st ⟨H,rfl,h0,h1,h2⟩ rfl
          have e2:¬ 64*(M.length / 64) < M.length:=by omega
          rw[hMd]
          generalize absN M ini (M.length / 64)=s at *
          simp (disch:=first|omega|decide|simp only[nmsB,lB]) only[simprocAttr,-rR,-rS,leB,memB,arrB,numB,qaf,L46b2,e2,qae,qab,qad,qac,qaa]
          generalize hL:qa1 L46k0 _ _ _=r
          refine qaR hL (u0 s) 32 (by omega) (fun i st hi hI=>u0_round _ _ s i hi st hI) ?_ ?_ ?_
          · refine qao [(1, 0), (1, 2), (6, 0)] rfl (by simp only [simprocAttr, -rR, -rS, qak, L46k0, h0, h1, h2, qaN, qct, qam, qaL, qah, qac, qaa]) rfl ⟨_, rfl, ?_, ?_, ?_⟩
            · exact qaj (1,0) rfl (by simp only[simprocAttr,-rR,-rS,memB,h0,qab]) (qaE _ _ _)
            · exact qaj (1,2) rfl (by simp only[simprocAttr,-rR,-rS,memB,h2,qab]) (qbi _ _ _)
            · rw [show cutP (outB s) 0 = fun _ => 0#8 by funext x; simp [cutP]]
              exact qaj (6,0) rfl (by simp only[simprocAttr,-rR,-rS,memB,qab]) (qaE _ _ _)
          · rintro st ⟨H, rfl, h0, h1, h2⟩
            apply qaO
            simp (disch:=first|omega|decide|simp only[nmsB,lB]) only[simprocAttr,-rR,-rS,leB,memB,numB,qaf,L46b0,qae,qab,qad,qac,qaa]
            rfl
          · rintro st ⟨H, rfl, h0, h1, h2⟩ rfl
            have e:aB 32 (cutP (outB s) 32)=aB 32 (outB s):=qcn 32 fun j hj=>by simp only[cutP,if_pos hj]
            rw[e] at h2
            simp (disch:=first|omega|decide|simp only[nmsB,lB]) only[simprocAttr,-rR,-rS,leB,memB,arrB,numB,qaf,L46b0,h0,h2,qae,qab,qad,qac,qaa]
  · have hfr2 := qbQ (H := upd (upd (upd (upd (qaY []) (2, 0) (some (aB 32 fun _ => 0#8))) (3, 0) (some [])) (5, 0) (some (bs b))) (6, 0) (some (bs [128#8]))) (6, 0) 0 1 (some 1) [128#8] rfl (by simp)
    have ha2':=ha2 (upd (upd (upd (upd (qaY []) (2,0) (some (aB 32 fun _=>0#8))) (3,0) (some [])) (5,0) (some (bs b))) (6,0) (some (bs [128#8]))) rfl
    simp only[zF,zf,zW] at hfr2
    simp (disch:=first|omega|decide|simp only[nmsB,lB]) only[simprocAttr,-rR,-rS,leB,memB,arrB,numB,qaf,L46,hfirst,fill1,hfr,ha1',hfr2,ha2',qae,qad,qac,qaa]
    generalize hL:qa1 L46k4 _ _ _=r
    refine qaR hL (u4 b) (zs b.length) (by omega) (fun i st hi hI=>u4_round _ _ b hb i hi st hI) ?_ ?_ ?_
    · refine qao [(2, 0), (7, 0)] rfl (by simp only [simprocAttr, -rR, -rS, qak, L46k4, qbg, qaN, qam, qaL, qah, qac, qaa]) ?_ ⟨_, rfl, ?_, ?_⟩
      · simp only [simprocAttr, -rR, -rS, L46k4, leB, memB, qaf, qc7, qcP, qdn, qdj, qae, qab, qad, qac, qaa]
        rfl
      · exact qaj (2,0) rfl (by simp only[simprocAttr,-rR,-rS,memB,qab]) (qaE _ _ _)
      · exact qaj (7,0) rfl (by simp only[simprocAttr,-rR,-rS,memB,qab]) (qaq _ _)
    · rintro st ⟨H, rfl, h0, h1⟩
      apply qaO
      simp (disch:=first|omega|decide|simp only[nmsB,lB]) only[simprocAttr,-rR,-rS,leB,memB,numB,qaf,L46b4,e1,qae,qab,qad,qac,qaa]
      rfl
    · clear hL
      rintro st ⟨H,rfl,h0,h1⟩ rfl
      rw[←lb_zero] at h1
      simp (disch:=first|omega|decide|simp only[nmsB,lB]) only[simprocAttr,-rR,-rS,leB,memB,arrB,numB,qaf,L46b4,e1,qae,qab,qad,qac,qaa]
      generalize hL:qa1 L46k3 _ _ _=r
      refine qaR hL (u3 b) 8 (by omega) (fun i st hi hI=>u3_round _ _ b hb i hi st hI) ?_ ?_ ?_
      · refine qao [(1, 0), (1, 1)] rfl (by simp only [simprocAttr, -rR, -rS, qak, L46k3, h0, h1, qaN, qam, qaL, qah, qac, qaa]) rfl ⟨_, by rw [show b.length + (zs b.length + 1 + 0) = b.length + 1 + zs b.length by omega]; rfl, ?_, ?_⟩
        · exact qaj (1,0) rfl (by simp only[simprocAttr,-rR,-rS,memB,h0,qab]) (qaE _ _ _)
        · exact qaj (1,1) rfl (by simp only[simprocAttr,-rR,-rS,memB,h1,qab]) (qaq _ _)
      · rintro st ⟨H, rfl, h0, h1⟩
        apply qaO
        simp (disch:=first|omega|decide|simp only[nmsB,lB]) only[simprocAttr,-rR,-rS,leB,memB,numB,qaf,L46b3,qae,qab,qad,qac,qaa]
        rfl
      · clear hL h0 h1
        rintro st ⟨H,rfl,h0,h1⟩ rfl
        have hl8:=qg3 b 8
        obtain ⟨M,hM⟩:∃ M,M=lb b 8:=⟨_,rfl⟩
        rw[←hM] at h1 hl8
        have hMd:dig b=outB (absN M ini (M.length / 64)):=by rw[hM]; rfl
        rw[←hl8]
        simp (disch:=first|omega|decide|simp only[nmsB,lB]) only[simprocAttr,-rR,-rS,leB,memB,arrB,numB,qaf,L46b3,hfirst,qe6,qae,qab,qad,qac,qaa]
        generalize hL:qa1 L46k2 _ _ _=r
        refine qaR hL (u2 M) (M.length / 64) (by omega) (fun i st hi hI=>u2_round _ _ (by omega) hblk M (by omega) i (by omega) st hI) ?_ ?_ ?_
        · refine qao [(1, 0), (1, 1), (5, 0)] rfl (by simp only [simprocAttr, -rR, -rS, qak, L46k2, h0, h1, qaN, qct, qam, qaL, qah, qac, qaa]) rfl ⟨_, rfl, ?_, ?_, ?_⟩
          · exact qaj (1,0) rfl (by simp only[simprocAttr,-rR,-rS,memB,h0,qab]) (qaE _ _ _)
          · exact qaj (1,1) rfl (by simp only[simprocAttr,-rR,-rS,memB,h1,qab]) (qaq _ _)
          · exact qaj (5,0) rfl (by simp only[simprocAttr,-rR,-rS,memB,absN,qab]) (qbi _ _ _)
        · rintro st ⟨H, rfl, h0, h1, h2⟩
          have e2:¬ 64*(M.length / 64) < M.length:=by omega
          apply qaO
          simp (disch:=first|omega|decide|simp only[nmsB,lB]) only[simprocAttr,-rR,-rS,leB,memB,numB,qaf,L46b2,e2,qae,qab,qad,qac,qaa]
          rfl
        · clear hL h0 h1
          rintro st ⟨H,rfl,h0,h1,h2⟩ rfl
          have e2:¬ 64*(M.length / 64) < M.length:=by omega
          rw[hMd]
          generalize absN M ini (M.length / 64)=s at *
          simp (disch:=first|omega|decide|simp only[nmsB,lB]) only[simprocAttr,-rR,-rS,leB,memB,arrB,numB,qaf,L46b2,e2,qae,qab,qad,qac,qaa]
          generalize hL:qa1 L46k0 _ _ _=r
          refine qaR hL (u0 s) 32 (by omega) (fun i st hi hI=>u0_round _ _ s i hi st hI) ?_ ?_ ?_
          · refine qao [(1, 0), (1, 2), (6, 0)] rfl (by simp only [simprocAttr, -rR, -rS, qak, L46k0, h0, h1, h2, qaN, qct, qam, qaL, qah, qac, qaa]) rfl ⟨_, rfl, ?_, ?_, ?_⟩
            · exact qaj (1,0) rfl (by simp only[simprocAttr,-rR,-rS,memB,h0,qab]) (qaE _ _ _)
            · exact qaj (1,2) rfl (by simp only[simprocAttr,-rR,-rS,memB,h2,qab]) (qbi _ _ _)
            · rw [show cutP (outB s) 0 = fun _ => 0#8 by funext x; simp [cutP]]
              exact qaj (6,0) rfl (by simp only[simprocAttr,-rR,-rS,memB,qab]) (qaE _ _ _)
          · rintro st ⟨H, rfl, h0, h1, h2⟩
            apply qaO
            simp (disch:=first|omega|decide|simp only[nmsB,lB]) only[simprocAttr,-rR,-rS,leB,memB,numB,qaf,L46b0,qae,qab,qad,qac,qaa]
            rfl
          · rintro st ⟨H, rfl, h0, h1, h2⟩ rfl
            have e:aB 32 (cutP (outB s) 32)=aB 32 (outB s):=qcn 32 fun j hj=>by simp only[cutP,if_pos hj]
            rw[e] at h2
            simp (disch:=first|omega|decide|simp only[nmsB,lB]) only[simprocAttr,-rR,-rS,leB,memB,arrB,numB,qaf,L46b0,h0,h2,qae,qab,qad,qac,qaa]
end Sha
namespace Sha
open Go Go.LE Tb
def w0C (s:Nat→BitVec 32) (n:Nat) (i:Nat) (st:St):Prop := ∃ (H:Heap),st=⟨[.ptr (0,0) 0,.undef,.undef,.undef,N 0,.undef,.undef,.undef,.undef,.undef,.undef,.undef,.undef,.undef,.undef,.undef,.undef,.undef,.undef,.undef,.undef,.undef,.undef,.undef,.undef,.undef,.undef,.undef,.undef,.undef,.undef,.undef,.undef,.undef,.undef,.undef,.undef,.undef,.undef,.undef,.undef,.undef,.undef,.undef,.undef,.undef,.undef,.undef,.undef,.undef,.undef,.undef,.undef,.undef,.undef,.undef,.undef,.undef,.undef,.undef,.undef,.undef,.undef,.undef,.undef,.undef,.undef,.undef,.undef,.undef,.undef,.undef,.undef,.undef],H,2,2⟩∧H (0,0)=some (HsC s (.sl (0,1) 0 0 (some 0) 1) n)∧H (0,1)=some (bs [])
theorem write0C (k:Nat) (s:Nat→BitVec 32) (n:Nat) (hn:n≤4611686018427387904):F C (k+3) 57 [.ptr (0,0) 0,.isl (bs []) 0] [HsC s (.sl (0,1) 0 0 (some 0) 1) n,bs []]=some (.tup [],[some (HsC s (.sl (0,1) 0 0 (some 0) 1) n),some (bs [])],[]):=by
  rw[qaH f57]
  have hfr:∀ H:Heap,qbp H 1 0 (.isl (bs []) 0)=some (bs []):=fun H=>qb9 [] 0 rfl
  have ha:∀ (bn:Nat) (H:Heap),H (0,1)=some (bs [])→appX bn 1 1 0 H [] (bs []) (.sl (0,1) 0 0 (some 0) 1)=some ⟨.sl (0,1) 0 0 (some 0) 1,[],[((0,1),some (bs []))]⟩:=by
    intro bn H h
    simp only[appX,h,qbh]
    rfl
  have ha':=fun (bn:Nat) (x:qal)=>ha bn (upd (qaY [HsC s (.sl (0,1) 0 0 (some 0) 1) n,bs []]) (0,0) (some x)) rfl
  simp (disch:=first|omega|decide|simp only[nmsB,lB]) only[simprocAttr,-rR,-rS,leB,memB,arrB,numB,qaf,L57,Hs_n,qci,Hs_st9,qdS,hfr,ha',qae,qab,qad,qac,qaa]
  generalize hL:qa1 L57k0 _ _ _=r
  refine qaR hL (w0C s n) 0 (by omega) (fun i st hi hI=>by omega) ?_ ?_ ?_
  · refine qao [] rfl (by simp only [simprocAttr, -rR, -rS, qak, L57k0, qa6, qam, qaL, qah, qac, qaa]) rfl ⟨_, rfl, ?_, ?_⟩
    · rw [qaG]
      simp (disch:=first|omega|decide|simp only[nmsB,lB]) only[simprocAttr,-rR,-rS,leB,memB,qaf,qaP,absN,qae,qab,qad,qac,qaa]
    · rw [qaG]
      simp (disch:=first|omega|decide|simp only[nmsB,lB]) only[simprocAttr,-rR,-rS,leB,memB,qaf,qaP,absN,qae,qab,qad,qac,qaa]
  · rintro st ⟨H, rfl, h0, h1⟩
    apply qaO
    simp (disch:=first|omega|decide|simp only[nmsB,lB]) only[simprocAttr,-rR,-rS,leB,memB,numB,qaf,L57b0,h0,qci,qae,qab,qad,qac,qaa]
    rfl
  · rintro st ⟨H, rfl, h0, h1⟩ rfl
    have hcp:∀ H:Heap,cpK 1 H (.sl (0,1) 0 0 (some 0) 1) (.sl (0,1) 0 0 (some 0) 1) (some 0)=some ⟨N 0,[],[]⟩:=fun H=>rfl
    simp (disch:=first|omega|decide|simp only[nmsB,lB]) only[simprocAttr,-rR,-rS,leB,memB,arrB,numB,qaf,ordB,L57b0,h0,h1,qci,qdS,hcp,qa3,qae,qab,qad,qac,qaa,qas]
    rw[qaX 2 _ _ [] (by simp only[simprocAttr,-rR,-rS,qak,qa6,qam,qcr,qaL,h0,h1,qah,qac,qaa])]
    simp (disch:=first|omega|decide|simp only[nmsB,lB]) only[simprocAttr,-rR,-rS,leB,memB,qaf,qaP,h1,qae,qab,qad,qac,qaa]
structure RF (len:Nat) (c:Option Nat) (l rest:List (BitVec 8)):Prop where
  le:len≤l.length
  tk:l.take len=rest
  cap:c=none∨(c=some 0∧l=[])
def stN (b:List (BitVec 8)):Nat→BitVec 32:=absN b ini (b.length / 64)
def rsN (b:List (BitVec 8)):List (BitVec 8):=b.drop (64*(b.length / 64))
theorem qeo (b:List (BitVec 8)):(rsN b).length=b.length - 64*(b.length / 64):=zR
theorem qhJ (b f:List (BitVec 8)):absN (rsN b++f) (stN b) ((rsN b++f).length / 64)=stN (b++f):=absN_two b f ini (b.length / 64) (by omega)
theorem qhK (b f:List (BitVec 8)):(rsN b++f).drop (64*((rsN b++f).length / 64))=rsN (b++f):=by
  have e1:(b++f).drop (64*(b.length / 64))=rsN b++f:=List.drop_append_of_le_length (by omega)
  have e2:(b++f).length / 64=b.length / 64+(rsN b++f).length / 64:=by
    rw[zH,zH,qeo]; omega
  show _=(b++f).drop (64*((b++f).length / 64))
  rw[e2,Nat.mul_add,←List.drop_drop,e1]
theorem dig_rs (b:List (BitVec 8)):dig b=outB (absN (rsN b++fb b.length 8) (stN b) ((rsN b++fb b.length 8).length / 64)):=by
  rw[qhJ]; rfl
structure HG (H:Heap) (fN rN:Nm) (b:List (BitVec 8)):Prop where
  ne:fN≠rN
  ex:∃ c l,RF (rsN b).length c l (rsN b)∧H fN=some (HsC (stN b) (.sl rN 0 (rsN b).length c 1) b.length)∧H rN=some (bs l)
theorem HG.congr {H H':Heap} {fN rN:Nm} {b:List (BitVec 8)} (h:HG H fN rN b) (h1:H' fN=H fN) (h2:H' rN=H rN):HG H' fN rN b:=by
  obtain ⟨hne,c,l,hr,e1,e2⟩:=h
  exact ⟨hne,c,l,hr,h1.trans e1,h2.trans e2⟩
theorem HG.upd {H:Heap} {fN rN n:Nm} {b:List (BitVec 8)} {x:Option qal} (h:HG H fN rN b) (h1:fN≠n) (h2:rN≠n):HG (upd H n x) fN rN b :=
  h.congr (by rw[qby,if_neg h1]) (by rw[qby,if_neg h2])
def H0 (H:Heap) (fN:Nm):Prop:=H fN=some (HsC ini Nil 0)
theorem qdo {H:Heap} {n:Nm} {x:Option qal} (h:H n=x):upd H n x=H:=by
  funext m
  rw[qby]
  split
  · rename_i e; subst e; exact h.symm
  · rfl
theorem write_Z {K b:Nat} {H:Heap} {fN rN:Nm} {B:LV} {bb all:List (BitVec 8)} {r:Option Out} (hc:qar (envC C K) H b 57 [.ptr fN 0,B]=r) (h:HG H fN rN all) (hB:Lent H B bb [fN,rN])
    (hlen:all.length+bb.length≤211106232000000) (hK:(all.length+bb.length) / 64+200≤K) (hf:fN.1≠b) (hr:rN.1≠b) :
    ∃ rN' news ms H2,r=some ⟨.tup [],news,ms⟩∧updN b 0 news (modN ms H)=H2∧HG H2 fN rN' (all++bb)∧(rN'=(b,0)∨(rN'=rN∧bb=[]))∧(∃ z:Option (List (BitVec 8)),H2 rN=z.map bs)∧∀ m,m≠fN→m≠rN→m.1≠b→H2 m=H m:=by
  subst hc
  obtain ⟨hne,c,l,⟨hle,htk,hcap⟩,h1,h2⟩:=h
  have hrl:=qeo all
  have hal:(rsN all++bb).length=(rsN all).length+bb.length:=zH
  have fin : ∀ (z : Option (List (BitVec 8))) (l' : List (BitVec 8)), l'.take ((rsN all ++ bb).length - 64 * ((rsN all ++ bb).length / 64)) = (rsN all ++ bb).drop (64 * ((rsN all ++ bb).length / 64)) → (rsN all ++ bb).length - 64 * ((rsN all ++ bb).length / 64) ≤ l'.length →
      F C K 57 [.ptr (0, 0) 0, .isl (bs bb) bb.length] [HsC (stN all) (.sl (0, 1) 0 (rsN all).length c 1) all.length, bs l] =
        some (.tup [],[some (HsC (absN (rsN all++bb) (stN all) ((rsN all++bb).length / 64)) (.sl (1,0) 0 ((rsN all++bb).length - 64*((rsN all++bb).length / 64)) none 1) (all.length+bb.length)),z.map bs],[bs l']) →
      ∃ rN' news ms H2,qar (envC C K) H b 57 [.ptr fN 0,B]=some ⟨.tup [],news,ms⟩∧updN b 0 news (modN ms H)=H2∧HG H2 fN rN' (all++bb)∧(rN'=(b,0)∨(rN'=rN∧bb=[]))∧(∃ z:Option (List (BitVec 8)),H2 rN=z.map bs)∧∀ m,m≠fN→m≠rN→m.1≠b→H2 m=H m:=by
    intro z l' ht hl hw
    have hcall:=qe3 K b H fN rN _ _ _ _ _ _ c B bb l l' z h1 h2 hne hB hw
    refine ⟨(b,0),_,_,_,hcall,rfl,⟨?_,none,l',?_,?_,?_⟩,.inl rfl,⟨z,?_⟩,?_⟩
    · intro e; exact hf (by rw[e])
    · rw[←qhK,zR]; exact ⟨hl,ht,.inl rfl⟩
    · simp only [qcW, qcS, qce, qch, qby, if_neg (show fN ≠ (b, 0) by intro e; exact hf (by rw [e])), zG]
      rw[←qhJ,←qhK,zR]
      simp only[zH]
    · simp only[qcW,qcS,qby,zG]
    · simp only[qcW,qcS,qce,qch,qby,if_neg (show rN≠(b,0) by intro e; exact hr (by rw[e])),if_neg (show rN≠fN from fun e=>hne e.symm),zG]
    · intro m a1 a2 a3
      simp only[qcW,qcS,qce,qch,qby,if_neg a1,if_neg a2,if_neg (show m≠(b,0) by intro e; exact a3 (by rw[e]))]
  rcases hcap with rfl | ⟨rfl,rfl⟩
  · obtain ⟨l', hw, ht, hl⟩ := writeB (K - (rsN all ++ bb).length / 64 - 100) (stN all) all.length (rsN all).length l hle bb (rsN all ++ bb) (by rw [htk]) (by omega) (by omega)
    rw[show K - (rsN all++bb).length / 64 - 100+(rsN all++bb).length / 64+100=K by omega] at hw
    exact fin none l' ht hl hw
  · have hr0 : rsN all = [] := by rw [← htk]; simp
    have hl0:(rsN all).length=0:=by rw[hr0]; rfl
    by_cases hb0:bb=[]
    · subst hb0
      have hw:=write0C (K - 3) (stN all) all.length (by omega)
      rw[show K - 3+3=K by omega] at hw
      obtain ⟨lent,hs,hln⟩:=hB.snap
      have hcc:([fN]:List Nm).contains rN=false:=by simp; exact fun e=>hne e.symm
      rw[hl0] at h1
      have hre:qa7 H FUEL [] [fN]=[fN,rN]:=by
        simp only[FUEL,qah,ze,zP,zM,h1,qcc,qa6,qa3,zI,zS,hcc,h2,qam,qba]
      have hcall:qar (envC C K) H b 57 [.ptr fN 0,B]=some ⟨.tup [],[],[(fN,some (HsC (stN all) (.sl rN 0 0 (some 0) 1) all.length)),(rN,some (bs []))]⟩:=by
        rw[qbU,lend_w K H fN B [] lent hs,qbA]
        have hn:([.ptr fN 0,.isl (bs []) ([]:List (BitVec 8)).length]:List LV).flatMap (nms D)=[fN]:=by
          simp only[zK,zN,qcp,qbg,zD]
        rw[hn,hre,qbV _ _ _ _ _ hln,show ([fN,rN]:List Nm).filterMap H=[HsC (stN all) (.sl rN 0 0 (some 0) 1) all.length,bs []] by simp[h1,h2]]
        have ha:([.ptr fN 0,.isl (bs []) ([]:List (BitVec 8)).length]:List LV).map (ren D (qaK [fN,rN]))=[.ptr (0,0) 0,.isl (bs []) 0]:=by
          simp only[zB,zA,qbk,qbC,idx0,zC,qbs,qbj,zL]
        have hp:qa5 (.tup [],[some (HsC (stN all) (.sl (0,1) 0 0 (some 0) 1) all.length),some (bs [])],[])=true:=by
          simp[qa5,qfd,qcD]; rfl
        rw[ha,zB,zB,zA,qaP,qaZ,qbC,idx1 _ _ _ hne,zC,qa9,qaq,qbT,hw,qcs _ _ _ _ hp,qaT]
        simp only[qeV,qaP,qaZ,qcI,List.getElem?_cons_succ,List.getElem?_cons_zero,qa9,zA,qaq,List.zipWith_cons_cons,List.zipWith_nil_left,zC]
      refine ⟨rN,_,_,H,hcall,?_,⟨hne,some 0,[],?_,?_,?_⟩,.inr ⟨rfl,rfl⟩,⟨some [],h2⟩,fun _ _ _ _=>rfl⟩
      · simp only [qcS, qce, qch]
        rw[qdo h2,qdo h1]
      · rw[zD,hr0]; exact ⟨Nat.le_refl _,rfl,.inr ⟨rfl,rfl⟩⟩
      · rw[zD,hl0]; exact h1
      · exact h2
    · obtain ⟨l', hw, ht, hl⟩ := writeC (K - (rsN all ++ bb).length / 64 - 100) (stN all) all.length bb (rsN all ++ bb) (by rw [hr0, zI]) hb0 (by omega) (by omega)
      rw[show K - (rsN all++bb).length / 64 - 100+(rsN all++bb).length / 64+100=K by omega] at hw
      refine fin (some []) l' ht hl ?_
      rw[hl0]
      exact hw
theorem write_G {K b:Nat} {H:Heap} {fN rN:Nm} {B:LV} {bb all:List (BitVec 8)} {r:Option Out} (hc:qar (envC C K) H b 57 [.ptr fN 0,B]=r) (h:HG H fN rN all) (hB:Lent H B bb [fN,rN])
    (hlen:all.length+bb.length≤211106232000000) (hK:(all.length+bb.length) / 64+200≤K) (hf:fN.1≠b) (hr:rN.1≠b) :
    ∃ rN' news ms H2,r=some ⟨.tup [],news,ms⟩∧updN b 0 news (modN ms H)=H2∧HG H2 fN rN' (all++bb)∧(rN'=(b,0)∨(rN'=rN∧bb=[]))∧∀ m,m≠fN→m≠rN→m.1≠b→H2 m=H m:=by
  obtain ⟨rN',news,ms,H2,e1,e2,e3,e4,_,e5⟩:=write_Z hc h hB hlen hK hf hr
  exact ⟨rN',news,ms,H2,e1,e2,e3,e4,e5⟩
theorem write_1 {K b:Nat} {H:Heap} {fN:Nm} {B:LV} {bb:List (BitVec 8)} {r:Option Out} (hc:qar (envC C K) H b 57 [.ptr fN 0,B]=r) (h:H0 H fN) (hB:Lent H B bb [fN]) (hb:bb≠[])
    (hlen:bb.length≤211106232000000) (hK:bb.length / 64+200≤K) (hf:fN.1≠b) :
    ∃ news ms H2,r=some ⟨.tup [],news,ms⟩∧updN b 0 news (modN ms H)=H2∧HG H2 fN (b,0) bb∧∀ m,m≠fN→m.1≠b→H2 m=H m:=by
  subst hc
  obtain ⟨l',hw,ht,hl⟩:=writeA (K - bb.length / 64 - 100) ini 0 bb bb rfl hb (by omega) (by omega)
  rw[show K - bb.length / 64 - 100+bb.length / 64+100=K by omega] at hw
  simp only[zO] at hw
  have hcall:=qf3 K b H fN _ _ _ _ _ B bb l' h hB hw
  have hne:fN≠(b,0):=by intro e; exact hf (by rw[e])
  refine ⟨_,_,_,hcall,rfl,⟨hne,none,l',?_,?_,?_⟩,?_⟩
  · rw[qeo]; exact ⟨hl,ht,.inl rfl⟩
  · simp only [qcW, qcS, qce, qch, qby, if_neg hne, zG]
    rw[qeo]; rfl
  · simp only[qcW,qcS,qby,zG]
  · intro m a1 a3
    simp only[qcW,qcS,qce,qch,qby,if_neg a1,if_neg (show m≠(b,0) by intro e; exact a3 (by rw[e]))]
theorem sum_G {K b:Nat} {H:Heap} {fN rN:Nm} {all:List (BitVec 8)} {r:Option Out} (hc:qar (envC C K) H b 58 [.ptr fN 0]=r) (h:HG H fN rN all) (hlen:all.length≤211106232000000) (hK:300≤K) :
    ∃ x y,r=some ⟨.agg (aB 32 (dig all)),[],[(fN,x),(rN,y)]⟩∧H fN=x∧H rN=y:=by
  subst hc
  obtain ⟨hne,c,l,⟨hle,htk,hcap⟩,h1,h2⟩:=h
  have hrl:=qeo all
  have hz:=qd8 all.length
  have hfl:=qcX all.length 8
  have hal:(rsN all++fb all.length 8).length=(rsN all).length+(zs all.length+1+8):=by rw[zH,hfl]
  have hs:F C K 58 [.ptr (0,0) 0] [HsC (stN all) (.sl (0,1) 0 (rsN all).length c 1) all.length,bs l]=some (.agg (aB 32 (dig all)),[some (HsC (stN all) (.sl (0,1) 0 (rsN all).length c 1) all.length),some (bs l)],[]):=by
    rw[dig_rs]
    by_cases h0:rsN all=[]
    · rw [h0, zI, zL]
      have e:K - (fb all.length 8).length / 64 - 101+(fb all.length 8).length / 64+101=K:=by omega
      rcases hcap with rfl | ⟨rfl,rfl⟩
      · have := sumZ (K - (fb all.length 8).length / 64 - 101) (stN all) all.length l (by omega)
        rw[e] at this; exact this
      · have := sumC (K - (fb all.length 8).length / 64 - 101) (stN all) all.length [] (by omega) rfl
        rw[e] at this; exact this
    · rcases hcap with rfl | ⟨rfl, rfl⟩
      · have hp : 0 < (rsN all).length := List.length_pos_iff.2 h0
        have:=sumB (K - (rsN all++fb all.length 8).length / 64 - 101) (stN all) all.length (rsN all).length l (by omega) hle hp (by omega)
        rw[htk,show K - (rsN all++fb all.length 8).length / 64 - 101+(rsN all++fb all.length 8).length / 64+101=K by omega] at this
        exact this
      · exact absurd (by rw[←htk]; simp) h0
  exact ⟨_,_,qeD K b 58 l58 H fN rN _ _ _ _ l h1 h2 hne _ _ [] [] hs (qbx _ _ _) rfl,h1,h2⟩
theorem fork_G {K b:Nat} {H:Heap} {fN rN:Nm} {all:List (BitVec 8)} {r:Option Out} (hc:qar (envC C K) H b 59 [.ptr fN 0]=r) (h:HG H fN rN all) (hlen:all.length≤211106232000000) (hK:2≤K) (hf:fN.1≠b) (hr:rN.1≠b) :
    ∃ c1 c2 x y H2,r=some ⟨.ptr (b,0) 0,[c1,c2],[(fN,x),(rN,y)]⟩∧H fN=x∧H rN=y∧upd (upd H (b,0) (some c1)) (b,1) (some c2)=H2∧HG H2 (b,0) (b,1) all∧HG H2 fN rN all∧∀ m,m.1≠b→H2 m=H m:=by
  subst hc
  have hG:=h
  obtain ⟨hne,c,l,⟨hle,htk,hcap⟩,h1,h2⟩:=h
  have hrl:=qeo all
  have hcl:∃ c' l',RF (rsN all).length c' l' (rsN all)∧F C (K - 2+1) 37 [.sl (0,0) 0 (rsN all).length c 1] [bs l]=some (.sl (1,0) 0 (rsN all).length c' 1,[some (bs l)],[bs l']):=by
    by_cases h0:rsN all=[]
    · rw [h0, zL]
      rcases hcap with rfl | ⟨rfl,rfl⟩
      · exact ⟨some 0,[],⟨Nat.le_refl _,rfl,.inr ⟨rfl,rfl⟩⟩,clone_0 _ l⟩
      · exact ⟨some 0,[],⟨Nat.le_refl _,rfl,.inr ⟨rfl,rfl⟩⟩,clone_C _⟩
    · rcases hcap with rfl | ⟨rfl, rfl⟩
      · have hp : 0 < (rsN all).length := List.length_pos_iff.2 h0
        exact ⟨none,_,⟨by rw[zU]; omega,by rw[htk,List.take_of_length_le (Nat.le_refl _)],.inl rfl⟩,clone_F _ _ l hle hp (by omega)⟩
      · exact absurd (by rw[←htk]; simp) h0
  obtain ⟨c',l',hrf,hcl⟩:=hcl
  have hs:=forkG (K - 2) (stN all) all.length _ _ c c' l l' hcl
  rw[show K - 2+2=K by omega] at hs
  have hcall := qeD K b 59 l59 H fN rN _ _ _ _ l h1 h2 hne (.ptr (1, 0) 0) (.ptr (b, 0) 0) _ [HsC (stN all) (.sl (b, 1) 0 (rsN all).length c' 1) all.length, bs l'] hs
    (by simp only[qbk,qbd,zE,zL,zO,Nat.reduceAdd,Nat.reduceLT,qbs]) (by simp only[zB,zA,qaP,qaq,qaZ,qbd,zE,zL,zO,Nat.reduceAdd,Nat.reduceLT,qa9])
  have e0:∀ m:Nm,m.1≠b→m≠(b,0):=fun m hm e=>hm (by rw[e])
  have e1:∀ m:Nm,m.1≠b→m≠(b,1):=fun m hm e=>hm (by rw[e])
  refine ⟨_,_,_,_,_,hcall,h1,h2,rfl,⟨by simp,c',l',hrf,?_,?_⟩,hG.congr ?_ ?_,?_⟩
  · simp[qby]
  · simp[qby]
  · simp only[qby,if_neg (e0 fN hf),if_neg (e1 fN hf)]
  · simp only[qby,if_neg (e0 rN hr),if_neg (e1 rN hr)]
  · intro m hm
    simp only[qby,if_neg (e0 m hm),if_neg (e1 m hm)]
end Sha
namespace Sha
open Go Go.LE Tb
theorem noImm_aB (n:Nat) (g:Nat→BitVec 8):qbP D (.agg (aB n g))=true:=by
  show (aB n g).all (qbP 7)=true
  rw[List.all_eq_true]; intro x hx
  simp only[aB,arr,List.mem_map,List.mem_range] at hx
  obtain ⟨i,_,rfl⟩:=hx; rfl
theorem qhL (k b g n:Nat) (hg:qaJ g 0=true) (r:Nat→BitVec 8) (H:Heap) (B:LV) (bb:List (BitVec 8)) (hB:Lent H B bb [])
    (hw:F C k g [.isl (bs bb) bb.length] []=some (.agg (aB n r),[],[])):qar (envC C k) H b g [B]=some ⟨.agg (aB n r),[],[]⟩:=by
  obtain ⟨lent,hs,hl⟩:=hB.snap
  have hlend:lend H ((envC C k).borrow g) 0 [B]=some ([.isl (bs bb) bb.length],lent):=by
    rw[qbo,qcC,qbF,qc3,if_pos hg,hs,qbc,zD]
  rw[qbU,hlend,qbA]
  have hn:([.isl (bs bb) bb.length]:List LV).flatMap (nms D)=[]:=by
    simp only[zK,zN,qbg,zD]
  rw[hn,show qa7 H FUEL [] []=[] from rfl,qbV _ _ _ _ _ hl]
  have ha:([.isl (bs bb) bb.length]:List LV).map (ren D (qaK []))=[.isl (bs bb) bb.length]:=by
    simp only[zB,zA,qbj]
  rw[ha,zQ,zA,qbT,hw,qcs _ _ _ _ (by simp[qa5,noImm_aB]),qaT]
  simp only[qbx,zA,List.zipWith_nil_left]
theorem sum_call (k b:Nat) (H:Heap) (B:LV) (bb:List (BitVec 8)) (hb:bb.length≤211106232000000) (hB:Lent H B bb []) (hk:bb.length / 64+301≤k) :
    qar (envC C k) H b 55 [B]=some ⟨.agg (aB 32 (dig bb)),[],[]⟩:=by
  have:=sum_F (k - bb.length / 64 - 301) bb hb
  rw[show k - bb.length / 64 - 301+bb.length / 64+301=k by omega] at this
  exact qhL k b 55 32 rfl _ H B bb hB this
theorem qg4 (k b:Nat) (H:Heap) (B:LV) (bb:List (BitVec 8)) (hb:bb.length≤211106232000000) (hB:Lent H B bb []) (hk:bb.length / 64+301≤k) :
    qar (envC C k) H b 46 [B]=some ⟨.agg (aB 32 (dig bb)),[],[]⟩:=by
  have:=rsum_F (k - bb.length / 64 - 301) bb hb
  rw[show k - bb.length / 64 - 301+bb.length / 64+301=k by omega] at this
  exact qhL k b 46 32 rfl _ H B bb hB this
end Sha
