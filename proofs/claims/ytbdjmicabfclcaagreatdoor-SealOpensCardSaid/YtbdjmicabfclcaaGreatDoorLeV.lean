/- Calls of the round steps on a cipher; Decrypt, evaluated. -/
import Derived.Test.YtbdjmicabfclcaaGreatDoorLeU
set_option linter.unusedVariables false
set_option linter.unusedSimpArgs false
open List renaming reduceReplicate → rR
open Nat renaming reduceSubDiff → rS
namespace Aes
open Go Go.LE Tb
def encl (K:Nat→R) (s:R):Nat→R
  | 0=>add s (K 0)
  | i+1=>add (mix (rnd (encl K s i))) (K (i+1))
def enc (K:Nat→R) (n:Nat) (s:R):R:=add (rnd (encl K s n)) (K (n+1))
def decl (K:Nat→R) (n:Nat) (s:R):Nat→R
  | 0=>qdP (add s (K (n+1)))
  | i+1=>qdP (qcD (add (decl K n s i) (K (n - i))))
def dec (K:Nat→R) (n:Nat) (s:R):R:=add (decl K n s n) (K 0)
def kf (l:List (BitVec 8)) (i:Nat):R:=fun j=>l.getD (i*16+j) 0#8
theorem kcell (l:List (BitVec 8)) (o:Nat) (h:o+16≤l.length):qbc o 16 (some (bs l))=some (aB 16 fun j=>l.getD (o+j) 0#8):=by
  rw[qfs l o 16 h,qeU _ 16 (by rw[zT,zR]; omega)]
  congr 1
  apply qbR
  intro i hi
  simp[List.getD_eq_getElem?_getD,List.getElem?_take,List.getElem?_drop,hi]
theorem qeg (l:List (BitVec 8)) (i:Nat) (o:Nat) (ho:o=i*16) (h:o+16≤l.length):qbc o 16 (some (bs l))=some (aB 16 (kf l i)):=by
  subst ho; exact kcell l _ h
def KO (n:Nat):qan:=CF (.sl (0,1) 0 (n+2) none 16) TB
theorem KG_0 (H:Heap) (n:Nat) (l:List (BitVec 8)) (h0:H (0,0)=some (KO n)) (h1:H (0,1)=some (bs l)):KG H (0,0) (0,1) (n+2) none l:=⟨h0,h1,by decide⟩
theorem agg_r (s:R):∀ π,ren D π (.agg (aB 16 s)) = .agg (aB 16 s):=fun π=>qbl 16 s π
theorem c_made (k n b:Nat) (hn:n≤20) (l:List (BitVec 8)) (H:Heap) (h0:H (0,0)=some (KO n)) (h1:H (0,1)=some (bs l)) :
    qaA (envC C (k+1)) H b 60 [.ptr (0,0) 0]=some ⟨Bo true,[],[((0,0),some (KO n)),((0,1),some (bs l))]⟩ :=
  callK _ b 60 l60 H _ _ _ none l (KG_0 H n l h0 h1) [] Pl.e _ (fun _=>rfl) (made_F k (n+2) (by omega) (by omega) none TB l)
theorem c_round (k n b:Nat) (l:List (BitVec 8)) (H:Heap) (h0:H (0,0)=some (KO n)) (h1:H (0,1)=some (bs l)) (s:R) :
    qaA (envC C (k+30)) H b 63 [.ptr (0,0) 0,.agg (aB 16 s)]=some ⟨.agg (aB 16 (rnd s)),[],[((0,0),some (KO n)),((0,1),some (bs l))]⟩ :=
  callK _ b 63 l63 H _ _ _ none l (KG_0 H n l h0 h1) _ (Pl.pa 16 s Pl.e) _ (agg_r _) (round_F k (n+2) none l s)
theorem c_mix (k n b:Nat) (l:List (BitVec 8)) (H:Heap) (h0:H (0,0)=some (KO n)) (h1:H (0,1)=some (bs l)) (s:R) :
    qaA (envC C (k+30)) H b 62 [.ptr (0,0) 0,.agg (aB 16 s)]=some ⟨.agg (aB 16 (mix s)),[],[((0,0),some (KO n)),((0,1),some (bs l))]⟩ :=
  callK _ b 62 l62 H _ _ _ none l (KG_0 H n l h0 h1) _ (Pl.pa 16 s Pl.e) _ (agg_r _) (mix_F k (n+2) none l s)
theorem c_unround (k n b:Nat) (l:List (BitVec 8)) (H:Heap) (h0:H (0,0)=some (KO n)) (h1:H (0,1)=some (bs l)) (s:R) :
    qaA (envC C (k+30)) H b 74 [.ptr (0,0) 0,.agg (aB 16 s)]=some ⟨.agg (aB 16 (qdP s)),[],[((0,0),some (KO n)),((0,1),some (bs l))]⟩ :=
  callK _ b 74 l74 H _ _ _ none l (KG_0 H n l h0 h1) _ (Pl.pa 16 s Pl.e) _ (agg_r _) (unround_F k (n+2) none l s)
theorem c_unmix (k n b:Nat) (l:List (BitVec 8)) (H:Heap) (h0:H (0,0)=some (KO n)) (h1:H (0,1)=some (bs l)) (s:R) :
    qaA (envC C (k+30)) H b 75 [.ptr (0,0) 0,.agg (aB 16 s)]=some ⟨.agg (aB 16 (qcD s)),[],[((0,0),some (KO n)),((0,1),some (bs l))]⟩ :=
  callK _ b 75 l75 H _ _ _ none l (KG_0 H n l h0 h1) _ (Pl.pa 16 s Pl.e) _ (agg_r _) (unmix_F k (n+2) none l s)
theorem c_add (k b:Nat) (H:Heap) (s t:R):qaA (envC C (k+30)) H b 61 [.agg (aB 16 s),.agg (aB 16 t)]=some ⟨.agg (aB 16 (add s t)),[],[]⟩:=by
  rw[qae l61 (by simp only[zI,zN,qbe,zD]) (by simp only[zA,zB,qbl]),add_F,qf4]
theorem KO_k (n:Nat):qbc 0 1 (some (KO n))=some [.sl (0,1) 0 (n+2) none 16]:=CF_k _ _
theorem qeh (n:Nat):(KO n).flatMap (nms D)=[(0,1)]:=by rw[KO,qa5]; rfl
theorem qeP (n:Nat) (names:List Nm):(KO n).map (ren D (qbq names))=KO n:=by
  rw[KO,qa4,qaY,qc6]; rfl
theorem qfx (H:Heap) (n:Nat) (l:List (BitVec 8)) (h0:H (0,0)=some (KO n)) (h1:H (0,1)=some (bs l)):qa2 H FUEL [] [(0,0)]=[(0,0),(0,1)]:=by
  simp only[simprocAttr,-rR,-rS,qaj,qeh,qam,h0,h1,qag,qab,qaa]
theorem qhk {cs:qan} (h:∀ x ∈ cs,qeS x x=true):qdU cs cs=true:=by
  induction cs with
  | nil=>rfl
  | cons x xs ih=>simp only[qdU,h x (by simp),ih fun y hy=>h y (by simp[hy]),Bool.and_self]
theorem same_B8 (x:BitVec 8):qeS (B8 x) (B8 x)=true:=by simp[qeS,B8]
theorem qe2 (l:List (BitVec 8)):qdU (bs l) (bs l)=true:=qhk fun x hx=>by
  simp only[bs,List.mem_map] at hx
  obtain ⟨y,_,rfl⟩:=hx; exact same_B8 y
theorem same_KO (n:Nat):qdU (KO n) (KO n)=true:=qhk fun x hx=>by
  simp only[KO,CF,List.mem_cons] at hx
  rcases hx with rfl | hx
  · simp[qeS]
  · rw [qcK] at hx
    simp only[bs,List.mem_map] at hx
    obtain ⟨y,_,rfl⟩:=hx; exact same_B8 y
theorem tr_KO (H:Heap) (v:LV) (n:Nat) (l:List (BitVec 8)) (h0:H (0,0)=some (KO n)) (h1:H (0,1)=some (bs l)):qdz true H (some ⟨v,[],[((0,0),some (KO n)),((0,1),some (bs l))]⟩)=some ⟨v,[],[]⟩:=by
  refine qec _ _ _ _ fun m hm => ?_
  simp only[List.mem_cons,List.not_mem_nil,zV] at hm
  rcases hm with rfl | rfl
  · simp only[h0,qcJ,same_KO]
  · simp only[h1,qcJ,qe2]
def dJ (n:Nat) (l:List (BitVec 8)) (s:R) (i:Nat) (st:St):Prop := ∃ (H:Heap),st=⟨[.ptr (0,0) 0,.undef,.undef,.ptr (1,0) 0,.ptr (1,1) 0,.undef,N (n - i),.undef,.undef,.undef,.undef,.undef,.undef,.undef,.undef,.undef,.undef,.undef,.undef,.undef,.undef,.undef,.undef,.undef,.undef,.undef,.undef,.undef,.undef,.undef,.undef,.undef,.undef,.undef,.undef,.undef,.undef,.undef,.undef,.undef,.undef,.undef,.undef,.undef,.undef,.undef,.undef,.undef,.undef,.undef,.undef,.undef,.undef,.undef,.undef],H,2,2⟩ ∧
  H (0,0)=some (KO n)∧H (0,1)=some (bs l)∧H (1,0)=some (aB 16 (decl (kf l) n s i))∧H (1,1)=some (aB 16 fun _=>0#8)
theorem dec_F (k n:Nat) (hn:n≤20) (l:List (BitVec 8)) (hl:l.length=16*(n+2)) (s:R):F C (k+60) 49 [.ptr (0,0) 0,.agg (aB 16 s)] [KO n,bs l] =
    some (.agg (aB 16 (dec (kf l) n s)),[some (KO n),some (bs l)],[]):=by
  rw[qaL f49]
  have e1:n+2 - 1=n+1:=rfl
  have e2:n+1 - 1=n:=rfl
  have hmade:∀ (b:Nat) (H:Heap),H (0,0)=some (KO n)→H (0,1)=some (bs l)→qaA (envC C (k+59)) H b 60 [.ptr (0,0) 0]=some ⟨Bo true,[],[((0,0),some (KO n)),((0,1),some (bs l))]⟩:=fun b H=>c_made (k+58) n b hn l H
  have hunr:∀ (b:Nat) (H:Heap) (s:R),H (0,0)=some (KO n)→H (0,1)=some (bs l)→qaA (envC C (k+59)) H b 74 [.ptr (0,0) 0,.agg (aB 16 s)]=some ⟨.agg (aB 16 (qdP s)),[],[((0,0),some (KO n)),((0,1),some (bs l))]⟩:=fun b H s h0 h1=>c_unround (k+29) n b l H h0 h1 s
  have humix:∀ (b:Nat) (H:Heap) (s:R),H (0,0)=some (KO n)→H (0,1)=some (bs l)→qaA (envC C (k+59)) H b 75 [.ptr (0,0) 0,.agg (aB 16 s)]=some ⟨.agg (aB 16 (qcD s)),[],[((0,0),some (KO n)),((0,1),some (bs l))]⟩:=fun b H s h0 h1=>c_unmix (k+29) n b l H h0 h1 s
  have hadd:∀ (b:Nat) (H:Heap) (s t:R),qaA (envC C (k+59)) H b 61 [.agg (aB 16 s),.agg (aB 16 t)]=some ⟨.agg (aB 16 (add s t)),[],[]⟩:=fun b H s t=>c_add (k+29) b H s t
  simp (disch:=first|omega|decide|simp only[nmsB,lB]) only[simprocAttr,-rR,-rS,leB,memB,arrB,numB,qaf,ordB,L49,KO_k,e1,e2,hadd,qac,qad,qab,qaa,qaq]
  rw[hmade _ _ rfl rfl]
  simp (disch:=first|omega|decide|simp only[nmsB,lB]) only[simprocAttr,-rR,-rS,leB,memB,arrB,numB,qaf,ordB,qaz,qaF,qak,KO_k,e1,e2,qeg l (n+1) ((n+1)*16) rfl,hadd,qac,qad,qab,qaa,qaq,qah]
  rw[qfx _ n l rfl rfl,hunr _ _ _ rfl rfl,tr_KO _ _ n l rfl rfl]
  simp (disch:=first|omega|decide|simp only[nmsB,lB]) only[simprocAttr,-rR,-rS,leB,memB,arrB,numB,qaf,ordB,qaz,qaF,qak,KO_k,e1,e2,qae,qac,qad,qab,qaa,qaq,qah]
  generalize hL:qaP L49k0 _ _ _=r
  refine qaK hL (dJ n l s) n (by omega) ?_ ?_ ?_ ?_
  · rintro i st hi ⟨H, rfl, h0, h1, h2, h3⟩
    have hgt:0 < n - i:=by omega
    have e3:n - i - 1=n - (i+1):=by omega
    simp (disch:=first|omega|decide|simp only[nmsB,lB]) only[simprocAttr,-rR,-rS,leB,memB,arrB,numB,qaf,ordB,qaz,qaF,qak,L49b0,h0,h1,h2,h3,hgt,KO_k,e3,qeg l (n - i) ((n - i)*16) rfl,hadd,qac,qad,qab,qaa,qaq,qah]
    rw[qfx _ n l h0 h1,humix _ (only [(0,0),(0,1)] H) _ h0 h1,tr_KO (only [(0,0),(0,1)] H) _ n l h0 h1]
    simp (disch:=first|omega|decide|simp only[nmsB,lB]) only[simprocAttr,-rR,-rS,leB,memB,arrB,numB,qaf,ordB,qaz,qaF,qak,h0,h1,h2,h3,KO_k,e3,qae,qac,qad,qab,qaa,qaq,qah]
    rw[qfx _ n l h0 h1,hunr _ (only [(0,0),(0,1)] H) _ h0 h1,tr_KO (only [(0,0),(0,1)] H) _ n l h0 h1]
    apply Exists.intro
    apply And.intro
    · simp (disch := first | omega | decide | simp only [nmsB, lB]) only [simprocAttr, -rR, -rS, leB, memB, arrB, numB, qaf, ordB, qaz, qaF, qak, h0, h1, h2, h3, KO_k, e3, qae, qac, qad, qab, qaa, qaq, qah]
      rfl
    · refine qal [(1, 0), (1, 1)] rfl (by simp only [simprocAttr, -rR, -rS, qaj, L49k0, qaD, qbe, qeh, qam, h0, h1, h2, h3, qag, qab, qaa]) rfl ⟨_, rfl, ?_, ?_, ?_, ?_⟩
      · rw[qaI]; simp (disch:=first|omega|decide|simp only[nmsB,lB]) only[simprocAttr,-rR,-rS,leB,memB,qaf,h0,qeP,qae,qac,qad,qab,qaa]
      · rw[qaI]; simp (disch:=first|omega|decide|simp only[nmsB,lB]) only[simprocAttr,-rR,-rS,leB,memB,qaf,h1,qae,qac,qad,qab,qaa]
      · exact qai (1,0) rfl (by simp (disch:=first|omega|decide|simp only[nmsB,lB]) only[simprocAttr,-rR,-rS,leB,memB,qaf,h2,qae,qac,qad,qab,qaa] <;> rfl) (qap _ _ _)
      · exact qai (1,1) rfl (by simp (disch:=first|omega|decide|simp only[nmsB,lB]) only[simprocAttr,-rR,-rS,leB,memB,qaf,h3,qae,qac,qad,qab,qaa]) (qap _ _ _)
  · refine qal [(2, 0), (3, 0)] rfl (by simp only [simprocAttr, -rR, -rS, qaj, L49k0, qaD, qbe, qeh, qam, qag, qab, qaa]) rfl ⟨_, rfl, ?_, ?_, ?_, ?_⟩
    · rw[qaI]; simp (disch:=first|omega|decide|simp only[nmsB,lB]) only[simprocAttr,-rR,-rS,leB,memB,qaf,qeP,qae,qac,qad,qab,qaa]
    · rw[qaI]; simp (disch:=first|omega|decide|simp only[nmsB,lB]) only[simprocAttr,-rR,-rS,leB,memB,qaf,qae,qac,qad,qab,qaa]
    · exact qai (2,0) rfl (by simp (disch:=first|omega|decide|simp only[nmsB,lB]) only[simprocAttr,-rR,-rS,leB,memB,qaf,qae,qac,qad,qab,qaa] <;> rfl) (qap _ _ _)
    · exact qai (3,0) rfl (by simp (disch:=first|omega|decide|simp only[nmsB,lB]) only[simprocAttr,-rR,-rS,leB,memB,qaf,qae,qac,qad,qab,qaa]) (qap _ _ _)
  · rintro st ⟨H, rfl, h0, h1, h2, h3⟩
    apply qaG
    simp (disch:=first|omega|decide|simp only[nmsB,lB]) only[simprocAttr,-rR,-rS,leB,memB,arrB,numB,qaf,L49b0,Nat.sub_self,zU,qae,qac,qad,qab,qaa]
    rfl
  · rintro st ⟨H, rfl, h0, h1, h2, h3⟩ rfl
    simp (disch:=first|omega|decide|simp only[nmsB,lB]) only[simprocAttr,-rR,-rS,leB,memB,arrB,numB,qaf,ordB,qaz,qaF,qak,L49b0,Nat.sub_self,zU,h0,h1,h2,h3,KO_k,qeg l 0 0 rfl,hadd,qac,qad,qab,qaa,qaq,qah]
    rw[qa0 2 _ _ [] (by simp only[simprocAttr,-rR,-rS,qaj,qeh,qam,qbe,h0,h1,qag,qab,qaa])]
    simp (disch:=first|omega|decide|simp only[nmsB,lB]) only[simprocAttr,-rR,-rS,leB,memB,qaf,qeP,qbl,h0,h1,qae,qac,qad,qab,qaa]
    rfl
end Aes
namespace Aes
open Go Go.LE Tb
def eJ (n:Nat) (l:List (BitVec 8)) (s:R) (i:Nat) (st:St):Prop := ∃ (H:Heap),st=⟨[.ptr (0,0) 0,.undef,.undef,.ptr (1,0) 0,.ptr (1,1) 0,N (n+1),.undef,.undef,.undef,.undef,.undef,.undef,.undef,.undef,.undef,.undef,.undef,.undef,.undef,.undef,.undef,.undef,.undef,.undef,.undef,.undef,.undef,.undef,.undef,.undef,.undef,.sl (0,1) 16 n none 16,N n,N i,.undef,.undef,.undef,.undef,.undef,.undef,.undef,.undef,.undef,.undef,.undef,.undef,.undef,.undef,.undef,.undef,.undef,.undef,.undef,.undef,.undef,.undef],H,2,2⟩ ∧
  H (0,0)=some (KO n)∧H (0,1)=some (bs l)∧H (1,0)=some (aB 16 (encl (kf l) s i))∧H (1,1)=some (aB 16 fun _=>0#8)
theorem enc_F (k n:Nat) (hn:n≤20) (l:List (BitVec 8)) (hl:l.length=16*(n+2)) (s:R):F C (k+60) 36 [.ptr (0,0) 0,.agg (aB 16 s)] [KO n,bs l] =
    some (.agg (aB 16 (enc (kf l) n s)),[some (KO n),some (bs l)],[]):=by
  rw[qaL f36]
  have e1:n+2 - 1=n+1:=rfl
  have e2:n+1 - 1=n:=rfl
  have hmade:∀ (b:Nat) (H:Heap),H (0,0)=some (KO n)→H (0,1)=some (bs l)→qaA (envC C (k+59)) H b 60 [.ptr (0,0) 0]=some ⟨Bo true,[],[((0,0),some (KO n)),((0,1),some (bs l))]⟩:=fun b H=>c_made (k+58) n b hn l H
  have hround:∀ (b:Nat) (H:Heap) (s:R),H (0,0)=some (KO n)→H (0,1)=some (bs l)→qaA (envC C (k+59)) H b 63 [.ptr (0,0) 0,.agg (aB 16 s)]=some ⟨.agg (aB 16 (rnd s)),[],[((0,0),some (KO n)),((0,1),some (bs l))]⟩:=fun b H s h0 h1=>c_round (k+29) n b l H h0 h1 s
  have hmix:∀ (b:Nat) (H:Heap) (s:R),H (0,0)=some (KO n)→H (0,1)=some (bs l)→qaA (envC C (k+59)) H b 62 [.ptr (0,0) 0,.agg (aB 16 s)]=some ⟨.agg (aB 16 (mix s)),[],[((0,0),some (KO n)),((0,1),some (bs l))]⟩:=fun b H s h0 h1=>c_mix (k+29) n b l H h0 h1 s
  have hadd:∀ (b:Nat) (H:Heap) (s t:R),qaA (envC C (k+59)) H b 61 [.agg (aB 16 s),.agg (aB 16 t)]=some ⟨.agg (aB 16 (add s t)),[],[]⟩:=fun b H s t=>c_add (k+29) b H s t
  simp (disch:=first|omega|decide|simp only[nmsB,lB]) only[simprocAttr,-rR,-rS,leB,memB,arrB,numB,qaf,ordB,L36,KO_k,e1,e2,hadd,qac,qad,qab,qaa,qaq]
  rw[hmade _ _ rfl rfl]
  simp (disch:=first|omega|decide|simp only[nmsB,lB]) only[simprocAttr,-rR,-rS,leB,memB,arrB,numB,qaf,ordB,qaz,qaF,qak,KO_k,e1,e2,qeg l 0 0 rfl,hadd,qac,qad,qab,qaa,qaq,qah]
  generalize hL:qaP L36k0 _ _ _=r
  refine qaK hL (eJ n l s) n (by omega) ?_ ?_ ?_ ?_
  · rintro i st hi ⟨H, rfl, h0, h1, h2, h3⟩
    have hk:16+i*16=(i+1)*16:=by omega
    simp (disch:=first|omega|decide|simp only[nmsB,lB]) only[simprocAttr,-rR,-rS,leB,memB,arrB,numB,qaf,ordB,qaz,qaF,qak,L36b0,h0,h1,h2,h3,hi,KO_k,qeg l (i+1) (16+i*16) hk,hadd,qac,qad,qab,qaa,qaq,qah]
    generalize hG:upd (upd H (5,0) _) (5,0) (some (aB 16 (kf l (i+1))))=G
    have g0:G (0,0)=some (KO n):=by rw[←hG]; exact h0
    have g1:G (0,1)=some (bs l):=by rw[←hG]; exact h1
    have g2:G (1,0)=some (aB 16 (encl (kf l) s i)):=by rw[←hG]; exact h2
    have g3:G (1,1)=some (aB 16 fun _=>0#8):=by rw[←hG]; exact h3
    have g5:G (5,0)=some (aB 16 (kf l (i+1))):=by rw[←hG]; rfl
    rw[qfx _ n l g0 g1,hround _ (only [(0,0),(0,1)] G) _ g0 g1,tr_KO (only [(0,0),(0,1)] G) _ n l g0 g1]
    simp (disch:=first|omega|decide|simp only[nmsB,lB]) only[simprocAttr,-rR,-rS,leB,memB,arrB,numB,qaf,ordB,qaz,qaF,qak,g0,g1,g2,g3,g5,KO_k,qae,qac,qad,qab,qaa,qaq,qah]
    rw[qfx _ n l g0 g1,hmix _ (only [(0,0),(0,1)] G) _ g0 g1,tr_KO (only [(0,0),(0,1)] G) _ n l g0 g1]
    apply Exists.intro
    apply And.intro
    · simp (disch := first | omega | decide | simp only [nmsB, lB]) only [simprocAttr, -rR, -rS, leB, memB, arrB, numB, qaf, ordB, qaz, qaF, qak, g0, g1, g2, g3, g5, KO_k, hadd, qac, qad, qab, qaa, qaq, qah]
      rfl
    · refine qal [(1, 0), (1, 1)] rfl (by simp only [simprocAttr, -rR, -rS, qaj, L36k0, qaD, qbe, qeh, qam, g0, g1, g2, g3, g5, qag, qab, qaa]) rfl ⟨_, rfl, ?_, ?_, ?_, ?_⟩
      · rw[qaI]; simp (disch:=first|omega|decide|simp only[nmsB,lB]) only[simprocAttr,-rR,-rS,leB,memB,qaf,g0,qeP,qae,qac,qad,qab,qaa]
      · rw[qaI]; simp (disch:=first|omega|decide|simp only[nmsB,lB]) only[simprocAttr,-rR,-rS,leB,memB,qaf,g1,qae,qac,qad,qab,qaa]
      · exact qai (1,0) rfl (by simp (disch:=first|omega|decide|simp only[nmsB,lB]) only[simprocAttr,-rR,-rS,leB,memB,qaf,g2,qae,qac,qad,qab,qaa] <;> rfl) (qap _ _ _)
      · exact qai (1,1) rfl (by simp (disch:=first|omega|decide|simp only[nmsB,lB]) only[simprocAttr,-rR,-rS,leB,memB,qaf,g3,qae,qac,qad,qab,qaa]) (qap _ _ _)
  · refine qal [(2, 0), (3, 0)] rfl (by simp only [simprocAttr, -rR, -rS, qaj, L36k0, qaD, qbe, qeh, qam, qag, qab, qaa]) rfl ⟨_, rfl, ?_, ?_, ?_, ?_⟩
    · rw[qaI]; simp (disch:=first|omega|decide|simp only[nmsB,lB]) only[simprocAttr,-rR,-rS,leB,memB,qaf,qeP,qae,qac,qad,qab,qaa]
    · rw[qaI]; simp (disch:=first|omega|decide|simp only[nmsB,lB]) only[simprocAttr,-rR,-rS,leB,memB,qaf,qae,qac,qad,qab,qaa]
    · exact qai (2,0) rfl (by simp (disch:=first|omega|decide|simp only[nmsB,lB]) only[simprocAttr,-rR,-rS,leB,memB,qaf,qae,qac,qad,qab,qaa] <;> rfl) (qap _ _ _)
    · exact qai (3,0) rfl (by simp (disch:=first|omega|decide|simp only[nmsB,lB]) only[simprocAttr,-rR,-rS,leB,memB,qaf,qae,qac,qad,qab,qaa]) (qap _ _ _)
  · rintro st ⟨H, rfl, h0, h1, h2, h3⟩
    apply qaG
    simp (disch:=first|omega|decide|simp only[nmsB,lB]) only[simprocAttr,-rR,-rS,leB,memB,arrB,numB,qaf,L36b0,zU,qae,qac,qad,qab,qaa]
    rfl
  · rintro st ⟨H, rfl, h0, h1, h2, h3⟩ rfl
    simp (disch:=first|omega|decide|simp only[nmsB,lB]) only[simprocAttr,-rR,-rS,leB,memB,arrB,numB,qaf,ordB,qaz,qaF,qak,L36b0,zU,h0,h1,h2,h3,KO_k,hadd,qac,qad,qab,qaa,qaq,qah]
    rw[qfx _ n l h0 h1,hround _ (only [(0,0),(0,1)] H) _ h0 h1,tr_KO (only [(0,0),(0,1)] H) _ n l h0 h1]
    simp (disch:=first|omega|decide|simp only[nmsB,lB]) only[simprocAttr,-rR,-rS,leB,memB,arrB,numB,qaf,ordB,qaz,qaF,qak,h0,h1,h2,h3,KO_k,qeg l (n+1) ((n+1)*16) rfl,hadd,qac,qad,qab,qaa,qaq,qah]
    rw[qa0 2 _ _ [] (by simp only[simprocAttr,-rR,-rS,qaj,qeh,qam,qbe,h0,h1,qag,qab,qaa])]
    simp (disch:=first|omega|decide|simp only[nmsB,lB]) only[simprocAttr,-rR,-rS,leB,memB,qaf,qeP,qbl,h0,h1,qae,qac,qad,qab,qaa]
    rfl
end Aes
namespace Aes
open Go Go.LE Tb
theorem at4_0 (s:R):E16 (fun i=>at4 s i 0) s:=fun i hi=>by
  simp only[at4,zY]; congr 1; omega
theorem mix_unmix (s:R):mix (qcD s)=fun i=>at4 s i 0:=by
  funext i
  simp only[mix]
  have h:∀ k,at4 (qcD s) i k=T14 (at4 s i (k % 4)) ^^^ T11 (at4 s i ((k+1) % 4)) ^^^ T13 (at4 s i ((k+2) % 4)) ^^^ T9 (at4 s i ((k+3) % 4)):=by
    intro k
    show qcD s (4*(i / 4)+(i+k) % 4)=_
    simp only[qcD,at4_move,zY]
  rw[h,h,h,h]
  simp only[Nat.reduceMod,Nat.reduceAdd]
  generalize at4 s i 0=w; generalize at4 s i 1=x; generalize at4 s i 2=y; generalize at4 s i 3=z
  simp only[T14,T11,T13,T9,qfJ]
  have e2:∀ a,T2 (T2 a)=T4 a:=fun a=>rfl
  have e3:∀ a,T2 (T4 a)=T8 a:=fun a=>rfl
  simp only[e2,e3]
  generalize T2 (T8 w)=w16; generalize T2 (T8 x)=x16; generalize T2 (T8 y)=y16; generalize T2 (T8 z)=z16
  generalize T8 w=w8; generalize T8 x=x8; generalize T8 y=y8; generalize T8 z=z8
  generalize T4 w=w4; generalize T4 x=x4; generalize T4 y=y4; generalize T4 z=z4
  generalize T2 w=w2; generalize T2 x=x2; generalize T2 y=y2; generalize T2 z=z2
  simp only[BitVec.xor_assoc,BitVec.xor_comm,xc,GF.qdu,BitVec.xor_self,BitVec.xor_zero,BitVec.zero_xor]
theorem decl_enc (K:Nat→R) (n:Nat) (s:R):∀ i,i≤n→E16 (decl K n (enc K n s) i) (encl K s (n - i)):=by
  intro i
  induction i with
  | zero =>
    intro _
    rw[decl,enc,qf8]
    exact unrnd_rnd _
  | succ i ih =>
    intro hi
    obtain ⟨m,hm⟩:∃ m,n - i=m+1:=⟨n - i - 1,by omega⟩
    have e:n - (i+1)=m:=by omega
    rw[decl,e,hm]
    have h:=ih (by omega)
    rw[hm,encl] at h
    have h2:=qeV h (K (m+1))
    rw[qf8] at h2
    have h3:=unmix_c h2
    rw[unmix_mix] at h3
    exact (unrnd_c (h3.trans (at4_0 _))).trans (unrnd_rnd _)
theorem dec_enc (K:Nat→R) (n:Nat) (s:R):E16 (dec K n (enc K n s)) s:=by
  have h:=decl_enc K n s n (Nat.le_refl _)
  rw[Nat.sub_self,encl] at h
  have h2:=qeV h (K 0)
  rw[qf8] at h2
  exact h2
theorem encl_dec (K:Nat→R) (n:Nat) (s:R):∀ i,i≤n→E16 (encl K (dec K n s) i) (decl K n s (n - i)):=by
  intro i
  induction i with
  | zero =>
    intro _
    rw[encl,dec,qf8]
    exact E16.refl _
  | succ i ih =>
    intro hi
    obtain ⟨m,hm⟩:∃ m,n - i=m+1:=⟨n - i - 1,by omega⟩
    have e:n - (i+1)=m:=by omega
    have e2:n - m=i+1:=by omega
    rw[encl,e]
    have h:=ih (by omega)
    rw[hm,decl,e2] at h
    have h2:=(mix_c ((rnd_c h).trans (rnd_unrnd _)))
    rw[mix_unmix] at h2
    have h3:=qeV (h2.trans (at4_0 _)) (K (i+1))
    rw[qf8] at h3
    exact h3
theorem enc_dec (K:Nat→R) (n:Nat) (s:R):E16 (enc K n (dec K n s)) s:=by
  have h:=encl_dec K n s n (Nat.le_refl _)
  rw[Nat.sub_self,decl] at h
  have h2:=qeV ((rnd_c h).trans (rnd_unrnd _)) (K (n+1))
  rw[qf8] at h2
  exact h2
theorem enc_c (K:Nat→R) (n:Nat) {s t:R} (h:E16 s t):E16 (enc K n s) (enc K n t):=by
  have hl:∀ i,E16 (encl K s i) (encl K t i):=by
    intro i
    induction i with
    | zero=>exact qeV h _
    | succ i ih=>exact qeV (mix_c (rnd_c ih)) _
  exact qeV (rnd_c (hl n)) _
theorem dec_c (K:Nat→R) (n:Nat) {s t:R} (h:E16 s t):E16 (dec K n s) (dec K n t):=by
  have hl:∀ i,E16 (decl K n s i) (decl K n t i):=by
    intro i
    induction i with
    | zero=>exact unrnd_c (qeV h _)
    | succ i ih=>exact unrnd_c (unmix_c (qeV ih _))
  exact qeV (hl n) _
end Aes
namespace Aes
open Go Go.LE Tb
def RO (n:Nat):qan := .sl (0,1) 0 (n+2) none 16::aB 512 TB
theorem RO_length (n:Nat):(RO n).length=513:=by rw[RO,zH,qbB]
theorem RO_k (n:Nat):qbc 0 1 (some (RO n))=some [.sl (0,1) 0 (n+2) none 16]:=by
  rw[qbP,if_pos (by rw[RO_length]; decide)]; rfl
theorem RO_at (n o:Nat) (h:o < 512):qbc (o+1) 1 (some (RO n))=some [B8 (TB o)]:=by
  have:=qf3 512 TB o h
  rw[qbP,if_pos (by rw[qbB]; omega)] at this
  rw[qbP,if_pos (by rw[RO_length]; omega),RO,zd]
  exact this
theorem RO_bx (n:Nat) (x:BitVec 8):qbc (1+x.toNat) 1 (some (RO n))=some [B8 (BX x.toNat)]:=by
  have:=x.isLt
  rw[Nat.add_comm,RO_at n _ (by omega),TB_bx]
theorem RO_ub (n:Nat) (x:BitVec 8):qbc (257+x.toNat) 1 (some (RO n))=some [B8 (UB x.toNat)]:=by
  have:=x.isLt
  rw[show 257+x.toNat=(256+x.toNat)+1 by omega,RO_at n _ (by omega),TB_ub]
theorem qd7 (n:Nat):(RO n).flatMap (nms D)=[(0,1)]:=by rw[RO,zI,qaD]; rfl
theorem qd8 (n:Nat) (names:List Nm):(RO n).map (ren D (qbq names))=RO n:=by
  rw[RO,zA,qap,qaY,qc6]; rfl
def bxs (s:R):R:=fun j=>BX (s j).toNat
def ubs (s:R):R:=fun j=>UB (s j).toNat
theorem mixg_M' (s:R):mixg fM s=mix s:=funext (mixg_M s)
theorem mixg_U' (s:R):mixg fU s=qcD s:=funext (mixg_U s)
theorem lit_M:[B8 2#8,B8 3#8,B8 1#8,B8 1#8]=aB 4 fM:=rfl
theorem lit_U:[B8 14#8,B8 11#8,B8 13#8,B8 9#8]=aB 4 fU:=rfl
theorem r_add (k b:Nat) (H:Heap) (s t:R):qaA (envC C (k+30)) H b 103 [.agg (aB 16 s),.agg (aB 16 t)]=some ⟨.agg (aB 16 (add s t)),[],[]⟩:=by
  rw[qae l103 (by simp only[zI,zN,qbe,zD]) (by simp only[zA,zB,qbl]),radd_F,qf4]
theorem r_shift (k b:Nat) (H:Heap) (s:R):qaA (envC C (k+30)) H b 104 [.agg (aB 16 s)]=some ⟨.agg (aB 16 (shf s)),[],[]⟩:=by
  rw[qae l104 (by simp only[zI,zN,qbe,zD]) (by simp only[zA,zB,qbl]),shift_F,qf4]
theorem r_mix (k b:Nat) (H:Heap) (s f:R):qaA (envC C (k+30)) H b 105 [.agg (aB 16 s),.agg (aB 4 f)]=some ⟨.agg (aB 16 (mixg f s)),[],[]⟩:=by
  rw[qae l105 (by simp only[zI,zN,qbe,zD]) (by simp only[zA,zB,qbl]),rmix_F,qf4]
def reS (K:Nat→R) (n:Nat) (s:R) (i:Nat):R:=if i < n+1 then encl K s i else enc K n s
def reO (n:Nat) (l:List (BitVec 8)) (s:R) (i:Nat) (st:St):Prop := ∃ (H:Heap),st=⟨[.ptr (0,0) 0,.undef,.undef,.ptr (1,0) 0,.ptr (1,1) 0,N (i+1),.undef,.undef,.undef,.undef,.undef,.undef,.undef,.undef,.undef,.undef,.undef,.undef,.undef,.undef,.undef,.undef,.undef,.undef,.undef,.undef,.undef,.undef,.undef,.undef,.undef,.undef,.undef,.undef,.undef,.undef,.undef,.undef,.undef,.undef,.undef,.undef,.undef,.undef,.undef,.undef,.undef,.undef,.undef,.undef,.undef,.undef,.undef,.undef,.undef,.undef,.undef,.undef,.undef,.undef,.undef],H,2,2⟩ ∧
  H (0,0)=some (RO n)∧H (0,1)=some (bs l)∧H (1,0)=some (aB 16 (reS (kf l) n s i))∧H (1,1)=some (aB 16 fun _=>0#8)
def reI (n:Nat) (l:List (BitVec 8)) (s:R) (i j:Nat) (st:St):Prop := ∃ (H:Heap),st=⟨[.ptr (0,0) 0,.undef,.undef,.ptr (1,0) 0,.ptr (1,1) 0,N (i+1),N j,.undef,.undef,.undef,.undef,.undef,.undef,.undef,.undef,.undef,.undef,.undef,.undef,.undef,.undef,.undef,.undef,.undef,.undef,.undef,.undef,.undef,.undef,.undef,.undef,.undef,.undef,.undef,.undef,.undef,.undef,.undef,.undef,.undef,.undef,.undef,.undef,.undef,.undef,.undef,.undef,.undef,.undef,.undef,.undef,.undef,.undef,.undef,.undef,.undef,.undef,.undef,.undef,.undef,.undef],H,2,2⟩ ∧
  H (0,0)=some (RO n)∧H (0,1)=some (bs l)∧H (1,0)=some (aB 16 (upto j (bxs s) s))∧H (1,1)=some (aB 16 fun _=>0#8)
theorem renc_F (k n:Nat) (hn:n≤20) (l:List (BitVec 8)) (hl:l.length=16*(n+2)) (s:R):F C (k+60) 89 [.ptr (0,0) 0,.agg (aB 16 s)] [RO n,bs l] =
    some (.agg (aB 16 (enc (kf l) n s)),[some (RO n),some (bs l)],[]):=by
  rw[qaL f89]
  have e1:n+2 - 1=n+1:=rfl
  have hadd:∀ (b:Nat) (H:Heap) (s t:R),qaA (envC C (k+59)) H b 103 [.agg (aB 16 s),.agg (aB 16 t)]=some ⟨.agg (aB 16 (add s t)),[],[]⟩:=fun b H s t=>r_add (k+29) b H s t
  have hsh:∀ (b:Nat) (H:Heap) (s:R),qaA (envC C (k+59)) H b 104 [.agg (aB 16 s)]=some ⟨.agg (aB 16 (shf s)),[],[]⟩:=fun b H s=>r_shift (k+29) b H s
  have hmx:∀ (b:Nat) (H:Heap) (s f:R),qaA (envC C (k+59)) H b 105 [.agg (aB 16 s),.agg (aB 4 f)]=some ⟨.agg (aB 16 (mixg f s)),[],[]⟩:=fun b H s f=>r_mix (k+29) b H s f
  simp (disch:=first|omega|decide|simp only[nmsB,lB]) only[simprocAttr,-rR,-rS,leB,memB,arrB,numB,qaf,ordB,qaz,qaF,qak,L89,RO_k,qeg l 0 0 rfl,hadd,qac,qad,qab,qaa,qaq,qah]
  generalize hL:qaP L89k1 _ _ _=r
  refine qaK hL (reO n l s) (n+1) (by omega) ?_ ?_ ?_ ?_
  · rintro i st hi ⟨H, rfl, h0, h1, h2, h3⟩
    have hi2:i+1 < n+2:=by omega
    simp (disch:=first|omega|decide|simp only[nmsB,lB]) only[simprocAttr,-rR,-rS,leB,memB,arrB,numB,qaf,L89b1,h0,RO_k,hi2,qae,qac,qad,qab,qaa]
    generalize hL2:qaP L89k0 _ _ _=r2
    refine qaK hL2 (reI n l (reS (kf l) n s i) i) 16 (by omega) ?_ ?_ ?_ ?_
    · rintro j st hj ⟨H, rfl, h0, h1, h2, h3⟩
      have hs:=qdH j (bxs (reS (kf l) n s i)) (reS (kf l) n s i) (BX (reS (kf l) n s i j).toNat) rfl
      apply Exists.intro
      apply And.intro
      · simp (disch := first | omega | decide | simp only [nmsB, lB]) only [simprocAttr, -rR, -rS, leB, memB, arrB, numB, qaf, ordB, L89b0, h0, h1, h2, h3, hj, upto_at, RO_bx, hs, qae, qac, qad, qab, qaa, qaq]
        rfl
      · refine qal [(1, 0), (1, 1)] rfl (by simp only [simprocAttr, -rR, -rS, qaj, L89k0, qaD, qd7, qam, h0, h1, h2, h3, qag, qab, qaa]) rfl ⟨_, rfl, ?_, ?_, ?_, ?_⟩
        · rw[qaI]; simp (disch:=first|omega|decide|simp only[nmsB,lB]) only[simprocAttr,-rR,-rS,leB,memB,qaf,h0,qd8,qae,qac,qad,qab,qaa]
        · rw[qaI]; simp (disch:=first|omega|decide|simp only[nmsB,lB]) only[simprocAttr,-rR,-rS,leB,memB,qaf,h1,qae,qac,qad,qab,qaa]
        · exact qai (1,0) rfl (by simp (disch:=first|omega|decide|simp only[nmsB,lB]) only[simprocAttr,-rR,-rS,leB,memB,qaf,h2,qae,qac,qad,qab,qaa]) (qap _ _ _)
        · exact qai (1,1) rfl (by simp (disch:=first|omega|decide|simp only[nmsB,lB]) only[simprocAttr,-rR,-rS,leB,memB,qaf,h3,qae,qac,qad,qab,qaa]) (qap _ _ _)
    · refine qal [(1, 0), (1, 1)] rfl (by simp only [simprocAttr, -rR, -rS, qaj, L89k0, qaD, qd7, qam, h0, h1, h2, h3, qag, qab, qaa]) rfl ⟨_, rfl, ?_, ?_, ?_, ?_⟩
      · rw[qaI]; simp (disch:=first|omega|decide|simp only[nmsB,lB]) only[simprocAttr,-rR,-rS,leB,memB,qaf,h0,qd8,qae,qac,qad,qab,qaa]
      · rw[qaI]; simp (disch:=first|omega|decide|simp only[nmsB,lB]) only[simprocAttr,-rR,-rS,leB,memB,qaf,h1,qae,qac,qad,qab,qaa]
      · rw[qdI]; exact qai (1,0) rfl (by simp (disch:=first|omega|decide|simp only[nmsB,lB]) only[simprocAttr,-rR,-rS,leB,memB,qaf,h2,qae,qac,qad,qab,qaa]) (qap _ _ _)
      · exact qai (1,1) rfl (by simp (disch:=first|omega|decide|simp only[nmsB,lB]) only[simprocAttr,-rR,-rS,leB,memB,qaf,h3,qae,qac,qad,qab,qaa]) (qap _ _ _)
    · rintro st ⟨H, rfl, h0, h1, h2, h3⟩
      apply qaG
      simp (disch:=first|omega|decide|simp only[nmsB,lB]) only[simprocAttr,-rR,-rS,leB,memB,arrB,numB,qaf,L89b0,qae,qac,qad,qab,qaa]
      rfl
    · rintro st ⟨H, rfl, h0, h1, h2, h3⟩ rfl
      rw[qed] at h2
      by_cases hm:i+1 < n+1
      · have hr:reS (kf l) n s (i+1)=add (mix (shf (bxs (reS (kf l) n s i)))) (kf l (i+1)):=by
          rw[reS,if_pos hm,reS,if_pos (by omega)]; rfl
        apply Exists.intro
        apply And.intro
        · simp (disch := first | omega | decide | simp only [nmsB, lB]) only [simprocAttr, -rR, -rS, leB, memB, arrB, numB, qaf, ordB, qaz, qaF, qak, L89b0, h0, h1, h2, h3, RO_k, e1, hm, qeg l (i + 1) ((i + 1) * 16) rfl, lit_M, hadd, hsh, hmx, mixg_M', ← hr, qac, qad, qab, qaa, qaq, qah]
          rfl
        · refine qal [(1, 0), (1, 1)] rfl (by simp only [simprocAttr, -rR, -rS, qaj, L89k1, qaD, qd7, qam, h0, h1, h2, h3, qag, qab, qaa]) rfl ⟨_, rfl, ?_, ?_, ?_, ?_⟩
          · rw[qaI]; simp (disch:=first|omega|decide|simp only[nmsB,lB]) only[simprocAttr,-rR,-rS,leB,memB,qaf,h0,qd8,qae,qac,qad,qab,qaa]
          · rw[qaI]; simp (disch:=first|omega|decide|simp only[nmsB,lB]) only[simprocAttr,-rR,-rS,leB,memB,qaf,h1,qae,qac,qad,qab,qaa]
          · exact qai (1,0) rfl (by simp (disch:=first|omega|decide|simp only[nmsB,lB]) only[simprocAttr,-rR,-rS,leB,memB,qaf,h2,qae,qac,qad,qab,qaa]) (qap _ _ _)
          · exact qai (1,1) rfl (by simp (disch:=first|omega|decide|simp only[nmsB,lB]) only[simprocAttr,-rR,-rS,leB,memB,qaf,h3,qae,qac,qad,qab,qaa]) (qap _ _ _)
      · have hr:reS (kf l) n s (i+1)=add (shf (bxs (reS (kf l) n s i))) (kf l (i+1)):=by
          obtain rfl:i=n:=by omega
          rw[reS,if_neg hm,reS,if_pos (by omega)]; rfl
        apply Exists.intro
        apply And.intro
        · simp (disch := first | omega | decide | simp only [nmsB, lB]) only [simprocAttr, -rR, -rS, leB, memB, arrB, numB, qaf, ordB, qaz, qaF, qak, L89b0, h0, h1, h2, h3, RO_k, e1, hm, qeg l (i + 1) ((i + 1) * 16) rfl, hadd, hsh, ← hr, qac, qad, qab, qaa, qaq, qah]
          rfl
        · refine qal [(1, 0), (1, 1)] rfl (by simp only [simprocAttr, -rR, -rS, qaj, L89k1, qaD, qd7, qam, h0, h1, h2, h3, qag, qab, qaa]) rfl ⟨_, rfl, ?_, ?_, ?_, ?_⟩
          · rw[qaI]; simp (disch:=first|omega|decide|simp only[nmsB,lB]) only[simprocAttr,-rR,-rS,leB,memB,qaf,h0,qd8,qae,qac,qad,qab,qaa]
          · rw[qaI]; simp (disch:=first|omega|decide|simp only[nmsB,lB]) only[simprocAttr,-rR,-rS,leB,memB,qaf,h1,qae,qac,qad,qab,qaa]
          · exact qai (1,0) rfl (by simp (disch:=first|omega|decide|simp only[nmsB,lB]) only[simprocAttr,-rR,-rS,leB,memB,qaf,h2,qae,qac,qad,qab,qaa]) (qap _ _ _)
          · exact qai (1,1) rfl (by simp (disch:=first|omega|decide|simp only[nmsB,lB]) only[simprocAttr,-rR,-rS,leB,memB,qaf,h3,qae,qac,qad,qab,qaa]) (qap _ _ _)
  · have hr : add s (kf l 0) = reS (kf l) n s 0 := by rw [reS, if_pos (by omega)]; rfl
    refine qal [(2,0),(3,0)] rfl (by simp only[simprocAttr,-rR,-rS,qaj,L89k1,qaD,qbe,qd7,qam,qag,qab,qaa]) rfl ⟨_,rfl,?_,?_,?_,?_⟩
    · rw[qaI]; simp (disch:=first|omega|decide|simp only[nmsB,lB]) only[simprocAttr,-rR,-rS,leB,memB,qaf,qd8,qae,qac,qad,qab,qaa]
    · rw[qaI]; simp (disch:=first|omega|decide|simp only[nmsB,lB]) only[simprocAttr,-rR,-rS,leB,memB,qaf,qae,qac,qad,qab,qaa]
    · rw[←hr]; exact qai (2,0) rfl (by simp (disch:=first|omega|decide|simp only[nmsB,lB]) only[simprocAttr,-rR,-rS,leB,memB,qaf,qae,qac,qad,qab,qaa]) (qap _ _ _)
    · exact qai (3,0) rfl (by simp (disch:=first|omega|decide|simp only[nmsB,lB]) only[simprocAttr,-rR,-rS,leB,memB,qaf,qae,qac,qad,qab,qaa]) (qap _ _ _)
  · rintro st ⟨H, rfl, h0, h1, h2, h3⟩
    apply qaG
    simp (disch:=first|omega|decide|simp only[nmsB,lB]) only[simprocAttr,-rR,-rS,leB,memB,arrB,numB,qaf,L89b1,h0,RO_k,qae,qac,qad,qab,qaa]
    rfl
  · rintro st ⟨H, rfl, h0, h1, h2, h3⟩ rfl
    have hr:reS (kf l) n s (n+1)=enc (kf l) n s:=if_neg (by omega)
    rw[hr] at h2
    simp (disch:=first|omega|decide|simp only[nmsB,lB]) only[simprocAttr,-rR,-rS,leB,memB,arrB,numB,qaf,L89b1,h0,h1,h2,h3,RO_k,qae,qac,qad,qab,qaa]
    rw[qa0 2 _ _ [] (by simp only[simprocAttr,-rR,-rS,qaj,qd7,qam,qbe,h0,h1,qag,qab,qaa])]
    simp (disch:=first|omega|decide|simp only[nmsB,lB]) only[simprocAttr,-rR,-rS,leB,memB,qaf,qd8,qbl,h0,h1,qae,qac,qad,qab,qaa]
end Aes
namespace Aes
open Go Go.LE Tb
theorem sh3_ix:∀ j:Fin 16,(((j.val+4*(j.val % 4)) % 16+4*(((j.val+4*(j.val % 4)) % 16) % 4)) % 16+4*((((j.val+4*(j.val % 4)) % 16+4*(((j.val+4*(j.val % 4)) % 16) % 4)) % 16) % 4)) % 16=(j.val+12*(j.val % 4)) % 16:=by decide
theorem sh3 (x:R):aB 16 (ubs (shf (shf (shf x))))=aB 16 (qdP x):=qbR 16 fun j hj=>by
  have:=sh3_ix ⟨j,hj⟩
  simp only[ubs,shf,qdP]
  rw[this]
def rdS (K:Nat→R) (n:Nat) (s:R):Nat→R
  | 0=>s
  | i+1=>decl K n s i
def rdM (K:Nat→R) (n:Nat) (s:R):Nat→R
  | 0=>add s (K (n+1))
  | i+1=>qcD (add (decl K n s i) (K (n - i)))
theorem rdS_succ (K:Nat→R) (n:Nat) (s:R) (i:Nat):rdS K n s (i+1)=qdP (rdM K n s i):=by cases i <;> rfl
def rdO (n:Nat) (l:List (BitVec 8)) (s:R) (i:Nat) (st:St):Prop := ∃ (H:Heap),st=⟨[.ptr (0,0) 0,.undef,.undef,.ptr (1,0) 0,.ptr (1,1) 0,N (n+1 - i),.undef,.undef,.undef,.undef,.undef,.undef,.undef,.undef,.undef,.undef,.undef,.undef,.undef,.undef,.undef,.undef,.undef,.undef,.undef,.undef,.undef,.undef,.undef,.undef,.undef,.undef,.undef,.undef,.undef,.undef,.undef,.undef,.undef,.undef,.undef,.undef,.undef,.undef,.undef,.undef,.undef,.undef,.undef,.undef,.undef,.undef,.undef,.undef,.undef,.undef,.undef,.undef,.undef,.undef,.undef,.undef,.undef],H,2,2⟩ ∧
  H (0,0)=some (RO n)∧H (0,1)=some (bs l)∧H (1,0)=some (aB 16 (rdS (kf l) n s i))∧H (1,1)=some (aB 16 fun _=>0#8)
def rdI (n m:Nat) (l:List (BitVec 8)) (y:R) (j:Nat) (st:St):Prop := ∃ (H:Heap),st=⟨[.ptr (0,0) 0,.undef,.undef,.ptr (1,0) 0,.ptr (1,1) 0,N m,N j,.undef,.undef,.undef,.undef,.undef,.undef,.undef,.undef,.undef,.undef,.undef,.undef,.undef,.undef,.undef,.undef,.undef,.undef,.undef,.undef,.undef,.undef,.undef,.undef,.undef,.undef,.undef,.undef,.undef,.undef,.undef,.undef,.undef,.undef,.undef,.undef,.undef,.undef,.undef,.undef,.undef,.undef,.undef,.undef,.undef,.undef,.undef,.undef,.undef,.undef,.undef,.undef,.undef,.undef,.undef,.undef],H,2,2⟩ ∧
  H (0,0)=some (RO n)∧H (0,1)=some (bs l)∧H (1,0)=some (aB 16 (upto j (ubs y) y))∧H (1,1)=some (aB 16 fun _=>0#8)
theorem rd_tail (k K n i:Nat) (hi:i < n+1) (l:List (BitVec 8)) (s:R) {st:St} {r2:Option (Ex × St)} (hK:16 < K)
    (hL2:qaP L92k0 (ev (envC C k) K L92b0) K st=r2) (h0:rdI n (n+1 - i) l (shf (shf (shf (rdM (kf l) n s i)))) 0 (qaT L92k0 st)) {goal:Prop}
    (next:∀ H:Heap,r2=ev (envC C k) K L92b0 ⟨[.ptr (0,0) 0,.undef,.undef,.ptr (1,0) 0,.ptr (1,1) 0,N (n+1 - i),N 16,.undef,.undef,.undef,.undef,.undef,.undef,.undef,.undef,.undef,.undef,.undef,.undef,.undef,.undef,.undef,.undef,.undef,.undef,.undef,.undef,.undef,.undef,.undef,.undef,.undef,.undef,.undef,.undef,.undef,.undef,.undef,.undef,.undef,.undef,.undef,.undef,.undef,.undef,.undef,.undef,.undef,.undef,.undef,.undef,.undef,.undef,.undef,.undef,.undef,.undef,.undef,.undef,.undef,.undef,.undef,.undef],H,2,2⟩→H (0,0)=some (RO n)→H (0,1)=some (bs l)→H (1,0)=some (aB 16 (rdS (kf l) n s (i+1)))→H (1,1)=some (aB 16 fun _=>0#8)→goal):goal:=by
  refine qaK hL2 (rdI n (n+1 - i) l (shf (shf (shf (rdM (kf l) n s i))))) 16 hK ?_ h0 ?_ ?_
  · generalize shf (shf (shf (rdM (kf l) n s i))) = y
    rintro j st hj ⟨H,rfl,h0,h1,h2,h3⟩
    have hs:=qdH j (ubs y) y (UB (y j).toNat) rfl
    apply Exists.intro
    apply And.intro
    · simp (disch := first | omega | decide | simp only [nmsB, lB]) only [simprocAttr, -rR, -rS, leB, memB, arrB, numB, qaf, ordB, L92b0, h0, h1, h2, h3, hj, upto_at, RO_ub, hs, qae, qac, qad, qab, qaa, qaq]
      rfl
    · refine qal [(1, 0), (1, 1)] rfl (by simp only [simprocAttr, -rR, -rS, qaj, L92k0, qaD, qd7, qam, h0, h1, h2, h3, qag, qab, qaa]) rfl ⟨_, rfl, ?_, ?_, ?_, ?_⟩
      · rw[qaI]; simp (disch:=first|omega|decide|simp only[nmsB,lB]) only[simprocAttr,-rR,-rS,leB,memB,qaf,h0,qd8,qae,qac,qad,qab,qaa]
      · rw[qaI]; simp (disch:=first|omega|decide|simp only[nmsB,lB]) only[simprocAttr,-rR,-rS,leB,memB,qaf,h1,qae,qac,qad,qab,qaa]
      · exact qai (1,0) rfl (by simp (disch:=first|omega|decide|simp only[nmsB,lB]) only[simprocAttr,-rR,-rS,leB,memB,qaf,h2,qae,qac,qad,qab,qaa]) (qap _ _ _)
      · exact qai (1,1) rfl (by simp (disch:=first|omega|decide|simp only[nmsB,lB]) only[simprocAttr,-rR,-rS,leB,memB,qaf,h3,qae,qac,qad,qab,qaa]) (qap _ _ _)
  · rintro st ⟨H, rfl, h0, h1, h2, h3⟩
    apply qaG
    simp (disch:=first|omega|decide|simp only[nmsB,lB]) only[simprocAttr,-rR,-rS,leB,memB,arrB,numB,qaf,L92b0,qae,qac,qad,qab,qaa]
    rfl
  · rintro st ⟨H, rfl, h0, h1, h2, h3⟩ he
    rw[qed,sh3,←rdS_succ] at h2
    exact next H he h0 h1 h2 h3
theorem rdec_F (k n:Nat) (hn:n≤20) (l:List (BitVec 8)) (hl:l.length=16*(n+2)) (s:R):F C (k+60) 92 [.ptr (0,0) 0,.agg (aB 16 s)] [RO n,bs l] =
    some (.agg (aB 16 (dec (kf l) n s)),[some (RO n),some (bs l)],[]):=by
  rw[qaL f92]
  have e1:n+2 - 1=n+1:=rfl
  have hadd:∀ (b:Nat) (H:Heap) (s t:R),qaA (envC C (k+59)) H b 103 [.agg (aB 16 s),.agg (aB 16 t)]=some ⟨.agg (aB 16 (add s t)),[],[]⟩:=fun b H s t=>r_add (k+29) b H s t
  have hsh:∀ (b:Nat) (H:Heap) (s:R),qaA (envC C (k+59)) H b 104 [.agg (aB 16 s)]=some ⟨.agg (aB 16 (shf s)),[],[]⟩:=fun b H s=>r_shift (k+29) b H s
  have hmx:∀ (b:Nat) (H:Heap) (s f:R),qaA (envC C (k+59)) H b 105 [.agg (aB 16 s),.agg (aB 4 f)]=some ⟨.agg (aB 16 (mixg f s)),[],[]⟩:=fun b H s f=>r_mix (k+29) b H s f
  simp (disch:=first|omega|decide|simp only[nmsB,lB]) only[simprocAttr,-rR,-rS,leB,memB,arrB,numB,qaf,ordB,qaz,qaF,qak,L92,RO_k,e1,qae,qac,qad,qab,qaa,qaq,qah]
  generalize hL:qaP L92k1 _ _ _=r
  refine qaK hL (rdO n l s) (n+1) (by omega) ?_ ?_ ?_ ?_
  · rintro i st hi ⟨H, rfl, h0, h1, h2, h3⟩
    have hge:1≤n+1 - i:=by omega
    have e3:n+1 - i - 1=n+1 - (i+1):=by omega
    cases i with
    | zero =>
      have hx:add (rdS (kf l) n s 0) (kf l (n+1))=rdM (kf l) n s 0:=rfl
      simp (disch:=first|omega|decide|simp only[nmsB,lB]) only[simprocAttr,-rR,-rS,leB,memB,arrB,numB,qaf,ordB,qaz,qaF,qak,L92b1,h0,h1,h2,h3,hge,RO_k,e1,Nat.sub_zero,zU,qeg l (n+1) ((n+1)*16) rfl,hadd,hsh,hx,qac,qad,qab,qaa,qaq,qah]
      generalize hL2:qaP L92k0 _ _ _=r2
      refine rd_tail (k+59) (k+59) n 0 (by omega) l s (by omega) hL2 ?_ ?_
      · refine qal [(1, 0), (1, 1)] rfl (by simp only [simprocAttr, -rR, -rS, qaj, L92k0, qaD, qd7, qam, h0, h1, h2, h3, qag, qab, qaa]) rfl ⟨_, rfl, ?_, ?_, ?_, ?_⟩
        · rw[qaI]; simp (disch:=first|omega|decide|simp only[nmsB,lB]) only[simprocAttr,-rR,-rS,leB,memB,qaf,h0,qd8,qae,qac,qad,qab,qaa]
        · rw[qaI]; simp (disch:=first|omega|decide|simp only[nmsB,lB]) only[simprocAttr,-rR,-rS,leB,memB,qaf,h1,qae,qac,qad,qab,qaa]
        · rw[qdI]; exact qai (1,0) rfl (by simp (disch:=first|omega|decide|simp only[nmsB,lB]) only[simprocAttr,-rR,-rS,leB,memB,qaf,h2,qae,qac,qad,qab,qaa]) (qap _ _ _)
        · exact qai (1,1) rfl (by simp (disch:=first|omega|decide|simp only[nmsB,lB]) only[simprocAttr,-rR,-rS,leB,memB,qaf,h3,qae,qac,qad,qab,qaa]) (qap _ _ _)
      · rintro H rfl h0 h1 h2 h3
        apply Exists.intro
        apply And.intro
        · simp (disch := first | omega | decide | simp only [nmsB, lB]) only [simprocAttr, -rR, -rS, leB, memB, arrB, numB, qaf, L92b0, e3, qae, qac, qad, qab, qaa]
          rfl
        · refine qal [(1, 0), (1, 1)] rfl (by simp only [simprocAttr, -rR, -rS, qaj, L92k1, qaD, qd7, qam, h0, h1, h2, h3, qag, qab, qaa]) rfl ⟨_, rfl, ?_, ?_, ?_, ?_⟩
          · rw[qaI]; simp (disch:=first|omega|decide|simp only[nmsB,lB]) only[simprocAttr,-rR,-rS,leB,memB,qaf,h0,qd8,qae,qac,qad,qab,qaa]
          · rw[qaI]; simp (disch:=first|omega|decide|simp only[nmsB,lB]) only[simprocAttr,-rR,-rS,leB,memB,qaf,h1,qae,qac,qad,qab,qaa]
          · exact qai (1,0) rfl h2 (qap _ _ _)
          · exact qai (1,1) rfl h3 (qap _ _ _)
    | succ i =>
      have hlt:n+1 - (i+1) < n+1:=by omega
      have e5:n+1 - (i+1)=n - i:=by omega
      have hx:qcD (add (rdS (kf l) n s (i+1)) (kf l (n+1 - (i+1))))=rdM (kf l) n s (i+1):=by rw[e5]; rfl
      simp (disch:=first|omega|decide|simp only[nmsB,lB]) only[simprocAttr,-rR,-rS,leB,memB,arrB,numB,qaf,ordB,qaz,qaF,qak,L92b1,h0,h1,h2,h3,hge,hlt,RO_k,e1,qeg l (n+1 - (i+1)) ((n+1 - (i+1))*16) rfl,lit_U,hadd,hsh,hmx,mixg_U',hx,qac,qad,qab,qaa,qaq,qah]
      generalize hL2:qaP L92k0 _ _ _=r2
      refine rd_tail (k+59) (k+59) n (i+1) (by omega) l s (by omega) hL2 ?_ ?_
      · refine qal [(1, 0), (1, 1)] rfl (by simp only [simprocAttr, -rR, -rS, qaj, L92k0, qaD, qd7, qam, h0, h1, h2, h3, qag, qab, qaa]) rfl ⟨_, rfl, ?_, ?_, ?_, ?_⟩
        · rw[qaI]; simp (disch:=first|omega|decide|simp only[nmsB,lB]) only[simprocAttr,-rR,-rS,leB,memB,qaf,h0,qd8,qae,qac,qad,qab,qaa]
        · rw[qaI]; simp (disch:=first|omega|decide|simp only[nmsB,lB]) only[simprocAttr,-rR,-rS,leB,memB,qaf,h1,qae,qac,qad,qab,qaa]
        · rw[qdI]; exact qai (1,0) rfl (by simp (disch:=first|omega|decide|simp only[nmsB,lB]) only[simprocAttr,-rR,-rS,leB,memB,qaf,h2,qae,qac,qad,qab,qaa]) (qap _ _ _)
        · exact qai (1,1) rfl (by simp (disch:=first|omega|decide|simp only[nmsB,lB]) only[simprocAttr,-rR,-rS,leB,memB,qaf,h3,qae,qac,qad,qab,qaa]) (qap _ _ _)
      · rintro H rfl h0 h1 h2 h3
        apply Exists.intro
        apply And.intro
        · simp (disch := first | omega | decide | simp only [nmsB, lB]) only [simprocAttr, -rR, -rS, leB, memB, arrB, numB, qaf, L92b0, e3, qae, qac, qad, qab, qaa]
          rfl
        · refine qal [(1, 0), (1, 1)] rfl (by simp only [simprocAttr, -rR, -rS, qaj, L92k1, qaD, qd7, qam, h0, h1, h2, h3, qag, qab, qaa]) rfl ⟨_, rfl, ?_, ?_, ?_, ?_⟩
          · rw[qaI]; simp (disch:=first|omega|decide|simp only[nmsB,lB]) only[simprocAttr,-rR,-rS,leB,memB,qaf,h0,qd8,qae,qac,qad,qab,qaa]
          · rw[qaI]; simp (disch:=first|omega|decide|simp only[nmsB,lB]) only[simprocAttr,-rR,-rS,leB,memB,qaf,h1,qae,qac,qad,qab,qaa]
          · exact qai (1,0) rfl h2 (qap _ _ _)
          · exact qai (1,1) rfl h3 (qap _ _ _)
  · refine qal [(2, 0), (3, 0)] rfl (by simp only [simprocAttr, -rR, -rS, qaj, L92k1, qaD, qbe, qd7, qam, qag, qab, qaa]) rfl ⟨_, rfl, ?_, ?_, ?_, ?_⟩
    · rw[qaI]; simp (disch:=first|omega|decide|simp only[nmsB,lB]) only[simprocAttr,-rR,-rS,leB,memB,qaf,qd8,qae,qac,qad,qab,qaa]
    · rw[qaI]; simp (disch:=first|omega|decide|simp only[nmsB,lB]) only[simprocAttr,-rR,-rS,leB,memB,qaf,qae,qac,qad,qab,qaa]
    · exact qai (2,0) rfl (by simp (disch:=first|omega|decide|simp only[nmsB,lB]) only[simprocAttr,-rR,-rS,leB,memB,qaf,qae,qac,qad,qab,qaa] <;> rfl) (qap _ _ _)
    · exact qai (3,0) rfl (by simp (disch:=first|omega|decide|simp only[nmsB,lB]) only[simprocAttr,-rR,-rS,leB,memB,qaf,qae,qac,qad,qab,qaa]) (qap _ _ _)
  · rintro st ⟨H, rfl, h0, h1, h2, h3⟩
    apply qaG
    simp (disch:=first|omega|decide|simp only[nmsB,lB]) only[simprocAttr,-rR,-rS,leB,memB,arrB,numB,qaf,L92b1,h0,RO_k,Nat.sub_self,Nat.not_succ_le_zero,qae,qac,qad,qab,qaa]
    rfl
  · rintro st ⟨H, rfl, h0, h1, h2, h3⟩ rfl
    simp (disch:=first|omega|decide|simp only[nmsB,lB]) only[simprocAttr,-rR,-rS,leB,memB,arrB,numB,qaf,ordB,qaz,qaF,qak,L92b1,h0,h1,h2,h3,RO_k,Nat.sub_self,qeg l 0 0 rfl,hadd,qac,qad,qab,qaa,qaq,qah]
    rw[qa0 2 _ _ [] (by simp only[simprocAttr,-rR,-rS,qaj,qd7,qam,qbe,h0,h1,qag,qab,qaa])]
    simp (disch:=first|omega|decide|simp only[nmsB,lB]) only[simprocAttr,-rR,-rS,leB,memB,qaf,qd8,qbl,h0,h1,qae,qac,qad,qab,qaa]
    rfl
end Aes
namespace Aes
open Go Go.LE Tb
theorem boxed_F (k:Nat) (w:R):F C (k+1) 55 [.ptr (0,0) 0,.agg (aB 4 w)] [CF Nil TB]=some (.agg (aB 4 fun j=>BX (w j).toNat),[some (CF Nil TB)],[]):=by
  rw[qaL f55]
  have hb:[B8 (BX (w 0).toNat),B8 (BX (w 1).toNat),B8 (BX (w 2).toNat),B8 (BX (w 3).toNat)]=aB 4 fun j=>BX (w j).toNat:=rfl
  simp (disch:=first|omega|decide|simp only[nmsB,lB]) only[simprocAttr,-rR,-rS,leB,memB,arrB,numB,qaf,ordB,L55,CT_bx,hb,qae,qac,qad,qab,qaa,qaq]
  rw[qa0 1 _ _ [] (by simp only[simprocAttr,-rR,-rS,qaj,qa5,qaU,qbe,qag,qab,qaa])]
  simp (disch:=first|omega|decide|simp only[nmsB,lB]) only[simprocAttr,-rR,-rS,leB,memB,qaf,qa4,qbp,qbl,qae,qac,qad,qab,qaa]
def boT (i:Nat):R:=fun j=>if j < 256∧don i j=true then BX j else 0#8
theorem boT_0:boT 0=set1 (fun _=>0#8) 0 99#8:=by
  funext j
  simp only[boT,don,Nat.not_lt_zero,zV,decide_eq_true_eq,set1]
  by_cases h0:j=0
  · subst h0; decide
  · rw[if_neg h0,if_neg (fun h=>h0 h.2)]
theorem boT_succ (i:Nat) (hi:i < 255):boT (i+1)=set1 (boT i) (PW i).toNat (BX (PW i).toNat):=by
  have hp:(PW i).toNat < 256:=(PW i).isLt
  funext j
  simp only[boT,set1]
  by_cases h1:j < 256
  · rw [don_succ i j hi h1]
    by_cases h2:j=(PW i).toNat
    · rw[if_pos h2,if_pos ⟨h1,by rw[decide_eq_true h2]; rfl⟩,h2]
    · rw[if_neg h2,decide_eq_false h2,Bool.false_or]
  · rw[if_neg (fun h=>h1 h.1),if_neg (by omega),if_neg (fun h=>h1 h.1)]
theorem boT_all:aB 256 (boT 255)=aB 256 BX:=qbR 256 fun j hj=>by rw[boT,if_pos ⟨hj,don_all j hj⟩]
theorem trn_pw:∀ i:Fin 255,trn (PW (255 - i.val))=BX (PW i.val).toNat:=by decide +kernel
theorem trn_0:trn 0#8=99#8:=by decide
def oJ1 (i:Nat) (st:St):Prop := ∃ (H:Heap),st=⟨[.ptr (1,0) 0,.ptr (1,1) 0,N (i+1),.undef,.undef,.undef,.undef,.undef,.undef,.undef,.undef,.undef,.undef,.undef,.undef,.undef,.undef,.undef,.undef,.undef,.undef,.undef,.undef,.undef,.undef,.undef,.undef,.undef,.undef,.undef,.undef,.undef,.undef],H,2,0⟩∧H (1,0)=some (aB 256 fun _=>0#8)∧H (1,1)=some (aB 256 (pwT (i+1)))
def oJ2 (i:Nat) (st:St):Prop := ∃ (H:Heap),st=⟨[.ptr (1,0) 0,.ptr (1,1) 0,.undef,.ptr (1,2) 0,N i,.undef,.undef,.undef,.undef,.undef,.undef,.undef,.undef,.undef,.undef,.undef,.undef,.undef,.undef,.undef,.undef,.undef,.undef,.undef,.undef,.undef,.undef,.undef,.undef,.undef,.undef,.undef,.undef],H,2,0⟩∧H (1,0)=some (aB 256 fun _=>0#8)∧H (1,1)=some (aB 256 (pwT 256))∧H (1,2)=some (aB 256 (boT i))
theorem Boxes_F (k:Nat):F C (k+300) 67 [] []=some (.agg (aB 256 BX),[],[]):=by
  rw[qaL f67]
  have e0:set1 (fun _=>0#8) 0 1#8=pwT 1:=by
    funext j; simp only[set1,pwT]
    by_cases h:j=0
    · subst h; rfl
    · rw[if_neg h,if_neg (by omega)]
  have htu:∀ a,F C (k+299) 87 [B8 a] []=some (B8 (trn a),[],[]):=fun a=>turned_F (k+279) a
  have hmu:∀ a b,F C (k+299) 68 [B8 a,B8 b] []=some (B8 (mul a b),[],[]):=fun a b=>rmulF (k+288) a b
  simp (disch:=first|omega|decide|simp only[nmsB,lB]) only[simprocAttr,-rR,-rS,leB,memB,arrB,numB,qaf,ordB,L67,e0,qae,qac,qad,qab,qaa,qaq]
  generalize hL:qaP L67k1 _ _ _=r
  refine qaK hL oJ1 255 (by omega) ?_ ?_ ?_ ?_
  · rintro i st hi ⟨H, rfl, h0, h1⟩
    have hlt:i+1 < 256:=by omega
    have hs:=pwT_succ i hi
    have e1:i+1 - 1=i:=by omega
    apply Exists.intro
    apply And.intro
    · simp (disch := first | omega | decide | simp only [nmsB, lB]) only [simprocAttr, -rR, -rS, leB, memB, arrB, numB, qaf, ordB, L67b1, h0, h1, hlt, e1, hmu, hs, qae, qac, qad, qab, qaa, qaq]
      rfl
    · refine qal [(1, 0), (1, 1)] rfl (by simp only [simprocAttr, -rR, -rS, qaj, L67k1, qaD, h0, h1, qag, qab, qaa]) rfl ⟨_, rfl, ?_, ?_⟩
      · exact qai (1,0) rfl (by simp (disch:=first|omega|decide|simp only[nmsB,lB]) only[simprocAttr,-rR,-rS,leB,memB,qaf,h0,h1,qae,qac,qad,qab,qaa]) (qap _ _ _)
      · exact qai (1,1) rfl (by simp (disch:=first|omega|decide|simp only[nmsB,lB]) only[simprocAttr,-rR,-rS,leB,memB,qaf,h0,h1,qae,qac,qad,qab,qaa]) (qap _ _ _)
  · refine qal [(2, 0), (3, 0)] rfl (by simp only [simprocAttr, -rR, -rS, qaj, L67k1, qaD, qag, qab, qaa]) rfl ⟨_, rfl, ?_, ?_⟩
    · exact qai (2,0) rfl (by simp (disch:=first|omega|decide|simp only[nmsB,lB]) only[simprocAttr,-rR,-rS,leB,memB,qaf,qae,qac,qad,qab,qaa]) (qap _ _ _)
    · exact qai (3,0) rfl (by simp (disch:=first|omega|decide|simp only[nmsB,lB]) only[simprocAttr,-rR,-rS,leB,memB,qaf,qae,qac,qad,qab,qaa]) (qap _ _ _)
  · rintro st ⟨H, rfl, h0, h1⟩
    apply qaG
    simp (disch:=first|omega|decide|simp only[nmsB,lB]) only[simprocAttr,-rR,-rS,leB,memB,arrB,numB,qaf,L67b1,h0,h1,qae,qac,qad,qab,qaa]
    rfl
  · rintro st ⟨H, rfl, h0, h1⟩ rfl
    simp (disch:=first|omega|decide|simp only[nmsB,lB]) only[simprocAttr,-rR,-rS,leB,memB,arrB,numB,qaf,ordB,L67b1,h0,h1,htu,trn_0,←boT_0,qae,qac,qad,qab,qaa,qaq]
    generalize hL:qaP L67k0 _ _ _=r
    refine qaK hL oJ2 255 (by omega) ?_ ?_ ?_ ?_
    · rintro i st hi ⟨H, rfl, h0, h1, h2⟩
      have hp:(PW i).toNat < 256:=(PW i).isLt
      have e0:pwT 256 i=PW i:=if_pos (by omega)
      have e2:pwT 256 (255 - i)=PW (255 - i):=if_pos (by omega)
      have hx:=trn_pw ⟨i,hi⟩
      simp only at hx
      have hs:=boT_succ i hi
      apply Exists.intro
      apply And.intro
      · simp (disch := first | omega | decide | simp only [nmsB, lB]) only [simprocAttr, -rR, -rS, leB, memB, arrB, numB, qaf, ordB, L67b0, h0, h1, h2, hi, e0, e2, htu, hx, ← hs, qae, qac, qad, qab, qaa, qaq]
        rfl
      · refine qal [(1, 0), (1, 1), (1, 2)] rfl (by simp only [simprocAttr, -rR, -rS, qaj, L67k0, qaD, h0, h1, h2, qag, qab, qaa]) rfl ⟨_, rfl, ?_, ?_, ?_⟩
        · exact qai (1,0) rfl (by simp (disch:=first|omega|decide|simp only[nmsB,lB]) only[simprocAttr,-rR,-rS,leB,memB,qaf,h0,h1,qae,qac,qad,qab,qaa]) (qap _ _ _)
        · exact qai (1,1) rfl (by simp (disch:=first|omega|decide|simp only[nmsB,lB]) only[simprocAttr,-rR,-rS,leB,memB,qaf,h0,h1,qae,qac,qad,qab,qaa]) (qap _ _ _)
        · exact qai (1,2) rfl (by simp (disch:=first|omega|decide|simp only[nmsB,lB]) only[simprocAttr,-rR,-rS,leB,memB,qaf,h0,h1,qae,qac,qad,qab,qaa]) (qap _ _ _)
    · refine qal [(1, 0), (1, 1), (4, 0)] rfl (by simp only [simprocAttr, -rR, -rS, qaj, L67k0, qaD, h0, h1, qag, qab, qaa]) rfl ⟨_, rfl, ?_, ?_, ?_⟩
      · exact qai (1,0) rfl (by simp (disch:=first|omega|decide|simp only[nmsB,lB]) only[simprocAttr,-rR,-rS,leB,memB,qaf,h0,h1,qae,qac,qad,qab,qaa]) (qap _ _ _)
      · exact qai (1,1) rfl (by simp (disch:=first|omega|decide|simp only[nmsB,lB]) only[simprocAttr,-rR,-rS,leB,memB,qaf,h0,h1,qae,qac,qad,qab,qaa]) (qap _ _ _)
      · exact qai (4,0) rfl (by simp (disch:=first|omega|decide|simp only[nmsB,lB]) only[simprocAttr,-rR,-rS,leB,memB,qaf,h0,h1,qae,qac,qad,qab,qaa]) (qap _ _ _)
    · rintro st ⟨H, rfl, h0, h1, h2⟩
      apply qaG
      simp (disch:=first|omega|decide|simp only[nmsB,lB]) only[simprocAttr,-rR,-rS,leB,memB,arrB,numB,qaf,L67b0,h0,h1,qae,qac,qad,qab,qaa]
      rfl
    · rintro st ⟨H, rfl, h0, h1, h2⟩ rfl
      simp (disch:=first|omega|decide|simp only[nmsB,lB]) only[simprocAttr,-rR,-rS,leB,memB,arrB,numB,qaf,L67b0,h0,h1,h2,boT_all,qae,qac,qad,qab,qaa]
end Aes
namespace Aes
def wd (ws:List (BitVec 8)) (i j:Nat):BitVec 8:=ws.getD (4*i+j) 0#8
def tw (n:Nat) (c:BitVec 8) (i:Nat) (ws:List (BitVec 8)):R :=
  if i % n=0 then fun j=>BX (wd ws (i - 1) ((j+1) % 4)).toNat ^^^ (if j=0 then c else 0#8)
  else if n=8∧i % 8=4 then fun j=>BX (wd ws (i - 1) j).toNat else fun j=>wd ws (i - 1) j
def nwd (n:Nat) (c:BitVec 8) (i:Nat) (ws:List (BitVec 8)):R:=fun j=>tw n c i ws j ^^^ wd ws (i - n) j
def ext4 (ws:List (BitVec 8)) (w:R):List (BitVec 8):=ws++[w 0,w 1,w 2,w 3]
def qfg (n i:Nat) (p:List (BitVec 8) × BitVec 8):List (BitVec 8) × BitVec 8:=(ext4 p.1 (nwd n p.2 i p.1),if i % n=0 then T2 p.2 else p.2)
def KS (n:Nat) (key:List (BitVec 8)):Nat→List (BitVec 8) × BitVec 8
  | 0=>(key,1#8)
  | m+1=>qfg n (n+m) (KS n key m)
def W (n:Nat) (key:List (BitVec 8)):List (BitVec 8):=(KS n key (3*n+28)).1
theorem qcP (n:Nat) (key:List (BitVec 8)) (hk:key.length=4*n):∀ m,(KS n key m).1.length=4*(n+m):=by
  intro m
  induction m with
  | zero=>simpa [KS] using hk
  | succ m ih=>simp only[KS,qfg,ext4,zJ,zH,zM,ih]; omega
theorem qex (n:Nat) (key:List (BitVec 8)) (hk:key.length=4*n):(W n key).length=16*(n+7):=by
  rw[W,qcP n key hk]; omega
def fl (l:List (BitVec 8)):R:=fun j=>l.getD j 0#8
end Aes
namespace Aes
open Go Go.LE Tb
theorem mk4 (b l c:Nat) (h1:l≤c) (h2:c < 1048576):mkK b 4 4 [B8 0#8,B8 0#8,B8 0#8,B8 0#8] (some l) (some c)=some ⟨.sl (b,0) 0 l (some c) 4,[bs (List.replicate (4*c) 0#8)],[]⟩:=by
  rw[mkK,if_pos ⟨h1,by omega,by omega,rfl⟩]
  congr 3
  rw[←qfe]
  clear h1 h2
  induction c with
  | zero=>rfl
  | succ c ih =>
    rw[List.replicate_succ,List.flatten_cons,ih,show 4*(c+1)=4*c+1+1+1+1 by omega,List.replicate_succ,List.replicate_succ,List.replicate_succ,List.replicate_succ]
    rfl
theorem qfh (w:R):aB 4 w=bs [w 0,w 1,w 2,w 3]:=rfl
theorem qfK (b i c z:Nat) (H:Heap) (m:Nm) (ws:List (BitVec 8)) (w:R) (hm:H m=some (bs (ws++List.replicate z 0#8))) (hw:ws.length=4*i) (hz:4≤z) (hc:i+1≤c) (hi:i < 1048576) :
    appX b 4 4 1 H [] (aB 4 w) (.sl m 0 i (some c) 4)=some ⟨.sl m 0 (i+1) (some c) 4,[],[(m,some (bs (ext4 ws w++List.replicate (z - 4) 0#8)))]⟩:=by
  rw[appX,if_pos ⟨rfl,by omega,rfl⟩,if_pos hc,hm]
  simp only[qaV,zJ,List.length_replicate,hw]
  rw[if_pos (by omega),qfh,qgz]
  congr 6
  have e1:(ws++List.replicate z 0#8).take (0+i*4)=ws:=by
    rw[List.take_append_of_le_length (by omega),List.take_of_length_le (by omega)]
  have e2:(ws++List.replicate z 0#8).drop (0+i*4 + [w 0,w 1,w 2,w 3].length)=List.replicate (z - 4) 0#8:=by
    rw[List.drop_append,List.drop_of_length_le (by simp only[zH,zM]; omega),List.drop_replicate,zG]
    congr 1
    simp only[zH,zM]; omega
  rw[e1,e2,ext4]
theorem take16 (l:List (BitVec 8)) (i:Nat) (h:16*(i+1)≤l.length):l.take (16*i)++(List.range 16).map (kf l i)=l.take (16*(i+1)):=by
  rw[show 16*(i+1)=16*i+16 by omega,List.take_add]
  congr 1
  apply List.ext_getElem
  · simp only[zX,List.length_range,zT,zR]; omega
  · intro j h1 h2
    simp only[zX,List.length_range] at h1
    simp only[List.getElem_map,List.getElem_range,kf,List.getElem_take,List.getElem_drop,List.getD_eq_getElem?_getD]
    rw[List.getElem?_eq_getElem (by omega),Option.getD_some]
    congr 1; omega
end Aes
