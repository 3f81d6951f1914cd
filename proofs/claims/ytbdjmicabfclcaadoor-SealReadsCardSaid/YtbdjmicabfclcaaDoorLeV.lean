/- Calls of the round steps on a cipher; Decrypt, evaluated. -/
import Derived.Test.YtbdjmicabfclcaaDoorLeU
set_option linter.unusedVariables false
set_option linter.unusedSimpArgs false
open List renaming reduceReplicate → rR
open Nat renaming reduceSubDiff → rS
namespace Aes
open Go Go.LE Tb
def encl (K:Nat→R) (s:R):Nat→R
  | 0=>add s (K 0)
  | i+1=>add (mix (rnd (encl K s i))) (K (i+1))
def enc (K:Nat→R) (n:Nat) (s:R):R:=add (rnd (encl K s n)) (K (n+1))
def decl (K:Nat→R) (n:Nat) (s:R):Nat→R
  | 0=>qdW (add s (K (n+1)))
  | i+1=>qdW (qcU (add (decl K n s i) (K (n - i))))
def dec (K:Nat→R) (n:Nat) (s:R):R:=add (decl K n s n) (K 0)
def kf (l:List (BitVec 8)) (i:Nat):R:=fun j=>l.getD (i*16+j) 0#8
theorem kcell (l:List (BitVec 8)) (o:Nat) (h:o+16≤l.length):qaS o 16 (some (bs l))=some (aB 16 fun j=>l.getD (o+j) 0#8):=by
  rw[bs_cells l o 16 h,qe0 _ 16 (by rw[zU,zR]; omega)]
  congr 1
  apply qcn
  intro i hi
  simp[List.getD_eq_getElem?_getD,List.getElem?_take,List.getElem?_drop,hi]
theorem qgg (l:List (BitVec 8)) (i:Nat) (o:Nat) (ho:o=i*16) (h:o+16≤l.length):qaS o 16 (some (bs l))=some (aB 16 (kf l i)):=by
  subst ho; exact kcell l _ h
def KO (n:Nat):qal:=CF (.sl (0,1) 0 (n+2) none 16) TB
theorem KG_0 (H:Heap) (n:Nat) (l:List (BitVec 8)) (h0:H (0,0)=some (KO n)) (h1:H (0,1)=some (bs l)):KG H (0,0) (0,1) (n+2) none l:=⟨h0,h1,by decide⟩
theorem agg_r (s:R):∀ π,ren D π (.agg (aB 16 s)) = .agg (aB 16 s):=fun π=>qbx 16 s π
theorem c_made (k n b:Nat) (hn:n≤20) (l:List (BitVec 8)) (H:Heap) (h0:H (0,0)=some (KO n)) (h1:H (0,1)=some (bs l)) :
    qar (envC C (k+1)) H b 79 [.ptr (0,0) 0]=some ⟨Bo true,[],[((0,0),some (KO n)),((0,1),some (bs l))]⟩ :=
  callK _ b 79 l79 H _ _ _ none l (KG_0 H n l h0 h1) [] Pl.e _ (fun _=>rfl) (made_F k (n+2) (by omega) (by omega) none TB l)
theorem c_round (k n b:Nat) (l:List (BitVec 8)) (H:Heap) (h0:H (0,0)=some (KO n)) (h1:H (0,1)=some (bs l)) (s:R) :
    qar (envC C (k+30)) H b 82 [.ptr (0,0) 0,.agg (aB 16 s)]=some ⟨.agg (aB 16 (rnd s)),[],[((0,0),some (KO n)),((0,1),some (bs l))]⟩ :=
  callK _ b 82 l82 H _ _ _ none l (KG_0 H n l h0 h1) _ (Pl.pa 16 s Pl.e) _ (agg_r _) (round_F k (n+2) none l s)
theorem c_mix (k n b:Nat) (l:List (BitVec 8)) (H:Heap) (h0:H (0,0)=some (KO n)) (h1:H (0,1)=some (bs l)) (s:R) :
    qar (envC C (k+30)) H b 81 [.ptr (0,0) 0,.agg (aB 16 s)]=some ⟨.agg (aB 16 (mix s)),[],[((0,0),some (KO n)),((0,1),some (bs l))]⟩ :=
  callK _ b 81 l81 H _ _ _ none l (KG_0 H n l h0 h1) _ (Pl.pa 16 s Pl.e) _ (agg_r _) (mix_F k (n+2) none l s)
theorem c_unround (k n b:Nat) (l:List (BitVec 8)) (H:Heap) (h0:H (0,0)=some (KO n)) (h1:H (0,1)=some (bs l)) (s:R) :
    qar (envC C (k+30)) H b 83 [.ptr (0,0) 0,.agg (aB 16 s)]=some ⟨.agg (aB 16 (qdW s)),[],[((0,0),some (KO n)),((0,1),some (bs l))]⟩ :=
  callK _ b 83 l83 H _ _ _ none l (KG_0 H n l h0 h1) _ (Pl.pa 16 s Pl.e) _ (agg_r _) (unround_F k (n+2) none l s)
theorem c_unmix (k n b:Nat) (l:List (BitVec 8)) (H:Heap) (h0:H (0,0)=some (KO n)) (h1:H (0,1)=some (bs l)) (s:R) :
    qar (envC C (k+30)) H b 84 [.ptr (0,0) 0,.agg (aB 16 s)]=some ⟨.agg (aB 16 (qcU s)),[],[((0,0),some (KO n)),((0,1),some (bs l))]⟩ :=
  callK _ b 84 l84 H _ _ _ none l (KG_0 H n l h0 h1) _ (Pl.pa 16 s Pl.e) _ (agg_r _) (unmix_F k (n+2) none l s)
theorem c_add (k b:Nat) (H:Heap) (s t:R):qar (envC C (k+30)) H b 80 [.agg (aB 16 s),.agg (aB 16 t)]=some ⟨.agg (aB 16 (add s t)),[],[]⟩:=by
  rw[qae l80 (by simp only[zK,zN,qbt,zD]) (by simp only[zB,zA,qbx]),add_F,aB_calK]
theorem KO_k (n:Nat):qaS 0 1 (some (KO n))=some [.sl (0,1) 0 (n+2) none 16]:=CF_k _ _
theorem qd1 (n:Nat):(KO n).flatMap (nms D)=[(0,1)]:=by rw[KO,qaW]; rfl
theorem qer (n:Nat) (names:List Nm):(KO n).map (ren D (qbm names))=KO n:=by
  rw[KO,qaV,qaZ,qcT]; rfl
theorem qeW (H:Heap) (n:Nat) (l:List (BitVec 8)) (h0:H (0,0)=some (KO n)) (h1:H (0,1)=some (bs l)):qa7 H FUEL [] [(0,0)]=[(0,0),(0,1)]:=by
  simp only[simprocAttr,-rR,-rS,qak,qd1,qam,h0,h1,qah,qac,qaa]
theorem qgC {cs:qal} (h:∀ x ∈ cs,qeu x x=true):qdJ cs cs=true:=by
  induction cs with
  | nil=>rfl
  | cons x xs ih=>simp only[qdJ,h x (by simp),ih fun y hy=>h y (by simp[hy]),Bool.and_self]
theorem same_B8 (x:BitVec 8):qeu (B8 x) (B8 x)=true:=by simp[qeu,B8]
theorem qgh (l:List (BitVec 8)):qdJ (bs l) (bs l)=true:=qgC fun x hx=>by
  simp only[bs,List.mem_map] at hx
  obtain ⟨y,_,rfl⟩:=hx; exact same_B8 y
theorem same_KO (n:Nat):qdJ (KO n) (KO n)=true:=qgC fun x hx=>by
  simp only[KO,CF,List.mem_cons] at hx
  rcases hx with rfl | hx
  · simp[qeu]
  · rw [qdt] at hx
    simp only[bs,List.mem_map] at hx
    obtain ⟨y,_,rfl⟩:=hx; exact same_B8 y
theorem tr_KO (H:Heap) (v:LV) (n:Nat) (l:List (BitVec 8)) (h0:H (0,0)=some (KO n)) (h1:H (0,1)=some (bs l)):qdp true H (some ⟨v,[],[((0,0),some (KO n)),((0,1),some (bs l))]⟩)=some ⟨v,[],[]⟩:=by
  refine qeL _ _ _ _ fun m hm => ?_
  simp only[List.mem_cons,List.not_mem_nil,or_false] at hm
  rcases hm with rfl | rfl
  · simp only[h0,qcY,same_KO]
  · simp only[h1,qcY,qgh]
def dJ (n:Nat) (l:List (BitVec 8)) (s:R) (i:Nat) (st:St):Prop := ∃ (H:Heap),st=⟨[.ptr (0,0) 0,.undef,.undef,.ptr (1,0) 0,.ptr (1,1) 0,.undef,N (n - i),.undef,.undef,.undef,.undef,.undef,.undef,.undef,.undef,.undef,.undef,.undef,.undef,.undef,.undef,.undef,.undef,.undef,.undef,.undef,.undef,.undef,.undef,.undef,.undef,.undef,.undef,.undef,.undef,.undef,.undef,.undef,.undef,.undef,.undef,.undef,.undef,.undef,.undef,.undef,.undef,.undef,.undef,.undef,.undef,.undef,.undef,.undef,.undef],H,2,2⟩ ∧
  H (0,0)=some (KO n)∧H (0,1)=some (bs l)∧H (1,0)=some (aB 16 (decl (kf l) n s i))∧H (1,1)=some (aB 16 fun _=>0#8)
theorem dec_F (k n:Nat) (hn:n≤20) (l:List (BitVec 8)) (hl:l.length=16*(n+2)) (s:R):F C (k+60) 68 [.ptr (0,0) 0,.agg (aB 16 s)] [KO n,bs l] =
    some (.agg (aB 16 (dec (kf l) n s)),[some (KO n),some (bs l)],[]):=by
  rw[qaH f68]
  have e1:n+2 - 1=n+1:=rfl
  have e2:n+1 - 1=n:=rfl
  have hmade:∀ (b:Nat) (H:Heap),H (0,0)=some (KO n)→H (0,1)=some (bs l)→qar (envC C (k+59)) H b 79 [.ptr (0,0) 0]=some ⟨Bo true,[],[((0,0),some (KO n)),((0,1),some (bs l))]⟩:=fun b H=>c_made (k+58) n b hn l H
  have hunr:∀ (b:Nat) (H:Heap) (s:R),H (0,0)=some (KO n)→H (0,1)=some (bs l)→qar (envC C (k+59)) H b 83 [.ptr (0,0) 0,.agg (aB 16 s)]=some ⟨.agg (aB 16 (qdW s)),[],[((0,0),some (KO n)),((0,1),some (bs l))]⟩:=fun b H s h0 h1=>c_unround (k+29) n b l H h0 h1 s
  have humix:∀ (b:Nat) (H:Heap) (s:R),H (0,0)=some (KO n)→H (0,1)=some (bs l)→qar (envC C (k+59)) H b 84 [.ptr (0,0) 0,.agg (aB 16 s)]=some ⟨.agg (aB 16 (qcU s)),[],[((0,0),some (KO n)),((0,1),some (bs l))]⟩:=fun b H s h0 h1=>c_unmix (k+29) n b l H h0 h1 s
  have hadd:∀ (b:Nat) (H:Heap) (s t:R),qar (envC C (k+59)) H b 80 [.agg (aB 16 s),.agg (aB 16 t)]=some ⟨.agg (aB 16 (add s t)),[],[]⟩:=fun b H s t=>c_add (k+29) b H s t
  simp (disch:=first|omega|decide|simp only[nmsB,lB]) only[simprocAttr,-rR,-rS,leB,memB,arrB,numB,qaf,ordB,L68,KO_k,e1,e2,hadd,qab,qad,qac,qaa,qas]
  rw[hmade _ _ rfl rfl]
  simp (disch:=first|omega|decide|simp only[nmsB,lB]) only[simprocAttr,-rR,-rS,leB,memB,arrB,numB,qaf,ordB,qan,qaI,qai,KO_k,e1,e2,qgg l (n+1) ((n+1)*16) rfl,hadd,qab,qad,qac,qaa,qas,qag]
  rw[qeW _ n l rfl rfl,hunr _ _ _ rfl rfl,tr_KO _ _ n l rfl rfl]
  simp (disch:=first|omega|decide|simp only[nmsB,lB]) only[simprocAttr,-rR,-rS,leB,memB,arrB,numB,qaf,ordB,qan,qaI,qai,KO_k,e1,e2,qae,qab,qad,qac,qaa,qas,qag]
  generalize hL:qa1 L68k0 _ _ _=r
  refine qaR hL (dJ n l s) n (by omega) ?_ ?_ ?_ ?_
  · rintro i st hi ⟨H, rfl, h0, h1, h2, h3⟩
    have hgt:0 < n - i:=by omega
    have e3:n - i - 1=n - (i+1):=by omega
    simp (disch:=first|omega|decide|simp only[nmsB,lB]) only[simprocAttr,-rR,-rS,leB,memB,arrB,numB,qaf,ordB,qan,qaI,qai,L68b0,h0,h1,h2,h3,hgt,KO_k,e3,qgg l (n - i) ((n - i)*16) rfl,hadd,qab,qad,qac,qaa,qas,qag]
    rw[qeW _ n l h0 h1,humix _ (only [(0,0),(0,1)] H) _ h0 h1,tr_KO (only [(0,0),(0,1)] H) _ n l h0 h1]
    simp (disch:=first|omega|decide|simp only[nmsB,lB]) only[simprocAttr,-rR,-rS,leB,memB,arrB,numB,qaf,ordB,qan,qaI,qai,h0,h1,h2,h3,KO_k,e3,qae,qab,qad,qac,qaa,qas,qag]
    rw[qeW _ n l h0 h1,hunr _ (only [(0,0),(0,1)] H) _ h0 h1,tr_KO (only [(0,0),(0,1)] H) _ n l h0 h1]
    apply Exists.intro
    apply And.intro
    · simp (disch := first | omega | decide | simp only [nmsB, lB]) only [simprocAttr, -rR, -rS, leB, memB, arrB, numB, qaf, ordB, qan, qaI, qai, h0, h1, h2, h3, KO_k, e3, qae, qab, qad, qac, qaa, qas, qag]
      rfl
    · refine qao [(1, 0), (1, 1)] rfl (by simp only [simprocAttr, -rR, -rS, qak, L68k0, qaN, qbt, qd1, qam, h0, h1, h2, h3, qah, qac, qaa]) rfl ⟨_, rfl, ?_, ?_, ?_, ?_⟩
      · rw[qaG]; simp (disch:=first|omega|decide|simp only[nmsB,lB]) only[simprocAttr,-rR,-rS,leB,memB,qaf,h0,qer,qae,qab,qad,qac,qaa]
      · rw[qaG]; simp (disch:=first|omega|decide|simp only[nmsB,lB]) only[simprocAttr,-rR,-rS,leB,memB,qaf,h1,qae,qab,qad,qac,qaa]
      · exact qaj (1,0) rfl (by simp (disch:=first|omega|decide|simp only[nmsB,lB]) only[simprocAttr,-rR,-rS,leB,memB,qaf,h2,qae,qab,qad,qac,qaa] <;> rfl) (qaE _ _ _)
      · exact qaj (1,1) rfl (by simp (disch:=first|omega|decide|simp only[nmsB,lB]) only[simprocAttr,-rR,-rS,leB,memB,qaf,h3,qae,qab,qad,qac,qaa]) (qaE _ _ _)
  · refine qao [(2, 0), (3, 0)] rfl (by simp only [simprocAttr, -rR, -rS, qak, L68k0, qaN, qbt, qd1, qam, qah, qac, qaa]) rfl ⟨_, rfl, ?_, ?_, ?_, ?_⟩
    · rw[qaG]; simp (disch:=first|omega|decide|simp only[nmsB,lB]) only[simprocAttr,-rR,-rS,leB,memB,qaf,qer,qae,qab,qad,qac,qaa]
    · rw[qaG]; simp (disch:=first|omega|decide|simp only[nmsB,lB]) only[simprocAttr,-rR,-rS,leB,memB,qaf,qae,qab,qad,qac,qaa]
    · exact qaj (2,0) rfl (by simp (disch:=first|omega|decide|simp only[nmsB,lB]) only[simprocAttr,-rR,-rS,leB,memB,qaf,qae,qab,qad,qac,qaa] <;> rfl) (qaE _ _ _)
    · exact qaj (3,0) rfl (by simp (disch:=first|omega|decide|simp only[nmsB,lB]) only[simprocAttr,-rR,-rS,leB,memB,qaf,qae,qab,qad,qac,qaa]) (qaE _ _ _)
  · rintro st ⟨H, rfl, h0, h1, h2, h3⟩
    apply qaO
    simp (disch:=first|omega|decide|simp only[nmsB,lB]) only[simprocAttr,-rR,-rS,leB,memB,arrB,numB,qaf,L68b0,Nat.sub_self,zY,qae,qab,qad,qac,qaa]
    rfl
  · rintro st ⟨H, rfl, h0, h1, h2, h3⟩ rfl
    simp (disch:=first|omega|decide|simp only[nmsB,lB]) only[simprocAttr,-rR,-rS,leB,memB,arrB,numB,qaf,ordB,qan,qaI,qai,L68b0,Nat.sub_self,zY,h0,h1,h2,h3,KO_k,qgg l 0 0 rfl,hadd,qab,qad,qac,qaa,qas,qag]
    rw[qaX 2 _ _ [] (by simp only[simprocAttr,-rR,-rS,qak,qd1,qam,qbt,h0,h1,qah,qac,qaa])]
    simp (disch:=first|omega|decide|simp only[nmsB,lB]) only[simprocAttr,-rR,-rS,leB,memB,qaf,qer,qbx,h0,h1,qae,qab,qad,qac,qaa]
    rfl
end Aes
namespace Aes
open Go Go.LE Tb
def eJ (n:Nat) (l:List (BitVec 8)) (s:R) (i:Nat) (st:St):Prop := ∃ (H:Heap),st=⟨[.ptr (0,0) 0,.undef,.undef,.ptr (1,0) 0,.ptr (1,1) 0,N (n+1),.undef,.undef,.undef,.undef,.undef,.undef,.undef,.undef,.undef,.undef,.undef,.undef,.undef,.undef,.undef,.undef,.undef,.undef,.undef,.undef,.undef,.undef,.undef,.undef,.undef,.sl (0,1) 16 n none 16,N n,N i,.undef,.undef,.undef,.undef,.undef,.undef,.undef,.undef,.undef,.undef,.undef,.undef,.undef,.undef,.undef,.undef,.undef,.undef,.undef,.undef,.undef,.undef],H,2,2⟩ ∧
  H (0,0)=some (KO n)∧H (0,1)=some (bs l)∧H (1,0)=some (aB 16 (encl (kf l) s i))∧H (1,1)=some (aB 16 fun _=>0#8)
theorem enc_F (k n:Nat) (hn:n≤20) (l:List (BitVec 8)) (hl:l.length=16*(n+2)) (s:R):F C (k+60) 66 [.ptr (0,0) 0,.agg (aB 16 s)] [KO n,bs l] =
    some (.agg (aB 16 (enc (kf l) n s)),[some (KO n),some (bs l)],[]):=by
  rw[qaH f66]
  have e1:n+2 - 1=n+1:=rfl
  have e2:n+1 - 1=n:=rfl
  have hmade:∀ (b:Nat) (H:Heap),H (0,0)=some (KO n)→H (0,1)=some (bs l)→qar (envC C (k+59)) H b 79 [.ptr (0,0) 0]=some ⟨Bo true,[],[((0,0),some (KO n)),((0,1),some (bs l))]⟩:=fun b H=>c_made (k+58) n b hn l H
  have hround:∀ (b:Nat) (H:Heap) (s:R),H (0,0)=some (KO n)→H (0,1)=some (bs l)→qar (envC C (k+59)) H b 82 [.ptr (0,0) 0,.agg (aB 16 s)]=some ⟨.agg (aB 16 (rnd s)),[],[((0,0),some (KO n)),((0,1),some (bs l))]⟩:=fun b H s h0 h1=>c_round (k+29) n b l H h0 h1 s
  have hmix:∀ (b:Nat) (H:Heap) (s:R),H (0,0)=some (KO n)→H (0,1)=some (bs l)→qar (envC C (k+59)) H b 81 [.ptr (0,0) 0,.agg (aB 16 s)]=some ⟨.agg (aB 16 (mix s)),[],[((0,0),some (KO n)),((0,1),some (bs l))]⟩:=fun b H s h0 h1=>c_mix (k+29) n b l H h0 h1 s
  have hadd:∀ (b:Nat) (H:Heap) (s t:R),qar (envC C (k+59)) H b 80 [.agg (aB 16 s),.agg (aB 16 t)]=some ⟨.agg (aB 16 (add s t)),[],[]⟩:=fun b H s t=>c_add (k+29) b H s t
  simp (disch:=first|omega|decide|simp only[nmsB,lB]) only[simprocAttr,-rR,-rS,leB,memB,arrB,numB,qaf,ordB,L66,KO_k,e1,e2,hadd,qab,qad,qac,qaa,qas]
  rw[hmade _ _ rfl rfl]
  simp (disch:=first|omega|decide|simp only[nmsB,lB]) only[simprocAttr,-rR,-rS,leB,memB,arrB,numB,qaf,ordB,qan,qaI,qai,KO_k,e1,e2,qgg l 0 0 rfl,hadd,qab,qad,qac,qaa,qas,qag]
  generalize hL:qa1 L66k0 _ _ _=r
  refine qaR hL (eJ n l s) n (by omega) ?_ ?_ ?_ ?_
  · rintro i st hi ⟨H, rfl, h0, h1, h2, h3⟩
    have hk:16+i*16=(i+1)*16:=by omega
    simp (disch:=first|omega|decide|simp only[nmsB,lB]) only[simprocAttr,-rR,-rS,leB,memB,arrB,numB,qaf,ordB,qan,qaI,qai,L66b0,h0,h1,h2,h3,hi,KO_k,qgg l (i+1) (16+i*16) hk,hadd,qab,qad,qac,qaa,qas,qag]
    generalize hG:upd (upd H (5,0) _) (5,0) (some (aB 16 (kf l (i+1))))=G
    have g0:G (0,0)=some (KO n):=by rw[←hG]; exact h0
    have g1:G (0,1)=some (bs l):=by rw[←hG]; exact h1
    have g2:G (1,0)=some (aB 16 (encl (kf l) s i)):=by rw[←hG]; exact h2
    have g3:G (1,1)=some (aB 16 fun _=>0#8):=by rw[←hG]; exact h3
    have g5:G (5,0)=some (aB 16 (kf l (i+1))):=by rw[←hG]; rfl
    rw[qeW _ n l g0 g1,hround _ (only [(0,0),(0,1)] G) _ g0 g1,tr_KO (only [(0,0),(0,1)] G) _ n l g0 g1]
    simp (disch:=first|omega|decide|simp only[nmsB,lB]) only[simprocAttr,-rR,-rS,leB,memB,arrB,numB,qaf,ordB,qan,qaI,qai,g0,g1,g2,g3,g5,KO_k,qae,qab,qad,qac,qaa,qas,qag]
    rw[qeW _ n l g0 g1,hmix _ (only [(0,0),(0,1)] G) _ g0 g1,tr_KO (only [(0,0),(0,1)] G) _ n l g0 g1]
    apply Exists.intro
    apply And.intro
    · simp (disch := first | omega | decide | simp only [nmsB, lB]) only [simprocAttr, -rR, -rS, leB, memB, arrB, numB, qaf, ordB, qan, qaI, qai, g0, g1, g2, g3, g5, KO_k, hadd, qab, qad, qac, qaa, qas, qag]
      rfl
    · refine qao [(1, 0), (1, 1)] rfl (by simp only [simprocAttr, -rR, -rS, qak, L66k0, qaN, qbt, qd1, qam, g0, g1, g2, g3, g5, qah, qac, qaa]) rfl ⟨_, rfl, ?_, ?_, ?_, ?_⟩
      · rw[qaG]; simp (disch:=first|omega|decide|simp only[nmsB,lB]) only[simprocAttr,-rR,-rS,leB,memB,qaf,g0,qer,qae,qab,qad,qac,qaa]
      · rw[qaG]; simp (disch:=first|omega|decide|simp only[nmsB,lB]) only[simprocAttr,-rR,-rS,leB,memB,qaf,g1,qae,qab,qad,qac,qaa]
      · exact qaj (1,0) rfl (by simp (disch:=first|omega|decide|simp only[nmsB,lB]) only[simprocAttr,-rR,-rS,leB,memB,qaf,g2,qae,qab,qad,qac,qaa] <;> rfl) (qaE _ _ _)
      · exact qaj (1,1) rfl (by simp (disch:=first|omega|decide|simp only[nmsB,lB]) only[simprocAttr,-rR,-rS,leB,memB,qaf,g3,qae,qab,qad,qac,qaa]) (qaE _ _ _)
  · refine qao [(2, 0), (3, 0)] rfl (by simp only [simprocAttr, -rR, -rS, qak, L66k0, qaN, qbt, qd1, qam, qah, qac, qaa]) rfl ⟨_, rfl, ?_, ?_, ?_, ?_⟩
    · rw[qaG]; simp (disch:=first|omega|decide|simp only[nmsB,lB]) only[simprocAttr,-rR,-rS,leB,memB,qaf,qer,qae,qab,qad,qac,qaa]
    · rw[qaG]; simp (disch:=first|omega|decide|simp only[nmsB,lB]) only[simprocAttr,-rR,-rS,leB,memB,qaf,qae,qab,qad,qac,qaa]
    · exact qaj (2,0) rfl (by simp (disch:=first|omega|decide|simp only[nmsB,lB]) only[simprocAttr,-rR,-rS,leB,memB,qaf,qae,qab,qad,qac,qaa] <;> rfl) (qaE _ _ _)
    · exact qaj (3,0) rfl (by simp (disch:=first|omega|decide|simp only[nmsB,lB]) only[simprocAttr,-rR,-rS,leB,memB,qaf,qae,qab,qad,qac,qaa]) (qaE _ _ _)
  · rintro st ⟨H, rfl, h0, h1, h2, h3⟩
    apply qaO
    simp (disch:=first|omega|decide|simp only[nmsB,lB]) only[simprocAttr,-rR,-rS,leB,memB,arrB,numB,qaf,L66b0,zY,qae,qab,qad,qac,qaa]
    rfl
  · rintro st ⟨H, rfl, h0, h1, h2, h3⟩ rfl
    simp (disch:=first|omega|decide|simp only[nmsB,lB]) only[simprocAttr,-rR,-rS,leB,memB,arrB,numB,qaf,ordB,qan,qaI,qai,L66b0,zY,h0,h1,h2,h3,KO_k,hadd,qab,qad,qac,qaa,qas,qag]
    rw[qeW _ n l h0 h1,hround _ (only [(0,0),(0,1)] H) _ h0 h1,tr_KO (only [(0,0),(0,1)] H) _ n l h0 h1]
    simp (disch:=first|omega|decide|simp only[nmsB,lB]) only[simprocAttr,-rR,-rS,leB,memB,arrB,numB,qaf,ordB,qan,qaI,qai,h0,h1,h2,h3,KO_k,qgg l (n+1) ((n+1)*16) rfl,hadd,qab,qad,qac,qaa,qas,qag]
    rw[qaX 2 _ _ [] (by simp only[simprocAttr,-rR,-rS,qak,qd1,qam,qbt,h0,h1,qah,qac,qaa])]
    simp (disch:=first|omega|decide|simp only[nmsB,lB]) only[simprocAttr,-rR,-rS,leB,memB,qaf,qer,qbx,h0,h1,qae,qab,qad,qac,qaa]
    rfl
end Aes
namespace Aes
open Go Go.LE Tb
theorem at4_0 (s:R):E16 (fun i=>at4 s i 0) s:=fun i hi=>by
  simp only[at4,zZ]; congr 1; omega
theorem mix_unmix (s:R):mix (qcU s)=fun i=>at4 s i 0:=by
  funext i
  simp only[mix]
  have h:∀ k,at4 (qcU s) i k=T14 (at4 s i (k % 4)) ^^^ T11 (at4 s i ((k+1) % 4)) ^^^ T13 (at4 s i ((k+2) % 4)) ^^^ T9 (at4 s i ((k+3) % 4)):=by
    intro k
    show qcU s (4*(i / 4)+(i+k) % 4)=_
    simp only[qcU,at4_move,zZ]
  rw[h,h,h,h]
  simp only[Nat.reduceMod,Nat.reduceAdd]
  generalize at4 s i 0=w; generalize at4 s i 1=x; generalize at4 s i 2=y; generalize at4 s i 3=z
  simp only[T14,T11,T13,T9,qfa]
  have e2:∀ a,T2 (T2 a)=T4 a:=fun a=>rfl
  have e3:∀ a,T2 (T4 a)=T8 a:=fun a=>rfl
  simp only[e2,e3]
  generalize T2 (T8 w)=w16; generalize T2 (T8 x)=x16; generalize T2 (T8 y)=y16; generalize T2 (T8 z)=z16
  generalize T8 w=w8; generalize T8 x=x8; generalize T8 y=y8; generalize T8 z=z8
  generalize T4 w=w4; generalize T4 x=x4; generalize T4 y=y4; generalize T4 z=z4
  generalize T2 w=w2; generalize T2 x=x2; generalize T2 y=y2; generalize T2 z=z2
  simp only[BitVec.xor_assoc,BitVec.xor_comm,xc,GF.qdc,BitVec.xor_self,BitVec.xor_zero,BitVec.zero_xor]
theorem decl_enc (K:Nat→R) (n:Nat) (s:R):∀ i,i≤n→E16 (decl K n (enc K n s) i) (encl K s (n - i)):=by
  intro i
  induction i with
  | zero =>
    intro _
    rw[decl,enc,qfs]
    exact unrnd_rnd _
  | succ i ih =>
    intro hi
    obtain ⟨m,hm⟩:∃ m,n - i=m+1:=⟨n - i - 1,by omega⟩
    have e:n - (i+1)=m:=by omega
    rw[decl,e,hm]
    have h:=ih (by omega)
    rw[hm,encl] at h
    have h2:=qex h (K (m+1))
    rw[qfs] at h2
    have h3:=unmix_c h2
    rw[unmix_mix] at h3
    exact (unrnd_c (h3.trans (at4_0 _))).trans (unrnd_rnd _)
theorem dec_enc (K:Nat→R) (n:Nat) (s:R):E16 (dec K n (enc K n s)) s:=by
  have h:=decl_enc K n s n (Nat.le_refl _)
  rw[Nat.sub_self,encl] at h
  have h2:=qex h (K 0)
  rw[qfs] at h2
  exact h2
theorem encl_dec (K:Nat→R) (n:Nat) (s:R):∀ i,i≤n→E16 (encl K (dec K n s) i) (decl K n s (n - i)):=by
  intro i
  induction i with
  | zero =>
    intro _
    rw[encl,dec,qfs]
    exact E16.refl _
  | succ i ih =>
    intro hi
    obtain ⟨m,hm⟩:∃ m,n - i=m+1:=⟨n - i - 1,by omega⟩
    have e:n - (i+1)=m:=by omega
    have e2:n - m=i+1:=by omega
    rw[encl,e]
    have h:=ih (by omega)
    rw[hm,decl,e2] at h
    have h2:=(mix_c ((rnd_c h).trans (rnd_unrnd _)))
    rw[mix_unmix] at h2
    have h3:=qex (h2.trans (at4_0 _)) (K (i+1))
    rw[qfs] at h3
    exact h3
theorem enc_dec (K:Nat→R) (n:Nat) (s:R):E16 (enc K n (dec K n s)) s:=by
  have h:=encl_dec K n s n (Nat.le_refl _)
  rw[Nat.sub_self,decl] at h
  have h2:=qex ((rnd_c h).trans (rnd_unrnd _)) (K (n+1))
  rw[qfs] at h2
  exact h2
theorem enc_c (K:Nat→R) (n:Nat) {s t:R} (h:E16 s t):E16 (enc K n s) (enc K n t):=by
  have hl:∀ i,E16 (encl K s i) (encl K t i):=by
    intro i
    induction i with
    | zero=>exact qex h _
    | succ i ih=>exact qex (mix_c (rnd_c ih)) _
  exact qex (rnd_c (hl n)) _
theorem dec_c (K:Nat→R) (n:Nat) {s t:R} (h:E16 s t):E16 (dec K n s) (dec K n t):=by
  have hl:∀ i,E16 (decl K n s i) (decl K n t i):=by
    intro i
    induction i with
    | zero=>exact unrnd_c (qex h _)
    | succ i ih=>exact unrnd_c (unmix_c (qex ih _))
  exact qex (hl n) _
end Aes
namespace Aes
open Go Go.LE Tb
end Aes
namespace Aes
open Go Go.LE Tb
end Aes
namespace Aes
open Go Go.LE Tb
theorem boxed_F (k:Nat) (w:R):F C (k+1) 74 [.ptr (0,0) 0,.agg (aB 4 w)] [CF Nil TB]=some (.agg (aB 4 fun j=>BX (w j).toNat),[some (CF Nil TB)],[]):=by
  rw[qaH f74]
  have hb:[B8 (BX (w 0).toNat),B8 (BX (w 1).toNat),B8 (BX (w 2).toNat),B8 (BX (w 3).toNat)]=aB 4 fun j=>BX (w j).toNat:=rfl
  simp (disch:=first|omega|decide|simp only[nmsB,lB]) only[simprocAttr,-rR,-rS,leB,memB,arrB,numB,qaf,ordB,L74,CT_bx,hb,qae,qab,qad,qac,qaa,qas]
  rw[qaX 1 _ _ [] (by simp only[simprocAttr,-rR,-rS,qak,qaW,qbD,qbt,qah,qac,qaa])]
  simp (disch:=first|omega|decide|simp only[nmsB,lB]) only[simprocAttr,-rR,-rS,leB,memB,qaf,qaV,qbS,qbx,qae,qab,qad,qac,qaa]
end Aes
namespace Aes
def wd (ws:List (BitVec 8)) (i j:Nat):BitVec 8:=ws.getD (4*i+j) 0#8
def tw (n:Nat) (c:BitVec 8) (i:Nat) (ws:List (BitVec 8)):R :=
  if i % n=0 then fun j=>BX (wd ws (i - 1) ((j+1) % 4)).toNat ^^^ (if j=0 then c else 0#8)
  else if n=8∧i % 8=4 then fun j=>BX (wd ws (i - 1) j).toNat else fun j=>wd ws (i - 1) j
def nwd (n:Nat) (c:BitVec 8) (i:Nat) (ws:List (BitVec 8)):R:=fun j=>tw n c i ws j ^^^ wd ws (i - n) j
def ext4 (ws:List (BitVec 8)) (w:R):List (BitVec 8):=ws++[w 0,w 1,w 2,w 3]
def kstep (n i:Nat) (p:List (BitVec 8) × BitVec 8):List (BitVec 8) × BitVec 8:=(ext4 p.1 (nwd n p.2 i p.1),if i % n=0 then T2 p.2 else p.2)
def KS (n:Nat) (key:List (BitVec 8)):Nat→List (BitVec 8) × BitVec 8
  | 0=>(key,1#8)
  | m+1=>kstep n (n+m) (KS n key m)
def W (n:Nat) (key:List (BitVec 8)):List (BitVec 8):=(KS n key (3*n+28)).1
theorem qee (n:Nat) (key:List (BitVec 8)) (hk:key.length=4*n):∀ m,(KS n key m).1.length=4*(n+m):=by
  intro m
  induction m with
  | zero=>simpa [KS] using hk
  | succ m ih=>simp only[KS,kstep,ext4,zH,zE,zL,ih]; omega
theorem qgD (n:Nat) (key:List (BitVec 8)) (hk:key.length=4*n):(W n key).length=16*(n+7):=by
  rw[W,qee n key hk]; omega
def fl (l:List (BitVec 8)):R:=fun j=>l.getD j 0#8
end Aes
namespace Aes
open Go Go.LE Tb
theorem mk4 (b l c:Nat) (h1:l≤c) (h2:c < 1048576):mkK b 4 4 [B8 0#8,B8 0#8,B8 0#8,B8 0#8] (some l) (some c)=some ⟨.sl (b,0) 0 l (some c) 4,[bs (List.replicate (4*c) 0#8)],[]⟩:=by
  rw[mkK,if_pos ⟨h1,by omega,by omega,rfl⟩]
  congr 3
  rw[←qeM]
  clear h1 h2
  induction c with
  | zero=>rfl
  | succ c ih =>
    rw[List.replicate_succ,List.flatten_cons,ih,show 4*(c+1)=4*c+1+1+1+1 by omega,List.replicate_succ,List.replicate_succ,List.replicate_succ,List.replicate_succ]
    rfl
theorem aB4_bs (w:R):aB 4 w=bs [w 0,w 1,w 2,w 3]:=rfl
theorem qfb (b i c z:Nat) (H:Heap) (m:Nm) (ws:List (BitVec 8)) (w:R) (hm:H m=some (bs (ws++List.replicate z 0#8))) (hw:ws.length=4*i) (hz:4≤z) (hc:i+1≤c) (hi:i < 1048576) :
    appX b 4 4 1 H [] (aB 4 w) (.sl m 0 i (some c) 4)=some ⟨.sl m 0 (i+1) (some c) 4,[],[(m,some (bs (ext4 ws w++List.replicate (z - 4) 0#8)))]⟩:=by
  rw[appX,if_pos ⟨rfl,by omega,rfl⟩,if_pos hc,hm]
  simp only[qaM,zH,List.length_replicate,hw]
  rw[if_pos (by omega),aB4_bs,qfP]
  congr 6
  have e1:(ws++List.replicate z 0#8).take (0+i*4)=ws:=by
    rw[List.take_append_of_le_length (by omega),List.take_of_length_le (by omega)]
  have e2:(ws++List.replicate z 0#8).drop (0+i*4 + [w 0,w 1,w 2,w 3].length)=List.replicate (z - 4) 0#8:=by
    rw[List.drop_append,List.drop_of_length_le (by simp only[zE,zL]; omega),List.drop_replicate,zI]
    congr 1
    simp only[zE,zL]; omega
  rw[e1,e2,ext4]
theorem take16 (l:List (BitVec 8)) (i:Nat) (h:16*(i+1)≤l.length):l.take (16*i)++(List.range 16).map (kf l i)=l.take (16*(i+1)):=by
  rw[show 16*(i+1)=16*i+16 by omega,List.take_add]
  congr 1
  apply List.ext_getElem
  · simp only[zV,List.length_range,zU,zR]; omega
  · intro j h1 h2
    simp only[zV,List.length_range] at h1
    simp only[List.getElem_map,List.getElem_range,kf,List.getElem_take,List.getElem_drop,List.getD_eq_getElem?_getD]
    rw[List.getElem?_eq_getElem (by omega),Option.getD_some]
    congr 1; omega
end Aes
