/- AES in plain Lean: boxes, products, qff, round keys. No program in sight. -/
import Derived.Test.YtbdjmicabfclcaaGreatDoorLeG
import Derived.Test.YtbdjmicabfclcaaGreatDoorLeT
set_option linter.unusedVariables false
set_option linter.unusedSimpArgs false
open List renaming reduceReplicate → rR
open Nat renaming reduceSubDiff → rS
namespace Aes
abbrev R:=Nat→BitVec 8
def PWl:List (BitVec 8):=[1#8,3#8,5#8,15#8,17#8,51#8,85#8,255#8,26#8,46#8,114#8,150#8,161#8,248#8,19#8,53#8,95#8,225#8,56#8,72#8,216#8,115#8,149#8,164#8,247#8,2#8,6#8,10#8,30#8,34#8,102#8,170#8,229#8,52#8,92#8,228#8,55#8,89#8,235#8,38#8,106#8,190#8,217#8,112#8,144#8,171#8,230#8,49#8,83#8,245#8,4#8,12#8,20#8,60#8,68#8,204#8,79#8,209#8,104#8,184#8,211#8,110#8,178#8,205#8,76#8,212#8,103#8,169#8,224#8,59#8,77#8,215#8,98#8,166#8,241#8,8#8,24#8,40#8,120#8,136#8,131#8,158#8,185#8,208#8,107#8,189#8,220#8,127#8,129#8,152#8,179#8,206#8,73#8,219#8,118#8,154#8,181#8,196#8,87#8,249#8,16#8,48#8,80#8,240#8,11#8,29#8,39#8,105#8,187#8,214#8,97#8,163#8,254#8,25#8,43#8,125#8,135#8,146#8,173#8,236#8,47#8,113#8,147#8,174#8,233#8,32#8,96#8,160#8,251#8,22#8,58#8,78#8,210#8,109#8,183#8,194#8,93#8,231#8,50#8,86#8,250#8,21#8,63#8,65#8,195#8,94#8,226#8,61#8,71#8,201#8,64#8,192#8,91#8,237#8,44#8,116#8,156#8,191#8,218#8,117#8,159#8,186#8,213#8,100#8,172#8,239#8,42#8,126#8,130#8,157#8,188#8,223#8,122#8,142#8,137#8,128#8,155#8,182#8,193#8,88#8,232#8,35#8,101#8,175#8,234#8,37#8,111#8,177#8,200#8,67#8,197#8,84#8,252#8,31#8,33#8,99#8,165#8,244#8,7#8,9#8,27#8,45#8,119#8,153#8,176#8,203#8,70#8,202#8,69#8,207#8,74#8,222#8,121#8,139#8,134#8,145#8,168#8,227#8,62#8,66#8,198#8,81#8,243#8,14#8,18#8,54#8,90#8,238#8,41#8,123#8,141#8,140#8,143#8,138#8,133#8,148#8,167#8,242#8,13#8,23#8,57#8,75#8,221#8,124#8,132#8,151#8,162#8,253#8,28#8,36#8,108#8,180#8,199#8,82#8,246#8,1#8]
def BOXl:List (BitVec 8):=[99#8,124#8,119#8,123#8,242#8,107#8,111#8,197#8,48#8,1#8,103#8,43#8,254#8,215#8,171#8,118#8,202#8,130#8,201#8,125#8,250#8,89#8,71#8,240#8,173#8,212#8,162#8,175#8,156#8,164#8,114#8,192#8,183#8,253#8,147#8,38#8,54#8,63#8,247#8,204#8,52#8,165#8,229#8,241#8,113#8,216#8,49#8,21#8,4#8,199#8,35#8,195#8,24#8,150#8,5#8,154#8,7#8,18#8,128#8,226#8,235#8,39#8,178#8,117#8,9#8,131#8,44#8,26#8,27#8,110#8,90#8,160#8,82#8,59#8,214#8,179#8,41#8,227#8,47#8,132#8,83#8,209#8,0#8,237#8,32#8,252#8,177#8,91#8,106#8,203#8,190#8,57#8,74#8,76#8,88#8,207#8,208#8,239#8,170#8,251#8,67#8,77#8,51#8,133#8,69#8,249#8,2#8,127#8,80#8,60#8,159#8,168#8,81#8,163#8,64#8,143#8,146#8,157#8,56#8,245#8,188#8,182#8,218#8,33#8,16#8,255#8,243#8,210#8,205#8,12#8,19#8,236#8,95#8,151#8,68#8,23#8,196#8,167#8,126#8,61#8,100#8,93#8,25#8,115#8,96#8,129#8,79#8,220#8,34#8,42#8,144#8,136#8,70#8,238#8,184#8,20#8,222#8,94#8,11#8,219#8,224#8,50#8,58#8,10#8,73#8,6#8,36#8,92#8,194#8,211#8,172#8,98#8,145#8,149#8,228#8,121#8,231#8,200#8,55#8,109#8,141#8,213#8,78#8,169#8,108#8,86#8,244#8,234#8,101#8,122#8,174#8,8#8,186#8,120#8,37#8,46#8,28#8,166#8,180#8,198#8,232#8,221#8,116#8,31#8,75#8,189#8,139#8,138#8,112#8,62#8,181#8,102#8,72#8,3#8,246#8,14#8,97#8,53#8,87#8,185#8,134#8,193#8,29#8,158#8,225#8,248#8,152#8,17#8,105#8,217#8,142#8,148#8,155#8,30#8,135#8,233#8,206#8,85#8,40#8,223#8,140#8,161#8,137#8,13#8,191#8,230#8,66#8,104#8,65#8,153#8,45#8,15#8,176#8,84#8,187#8,22#8]
def UNBl:List (BitVec 8):=[82#8,9#8,106#8,213#8,48#8,54#8,165#8,56#8,191#8,64#8,163#8,158#8,129#8,243#8,215#8,251#8,124#8,227#8,57#8,130#8,155#8,47#8,255#8,135#8,52#8,142#8,67#8,68#8,196#8,222#8,233#8,203#8,84#8,123#8,148#8,50#8,166#8,194#8,35#8,61#8,238#8,76#8,149#8,11#8,66#8,250#8,195#8,78#8,8#8,46#8,161#8,102#8,40#8,217#8,36#8,178#8,118#8,91#8,162#8,73#8,109#8,139#8,209#8,37#8,114#8,248#8,246#8,100#8,134#8,104#8,152#8,22#8,212#8,164#8,92#8,204#8,93#8,101#8,182#8,146#8,108#8,112#8,72#8,80#8,253#8,237#8,185#8,218#8,94#8,21#8,70#8,87#8,167#8,141#8,157#8,132#8,144#8,216#8,171#8,0#8,140#8,188#8,211#8,10#8,247#8,228#8,88#8,5#8,184#8,179#8,69#8,6#8,208#8,44#8,30#8,143#8,202#8,63#8,15#8,2#8,193#8,175#8,189#8,3#8,1#8,19#8,138#8,107#8,58#8,145#8,17#8,65#8,79#8,103#8,220#8,234#8,151#8,242#8,207#8,206#8,240#8,180#8,230#8,115#8,150#8,172#8,116#8,34#8,231#8,173#8,53#8,133#8,226#8,249#8,55#8,232#8,28#8,117#8,223#8,110#8,71#8,241#8,26#8,113#8,29#8,41#8,197#8,137#8,111#8,183#8,98#8,14#8,170#8,24#8,190#8,27#8,252#8,86#8,62#8,75#8,198#8,210#8,121#8,32#8,154#8,219#8,192#8,254#8,120#8,205#8,90#8,244#8,31#8,221#8,168#8,51#8,136#8,7#8,199#8,49#8,177#8,18#8,16#8,89#8,39#8,128#8,236#8,95#8,96#8,81#8,127#8,169#8,25#8,181#8,74#8,13#8,45#8,229#8,122#8,159#8,147#8,201#8,156#8,239#8,160#8,224#8,59#8,77#8,174#8,42#8,245#8,176#8,200#8,235#8,187#8,60#8,131#8,83#8,153#8,97#8,23#8,43#8,4#8,126#8,186#8,119#8,214#8,38#8,225#8,105#8,20#8,99#8,85#8,33#8,12#8,125#8]
def PW (i:Nat):BitVec 8:=PWl.getD i 0#8
def BX (i:Nat):BitVec 8:=BOXl.getD i 0#8
def UB (i:Nat):BitVec 8:=UNBl.getD i 0#8
def mul (a b:BitVec 8):BitVec 8:=GF.mul 27#8 a b
theorem ub_bx (x:BitVec 8):UB (BX x.toNat).toNat=x:=by
  revert x; decide +kernel
theorem bx_ub (x:BitVec 8):BX (UB x.toNat).toNat=x:=by
  revert x; decide +kernel
theorem mul_com (a b:BitVec 8):mul a b=mul b a:=GF.qfw _ _ _ (by decide)
theorem mul_ass (a b c:BitVec 8):mul (mul a b) c=mul a (mul b c):=GF.qgB _ _ _ _ (by decide)
def T2 (x:BitVec 8):BitVec 8:=GF.dbl 27#8 x
theorem qgp (x:BitVec 8):mul 2#8 x=T2 x:=by rw[mul_com]; exact GF.mul_two _ _ (by decide)
theorem qgY (x:BitVec 8):mul x 2#8=T2 x:=GF.mul_two _ _ (by decide)
theorem qfJ (x y:BitVec 8):T2 (x ^^^ y)=T2 x ^^^ T2 y:=GF.qgW _ _ _
theorem mul_1 (x:BitVec 8):mul 1#8 x=x:=GF.qgX _ _ (by decide)
theorem lin3 (x:BitVec 8):mul 3#8 x=T2 x ^^^ x:=by
  rw[show (3#8:BitVec 8)=2#8 ^^^ 1#8 from rfl]
  show GF.mul 27#8 (2#8 ^^^ 1#8) x=_
  rw[GF.qdJ]
  show mul 2#8 x ^^^ mul 1#8 x=_
  rw[qgp,mul_1]
def T4 (x:BitVec 8):BitVec 8:=T2 (T2 x)
def T8 (x:BitVec 8):BitVec 8:=T2 (T4 x)
theorem T4_lin (x y:BitVec 8):T4 (x ^^^ y)=T4 x ^^^ T4 y:=by simp only[T4,qfJ]
theorem T8_lin (x y:BitVec 8):T8 (x ^^^ y)=T8 x ^^^ T8 y:=by simp only[T8,T4_lin,qfJ]
theorem mul_4 (x:BitVec 8):mul 4#8 x=T4 x:=by
  rw[show (4#8:BitVec 8)=mul 2#8 2#8 by decide,mul_ass,qgp,qgp]; rfl
theorem mul_8 (x:BitVec 8):mul 8#8 x=T8 x:=by
  rw[show (8#8:BitVec 8)=mul 2#8 4#8 by decide,mul_ass,mul_4,qgp]; rfl
theorem qdJ (a b x:BitVec 8):mul (a ^^^ b) x=mul a x ^^^ mul b x:=GF.qdJ _ _ _ _
theorem lin9 (x:BitVec 8):mul 9#8 x=T8 x ^^^ x:=by
  rw[show (9#8:BitVec 8)=8#8 ^^^ 1#8 from rfl,qdJ,mul_8,mul_1]
theorem lin11 (x:BitVec 8):mul 11#8 x=T8 x ^^^ T2 x ^^^ x:=by
  rw[show (11#8:BitVec 8)=8#8 ^^^ 2#8 ^^^ 1#8 from rfl,qdJ,qdJ,mul_8,qgp,mul_1]
theorem lin13 (x:BitVec 8):mul 13#8 x=T8 x ^^^ T4 x ^^^ x:=by
  rw[show (13#8:BitVec 8)=8#8 ^^^ 4#8 ^^^ 1#8 from rfl,qdJ,qdJ,mul_8,mul_4,mul_1]
theorem lin14 (x:BitVec 8):mul 14#8 x=T8 x ^^^ T4 x ^^^ T2 x:=by
  rw[show (14#8:BitVec 8)=8#8 ^^^ 4#8 ^^^ 2#8 from rfl,qdJ,qdJ,mul_8,mul_4,qgp]
def rnd (s:R):R:=fun i=>BX (s ((i+4*(i % 4)) % 16)).toNat
def qdP (s:R):R:=fun i=>UB (s ((i+12*(i % 4)) % 16)).toNat
def at4 (s:R) (i k:Nat):BitVec 8:=s (4*(i / 4)+(i+k) % 4)
def mix (s:R):R:=fun i=>T2 (at4 s i 0) ^^^ T2 (at4 s i 1) ^^^ at4 s i 1 ^^^ at4 s i 2 ^^^ at4 s i 3
def T9 (x:BitVec 8):BitVec 8:=T8 x ^^^ x
def T11 (x:BitVec 8):BitVec 8:=T8 x ^^^ T2 x ^^^ x
def T13 (x:BitVec 8):BitVec 8:=T8 x ^^^ T4 x ^^^ x
def T14 (x:BitVec 8):BitVec 8:=T8 x ^^^ T4 x ^^^ T2 x
def qcD (s:R):R:=fun i=>T14 (at4 s i 0) ^^^ T11 (at4 s i 1) ^^^ T13 (at4 s i 2) ^^^ T9 (at4 s i 3)
def add (s k:R):R:=fun i=>s i ^^^ k i
def E16 (s t:R):Prop := ∀ i,i < 16→s i=t i
theorem E16.refl (s:R):E16 s s:=fun _ _=>rfl
theorem E16.symm {s t:R} (h:E16 s t):E16 t s:=fun i hi=>(h i hi).symm
theorem E16.trans {s t u:R} (h:E16 s t) (h':E16 t u):E16 s u:=fun i hi=>(h i hi).trans (h' i hi)
theorem rnd_c {s t:R} (h:E16 s t):E16 (rnd s) (rnd t):=fun i _=>by simp only[rnd]; rw[h _ (Nat.mod_lt _ (by decide))]
theorem unrnd_c {s t:R} (h:E16 s t):E16 (qdP s) (qdP t):=fun i _=>by simp only[qdP]; rw[h _ (Nat.mod_lt _ (by decide))]
theorem at4_c {s t:R} (h:E16 s t) (i k:Nat) (hi:i < 16):at4 s i k=at4 t i k:=h _ (by omega)
theorem mix_c {s t:R} (h:E16 s t):E16 (mix s) (mix t):=fun i hi=>by simp only[mix,at4_c h _ _ hi]
theorem unmix_c {s t:R} (h:E16 s t):E16 (qcD s) (qcD t):=fun i hi=>by simp only[qcD,at4_c h _ _ hi]
theorem qeV {s t:R} (h:E16 s t) (k:R):E16 (add s k) (add t k):=fun i hi=>by simp only[add,h i hi]
theorem unrnd_rnd (s:R):E16 (qdP (rnd s)) s:=by
  intro i hi
  simp only[qdP,rnd,ub_bx]
  congr 1; omega
theorem rnd_unrnd (s:R):E16 (rnd (qdP s)) s:=by
  intro i hi
  simp only[qdP,rnd,bx_ub]
  congr 1; omega
theorem qf8 (s k:R):add (add s k) k=s:=by
  funext i; simp only[add]; rw[BitVec.xor_assoc,BitVec.xor_self,BitVec.xor_zero]
theorem at4_move (s:R) (i j k:Nat):at4 s (4*(i / 4)+(i+j) % 4) k=at4 s i ((j+k) % 4):=by
  simp only[at4]
  congr 1; omega
theorem unmix_mix (s:R):qcD (mix s)=fun i=>at4 s i 0:=by
  funext i
  simp only[qcD]
  have h:∀ k,at4 (mix s) i k=T2 (at4 s i (k % 4)) ^^^ T2 (at4 s i ((k+1) % 4)) ^^^ at4 s i ((k+1) % 4) ^^^ at4 s i ((k+2) % 4) ^^^ at4 s i ((k+3) % 4):=by
    intro k
    show mix s (4*(i / 4)+(i+k) % 4)=_
    simp only[mix,at4_move,zY]
  rw[h,h,h,h]
  simp only[Nat.reduceMod,Nat.reduceAdd]
  generalize at4 s i 0=w; generalize at4 s i 1=x; generalize at4 s i 2=y; generalize at4 s i 3=z
  simp only[T14,T11,T13,T9,T8_lin,T4_lin,qfJ]
  have e1:∀ a,T4 (T2 a)=T8 a:=fun a=>rfl
  have e2:∀ a,T2 (T2 a)=T4 a:=fun a=>rfl
  simp only[e1,e2]
  have e3:∀ a,T8 (T2 a)=T4 (T4 a):=fun a=>rfl
  simp only[e3]
  generalize T4 (T4 w)=w16; generalize T4 (T4 x)=x16; generalize T4 (T4 y)=y16; generalize T4 (T4 z)=z16
  generalize T8 w=w8; generalize T8 x=x8; generalize T8 y=y8; generalize T8 z=z8
  generalize T4 w=w4; generalize T4 x=x4; generalize T4 y=y4; generalize T4 z=z4
  generalize T2 w=w2; generalize T2 x=x2; generalize T2 y=y2; generalize T2 z=z2
  have hc:∀ a b c:BitVec 8,a ^^^ (b ^^^ c)=b ^^^ (a ^^^ c):=fun a b c=>by rw[←BitVec.xor_assoc,BitVec.xor_comm a b,BitVec.xor_assoc]
  simp only[BitVec.xor_assoc,BitVec.xor_comm,hc,GF.qdu,BitVec.xor_self,BitVec.xor_zero,BitVec.zero_xor]
end Aes
namespace Aes
open Go Go.LE Tb
theorem twice (k:Nat) (a:BitVec 8):F C (k+1) 99 [B8 a] []=some (B8 (if 128#8≤a then (a <<< 1) ^^^ 27#8 else a <<< 1),[],[]):=by
  rw[qaL f99]
  by_cases h:128#8≤a
  · simp (disch:=first|omega|decide|simp only[nmsB,lB]) only[simprocAttr,-rR,-rS,leB,memB,numB,qaf,L99,h,decide_true,zF,qae,qac,qad,qab,qaa]
  · simp (disch:=first|omega|decide|simp only[nmsB,lB]) only[simprocAttr,-rR,-rS,leB,memB,numB,qaf,L99,h,decide_false,zL,qae,qac,qad,qab,qaa]
theorem twice_gf (k:Nat) (a:BitVec 8):F C (k+1) 99 [B8 a] []=some (B8 (GF.dbl 27#8 a),[],[]):=by
  rw[twice]
  congr 3
  revert a
  decide
def mst (x0 x1 x5:BitVec 8) (H:Heap):St:=⟨[B8 x0,B8 x1,.undef,.undef,.undef,B8 x5,.undef,.undef,.undef,.undef,.undef,.undef,.undef,.undef,.undef,.undef,.undef,.undef,.undef],H,2,0⟩
theorem mul_loop (k K:Nat):∀ (n m:Nat) (st:St) (x0 x1 x5:BitVec 8) (H:Heap),qaT L79k0 st=mst x0 x1 x5 H→x1.toNat < 2 ^ n →
    ∃ y H' z, qaP L79k0 (ev (envC C (k + 1)) K L79b0) (m + n + 1) st =
      some (.exit 0,⟨[B8 y,B8 z,.undef,.undef,.undef,B8 (x5 ^^^ GF.mul 27#8 x0 x1),B8 z,Bo false,.undef,.undef,.undef,.undef,.undef,.undef,.undef,.undef,.undef,.undef,.undef],H',4,0⟩):=by
  intro n
  induction n with
  | zero =>
    intro m st x0 x1 x5 H hc hx
    have h0:x1=0#8:=by apply BitVec.eq_of_toNat_eq; simp at hx ⊢; omega
    subst h0
    refine ⟨x0,H,0#8,?_⟩
    rw[GF.qc7]
    refine qhe hc ?_
    simp (disch:=first|omega|decide|simp only[nmsB,lB]) only[simprocAttr,-rR,-rS,leB,memB,numB,qaf,L79b0,mst,decide_false,zL,reduceIte,BitVec.xor_zero,show ¬ (0#8 < 0#8) by decide,qae,qac,qad,qab,qaa]
  | succ n ih =>
    intro m st x0 x1 x5 H hc hx
    by_cases h:0#8 < x1
    · rw [GF.mul_step _ _ _ (by decide), ← BitVec.xor_assoc]
      have hx':(x1 >>> 1).toNat < 2 ^ n:=by
        rw[BitVec.toNat_ushiftRight,Nat.shiftRight_eq_div_pow]
        rw[Nat.pow_succ] at hx
        omega
      by_cases h1:x1 &&& 1#8=1#8
      · rw [if_pos h1]
        have hr:∃ st1,ev (envC C (k+1)) K L79b0 (mst x0 x1 x5 H)=some (.normal,st1)∧qaT L79k0 st1=mst (GF.dbl 27#8 x0) (x1 >>> 1) (x5 ^^^ x0) (cH H):=by
          apply Exists.intro
          apply And.intro
          · simp (disch := first | omega | decide | simp only [nmsB, lB]) only [simprocAttr, -rR, -rS, leB, memB, numB, qaf, L79b0, mst, h, decide_true, zF, h1, beq_self_eq_true, twice_gf, reduceIte, Nat.one_ne_zero, qae, qac, qad, qab, qaa]
            rfl
          · exact qfB rfl rfl rfl
        obtain ⟨st1,hr1,hr2⟩:=hr
        obtain ⟨y,H',z,e⟩:=ih (m:=m) st1 _ _ _ _ hr2 hx'
        refine ⟨y,H',z,?_⟩
        rw[←e]
        exact qhd hc hr1
      · rw [if_neg h1, BitVec.xor_zero]
        have h1':(x1 &&& 1#8 == 1#8)=false:=by simpa using h1
        have hr:∃ st1,ev (envC C (k+1)) K L79b0 (mst x0 x1 x5 H)=some (.normal,st1)∧qaT L79k0 st1=mst (GF.dbl 27#8 x0) (x1 >>> 1) x5 (cH H):=by
          apply Exists.intro
          apply And.intro
          · simp (disch := first | omega | decide | simp only [nmsB, lB]) only [simprocAttr, -rR, -rS, leB, memB, numB, qaf, L79b0, mst, h, decide_true, zF, h1', twice_gf, reduceIte, Nat.one_ne_zero, qae, qac, qad, qab, qaa]
            rfl
          · exact qfB rfl rfl rfl
        obtain ⟨st1,hr1,hr2⟩:=hr
        obtain ⟨y,H',z,e⟩:=ih (m:=m) st1 _ _ _ _ hr2 hx'
        refine ⟨y,H',z,?_⟩
        rw[←e]
        exact qhd hc hr1
    · have h0:x1=0#8:=by
        apply BitVec.eq_of_toNat_eq
        rw[BitVec.lt_def] at h
        simp at h ⊢; omega
      subst h0
      refine ⟨x0,H,0#8,?_⟩
      rw[GF.qc7]
      refine qhe hc ?_
      simp (disch:=first|omega|decide|simp only[nmsB,lB]) only[simprocAttr,-rR,-rS,leB,memB,numB,qaf,L79b0,mst,decide_false,zL,reduceIte,BitVec.xor_zero,show ¬ (0#8 < 0#8) by decide,qae,qac,qad,qab,qaa]
theorem mul_F (k:Nat) (a b:BitVec 8):F C (k+10) 79 [B8 a,B8 b] []=some (B8 (GF.mul 27#8 a b),[],[]):=by
  rw[qaL f79]
  have hl : ∀ (st : St) (H : Heap), qaT L79k0 st = mst a b 0#8 H → ∃ y H' z, qaP L79k0 (ev (envC C (k + 9)) (k + 9) L79b0) (k + 9) st =
      some (.exit 0,⟨[B8 y,B8 z,.undef,.undef,.undef,B8 (0#8 ^^^ GF.mul 27#8 a b),B8 z,Bo false,.undef,.undef,.undef,.undef,.undef,.undef,.undef,.undef,.undef,.undef,.undef],H',4,0⟩):=fun st H h=>mul_loop (k+8) (k+9) 8 k st a b 0#8 H h b.isLt
  simp (disch:=first|omega|decide|simp only[nmsB,lB]) only[simprocAttr,-rR,-rS,leB,memB,numB,qaf,L79,qae,qac,qad,qab,qaa]
  obtain ⟨y,H',z,e⟩:=hl ⟨[B8 a,B8 b,Un,Un,B8 0#8,B8 0#8,Un,Un,Un,Un,Un,Un,Un,Un,Un,Un,Un,Un,Un],qaZ [],4,0⟩ (cH (qaZ [])) (qfB rfl rfl rfl)
  rw[e]
  simp (disch:=first|omega|decide|simp only[nmsB,lB]) only[simprocAttr,-rR,-rS,leB,memB,numB,qaf,reduceIte,BitVec.zero_xor,qae,qac,qad,qab,qaa]
def rot (a:BitVec 8) (n:Nat):BitVec 8:=(a <<< n) ||| (a >>> (8 - n))
theorem rot1 (k:Nat) (a:BitVec 8):F C (k+1) 98 [B8 a,N 1] []=some (B8 (rot a 1),[],[]):=by rw[qaL f98]; simp (disch:=first|omega|decide|simp only[nmsB,lB]) only[simprocAttr,-rR,-rS,leB,memB,numB,qaf,L98,qae,qac,qad,qab,qaa]; rfl
theorem rot2 (k:Nat) (a:BitVec 8):F C (k+1) 98 [B8 a,N 2] []=some (B8 (rot a 2),[],[]):=by rw[qaL f98]; simp (disch:=first|omega|decide|simp only[nmsB,lB]) only[simprocAttr,-rR,-rS,leB,memB,numB,qaf,L98,qae,qac,qad,qab,qaa]; rfl
theorem rot3 (k:Nat) (a:BitVec 8):F C (k+1) 98 [B8 a,N 3] []=some (B8 (rot a 3),[],[]):=by rw[qaL f98]; simp (disch:=first|omega|decide|simp only[nmsB,lB]) only[simprocAttr,-rR,-rS,leB,memB,numB,qaf,L98,qae,qac,qad,qab,qaa]; rfl
theorem rot4 (k:Nat) (a:BitVec 8):F C (k+1) 98 [B8 a,N 4] []=some (B8 (rot a 4),[],[]):=by rw[qaL f98]; simp (disch:=first|omega|decide|simp only[nmsB,lB]) only[simprocAttr,-rR,-rS,leB,memB,numB,qaf,L98,qae,qac,qad,qab,qaa]; rfl
theorem box0_F (k:Nat):F C (k+30) 97 [B8 0#8] []=some (B8 99#8,[],[]):=by kernel_rfl
def trn (b:BitVec 8):BitVec 8:=b ^^^ rot b 1 ^^^ rot b 2 ^^^ rot b 3 ^^^ rot b 4 ^^^ 99#8
end Aes
namespace Aes
open Go Go.LE Tb
set_option maxHeartbeats 0 in
theorem turned_F (k:Nat) (a:BitVec 8):F C (k+20) 87 [B8 a] []=some (B8 (trn a),[],[]):=by
  rw[qaL f87]
  simp (maxSteps:=100000000) only[simprocAttr,-rR,-rS,leB,numB,L87,unB,L87k1,L87b1,L87k0,L87b0,qae]
  congr 3
  revert a
  decide +kernel
end Aes
namespace Aes
open Go Go.LE Tb
def IB (x:BitVec 32):LV:=N x.toNat
theorem IB_xor (e:EqT) (x y:BitVec 32):binV .xor e (IB x) (IB y)=some (IB (x ^^^ y)):=by
  simp only[IB]
  rw[N_xor _ _ _ (by have:=x.isLt; omega) (by have:=y.isLt; omega),BitVec.toNat_xor]
theorem IB_shr (e:EqT) (x:BitVec 32) (i:Nat) (h:i < 64):binV .shr e (IB x) (N i)=some (IB (x >>> i)):=by
  unfold IB
  rw[N_shr (hb:=h),BitVec.toNat_ushiftRight,Nat.shiftRight_eq_div_pow]
theorem IB_rem2 (e:EqT) (x:BitVec 32):binV .rem e (IB x) (N 2)=some (IB (x % 2#32)):=by
  unfold IB
  rw[N_rem (hb:=by decide)]; rfl
theorem IB_eq1 (e:EqT) (x:BitVec 32):binV .eql e (IB x) (N 1)=some (Bo (x == 1#32)):=by
  unfold IB
  rw[N_eql]
  congr 2
  rw[Bool.eq_iff_iff]
  simp only[beq_iff_eq,decide_eq_true_eq]
  constructor
  · intro h; apply BitVec.eq_of_toNat_eq; simpa using h
  · intro h; rw[h]; rfl
theorem IB_shl8 (e:EqT) (a:BitVec 8) (i:Nat) (h:i < 8):binV .shl e (N a.toNat) (N i)=some (IB (a.setWidth 32 <<< i)):=by
  have ha:=a.isLt
  have h2:a.toNat*2 ^ i < 2 ^ 8*2 ^ 8:=by
    have:2 ^ i≤2 ^ 8:=Nat.pow_le_pow_right (by decide) (by omega)
    calc a.toNat * 2 ^ i ≤ a.toNat * 2 ^ 8 := Nat.mul_le_mul_left _ this
      _ < 2 ^ 8*2 ^ 8:=Nat.mul_lt_mul_of_pos_right ha (by decide)
  rw[N_shl (hb:=by omega) (h:=by omega)]
  unfold IB
  congr 2
  rw[BitVec.toNat_shiftLeft,BitVec.toNat_setWidth,Nat.shiftLeft_eq,Nat.mod_eq_of_lt (a:=a.toNat) (by omega),Nat.mod_eq_of_lt (by omega)]
theorem IB_283 (e:EqT) (j:Nat) (h:j < 7):binV .shl e (N 283) (N j)=some (IB (283#32 <<< j)):=by
  have:j=0∨j=1∨j=2∨j=3∨j=4∨j=5∨j=6:=by omega
  rcases this with rfl | rfl | rfl | rfl | rfl | rfl | rfl <;> rfl
theorem cvt_IB (x:BitVec 32):cvtV .u8 (IB x)=some (B8 (x.setWidth 8)):=by
  unfold IB
  rw[cvt_N_8,BitVec.ofNat_toNat]
def rtm (a b:BitVec 8) (i:Nat) (p:BitVec 32):BitVec 32:=if (b >>> i) % 2#8=1#8 then p ^^^ (a.setWidth 32 <<< i) else p
def rsum (a b:BitVec 8):Nat→BitVec 32
  | 0=>0#32
  | n+1=>rtm a b n (rsum a b n)
def rmd (i:Nat) (p:BitVec 32):BitVec 32:=if (p >>> (14 - i)) % 2#32=1#32 then p ^^^ (283#32 <<< (6 - i)) else p
def rmod (p:BitVec 32):Nat→BitVec 32
  | 0=>p
  | n+1=>rmd n (rmod p n)
def rJ1 (a b:BitVec 8) (p:BitVec 32) (i:Nat) (st:St):Prop := ∃ (H:Heap),st=⟨[B8 a,B8 b,.undef,.undef,.undef,IB p,N i,.undef,.undef,.undef,.undef,.undef,.undef,.undef,.undef,.undef,.undef,.undef,.undef,.undef,.undef,.undef,.undef,.undef,.undef,.undef,.undef,.undef,.undef,.undef,.undef,.undef,.undef,.undef,.undef,.undef,.undef,.undef,.undef],H,2,0⟩
def rJ2 (p:BitVec 32) (i:Nat) (st:St):Prop := ∃ (H:Heap),st=⟨[.undef,.undef,.undef,.undef,.undef,IB p,.undef,N (14 - i),.undef,.undef,.undef,.undef,.undef,.undef,.undef,.undef,.undef,.undef,.undef,.undef,.undef,.undef,.undef,.undef,.undef,.undef,.undef,.undef,.undef,.undef,.undef,.undef,.undef,.undef,.undef,.undef,.undef,.undef,.undef],H,2,0⟩
def rmul (a b:BitVec 8):BitVec 8:=(rmod (rsum a b 8) 7).setWidth 8
theorem rmul_F (k:Nat) (a b:BitVec 8):F C (k+11) 68 [B8 a,B8 b] []=some (B8 (rmul a b),[],[]):=by
  rw[qaL f68]
  simp (disch:=first|omega|decide|simp only[nmsB,lB]) only[simprocAttr,-rR,-rS,leB,memB,numB,qaf,L68,qae,qac,qad,qab,qaa]
  generalize hL:qaP L68k1 _ _ _=r
  refine qaK hL (fun i st=>rJ1 a b (rsum a b i) i st) 8 (by omega) ?_ ?_ ?_ ?_
  · rintro i st hi ⟨H, rfl⟩
    by_cases hb:(b >>> i) % 2#8=1#8
    · have hb2 : (((b >>> i) % 2#8) == 1#8) = true := by simpa using hb
      apply Exists.intro
      apply And.intro
      · simp (disch := first | omega | decide | simp only [nmsB, lB]) only [simprocAttr, -rR, -rS, leB, memB, numB, qaf, L68b1, hi, hb2, I_N, IB_shl8 _ a i hi, IB_xor, qae, qac, qad, qab, qaa]
        rfl
      · show rJ1 a b (rsum a b (i+1)) (i+1) _; rw[rsum,rtm,if_pos hb]; exact qal [] rfl rfl rfl ⟨_,rfl⟩
    · have hb2 : (((b >>> i) % 2#8) == 1#8) = false := by simpa using hb
      apply Exists.intro
      apply And.intro
      · simp (disch := first | omega | decide | simp only [nmsB, lB]) only [simprocAttr, -rR, -rS, leB, memB, numB, qaf, L68b1, hi, hb2, I_N, qae, qac, qad, qab, qaa]
        rfl
      · show rJ1 a b (rsum a b (i+1)) (i+1) _; rw[rsum,rtm,if_neg hb]; exact qal [] rfl rfl rfl ⟨_,rfl⟩
  · exact qal [] rfl rfl rfl ⟨_,rfl⟩
  · rintro st ⟨H, rfl⟩
    apply qaG
    simp (disch:=first|omega|decide|simp only[nmsB,lB]) only[simprocAttr,-rR,-rS,leB,memB,numB,qaf,L68b1,qae,qac,qad,qab,qaa]
    rfl
  · rintro st ⟨H, rfl⟩ rfl
    simp (disch:=first|omega|decide|simp only[nmsB,lB]) only[simprocAttr,-rR,-rS,leB,memB,numB,qaf,L68b1,qae,qac,qad,qab,qaa]
    generalize hp:rsum a b 8=p
    generalize hL:qaP L68k0 _ _ _=r
    refine qaK hL (fun i st=>rJ2 (rmod p i) i st) 7 (by omega) ?_ ?_ ?_ ?_
    · rintro i st hi ⟨H, rfl⟩
      have h8:8≤14 - i:=by omega
      have e1:14 - i - 8=6 - i:=by omega
      have e2:14 - i - 1=14 - (i+1):=by omega
      by_cases hb:(rmod p i >>> (14 - i)) % 2#32=1#32
      · have hb2 : ((rmod p i >>> (14 - i)) % 2#32 == 1#32) = true := by simpa using hb
        apply Exists.intro
        apply And.intro
        · simp (disch := first | omega | decide | simp only [nmsB, lB]) only [simprocAttr, -rR, -rS, leB, memB, numB, qaf, L68b0, IB_shr, IB_rem2, IB_eq1, hb2, h8, e1, e2, IB_283 _ (6 - i) (by omega), IB_xor, qae, qac, qad, qab, qaa]
          rfl
        · show rJ2 (rmod p (i+1)) (i+1) _; rw[rmod,rmd,if_pos hb]; exact qal [] rfl rfl rfl ⟨_,rfl⟩
      · have hb2 : ((rmod p i >>> (14 - i)) % 2#32 == 1#32) = false := by simpa using hb
        apply Exists.intro
        apply And.intro
        · simp (disch := first | omega | decide | simp only [nmsB, lB]) only [simprocAttr, -rR, -rS, leB, memB, numB, qaf, L68b0, IB_shr, IB_rem2, IB_eq1, hb2, h8, e1, e2, qae, qac, qad, qab, qaa]
          rfl
        · show rJ2 (rmod p (i+1)) (i+1) _; rw[rmod,rmd,if_neg hb]; exact qal [] rfl rfl rfl ⟨_,rfl⟩
    · exact qal [] rfl rfl rfl ⟨_,rfl⟩
    · rintro st ⟨H, rfl⟩
      apply qaG
      simp (disch:=first|omega|decide|simp only[nmsB,lB]) only[simprocAttr,-rR,-rS,leB,memB,numB,qaf,L68b0,qae,qac,qad,qab,qaa]
      rfl
    · rintro st ⟨H, rfl⟩ rfl
      simp (disch:=first|omega|decide|simp only[nmsB,lB]) only[simprocAttr,-rR,-rS,leB,memB,numB,qaf,L68b0,cvt_IB,qae,qac,qad,qab,qaa]
      rw[rmul,hp]
theorem bit_iff (p:BitVec 32) (m:Nat):((p >>> m) % 2#32=1#32)↔p.getLsbD m=true:=by
  rw[←BitVec.toNat_inj,BitVec.toNat_umod,BitVec.toNat_ushiftRight,BitVec.getLsbD,Nat.testBit_eq_decide_div_mod_eq,Nat.shiftRight_eq_div_pow]
  simp
theorem bit8_iff (p:BitVec 8) (m:Nat):((p >>> m) % 2#8=1#8)↔p.getLsbD m=true:=by
  rw[←BitVec.toNat_inj,BitVec.toNat_umod,BitVec.toNat_ushiftRight,BitVec.getLsbD,Nat.testBit_eq_decide_div_mod_eq,Nat.shiftRight_eq_div_pow]
  simp
theorem rmd_eq (n:Nat) (p:BitVec 32):rmd n p=p ^^^ (if p.getLsbD (14 - n)=true then 283#32 <<< (6 - n) else 0#32):=by
  rw[rmd]
  by_cases h:p.getLsbD (14 - n)=true
  · rw[if_pos h,if_pos ((bit_iff _ _).2 h)]
  · rw[if_neg h,if_neg (fun h'=>h ((bit_iff _ _).1 h')),BitVec.xor_zero]
theorem ite_xor32 (x y:Bool) (c:BitVec 32):(if (x ^^ y)=true then c else 0#32)=(if x=true then c else 0#32) ^^^ (if y=true then c else 0#32):=by
  cases x <;> cases y <;> simp
theorem rmod_xor (p q:BitVec 32):∀ (n:Nat),rmod (p ^^^ q) n=rmod p n ^^^ rmod q n:=by
  intro n
  induction n with
  | zero=>rfl
  | succ n ih=>rw[rmod,rmod,rmod,ih,rmd_eq,rmd_eq,rmd_eq,BitVec.getLsbD_xor,ite_xor32,GF.xor4]
def red (p:BitVec 32):BitVec 8:=(rmod p 7).setWidth 8
theorem red_xor (p q:BitVec 32):red (p ^^^ q)=red p ^^^ red q:=by
  unfold red; rw[rmod_xor,BitVec.setWidth_xor]
theorem red_zero:red 0#32=0#8:=by decide
theorem red_shift (a:BitVec 8) (i:Fin 8):red (a.setWidth 32 <<< i.val)=GF.dblN 27#8 i.val a:=by
  revert a i
  decide +kernel
theorem red_rsum (a b:BitVec 8):∀ (n:Nat),n≤8→red (rsum a b n)=GF.qch (fun i=>b.getLsbD i) (fun i=>GF.dblN 27#8 i a) n:=by
  intro n
  induction n with
  | zero=>intro _; exact red_zero
  | succ n ih =>
    intro hi
    rw[rsum,rtm,GF.qch,←ih (by omega)]
    by_cases h:b.getLsbD n=true
    · rw[if_pos ((bit8_iff _ _).2 h),if_pos h,red_xor,red_shift a ⟨n,by omega⟩]
    · rw[if_neg (fun h'=>h ((bit8_iff _ _).1 h')),if_neg h,BitVec.xor_zero]
theorem rmul_eq (a b:BitVec 8):rmul a b=mul a b:=red_rsum a b 8 (by decide)
theorem rmulF (k:Nat) (a b:BitVec 8):F C (k+11) 68 [B8 a,B8 b] []=some (B8 (mul a b),[],[]):=by rw[rmul_F,rmul_eq]
theorem mulF (k:Nat) (a b:BitVec 8):F C (k+10) 79 [B8 a,B8 b] []=some (B8 (mul a b),[],[]):=mul_F k a b
end Aes
namespace Aes
open Go Go.LE Tb
def CF (r:LV) (f:R):qan:=r::aB 1792 f
theorem qgC (r:LV) (f:R):(CF r f).length=1793:=by simp[CF,qbB]
theorem CF_k (r:LV) (f:R):qbc 0 1 (some (CF r f))=some [r]:=by
  rw[qbP,if_pos (by rw[qgC]; decide)]; rfl
theorem CF_at (r:LV) (f:R) (o:Nat) (h:o < 1792):qbc (o+1) 1 (some (CF r f))=some [B8 (f o)]:=by
  have:=qf3 1792 f o h
  rw[qbP,if_pos (by rw[qbB]; omega)] at this
  rw[qbP,if_pos (by rw[qgC]; omega),CF,zd]
  exact this
theorem qgq (r:LV) (f:R) (o p:Nat) (h0:o=p+1) (h:p < 1792):qbc o 1 (some (CF r f))=some [B8 (f p)]:=by subst h0; exact CF_at r f p h
theorem CF_st (r:LV) (f:R) (m:Nm) (o:Nat) (x:BitVec 8) (h0:0 < o) (h:o < 1793):stK 1 o m (some [B8 x]) (some (CF r f))=some ⟨Un,[],[(m,some (CF r (set1 f (o - 1) x)))]⟩:=by
  obtain ⟨p,rfl⟩:∃ p,o=p+1:=⟨o - 1,by omega⟩
  have:=aB_st p 1792 m x f (by omega)
  rw[qc3,if_pos ⟨rfl,by rw[qbB]; omega,rfl⟩] at this
  rw[qc3,if_pos ⟨rfl,by rw[qgC]; omega,rfl⟩]
  have e:qbk (aB 1792 f) p [B8 x]=aB 1792 (set1 f p x):=by simpa using this
  have e2:qbk (CF r f) (p+1) [B8 x]=r::qbk (aB 1792 f) p [B8 x]:=by
    simp only[qbk,CF,zi,zQ,zH,zM,zO]
    rw[Nat.add_right_comm,zd]
  rw[e2,e]; rfl
theorem qa5 (r:LV) (f:R):(CF r f).flatMap (nms D)=nms D r:=by
  rw[CF,zI,qaD,zD]
theorem qa4 (π:Nm→Option Nm) (r:LV) (f:R):(CF r f).map (ren D π)=CF (ren D π r) f:=by
  rw[CF,zA,qap,CF]
theorem CF_congr (r:LV) {f g:R} (h:∀ i,i < 1792→f i=g i):CF r f=CF r g:=by rw[CF,CF,qbR _ h]
def LGl:List Nat:=[0,0,25,1,50,2,26,198,75,199,27,104,51,238,223,3,100,4,224,14,52,141,129,239,76,113,8,200,248,105,28,193,125,194,29,181,249,185,39,106,77,228,166,114,154,201,9,120,101,47,138,5,33,15,225,36,18,240,130,69,53,147,218,142,150,143,219,189,54,208,206,148,19,92,210,241,64,70,131,56,102,221,253,48,191,6,139,98,179,37,226,152,34,136,145,16,126,110,72,195,163,182,30,66,58,107,40,84,250,133,61,186,43,121,10,21,155,159,94,202,78,212,172,229,243,115,167,87,175,88,168,80,244,234,214,116,79,174,233,213,231,230,173,232,44,215,117,122,235,22,11,245,89,203,95,176,156,169,81,160,127,12,246,111,23,196,73,236,216,67,31,45,164,118,123,183,204,187,62,90,251,96,177,134,59,82,161,108,170,85,41,157,151,178,135,144,97,190,220,252,188,149,207,205,55,63,91,209,83,57,132,60,65,162,109,71,20,42,158,93,86,242,211,171,68,17,146,217,35,32,46,137,180,124,184,38,119,153,227,165,103,74,237,222,197,49,254,24,13,99,140,128,192,247,112,7]
def LG (i:Nat):Nat:=LGl.getD i 0
def TB:R:=fun j=>if j < 256 then BX j else if j < 512 then UB (j - 256) else if j < 768 then T2 (BitVec.ofNat 8 j) else if j < 1024 then T9 (BitVec.ofNat 8 j)
  else if j < 1280 then T11 (BitVec.ofNat 8 j) else if j < 1536 then T13 (BitVec.ofNat 8 j) else T14 (BitVec.ofNat 8 j)
theorem pw_mul:∀ i:Fin 255,mul (PW i.val) 3#8=PW (i.val+1):=by decide +kernel
theorem lg_pw:∀ i:Fin 255,LG (PW i.val).toNat=i.val:=by decide +kernel
theorem pw_lg:∀ j:Fin 256,j.val=0∨PW (LG j.val)=BitVec.ofNat 8 j.val:=by decide +kernel
theorem lg_lt:∀ j:Fin 256,LG j.val < 255:=by decide +kernel
def xb (b:BitVec 8):BitVec 8:=99#8 ^^^ b ^^^ rot b 1 ^^^ rot b 2 ^^^ rot b 3 ^^^ rot b 4
theorem xb_pw:∀ i:Fin 255,xb (PW (255 - i.val))=BX (PW i.val).toNat:=by decide +kernel
def don (i a:Nat):Bool:=decide (a=0∨LG a < i)
theorem don_succ (i a:Nat) (hi:i < 255) (ha:a < 256):don (i+1) a=(decide (a=(PW i).toNat) || don i a):=by
  rw[don,don,Bool.eq_iff_iff]
  simp only[decide_eq_true_eq,Bool.or_eq_true]
  have h1:=lg_pw ⟨i,hi⟩
  have h2:=pw_lg ⟨a,ha⟩
  simp only at h1 h2
  constructor
  · rintro (h | h)
    · exact Or.inr (Or.inl h)
    · by_cases h3 : LG a < i
      · exact Or.inr (Or.inr h3)
      · have h4 : LG a = i := by omega
        rcases h2 with h2 | h2
        · exact Or.inr (Or.inl h2)
        · left
          rw[←h4,h2,BitVec.toNat_ofNat]; omega
  · rintro (h | h | h)
    · right; rw[h,h1]; omega
    · exact Or.inl h
    · exact Or.inr (by omega)
theorem don_all (a:Nat) (ha:a < 256):don 255 a=true:=by
  have:=lg_lt ⟨a,ha⟩
  simp only[don,decide_eq_true_eq]; exact Or.inr this
def bxT (i:Nat):R:=fun j=>if j < 256 then (if don i j=true then BX j else 0#8) else if j < 512 then (if don i (UB (j - 256)).toNat=true then UB (j - 256) else 0#8) else 0#8
theorem ub_lt (k:Nat):(UB k).toNat < 256:=(UB k).isLt
theorem bx_lt (k:Nat):(BX k).toNat < 256:=(BX k).isLt
theorem ub_bxN (k:Nat) (h:k < 256):UB (BX k).toNat=BitVec.ofNat 8 k:=by
  have:=ub_bx (BitVec.ofNat 8 k)
  rwa [BitVec.toNat_ofNat,Nat.mod_eq_of_lt h] at this
theorem bx_ubN (k:Nat) (h:k < 256):BX (UB k).toNat=BitVec.ofNat 8 k:=by
  have:=bx_ub (BitVec.ofNat 8 k)
  rwa [BitVec.toNat_ofNat,Nat.mod_eq_of_lt h] at this
theorem bxT_0:bxT 0=set1 (set1 (fun _=>0#8) 0 99#8) 355 0#8:=by
  funext j
  simp only[bxT,don,Nat.not_lt_zero,zV,decide_eq_true_eq,set1]
  by_cases h:j=355
  · subst h; decide
  · rw [if_neg h]
    by_cases h0:j=0
    · subst h0; decide
    · rw [if_neg h0]
      split
      · rfl
      · rename_i h1
        split
        · split
          · rename_i h2 h3
            exact BitVec.eq_of_toNat_eq h3
          · rfl
        · rfl
theorem bxT_succ (i:Nat) (hi:i < 255):bxT (i+1)=set1 (set1 (bxT i) (PW i).toNat (BX (PW i).toNat)) (256+(BX (PW i).toNat).toNat) (PW i):=by
  have hp:(PW i).toNat < 256:=(PW i).isLt
  have hb:=bx_lt (PW i).toNat
  funext j
  simp only[bxT,set1]
  by_cases h1:j < 256
  · rw [if_pos h1, if_pos h1, if_neg (show ¬ j = 256 + (BX (PW i).toNat).toNat by omega), don_succ i j hi h1]
    by_cases h2:j=(PW i).toNat
    · rw[if_pos h2,if_pos (by rw[decide_eq_true h2] <;> rfl),h2]
    · rw[if_neg h2,decide_eq_false h2,Bool.false_or]
  · rw [if_neg h1, if_neg h1, if_neg (show ¬ j = (PW i).toNat by omega)]
    by_cases h3:j < 512
    · rw [if_pos h3, if_pos h3, don_succ i _ hi (ub_lt _)]
      by_cases h2:j=256+(BX (PW i).toNat).toNat
      · have e:UB (j - 256)=PW i:=by
          rw[h2,zh,ub_bx]
        rw[if_pos h2,e,decide_eq_true rfl,Bool.true_or,if_pos rfl]
      · have e:¬ (UB (j - 256)).toNat=(PW i).toNat:=by
          intro e
          have:=bx_ubN (j - 256) (by omega)
          rw[e] at this
          rw[this,BitVec.toNat_ofNat] at h2
          omega
        rw[if_neg h2,decide_eq_false e,Bool.false_or]
    · rw[if_neg h3,if_neg h3,if_neg (show ¬ j=256+(BX (PW i).toNat).toNat by omega)]
theorem bxT_all (j:Nat) (h:j < 512):bxT 255 j=TB j:=by
  simp only[bxT,TB]
  by_cases h1:j < 256
  · rw[if_pos h1,if_pos h1,don_all j h1,if_pos rfl]
  · rw[if_neg h1,if_neg h1,if_pos h,if_pos h,don_all _ (ub_lt _),if_pos rfl]
def tbT (i:Nat):R:=fun j=>if j < 512∨(j < 1792∧j % 256 < i) then TB j else 0#8
theorem tbT_0:tbT 0=bxT 255:=by
  funext j
  simp only[tbT,Nat.not_lt_zero,and_false,zV]
  by_cases h:j < 512
  · rw[if_pos h,bxT_all j h]
  · rw[if_neg h,bxT,if_neg (by omega),if_neg h]
theorem tbT_succ (i:Nat) (hi:i < 256):tbT (i+1)=set1 (set1 (set1 (set1 (set1 (tbT i) (512+i) (T2 (BitVec.ofNat 8 i))) (768+i) (T9 (BitVec.ofNat 8 i))) (1024+i) (T11 (BitVec.ofNat 8 i))) (1280+i) (T13 (BitVec.ofNat 8 i))) (1536+i) (T14 (BitVec.ofNat 8 i)):=by
  have e:∀ k,BitVec.ofNat 8 (256*k+i)=BitVec.ofNat 8 i:=by
    intro k; apply BitVec.eq_of_toNat_eq; simp only[BitVec.toNat_ofNat]; omega
  funext j
  simp only[set1]
  by_cases h5:j=1536+i
  · rw[if_pos h5,tbT,if_pos (by omega),TB,if_neg (by omega),if_neg (by omega),if_neg (by omega),if_neg (by omega),if_neg (by omega),if_neg (by omega),h5]; rw[←e 6]
  rw[if_neg h5]
  by_cases h4:j=1280+i
  · rw[if_pos h4,tbT,if_pos (by omega),TB,if_neg (by omega),if_neg (by omega),if_neg (by omega),if_neg (by omega),if_neg (by omega),if_pos (by omega),h4]; rw[←e 5]
  rw[if_neg h4]
  by_cases h3:j=1024+i
  · rw[if_pos h3,tbT,if_pos (by omega),TB,if_neg (by omega),if_neg (by omega),if_neg (by omega),if_neg (by omega),if_pos (by omega),h3]; rw[←e 4]
  rw[if_neg h3]
  by_cases h2:j=768+i
  · rw[if_pos h2,tbT,if_pos (by omega),TB,if_neg (by omega),if_neg (by omega),if_neg (by omega),if_pos (by omega),h2]; rw[←e 3]
  rw[if_neg h2]
  by_cases h1:j=512+i
  · rw[if_pos h1,tbT,if_pos (by omega),TB,if_neg (by omega),if_neg (by omega),if_pos (by omega),h1]; rw[←e 2]
  rw[if_neg h1]
  simp only[tbT]
  by_cases h:j < 512∨(j < 1792∧j % 256 < i)
  · rw[if_pos h,if_pos (by omega)]
  · rw[if_neg h,if_neg (by omega)]
theorem tbT_all (r:LV):CF r (tbT 256)=CF r TB:=CF_congr r fun j hj=>by rw[tbT,if_pos (by omega)]
end Aes
namespace Aes
open Go Go.LE Tb
theorem idx0 (x:Nm) (xs:List Nm):idx x (x::xs) 0=some 0:=by simp[idx]
theorem idx1 (x y:Nm) (xs:List Nm) (h:x≠y):idx y (x::y::xs) 0=some 1:=by simp[idx,h]
structure Pl (ps:List LV):Prop where
  n:ps.flatMap (nms D)=[]
  r:∀ π,ps.map (ren D π)=ps
theorem Pl.e:Pl []:=⟨rfl,fun _=>rfl⟩
theorem Pl.pa (n:Nat) (s:R) {ps:List LV} (h:Pl ps):Pl (.agg (aB n s)::ps) :=
  ⟨by rw[zI,qbe,h.n]; rfl,fun π=>by rw[zA,qbl,h.r]⟩
theorem call0 (k b g:Nat) (hg:qaJ g=fun _=>false) (H:Heap) (fN:Nm) (f f':R) (h:H fN=some (CF Nil f)) (ps:List LV) (hp:Pl ps) (r:LV) (hr:∀ π,ren D π r=r)
    (hw:F C k g (.ptr (0,0) 0::ps) [CF Nil f]=some (r,[some (CF Nil f')],[])) :
    qaA (envC C k) H b g (.ptr fN 0::ps)=some ⟨r,[],[(fN,some (CF Nil f'))]⟩:=by
  have hre:qa2 H FUEL [] [fN]=[fN]:=by
    simp only[FUEL,qag,zf,zP,zL,h,qbL,qa5,qaU,zG,qbm]
  rw[qbV,qbK,qdg,hg,qdo,qbD]
  have hn:(LV.ptr fN 0::ps).flatMap (nms D)=[fN]:=by rw[zI,qb5,hp.n]; rfl
  rw[hn,hre,qbW _ _ _ _ _ rfl,show ([fN]:List Nm).filterMap H=[CF Nil f] by simp[h]]
  have ha:(LV.ptr fN 0::ps).map (ren D (qaM [fN])) = .ptr (0,0) 0::ps:=by
    simp only[zA,qbr,qbM,idx0,zC,qbw,hp.r]
  rw[ha,zA,zB,qa4,qbp,qbU,hw,show ([]:List Nm).isEmpty=true from rfl,qeH,qaW,hr]
  simp only[List.zipWith_cons_cons,List.zipWith_nil_left,zC,qa4,qbp,zB]
end Aes
namespace Aes
open Go Go.LE Tb
def pwT (i:Nat):R:=fun j=>if j < i then PW j else 0#8
theorem pwT_succ (i:Nat) (h:i < 255):set1 (pwT (i+1)) (i+1) (mul (pwT (i+1) i) 3#8)=pwT (i+2):=by
  funext j
  have:=pw_mul ⟨i,h⟩
  simp only at this
  simp only[set1,pwT]
  by_cases h1:j=i+1
  · subst h1; rw[if_pos rfl,if_pos (by omega),if_pos (by omega),this]
  · rw [if_neg h1]
    by_cases h2:j < i+1
    · rw[if_pos h2,if_pos (by omega)]
    · rw[if_neg h2,if_neg (by omega)]
def bJ1 (i:Nat) (st:St):Prop := ∃ (H:Heap),st=⟨[.ptr (0,0) 0,.undef,.ptr (1,0) 0,N (i+1),.undef,.undef,.undef,.undef,.undef,.undef,.undef,.undef,.undef,.undef,.undef,.undef,.undef,.undef,.undef,.undef,.undef,.undef,.undef,.undef,.undef,.undef,.undef,.undef,.undef,.undef,.undef,.undef,.undef,.undef,.undef,.undef,.undef,.undef,.undef,.undef,.undef,.undef,.undef,.undef,.undef,.undef,.undef,.undef,.undef,.undef,.undef,.undef,.undef,.undef,.undef,.undef,.undef,.undef,.undef,.undef,.undef,.undef,.undef,.undef,.undef,.undef,.undef,.undef,.undef,.undef,.undef],H,2,1⟩∧H (0,0)=some (CF Nil fun _=>0#8)∧H (1,0)=some (aB 256 (pwT (i+1)))
def bJ2 (i:Nat) (st:St):Prop := ∃ (H:Heap),st=⟨[.ptr (0,0) 0,.undef,.ptr (1,0) 0,.undef,B8 99#8,.undef,.undef,.undef,.undef,.undef,.undef,.undef,.undef,.undef,.undef,.undef,.undef,.undef,.undef,.undef,.undef,.undef,.undef,.undef,.undef,.undef,.undef,.undef,.undef,.undef,.undef,.undef,.sl (1,0) 0 255 (some 256) 1,N 255,N i,.undef,.undef,.undef,.undef,.undef,.undef,.undef,.undef,.undef,.undef,.undef,.undef,.undef,.undef,.undef,.undef,.undef,.undef,.undef,.undef,.undef,.undef,.undef,.undef,.undef,.undef,.undef,.undef,.undef,.undef,.undef,.undef,.undef,.undef,.undef,.undef],H,2,1⟩∧H (0,0)=some (CF Nil (bxT i))∧H (1,0)=some (aB 256 (pwT 256))
theorem boxes_F (k:Nat):F C (k+300) 78 [.ptr (0,0) 0] [CF Nil fun _=>0#8]=some (.tup [],[some (CF Nil (bxT 255))],[]):=by
  rw[qaL f78]
  have e0:set1 (fun _=>0#8) 0 1#8=pwT 1:=by
    funext j; simp only[set1,pwT]
    by_cases h:j=0
    · subst h; rfl
    · rw[if_neg h,if_neg (by omega)]
  simp (disch:=first|omega|decide|simp only[nmsB,lB]) only[simprocAttr,-rR,-rS,leB,memB,arrB,numB,qaf,L78,e0,qae,qac,qad,qab,qaa]
  generalize hL:qaP L78k1 _ _ _=r
  refine qaK hL bJ1 255 (by omega) ?_ ?_ ?_ ?_
  · rintro i st hi ⟨H, rfl, h0, h1⟩
    have hlt:i+1 < 256:=by omega
    have hs:=pwT_succ i hi
    have e1:i+1 - 1=i:=by omega
    apply Exists.intro
    apply And.intro
    · simp (disch := first | omega | decide | simp only [nmsB, lB]) only [simprocAttr, -rR, -rS, leB, memB, arrB, numB, qaf, L78b1, h0, h1, hlt, e1, mulF, hs, qae, qac, qad, qab, qaa]
      rfl
    · refine qal [(1, 0)] rfl (by simp only [simprocAttr, -rR, -rS, qaj, L78k1, qa5, qaD, qaU, h0, h1, qag, qab, qaa]) rfl ⟨_, rfl, ?_, ?_⟩
      · rw [qaI]
        simp (disch:=first|omega|decide|simp only[nmsB,lB]) only[simprocAttr,-rR,-rS,leB,memB,qaf,h0,h1,qa4,qbp,qae,qac,qad,qab,qaa]
      · exact qai (1,0) rfl (by simp (disch:=first|omega|decide|simp only[nmsB,lB]) only[simprocAttr,-rR,-rS,leB,memB,qaf,h0,h1,qae,qac,qad,qab,qaa]) (qap _ _ _)
  · refine qal [(2, 0)] rfl (by simp only [simprocAttr, -rR, -rS, qaj, L78k1, qa5, qaD, qaU, qag, qab, qaa]) rfl ⟨_, rfl, ?_, ?_⟩
    · rw [qaI]
      simp (disch:=first|omega|decide|simp only[nmsB,lB]) only[simprocAttr,-rR,-rS,leB,memB,qaf,qa4,qbp,qae,qac,qad,qab,qaa]
    · exact qai (2,0) rfl (by simp (disch:=first|omega|decide|simp only[nmsB,lB]) only[simprocAttr,-rR,-rS,leB,memB,qaf,qae,qac,qad,qab,qaa]) (qap _ _ _)
  · rintro st ⟨H, rfl, h0, h1⟩
    apply qaG
    simp (disch:=first|omega|decide|simp only[nmsB,lB]) only[simprocAttr,-rR,-rS,leB,memB,arrB,numB,qaf,L78b1,h0,h1,qae,qac,qad,qab,qaa]
    rfl
  · rintro st ⟨H, rfl, h0, h1⟩ rfl
    simp (disch:=first|omega|decide|simp only[nmsB,lB]) only[simprocAttr,-rR,-rS,leB,memB,arrB,numB,qaf,L78b1,h0,h1,ordB,box0_F,CF_st,show (99#8:BitVec 8).toNat=99 from rfl,←bxT_0,qae,qac,qad,qab,qaa,qaq]
    generalize hL:qaP L78k0 _ _ _=r
    refine qaK hL bJ2 255 (by omega) ?_ ?_ ?_ ?_
    · rintro i st hi ⟨H, rfl, h0, h1⟩
      have hp:(PW i).toNat < 256:=(PW i).isLt
      have hb:=bx_lt (PW i).toNat
      have e0:pwT 256 i=PW i:=if_pos (by omega)
      have e2:pwT 256 (255 - i)=PW (255 - i):=if_pos (by omega)
      have hx:=xb_pw ⟨i,hi⟩
      simp only[xb] at hx
      have s1:1+(PW i).toNat - 1=(PW i).toNat:=by omega
      have s2:257+(BX (PW i).toNat).toNat - 1=256+(BX (PW i).toNat).toNat:=by omega
      have hs:=bxT_succ i hi
      apply Exists.intro
      apply And.intro
      · simp (disch := first | omega | decide | simp only [nmsB, lB]) only [simprocAttr, -rR, -rS, leB, memB, arrB, numB, qaf, ordB, L78b0, h0, h1, hi, e0, e2, rot1, rot2, rot3, rot4, hx, CF_st, s1, s2, ← hs, qae, qac, qad, qab, qaa, qaq]
        rfl
      · refine qal [(1, 0)] rfl (by simp only [simprocAttr, -rR, -rS, qaj, L78k0, qa5, qaD, qaU, h0, h1, qag, qab, qaa]) rfl ⟨_, rfl, ?_, ?_⟩
        · rw [qaI]
          simp (disch:=first|omega|decide|simp only[nmsB,lB]) only[simprocAttr,-rR,-rS,leB,memB,qaf,h0,h1,qa4,qbp,qae,qac,qad,qab,qaa]
        · exact qai (1,0) rfl (by simp (disch:=first|omega|decide|simp only[nmsB,lB]) only[simprocAttr,-rR,-rS,leB,memB,qaf,h0,h1,qae,qac,qad,qab,qaa]) (qap _ _ _)
    · refine qal [(1, 0)] rfl (by simp only [simprocAttr, -rR, -rS, qaj, L78k0, qa5, qaD, qaU, h0, h1, qag, qab, qaa]) rfl ⟨_, rfl, ?_, ?_⟩
      · rw [qaI]
        simp (disch:=first|omega|decide|simp only[nmsB,lB]) only[simprocAttr,-rR,-rS,leB,memB,qaf,qa4,qbp,qae,qac,qad,qab,qaa]
      · exact qai (1,0) rfl (by simp (disch:=first|omega|decide|simp only[nmsB,lB]) only[simprocAttr,-rR,-rS,leB,memB,qaf,h1,qae,qac,qad,qab,qaa]) (qap _ _ _)
    · rintro st ⟨H, rfl, h0, h1⟩
      apply qaG
      simp (disch:=first|omega|decide|simp only[nmsB,lB]) only[simprocAttr,-rR,-rS,leB,memB,arrB,numB,qaf,L78b0,h0,h1,qae,qac,qad,qab,qaa]
      rfl
    · rintro st ⟨H, rfl, h0, h1⟩ rfl
      simp (disch:=first|omega|decide|simp only[nmsB,lB]) only[simprocAttr,-rR,-rS,leB,memB,arrB,numB,qaf,L78b0,h0,h1,qae,qac,qad,qab,qaa]
      rw[qa0 1 _ _ [] (by simp only[simprocAttr,-rR,-rS,qaj,qa5,qaU,qcy,h0,qag,qab,qaa])]
      simp (disch:=first|omega|decide|simp only[nmsB,lB]) only[simprocAttr,-rR,-rS,leB,memB,qaf,qa4,qbp,h0,qae,qac,qad,qab,qaa]
def tJ (i:Nat) (st:St):Prop := ∃ (H:Heap),st=⟨[.ptr (0,0) 0,.undef,.undef,.undef,.undef,.undef,.undef,.undef,.undef,N i,.undef,.undef,.undef,.undef,.undef,.undef,.undef,.undef,.undef,.undef,.undef,.undef,.undef,.undef,.undef,.undef,.undef,.undef,.undef,.undef,.undef,.undef,.undef,.undef,.undef,.undef,.undef,.undef,.undef,.undef,.undef,.undef,.undef,.undef,.undef,.undef,.undef,.undef,.undef,.undef,.undef,.undef,.undef,.undef,.undef,.undef,.undef,.undef,.undef,.undef,.undef,.undef,.undef,.undef,.undef],H,2,1⟩∧H (0,0)=some (CF Nil (tbT i))
theorem boxes_call (k b:Nat) (H:Heap) (h0:H (0,0)=some (CF Nil fun _=>0#8)):qaA (envC C (k+300)) H b 78 [.ptr (0,0) 0]=some ⟨.tup [],[],[((0,0),some (CF Nil (bxT 255)))]⟩:=by
  exact call0 _ b 78 l78 H (0,0) _ _ h0 [] Pl.e _ (fun _=>rfl) (boxes_F k)
theorem tables_F (k:Nat):F C (k+301) 54 [.ptr (0,0) 0] [CF Nil fun _=>0#8]=some (.tup [],[some (CF Nil TB)],[]):=by
  rw[qaL f54]
  have hc:=boxes_call k 3 (qaZ [CF Nil fun _=>0#8]) rfl
  simp (disch:=first|omega|decide|simp only[nmsB,lB]) only[simprocAttr,-rR,-rS,leB,memB,arrB,numB,qaf,L54,hc,←tbT_0,qae,qac,qad,qab,qaa]
  generalize hL:qaP L54k0 _ _ _=r
  refine qaK hL tJ 256 (by omega) ?_ ?_ ?_ ?_
  · rintro i st hi ⟨H, rfl, h0⟩
    have hs:=tbT_succ i hi
    have s1:513+i - 1=512+i:=by omega
    have s2:769+i - 1=768+i:=by omega
    have s3:1025+i - 1=1024+i:=by omega
    have s4:1281+i - 1=1280+i:=by omega
    have s5:1537+i - 1=1536+i:=by omega
    have m1:∀ x,mul x 2#8=T2 x:=qgY
    simp only[T9,T11,T13,T14,T8,T4] at hs
    apply Exists.intro
    apply And.intro
    · simp (disch := first | omega | decide | simp only [nmsB, lB]) only [simprocAttr, -rR, -rS, leB, memB, arrB, numB, qaf, ordB, L54b0, h0, hi, mulF, m1, CF_st, s1, s2, s3, s4, s5, ← hs, qae, qac, qad, qab, qaa, qaq]
      rfl
    · refine qal [] rfl (by simp only [simprocAttr, -rR, -rS, qaj, L54k0, qa5, qaD, qaU, h0, qag, qab, qaa]) rfl ⟨_, rfl, ?_⟩
      rw[qaI]
      simp (disch:=first|omega|decide|simp only[nmsB,lB]) only[simprocAttr,-rR,-rS,leB,memB,qaf,h0,qa4,qbp,qae,qac,qad,qab,qaa]
  · refine qal [] rfl (by simp only [simprocAttr, -rR, -rS, qaj, L54k0, qa5, qaD, qaU, qag, qab, qaa]) rfl ⟨_, rfl, ?_⟩
    rw[qaI]
    simp (disch:=first|omega|decide|simp only[nmsB,lB]) only[simprocAttr,-rR,-rS,leB,memB,qaf,qa4,qbp,qae,qac,qad,qab,qaa]
  · rintro st ⟨H, rfl, h0⟩
    apply qaG
    simp (disch:=first|omega|decide|simp only[nmsB,lB]) only[simprocAttr,-rR,-rS,leB,memB,arrB,numB,qaf,L54b0,h0,qae,qac,qad,qab,qaa]
    rfl
  · rintro st ⟨H, rfl, h0⟩ rfl
    simp (disch:=first|omega|decide|simp only[nmsB,lB]) only[simprocAttr,-rR,-rS,leB,memB,arrB,numB,qaf,L54b0,h0,qae,qac,qad,qab,qaa]
    rw[qa0 1 _ _ [] (by simp only[simprocAttr,-rR,-rS,qaj,qa5,qaU,qcy,h0,qag,qab,qaa])]
    simp (disch:=first|omega|decide|simp only[nmsB,lB]) only[simprocAttr,-rR,-rS,leB,memB,qaf,qa4,qbp,h0,tbT_all,qae,qac,qad,qab,qaa]
end Aes
namespace Aes
open Go Go.LE Tb
structure KG (H:Heap) (c m:Nm) (len:Nat) (cap:Option Nat) (l:List (BitVec 8)):Prop where
  hc:H c=some (CF (.sl m 0 len cap 16) TB)
  hm:H m=some (bs l)
  ne:c≠m
theorem callK (k b g:Nat) (hg:qaJ g=fun _=>false) (H:Heap) (c m:Nm) (len:Nat) (cap:Option Nat) (l:List (BitVec 8)) (h:KG H c m len cap l) (ps:List LV) (hp:Pl ps) (r:LV) (hr:∀ π,ren D π r=r)
    (hw:F C k g (.ptr (0,0) 0::ps) [CF (.sl (0,1) 0 len cap 16) TB,bs l]=some (r,[some (CF (.sl (0,1) 0 len cap 16) TB),some (bs l)],[])) :
    qaA (envC C k) H b g (.ptr c 0::ps)=some ⟨r,[],[(c,some (CF (.sl m 0 len cap 16) TB)),(m,some (bs l))]⟩:=by
  have hc:([c]:List Nm).contains m=false:=by simp; exact fun e=>h.ne e.symm
  have hre:qa2 H FUEL [] [c]=[c,m]:=by
    simp only[FUEL,qag,zf,zP,zL,h.hc,qbL,qa5,qaN,zG,zQ,hc,h.hm,qam,qbm]
  rw[qbV,qbK,qdg,hg,qdo,qbD]
  have hn:(LV.ptr c 0::ps).flatMap (nms D)=[c]:=by rw[zI,qb5,hp.n]; rfl
  rw[hn,hre,qbW _ _ _ _ _ rfl,show ([c,m]:List Nm).filterMap H=[CF (.sl m 0 len cap 16) TB,bs l] by simp[h.hc,h.hm]]
  have ha:(LV.ptr c 0::ps).map (ren D (qaM [c,m])) = .ptr (0,0) 0::ps:=by
    simp only[zA,qbr,qbM,idx0,zC,qbw,hp.r]
  rw[ha,zA,zA,zB,qa4,qaY,qbM,idx1 _ _ _ h.ne,zC,qbj,qar,qbU,hw,show ([]:List Nm).isEmpty=true from rfl,qeH,qaW,hr]
  simp only[List.zipWith_cons_cons,List.zipWith_nil_left,zC,qa4,qaY,qcL,qar,zB,qbj,List.getElem?_cons_zero,List.getElem?_cons_succ]
theorem made_F (k:Nat) (len:Nat) (hl:0 < len) (h2:len < 4611686018427387904) (cap:Option Nat) (f:R) (l:List (BitVec 8)) :
    F C (k+1) 60 [.ptr (0,0) 0] [CF (.sl (0,1) 0 len cap 16) f,bs l]=some (Bo true,[some (CF (.sl (0,1) 0 len cap 16) f),some (bs l)],[]):=by
  rw[qaL f60]
  simp (disch:=first|omega|decide|simp only[nmsB,lB]) only[simprocAttr,-rR,-rS,leB,memB,arrB,numB,qaf,L60,CF_k,hl,qae,qac,qad,qab,qaa]
  rw[qa0 2 _ _ [] (by simp only[simprocAttr,-rR,-rS,qaj,qa5,qam,qag,qab,qaa])]
  simp (disch:=first|omega|decide|simp only[nmsB,lB]) only[simprocAttr,-rR,-rS,leB,memB,qaf,qa4,qae,qac,qad,qab,qaa]
theorem plus_F (k:Nat) (a b:R):F C (k+1) 56 [.agg (aB 4 a),.agg (aB 4 b)] []=some (.agg (aB 4 fun j=>a j ^^^ b j),[],[]):=by
  rw[qaL f56]
  simp (disch:=first|omega|decide|simp only[nmsB,lB]) only[simprocAttr,-rR,-rS,leB,memB,arrB,numB,qaf,L56,qae,qac,qad,qab,qaa]
  rfl
end Aes
namespace Aes
open Go Go.LE Tb
def upto (i:Nat) (f g:R):R:=fun j=>if j < i then f j else g j
theorem qdH (i:Nat) (f g:R) (x:BitVec 8) (hx:x=f i):set1 (upto i f g) i x=upto (i+1) f g:=by
  subst hx
  funext j
  simp only[set1,upto]
  by_cases h:j=i
  · subst h; rw[if_pos rfl,if_pos (by omega)]
  · rw [if_neg h]
    by_cases h2:j < i
    · rw[if_pos h2,if_pos (by omega)]
    · rw[if_neg h2,if_neg (by omega)]
theorem qdI (f g:R):upto 0 f g=g:=by funext j; simp[upto]
theorem upto_at (i:Nat) (f g:R):upto i f g i=g i:=by simp[upto]
theorem qed (n:Nat) (f g:R):aB n (upto n f g)=aB n f:=qbR n fun j h=>by simp[upto,h]
def aJ (a b:R) (i:Nat) (st:St):Prop := ∃ (H:Heap),st=⟨[.undef,.undef,.ptr (1,0) 0,.ptr (1,1) 0,.ptr (1,2) 0,.undef,N i,.undef,.undef,.undef,.undef,.undef,.undef,.undef,.undef,.undef,.undef,.undef,.undef],H,2,0⟩∧H (1,0)=some (aB 16 (upto i (add a b) a))∧H (1,1)=some (aB 16 b)∧H (1,2)=some (aB 16 fun _=>0#8)
theorem add_F (k:Nat) (a b:R):F C (k+30) 61 [.agg (aB 16 a),.agg (aB 16 b)] []=some (.agg (aB 16 (add a b)),[],[]):=by
  rw[qaL f61]
  simp (disch:=first|omega|decide|simp only[nmsB,lB]) only[simprocAttr,-rR,-rS,leB,memB,arrB,numB,qaf,L61,qae,qac,qad,qab,qaa]
  generalize hL:qaP L61k0 _ _ _=r
  refine qaK hL (aJ a b) 16 (by omega) ?_ ?_ ?_ ?_
  · rintro i st hi ⟨H, rfl, h0, h1, h2⟩
    have hs:=qdH i (add a b) a (a i ^^^ b i) rfl
    apply Exists.intro
    apply And.intro
    · simp (disch := first | omega | decide | simp only [nmsB, lB]) only [simprocAttr, -rR, -rS, leB, memB, arrB, numB, qaf, ordB, L61b0, h0, h1, h2, hi, upto_at, hs, qae, qac, qad, qab, qaa, qaq]
      rfl
    · refine qal [(1, 0), (1, 1), (1, 2)] rfl (by simp only [simprocAttr, -rR, -rS, qaj, L61k0, qaD, h0, h1, h2, qag, qab, qaa]) rfl ⟨_, rfl, ?_, ?_, ?_⟩
      · exact qai (1,0) rfl (by simp (disch:=first|omega|decide|simp only[nmsB,lB]) only[simprocAttr,-rR,-rS,leB,memB,qaf,h0,h1,qae,qac,qad,qab,qaa]) (qap _ _ _)
      · exact qai (1,1) rfl (by simp (disch:=first|omega|decide|simp only[nmsB,lB]) only[simprocAttr,-rR,-rS,leB,memB,qaf,h0,h1,qae,qac,qad,qab,qaa]) (qap _ _ _)
      · exact qai (1,2) rfl (by simp (disch:=first|omega|decide|simp only[nmsB,lB]) only[simprocAttr,-rR,-rS,leB,memB,qaf,h0,h1,h2,qae,qac,qad,qab,qaa]) (qap _ _ _)
  · refine qal [(2, 0), (3, 0), (4, 0)] rfl (by simp only [simprocAttr, -rR, -rS, qaj, L61k0, qaD, qag, qab, qaa]) rfl ⟨_, rfl, ?_, ?_, ?_⟩
    · rw[qdI]; exact qai (2,0) rfl (by simp (disch:=first|omega|decide|simp only[nmsB,lB]) only[simprocAttr,-rR,-rS,leB,memB,qaf,qae,qac,qad,qab,qaa]) (qap _ _ _)
    · exact qai (3,0) rfl (by simp (disch:=first|omega|decide|simp only[nmsB,lB]) only[simprocAttr,-rR,-rS,leB,memB,qaf,qae,qac,qad,qab,qaa]) (qap _ _ _)
    · exact qai (4,0) rfl (by simp (disch:=first|omega|decide|simp only[nmsB,lB]) only[simprocAttr,-rR,-rS,leB,memB,qaf,qae,qac,qad,qab,qaa]) (qap _ _ _)
  · rintro st ⟨H, rfl, h0, h1, h2⟩
    apply qaG
    simp (disch:=first|omega|decide|simp only[nmsB,lB]) only[simprocAttr,-rR,-rS,leB,memB,arrB,numB,qaf,L61b0,qae,qac,qad,qab,qaa]
    rfl
  · rintro st ⟨H, rfl, h0, h1, h2⟩ rfl
    simp (disch:=first|omega|decide|simp only[nmsB,lB]) only[simprocAttr,-rR,-rS,leB,memB,arrB,numB,qaf,L61b0,h0,h1,h2,qed,qae,qac,qad,qab,qaa]
theorem TB_bx (x:BitVec 8):TB x.toNat=BX x.toNat:=if_pos x.isLt
theorem TB_ub (x:BitVec 8):TB (256+x.toNat)=UB x.toNat:=by
  have:=x.isLt
  rw[TB,if_neg (by omega),if_pos (by omega),zh]
theorem TB_off (k:Nat) (x:BitVec 8):BitVec.ofNat 8 (256*k+x.toNat)=x:=by
  have:=x.isLt
  apply BitVec.eq_of_toNat_eq; simp only[BitVec.toNat_ofNat]; omega
theorem TB_2 (x:BitVec 8):TB (512+x.toNat)=T2 x:=by
  have:=x.isLt
  rw[TB,if_neg (by omega),if_neg (by omega),if_pos (by omega)]; exact congrArg T2 (TB_off 2 x)
theorem TB_9 (x:BitVec 8):TB (768+x.toNat)=T9 x:=by
  have:=x.isLt
  rw[TB,if_neg (by omega),if_neg (by omega),if_neg (by omega),if_pos (by omega)]; exact congrArg T9 (TB_off 3 x)
theorem TB_11 (x:BitVec 8):TB (1024+x.toNat)=T11 x:=by
  have:=x.isLt
  rw[TB,if_neg (by omega),if_neg (by omega),if_neg (by omega),if_neg (by omega),if_pos (by omega)]; exact congrArg T11 (TB_off 4 x)
theorem TB_13 (x:BitVec 8):TB (1280+x.toNat)=T13 x:=by
  have:=x.isLt
  rw[TB,if_neg (by omega),if_neg (by omega),if_neg (by omega),if_neg (by omega),if_neg (by omega),if_pos (by omega)]; exact congrArg T13 (TB_off 5 x)
theorem TB_14 (x:BitVec 8):TB (1536+x.toNat)=T14 x:=by
  have:=x.isLt
  rw[TB,if_neg (by omega),if_neg (by omega),if_neg (by omega),if_neg (by omega),if_neg (by omega),if_neg (by omega)]; exact congrArg T14 (TB_off 6 x)
theorem CT_bx (r:LV) (x:BitVec 8):qbc (1+x.toNat) 1 (some (CF r TB))=some [B8 (BX x.toNat)]:=by
  have:=x.isLt
  rw[qgq r TB _ x.toNat (by omega) (by omega),TB_bx]
theorem CT_ub (r:LV) (x:BitVec 8):qbc (257+x.toNat) 1 (some (CF r TB))=some [B8 (UB x.toNat)]:=by
  have:=x.isLt
  rw[qgq r TB _ (256+x.toNat) (by omega) (by omega),TB_ub]
theorem CT_2 (r:LV) (x:BitVec 8):qbc (513+x.toNat) 1 (some (CF r TB))=some [B8 (T2 x)]:=by
  have:=x.isLt
  rw[qgq r TB _ (512+x.toNat) (by omega) (by omega),TB_2]
theorem CT_9 (r:LV) (x:BitVec 8):qbc (769+x.toNat) 1 (some (CF r TB))=some [B8 (T9 x)]:=by
  have:=x.isLt
  rw[qgq r TB _ (768+x.toNat) (by omega) (by omega),TB_9]
theorem CT_11 (r:LV) (x:BitVec 8):qbc (1025+x.toNat) 1 (some (CF r TB))=some [B8 (T11 x)]:=by
  have:=x.isLt
  rw[qgq r TB _ (1024+x.toNat) (by omega) (by omega),TB_11]
theorem CT_13 (r:LV) (x:BitVec 8):qbc (1281+x.toNat) 1 (some (CF r TB))=some [B8 (T13 x)]:=by
  have:=x.isLt
  rw[qgq r TB _ (1280+x.toNat) (by omega) (by omega),TB_13]
theorem CT_14 (r:LV) (x:BitVec 8):qbc (1537+x.toNat) 1 (some (CF r TB))=some [B8 (T14 x)]:=by
  have:=x.isLt
  rw[qgq r TB _ (1536+x.toNat) (by omega) (by omega),TB_14]
def rJ (len:Nat) (cap:Option Nat) (l:List (BitVec 8)) (s:R) (i:Nat) (st:St):Prop := ∃ (H:Heap),st=⟨[.ptr (0,0) 0,.undef,.undef,.ptr (1,0) 0,.ptr (1,1) 0,.ptr (1,2) 0,.undef,.undef,N i,.undef,.undef,.undef,.undef,.undef,.undef,.undef,.undef,.undef,.undef,.undef,.undef,.undef,.undef,.undef,.undef,.undef,.undef,.undef],H,2,2⟩ ∧
  H (0,0)=some (CF (.sl (0,1) 0 len cap 16) TB)∧H (0,1)=some (bs l)∧H (1,0)=some (aB 16 s)∧H (1,1)=some (aB 16 fun _=>0#8)∧H (1,2)=some (aB 16 (upto i (rnd s) fun _=>0#8))
theorem round_F (k len:Nat) (cap:Option Nat) (l:List (BitVec 8)) (s:R):F C (k+30) 63 [.ptr (0,0) 0,.agg (aB 16 s)] [CF (.sl (0,1) 0 len cap 16) TB,bs l] =
    some (.agg (aB 16 (rnd s)),[some (CF (.sl (0,1) 0 len cap 16) TB),some (bs l)],[]):=by
  rw[qaL f63]
  simp (disch:=first|omega|decide|simp only[nmsB,lB]) only[simprocAttr,-rR,-rS,leB,memB,arrB,numB,qaf,L63,qae,qac,qad,qab,qaa]
  generalize hL:qaP L63k0 _ _ _=r
  refine qaK hL (rJ len cap l s) 16 (by omega) ?_ ?_ ?_ ?_
  · rintro i st hi ⟨H, rfl, h0, h1, h2, h3, h4⟩
    have hm:(i+4*(i % 4)) % 16 < 16:=by omega
    have hs:=qdH i (rnd s) (fun _=>0#8) (BX (s ((i+4*(i % 4)) % 16)).toNat) rfl
    apply Exists.intro
    apply And.intro
    · simp (disch := first | omega | decide | simp only [nmsB, lB]) only [simprocAttr, -rR, -rS, leB, memB, arrB, numB, qaf, ordB, L63b0, h0, h1, h2, h3, h4, hi, hm, CT_bx, hs, qae, qac, qad, qab, qaa, qaq]
      rfl
    · refine qal [(1, 0), (1, 1), (1, 2)] rfl (by simp only [simprocAttr, -rR, -rS, qaj, L63k0, qaD, qa5, qam, h0, h1, h2, h3, h4, qag, qab, qaa]) rfl ⟨_, rfl, ?_, ?_, ?_, ?_, ?_⟩
      · rw[qaI]; simp (disch:=first|omega|decide|simp only[nmsB,lB]) only[simprocAttr,-rR,-rS,leB,memB,qaf,h0,qa4,qae,qac,qad,qab,qaa]
      · rw[qaI]; simp (disch:=first|omega|decide|simp only[nmsB,lB]) only[simprocAttr,-rR,-rS,leB,memB,qaf,h1,qae,qac,qad,qab,qaa]
      · exact qai (1,0) rfl (by simp (disch:=first|omega|decide|simp only[nmsB,lB]) only[simprocAttr,-rR,-rS,leB,memB,qaf,h2,qae,qac,qad,qab,qaa]) (qap _ _ _)
      · exact qai (1,1) rfl (by simp (disch:=first|omega|decide|simp only[nmsB,lB]) only[simprocAttr,-rR,-rS,leB,memB,qaf,h3,qae,qac,qad,qab,qaa]) (qap _ _ _)
      · exact qai (1,2) rfl (by simp (disch:=first|omega|decide|simp only[nmsB,lB]) only[simprocAttr,-rR,-rS,leB,memB,qaf,h3,qae,qac,qad,qab,qaa]) (qap _ _ _)
  · refine qal [(2, 0), (3, 0), (5, 0)] rfl (by simp only [simprocAttr, -rR, -rS, qaj, L63k0, qaD, qa5, qam, qag, qab, qaa]) rfl ⟨_, rfl, ?_, ?_, ?_, ?_, ?_⟩
    · rw[qaI]; simp (disch:=first|omega|decide|simp only[nmsB,lB]) only[simprocAttr,-rR,-rS,leB,memB,qaf,qa4,qae,qac,qad,qab,qaa]
    · rw[qaI]; simp (disch:=first|omega|decide|simp only[nmsB,lB]) only[simprocAttr,-rR,-rS,leB,memB,qaf,qae,qac,qad,qab,qaa]
    · exact qai (2,0) rfl (by simp (disch:=first|omega|decide|simp only[nmsB,lB]) only[simprocAttr,-rR,-rS,leB,memB,qaf,qae,qac,qad,qab,qaa]) (qap _ _ _)
    · exact qai (3,0) rfl (by simp (disch:=first|omega|decide|simp only[nmsB,lB]) only[simprocAttr,-rR,-rS,leB,memB,qaf,qae,qac,qad,qab,qaa]) (qap _ _ _)
    · rw[qdI]; exact qai (5,0) rfl (by simp (disch:=first|omega|decide|simp only[nmsB,lB]) only[simprocAttr,-rR,-rS,leB,memB,qaf,qae,qac,qad,qab,qaa]) (qap _ _ _)
  · rintro st ⟨H, rfl, h0, h1, h2, h3, h4⟩
    apply qaG
    simp (disch:=first|omega|decide|simp only[nmsB,lB]) only[simprocAttr,-rR,-rS,leB,memB,arrB,numB,qaf,L63b0,qae,qac,qad,qab,qaa]
    rfl
  · rintro st ⟨H, rfl, h0, h1, h2, h3, h4⟩ rfl
    simp (disch:=first|omega|decide|simp only[nmsB,lB]) only[simprocAttr,-rR,-rS,leB,memB,arrB,numB,qaf,L63b0,h0,h1,h2,h3,h4,qed,qae,qac,qad,qab,qaa]
    rw[qa0 2 _ _ [] (by simp only[simprocAttr,-rR,-rS,qaj,qa5,qam,qbe,h0,h1,qag,qab,qaa])]
    simp (disch:=first|omega|decide|simp only[nmsB,lB]) only[simprocAttr,-rR,-rS,leB,memB,qaf,qa4,qbl,h0,h1,qae,qac,qad,qab,qaa]
def urT (i:Nat) (s:R):R:=fun j=>if j < 16∧(j+12*(j % 4)) % 16 < i then qdP s j else 0#8
theorem urT_succ (i:Nat) (hi:i < 16) (s:R):set1 (urT i s) ((i+4*(i % 4)) % 16) (UB (s i).toNat)=urT (i+1) s:=by
  funext j
  simp only[set1,urT]
  by_cases h:j=(i+4*(i % 4)) % 16
  · have e : (j + 12 * (j % 4)) % 16 = i := by omega
    rw[if_pos h,if_pos (by omega),qdP,e]
  · rw [if_neg h]
    by_cases h2:j < 16∧(j+12*(j % 4)) % 16 < i
    · rw[if_pos h2,if_pos (by omega)]
    · rw[if_neg h2,if_neg (by omega)]
theorem urT_zero (s:R):urT 0 s=fun _=>0#8:=by funext j; simp[urT]
theorem urT_all (s:R):aB 16 (urT 16 s)=aB 16 (qdP s):=qbR 16 fun j h=>by rw[urT,if_pos (by omega)]
def uJ (len:Nat) (cap:Option Nat) (l:List (BitVec 8)) (s:R) (i:Nat) (st:St):Prop := ∃ (H:Heap),st=⟨[.ptr (0,0) 0,.undef,.undef,.undef,.ptr (1,0) 0,.ptr (1,1) 0,.undef,.undef,.undef,.agg (aB 16 s),N i,.undef,.undef,.undef,.undef,.undef,.undef,.undef,.undef,.undef,.undef,.undef,.undef,.undef,.undef,.undef,.undef,.undef,.undef],H,2,2⟩ ∧
  H (0,0)=some (CF (.sl (0,1) 0 len cap 16) TB)∧H (0,1)=some (bs l)∧H (1,0)=some (aB 16 fun _=>0#8)∧H (1,1)=some (aB 16 (urT i s))
theorem unround_F (k len:Nat) (cap:Option Nat) (l:List (BitVec 8)) (s:R):F C (k+30) 74 [.ptr (0,0) 0,.agg (aB 16 s)] [CF (.sl (0,1) 0 len cap 16) TB,bs l] =
    some (.agg (aB 16 (qdP s)),[some (CF (.sl (0,1) 0 len cap 16) TB),some (bs l)],[]):=by
  rw[qaL f74]
  simp (disch:=first|omega|decide|simp only[nmsB,lB]) only[simprocAttr,-rR,-rS,leB,memB,arrB,numB,qaf,L74,qae,qac,qad,qab,qaa]
  generalize hL:qaP L74k0 _ _ _=r
  refine qaK hL (uJ len cap l s) 16 (by omega) ?_ ?_ ?_ ?_
  · rintro i st hi ⟨H, rfl, h0, h1, h2, h3⟩
    have hm:(i+4*(i % 4)) % 16 < 16:=by omega
    have hm2:(i+i % 4*4) % 16=(i+4*(i % 4)) % 16:=by omega
    have hs:=urT_succ i hi s
    apply Exists.intro
    apply And.intro
    · simp (disch := first | omega | decide | simp only [nmsB, lB]) only [simprocAttr, -rR, -rS, leB, memB, arrB, numB, qaf, ordB, L74b0, h0, h1, h2, h3, hi, hm, hm2, CT_ub, hs, qae, qac, qad, qab, qaa, qaq]
      rfl
    · refine qal [(1, 0), (1, 1)] rfl (by simp only [simprocAttr, -rR, -rS, qaj, L74k0, qaD, qbe, qa5, qam, h0, h1, h2, h3, qag, qab, qaa]) (by simp only [simprocAttr, -rR, -rS, qaj, L74k0, zA, zB, qbl, qag, qab, qaa] <;> rfl) ⟨_, rfl, ?_, ?_, ?_, ?_⟩
      · rw[qaI]; simp (disch:=first|omega|decide|simp only[nmsB,lB]) only[simprocAttr,-rR,-rS,leB,memB,qaf,h0,qa4,qae,qac,qad,qab,qaa]
      · rw[qaI]; simp (disch:=first|omega|decide|simp only[nmsB,lB]) only[simprocAttr,-rR,-rS,leB,memB,qaf,h1,qae,qac,qad,qab,qaa]
      · exact qai (1,0) rfl (by simp (disch:=first|omega|decide|simp only[nmsB,lB]) only[simprocAttr,-rR,-rS,leB,memB,qaf,h2,qae,qac,qad,qab,qaa]) (qap _ _ _)
      · exact qai (1,1) rfl (by simp (disch:=first|omega|decide|simp only[nmsB,lB]) only[simprocAttr,-rR,-rS,leB,memB,qaf,h3,qae,qac,qad,qab,qaa]) (qap _ _ _)
  · refine qal [(3, 0), (5, 0)] rfl (by simp only [simprocAttr, -rR, -rS, qaj, L74k0, qaD, qbe, qa5, qam, qag, qab, qaa]) (by simp only [simprocAttr, -rR, -rS, qaj, L74k0, zA, zB, qbl, qag, qab, qaa] <;> rfl) ⟨_, rfl, ?_, ?_, ?_, ?_⟩
    · rw[qaI]; simp (disch:=first|omega|decide|simp only[nmsB,lB]) only[simprocAttr,-rR,-rS,leB,memB,qaf,qa4,qae,qac,qad,qab,qaa]
    · rw[qaI]; simp (disch:=first|omega|decide|simp only[nmsB,lB]) only[simprocAttr,-rR,-rS,leB,memB,qaf,qae,qac,qad,qab,qaa]
    · exact qai (3,0) rfl (by simp (disch:=first|omega|decide|simp only[nmsB,lB]) only[simprocAttr,-rR,-rS,leB,memB,qaf,qae,qac,qad,qab,qaa]) (qap _ _ _)
    · rw[urT_zero]; exact qai (5,0) rfl (by simp (disch:=first|omega|decide|simp only[nmsB,lB]) only[simprocAttr,-rR,-rS,leB,memB,qaf,qae,qac,qad,qab,qaa]) (qap _ _ _)
  · rintro st ⟨H, rfl, h0, h1, h2, h3⟩
    apply qaG
    simp (disch:=first|omega|decide|simp only[nmsB,lB]) only[simprocAttr,-rR,-rS,leB,memB,arrB,numB,qaf,L74b0,qae,qac,qad,qab,qaa]
    rfl
  · rintro st ⟨H, rfl, h0, h1, h2, h3⟩ rfl
    simp (disch:=first|omega|decide|simp only[nmsB,lB]) only[simprocAttr,-rR,-rS,leB,memB,arrB,numB,qaf,L74b0,h0,h1,h2,h3,urT_all,qae,qac,qad,qab,qaa]
    rw[qa0 2 _ _ [] (by simp only[simprocAttr,-rR,-rS,qaj,qa5,qam,qbe,h0,h1,qag,qab,qaa])]
    simp (disch:=first|omega|decide|simp only[nmsB,lB]) only[simprocAttr,-rR,-rS,leB,memB,qaf,qa4,qbl,h0,h1,qae,qac,qad,qab,qaa]
end Aes
namespace Aes
open Go Go.LE Tb
theorem upto_ge (i j:Nat) (f g:R) (h:i≤j):upto i f g j=g j:=if_neg (by omega)
theorem qf9 (s:R) (c r k:Nat) (hr:r < 4):at4 s (4*c+r) k=s (4*c+(r+k) % 4):=by
  rw[at4]; congr 1; omega
theorem qew (s:R) (c k:Nat) (hk:k < 4):at4 s (4*c) k=s (4*c+k):=by
  rw[at4]; congr 1; omega
theorem upto4 (c:Nat) (f g:R) (v0 v1 v2 v3:BitVec 8) (h0:v0=f (4*c)) (h1:v1=f (4*c+1)) (h2:v2=f (4*c+2)) (h3:v3=f (4*c+3)) :
    set1 (set1 (set1 (set1 (upto (4*c) f g) (4*c) v0) (4*c+1) v1) (4*c+2) v2) (4*c+3) v3=upto (4*(c+1)) f g:=by
  rw[qdH _ _ _ _ h0,qdH _ _ _ _ h1,qdH _ _ _ _ h2,qdH _ _ _ _ h3]; rfl
theorem xc (a b c:BitVec 8):a ^^^ (b ^^^ c)=b ^^^ (a ^^^ c):=by rw[←BitVec.xor_assoc,BitVec.xor_comm a b,BitVec.xor_assoc]
def mJ (len:Nat) (cap:Option Nat) (l:List (BitVec 8)) (s:R) (i:Nat) (st:St):Prop := ∃ (H:Heap),st=⟨[.ptr (0,0) 0,.undef,.undef,.ptr (1,0) 0,.ptr (1,1) 0,N (4*i),.undef,.undef,.undef,.undef,.undef,.undef,.undef,.undef,.undef,.undef,.undef,.undef,.undef,.undef,.undef,.undef,.undef,.undef,.undef,.undef,.undef,.undef,.undef,.undef,.undef,.undef,.undef,.undef,.undef,.undef,.undef,.undef,.undef,.undef,.undef,.undef,.undef,.undef,.undef,.undef,.undef,.undef,.undef,.undef,.undef,.undef,.undef,.undef,.undef,.undef,.undef,.undef,.undef,.undef,.undef,.undef,.undef,.undef,.undef,.undef,.undef,.undef,.undef,.undef,.undef,.undef,.undef,.undef,.undef,.undef,.undef,.undef,.undef,.undef,.undef,.undef,.undef,.undef,.undef,.undef,.undef,.undef,.undef,.undef,.undef,.undef,.undef,.undef,.undef,.undef,.undef],H,2,2⟩ ∧
  H (0,0)=some (CF (.sl (0,1) 0 len cap 16) TB)∧H (0,1)=some (bs l)∧H (1,0)=some (aB 16 (upto (4*i) (mix s) s))∧H (1,1)=some (aB 16 fun _=>0#8)
theorem mix_F (k len:Nat) (cap:Option Nat) (l:List (BitVec 8)) (s:R):F C (k+30) 62 [.ptr (0,0) 0,.agg (aB 16 s)] [CF (.sl (0,1) 0 len cap 16) TB,bs l] =
    some (.agg (aB 16 (mix s)),[some (CF (.sl (0,1) 0 len cap 16) TB),some (bs l)],[]):=by
  rw[qaL f62]
  simp (disch:=first|omega|decide|simp only[nmsB,lB]) only[simprocAttr,-rR,-rS,leB,memB,arrB,numB,qaf,L62,qae,qac,qad,qab,qaa]
  generalize hL:qaP L62k0 _ _ _=r
  refine qaK hL (mJ len cap l s) 4 (by omega) ?_ ?_ ?_ ?_
  · rintro i st hi ⟨H, rfl, h0, h1, h2, h3⟩
    have hm:4*i < 16:=by omega
    have e4:4*i+4=4*(i+1):=by omega
    have v0:s (4*i) ^^^ (s (4*i) ^^^ s (4*i+1) ^^^ s (4*i+2) ^^^ s (4*i+3)) ^^^ T2 (s (4*i) ^^^ s (4*i+1))=mix s (4*i):=by
      simp only[mix,qew s i _ (show 0 < 4 by decide),qew s i _ (show 1 < 4 by decide),qew s i _ (show 2 < 4 by decide),qew s i _ (show 3 < 4 by decide),zY,qfJ]
      simp only[BitVec.xor_assoc,BitVec.xor_comm,xc,GF.qdu,BitVec.xor_self,BitVec.xor_zero,BitVec.zero_xor]
    have v1:s (4*i+1) ^^^ (s (4*i) ^^^ s (4*i+1) ^^^ s (4*i+2) ^^^ s (4*i+3)) ^^^ T2 (s (4*i+1) ^^^ s (4*i+2))=mix s (4*i+1):=by
      simp only[mix,qf9 s i 1 _ (by decide),Nat.reduceAdd,Nat.reduceMod,zY,qfJ]
      simp only[BitVec.xor_assoc,BitVec.xor_comm,xc,GF.qdu,BitVec.xor_self,BitVec.xor_zero,BitVec.zero_xor]
    have v2:s (4*i+2) ^^^ (s (4*i) ^^^ s (4*i+1) ^^^ s (4*i+2) ^^^ s (4*i+3)) ^^^ T2 (s (4*i+2) ^^^ s (4*i+3))=mix s (4*i+2):=by
      simp only[mix,qf9 s i 2 _ (by decide),Nat.reduceAdd,Nat.reduceMod,zY,qfJ]
      simp only[BitVec.xor_assoc,BitVec.xor_comm,xc,GF.qdu,BitVec.xor_self,BitVec.xor_zero,BitVec.zero_xor]
    have v3:s (4*i+3) ^^^ (s (4*i) ^^^ s (4*i+1) ^^^ s (4*i+2) ^^^ s (4*i+3)) ^^^ T2 (s (4*i+3) ^^^ s (4*i))=mix s (4*i+3):=by
      simp only[mix,qf9 s i 3 _ (by decide),Nat.reduceAdd,Nat.reduceMod,zY,qfJ]
      simp only[BitVec.xor_assoc,BitVec.xor_comm,xc,GF.qdu,BitVec.xor_self,BitVec.xor_zero,BitVec.zero_xor]
    have hs:=upto4 i (mix s) s _ _ _ _ rfl rfl rfl rfl
    apply Exists.intro
    apply And.intro
    · simp (disch := first | omega | decide | simp only [nmsB, lB]) only [simprocAttr, -rR, -rS, leB, memB, arrB, numB, qaf, ordB, L62b0, h0, h1, h2, h3, hm, upto_ge, CT_2, v0, v1, v2, v3, hs, e4, qae, qac, qad, qab, qaa, qaq]
      rfl
    · refine qal [(1, 0), (1, 1)] rfl (by simp only [simprocAttr, -rR, -rS, qaj, L62k0, qaD, qbe, qa5, qam, h0, h1, h2, h3, qag, qab, qaa]) rfl ⟨_, rfl, ?_, ?_, ?_, ?_⟩
      · rw[qaI]; simp (disch:=first|omega|decide|simp only[nmsB,lB]) only[simprocAttr,-rR,-rS,leB,memB,qaf,h0,qa4,qae,qac,qad,qab,qaa]
      · rw[qaI]; simp (disch:=first|omega|decide|simp only[nmsB,lB]) only[simprocAttr,-rR,-rS,leB,memB,qaf,h1,qae,qac,qad,qab,qaa]
      · exact qai (1,0) rfl (by simp (disch:=first|omega|decide|simp only[nmsB,lB]) only[simprocAttr,-rR,-rS,leB,memB,qaf,h2,qae,qac,qad,qab,qaa]) (qap _ _ _)
      · exact qai (1,1) rfl (by simp (disch:=first|omega|decide|simp only[nmsB,lB]) only[simprocAttr,-rR,-rS,leB,memB,qaf,h3,qae,qac,qad,qab,qaa]) (qap _ _ _)
  · refine qal [(2, 0), (3, 0)] rfl (by simp only [simprocAttr, -rR, -rS, qaj, L62k0, qaD, qbe, qa5, qam, qag, qab, qaa]) rfl ⟨_, rfl, ?_, ?_, ?_, ?_⟩
    · rw[qaI]; simp (disch:=first|omega|decide|simp only[nmsB,lB]) only[simprocAttr,-rR,-rS,leB,memB,qaf,qa4,qae,qac,qad,qab,qaa]
    · rw[qaI]; simp (disch:=first|omega|decide|simp only[nmsB,lB]) only[simprocAttr,-rR,-rS,leB,memB,qaf,qae,qac,qad,qab,qaa]
    · rw[Nat.mul_zero,qdI]; exact qai (2,0) rfl (by simp (disch:=first|omega|decide|simp only[nmsB,lB]) only[simprocAttr,-rR,-rS,leB,memB,qaf,qae,qac,qad,qab,qaa]) (qap _ _ _)
    · exact qai (3,0) rfl (by simp (disch:=first|omega|decide|simp only[nmsB,lB]) only[simprocAttr,-rR,-rS,leB,memB,qaf,qae,qac,qad,qab,qaa]) (qap _ _ _)
  · rintro st ⟨H, rfl, h0, h1, h2, h3⟩
    apply qaG
    simp (disch:=first|omega|decide|simp only[nmsB,lB]) only[simprocAttr,-rR,-rS,leB,memB,arrB,numB,qaf,L62b0,qae,qac,qad,qab,qaa]
    rfl
  · rintro st ⟨H, rfl, h0, h1, h2, h3⟩ rfl
    simp (disch:=first|omega|decide|simp only[nmsB,lB]) only[simprocAttr,-rR,-rS,leB,memB,arrB,numB,qaf,L62b0,h0,h1,h2,h3,qed,qae,qac,qad,qab,qaa]
    rw[qa0 2 _ _ [] (by simp only[simprocAttr,-rR,-rS,qaj,qa5,qam,qbe,h0,h1,qag,qab,qaa])]
    simp (disch:=first|omega|decide|simp only[nmsB,lB]) only[simprocAttr,-rR,-rS,leB,memB,qaf,qa4,qbl,h0,h1,qae,qac,qad,qab,qaa]
def umJ (len:Nat) (cap:Option Nat) (l:List (BitVec 8)) (s:R) (i:Nat) (st:St):Prop := ∃ (H:Heap),st=⟨[.undef,.undef,.undef,.ptr (1,0) 0,.ptr (1,1) 0,.ptr (0,0) 1537,.ptr (0,0) 1025,.ptr (0,0) 1281,.ptr (0,0) 769,N (4*i),.undef,.undef,.undef,.undef,.undef,.undef,.undef,.undef,.undef,.undef,.undef,.undef,.undef,.undef,.undef,.undef,.undef,.undef,.undef,.undef,.undef,.undef,.undef,.undef,.undef,.undef,.undef,.undef,.undef,.undef,.undef,.undef,.undef,.undef,.undef,.undef,.undef,.undef,.undef,.undef,.undef,.undef,.undef,.undef,.undef,.undef,.undef,.undef,.undef,.undef,.undef,.undef,.undef,.undef,.undef,.undef,.undef,.undef,.undef,.undef,.undef,.undef,.undef,.undef,.undef,.undef,.undef,.undef,.undef,.undef,.undef,.undef,.undef,.undef,.undef,.undef,.undef,.undef,.undef,.undef,.undef,.undef,.undef,.undef,.undef,.undef,.undef,.undef,.undef,.undef,.undef,.undef,.undef,.undef,.undef,.undef,.undef,.undef,.undef,.undef,.undef,.undef,.undef,.undef,.undef,.undef,.undef,.undef,.undef,.undef,.undef,.undef,.undef,.undef,.undef,.undef,.undef,.undef,.undef,.undef,.undef,.undef,.undef,.undef,.undef,.undef,.undef,.undef,.undef,.undef,.undef,.undef,.undef,.undef,.undef,.undef,.undef,.undef,.undef],H,2,2⟩ ∧
  H (0,0)=some (CF (.sl (0,1) 0 len cap 16) TB)∧H (0,1)=some (bs l)∧H (1,0)=some (aB 16 (upto (4*i) (qcD s) s))∧H (1,1)=some (aB 16 fun _=>0#8)
set_option maxRecDepth 20000 in
set_option maxHeartbeats 1000000 in
theorem unmix_F (k len:Nat) (cap:Option Nat) (l:List (BitVec 8)) (s:R):F C (k+30) 75 [.ptr (0,0) 0,.agg (aB 16 s)] [CF (.sl (0,1) 0 len cap 16) TB,bs l] =
    some (.agg (aB 16 (qcD s)),[some (CF (.sl (0,1) 0 len cap 16) TB),some (bs l)],[]):=by
  rw[qaL f75]
  simp (disch:=first|omega|decide|simp only[nmsB,lB]) only[simprocAttr,-rR,-rS,leB,memB,arrB,numB,qaf,L75,qae,qac,qad,qab,qaa]
  generalize hL:qaP L75k0 _ _ _=r
  refine qaK hL (umJ len cap l s) 4 (by omega) ?_ ?_ ?_ ?_
  · rintro i st hi ⟨H, rfl, h0, h1, h2, h3⟩
    have hm:4*i < 16:=by omega
    have e4:4*i+4=4*(i+1):=by omega
    have v0:T14 (s (4*i)) ^^^ T11 (s (4*i+1)) ^^^ T13 (s (4*i+2)) ^^^ T9 (s (4*i+3))=qcD s (4*i):=by
      simp only[qcD,qew s i _ (show 0 < 4 by decide),qew s i _ (show 1 < 4 by decide),qew s i _ (show 2 < 4 by decide),qew s i _ (show 3 < 4 by decide),zY]
    have v1:T9 (s (4*i)) ^^^ T14 (s (4*i+1)) ^^^ T11 (s (4*i+2)) ^^^ T13 (s (4*i+3))=qcD s (4*i+1):=by
      simp only[qcD,qf9 s i 1 _ (by decide),Nat.reduceAdd,Nat.reduceMod,zY]
      simp only[BitVec.xor_assoc,BitVec.xor_comm,xc]
    have v2:T13 (s (4*i)) ^^^ T9 (s (4*i+1)) ^^^ T14 (s (4*i+2)) ^^^ T11 (s (4*i+3))=qcD s (4*i+2):=by
      simp only[qcD,qf9 s i 2 _ (by decide),Nat.reduceAdd,Nat.reduceMod,zY]
      simp only[BitVec.xor_assoc,BitVec.xor_comm,xc]
    have v3:T11 (s (4*i)) ^^^ T13 (s (4*i+1)) ^^^ T9 (s (4*i+2)) ^^^ T14 (s (4*i+3))=qcD s (4*i+3):=by
      simp only[qcD,qf9 s i 3 _ (by decide),Nat.reduceAdd,Nat.reduceMod,zY]
      simp only[BitVec.xor_assoc,BitVec.xor_comm,xc]
    have hs:=upto4 i (qcD s) s _ _ _ _ rfl rfl rfl rfl
    apply Exists.intro
    apply And.intro
    · simp (disch := first | omega | decide | simp only [nmsB, lB]) only [simprocAttr, -rR, -rS, leB, memB, arrB, numB, qaf, ordB, L75b0, h0, h1, h2, h3, hm, upto_ge, CT_9, CT_11, CT_13, CT_14, v0, v1, v2, v3, hs, e4, qae, qac, qad, qab, qaa, qaq]
      rfl
    · refine qal [(1, 0), (1, 1)] rfl (by simp only [simprocAttr, -rR, -rS, qaj, L75k0, qaD, qbe, qa5, qam, h0, h1, h2, h3, qag, qab, qaa]) rfl ⟨_, rfl, ?_, ?_, ?_, ?_⟩
      · rw[qaI]; simp (disch:=first|omega|decide|simp only[nmsB,lB]) only[simprocAttr,-rR,-rS,leB,memB,qaf,h0,qa4,qae,qac,qad,qab,qaa]
      · rw[qaI]; simp (disch:=first|omega|decide|simp only[nmsB,lB]) only[simprocAttr,-rR,-rS,leB,memB,qaf,h1,qae,qac,qad,qab,qaa]
      · exact qai (1,0) rfl (by simp (disch:=first|omega|decide|simp only[nmsB,lB]) only[simprocAttr,-rR,-rS,leB,memB,qaf,h2,qae,qac,qad,qab,qaa]) (qap _ _ _)
      · exact qai (1,1) rfl (by simp (disch:=first|omega|decide|simp only[nmsB,lB]) only[simprocAttr,-rR,-rS,leB,memB,qaf,h3,qae,qac,qad,qab,qaa]) (qap _ _ _)
  · refine qal [(2, 0), (3, 0)] rfl (by simp only [simprocAttr, -rR, -rS, qaj, L75k0, qaD, qbe, qa5, qam, qag, qab, qaa]) rfl ⟨_, rfl, ?_, ?_, ?_, ?_⟩
    · rw[qaI]; simp (disch:=first|omega|decide|simp only[nmsB,lB]) only[simprocAttr,-rR,-rS,leB,memB,qaf,qa4,qae,qac,qad,qab,qaa]
    · rw[qaI]; simp (disch:=first|omega|decide|simp only[nmsB,lB]) only[simprocAttr,-rR,-rS,leB,memB,qaf,qae,qac,qad,qab,qaa]
    · rw[Nat.mul_zero,qdI]; exact qai (2,0) rfl (by simp (disch:=first|omega|decide|simp only[nmsB,lB]) only[simprocAttr,-rR,-rS,leB,memB,qaf,qae,qac,qad,qab,qaa]) (qap _ _ _)
    · exact qai (3,0) rfl (by simp (disch:=first|omega|decide|simp only[nmsB,lB]) only[simprocAttr,-rR,-rS,leB,memB,qaf,qae,qac,qad,qab,qaa]) (qap _ _ _)
  · rintro st ⟨H, rfl, h0, h1, h2, h3⟩
    apply qaG
    simp (disch:=first|omega|decide|simp only[nmsB,lB]) only[simprocAttr,-rR,-rS,leB,memB,arrB,numB,qaf,L75b0,qae,qac,qad,qab,qaa]
    rfl
  · rintro st ⟨H, rfl, h0, h1, h2, h3⟩ rfl
    simp (disch:=first|omega|decide|simp only[nmsB,lB]) only[simprocAttr,-rR,-rS,leB,memB,arrB,numB,qaf,L75b0,h0,h1,h2,h3,qed,qae,qac,qad,qab,qaa]
    rw[qa0 2 _ _ [] (by simp only[simprocAttr,-rR,-rS,qaj,qa5,qam,qbe,h0,h1,qag,qab,qaa])]
    simp (disch:=first|omega|decide|simp only[nmsB,lB]) only[simprocAttr,-rR,-rS,leB,memB,qaf,qa4,qbl,h0,h1,qae,qac,qad,qab,qaa]
end Aes
namespace Aes
open Go Go.LE Tb
def raJ (a b:R) (i:Nat) (st:St):Prop := ∃ (H:Heap),st=⟨[.undef,.undef,.ptr (1,0) 0,.ptr (1,1) 0,.ptr (1,2) 0,N i,.undef,.undef,.undef,.undef,.undef,.undef,.undef,.undef,.undef,.undef,.undef,.undef,.undef,.undef],H,2,0⟩∧H (1,0)=some (aB 16 (upto i (add a b) a))∧H (1,1)=some (aB 16 b)∧H (1,2)=some (aB 16 fun _=>0#8)
theorem radd_F (k:Nat) (a b:R):F C (k+30) 103 [.agg (aB 16 a),.agg (aB 16 b)] []=some (.agg (aB 16 (add a b)),[],[]):=by
  rw[qaL f103]
  simp (disch:=first|omega|decide|simp only[nmsB,lB]) only[simprocAttr,-rR,-rS,leB,memB,arrB,numB,qaf,L103,qae,qac,qad,qab,qaa]
  generalize hL:qaP L103k0 _ _ _=r
  refine qaK hL (raJ a b) 16 (by omega) ?_ ?_ ?_ ?_
  · rintro i st hi ⟨H, rfl, h0, h1, h2⟩
    have hs:=qdH i (add a b) a (a i ^^^ b i) rfl
    apply Exists.intro
    apply And.intro
    · simp (disch := first | omega | decide | simp only [nmsB, lB]) only [simprocAttr, -rR, -rS, leB, memB, arrB, numB, qaf, ordB, L103b0, h0, h1, h2, hi, upto_at, hs, qae, qac, qad, qab, qaa, qaq]
      rfl
    · refine qal [(1, 0), (1, 1), (1, 2)] rfl (by simp only [simprocAttr, -rR, -rS, qaj, L103k0, qaD, h0, h1, h2, qag, qab, qaa]) rfl ⟨_, rfl, ?_, ?_, ?_⟩
      · exact qai (1,0) rfl (by simp (disch:=first|omega|decide|simp only[nmsB,lB]) only[simprocAttr,-rR,-rS,leB,memB,qaf,h0,h1,qae,qac,qad,qab,qaa]) (qap _ _ _)
      · exact qai (1,1) rfl (by simp (disch:=first|omega|decide|simp only[nmsB,lB]) only[simprocAttr,-rR,-rS,leB,memB,qaf,h0,h1,qae,qac,qad,qab,qaa]) (qap _ _ _)
      · exact qai (1,2) rfl (by simp (disch:=first|omega|decide|simp only[nmsB,lB]) only[simprocAttr,-rR,-rS,leB,memB,qaf,h0,h1,h2,qae,qac,qad,qab,qaa]) (qap _ _ _)
  · refine qal [(2, 0), (3, 0), (4, 0)] rfl (by simp only [simprocAttr, -rR, -rS, qaj, L103k0, qaD, qag, qab, qaa]) rfl ⟨_, rfl, ?_, ?_, ?_⟩
    · rw[qdI]; exact qai (2,0) rfl (by simp (disch:=first|omega|decide|simp only[nmsB,lB]) only[simprocAttr,-rR,-rS,leB,memB,qaf,qae,qac,qad,qab,qaa]) (qap _ _ _)
    · exact qai (3,0) rfl (by simp (disch:=first|omega|decide|simp only[nmsB,lB]) only[simprocAttr,-rR,-rS,leB,memB,qaf,qae,qac,qad,qab,qaa]) (qap _ _ _)
    · exact qai (4,0) rfl (by simp (disch:=first|omega|decide|simp only[nmsB,lB]) only[simprocAttr,-rR,-rS,leB,memB,qaf,qae,qac,qad,qab,qaa]) (qap _ _ _)
  · rintro st ⟨H, rfl, h0, h1, h2⟩
    apply qaG
    simp (disch:=first|omega|decide|simp only[nmsB,lB]) only[simprocAttr,-rR,-rS,leB,memB,arrB,numB,qaf,L103b0,qae,qac,qad,qab,qaa]
    rfl
  · rintro st ⟨H, rfl, h0, h1, h2⟩ rfl
    simp (disch:=first|omega|decide|simp only[nmsB,lB]) only[simprocAttr,-rR,-rS,leB,memB,arrB,numB,qaf,L103b0,h0,h1,h2,qed,qae,qac,qad,qab,qaa]
def shf (s:R):R:=fun j=>s ((j+4*(j % 4)) % 16)
theorem shf_ix:∀ c i:Fin 4,(4*c.val+i.val+4*((4*c.val+i.val) % 4)) % 16=4*((c.val+i.val) % 4)+i.val:=by decide
def shO (s:R) (c:Nat) (st:St):Prop := ∃ (H:Heap),st=⟨[.undef,.ptr (1,0) 0,.ptr (1,1) 0,.ptr (1,2) 0,N c,.undef,.undef,.undef,.undef,.undef,.undef,.undef,.undef,.undef,.undef,.undef,.undef,.undef,.undef,.undef,.undef,.undef,.undef,.undef,.undef,.undef,.undef,.undef,.undef],H,2,0⟩ ∧
  H (1,0)=some (aB 16 s)∧H (1,1)=some (aB 16 fun _=>0#8)∧H (1,2)=some (aB 16 (upto (4*c) (shf s) fun _=>0#8))
def shI (s:R) (c r:Nat) (st:St):Prop := ∃ (H:Heap),st=⟨[.undef,.ptr (1,0) 0,.ptr (1,1) 0,.ptr (1,2) 0,N c,N r,.undef,.undef,.undef,.undef,.undef,.undef,.undef,.undef,.undef,.undef,.undef,.undef,.undef,.undef,.undef,.undef,.undef,.undef,.undef,.undef,.undef,.undef,.undef],H,2,0⟩ ∧
  H (1,0)=some (aB 16 s)∧H (1,1)=some (aB 16 fun _=>0#8)∧H (1,2)=some (aB 16 (upto (4*c+r) (shf s) fun _=>0#8))
theorem shift_F (k:Nat) (s:R):F C (k+30) 104 [.agg (aB 16 s)] []=some (.agg (aB 16 (shf s)),[],[]):=by
  rw[qaL f104]
  simp (disch:=first|omega|decide|simp only[nmsB,lB]) only[simprocAttr,-rR,-rS,leB,memB,arrB,numB,qaf,L104,qae,qac,qad,qab,qaa]
  generalize hL:qaP L104k1 _ _ _=r
  refine qaK hL (shO s) 4 (by omega) ?_ ?_ ?_ ?_
  · rintro c st hc ⟨H, rfl, h0, h1, h2⟩
    simp (disch:=first|omega|decide|simp only[nmsB,lB]) only[simprocAttr,-rR,-rS,leB,memB,arrB,numB,qaf,L104b1,hc,qae,qac,qad,qab,qaa]
    generalize hL2:qaP L104k0 _ _ _=r2
    refine qaK hL2 (shI s c) 4 (by omega) ?_ ?_ ?_ ?_
    · rintro i st hi ⟨H, rfl, h0, h1, h2⟩
      have hm:4*((c+i) % 4)+i < 16:=by omega
      have hm2:4*c+i < 16:=by omega
      have e:shf s (4*c+i)=s (4*((c+i) % 4)+i):=congrArg s (shf_ix ⟨c,hc⟩ ⟨i,hi⟩)
      have hs:=qdH (4*c+i) (shf s) (fun _=>0#8) (s (4*((c+i) % 4)+i)) e.symm
      have e2:4*c+i+1=4*c+(i+1):=rfl
      rw[e2] at hs
      apply Exists.intro
      apply And.intro
      · simp (disch := first | omega | decide | simp only [nmsB, lB]) only [simprocAttr, -rR, -rS, leB, memB, arrB, numB, qaf, ordB, L104b0, h0, h1, h2, hi, hm, hm2, hs, qae, qac, qad, qab, qaa, qaq]
        rfl
      · refine qal [(1, 0), (1, 1), (1, 2)] rfl (by simp only [simprocAttr, -rR, -rS, qaj, L104k0, qaD, h0, h1, h2, qag, qab, qaa]) rfl ⟨_, rfl, ?_, ?_, ?_⟩
        · exact qai (1,0) rfl (by simp (disch:=first|omega|decide|simp only[nmsB,lB]) only[simprocAttr,-rR,-rS,leB,memB,qaf,h0,h1,qae,qac,qad,qab,qaa]) (qap _ _ _)
        · exact qai (1,1) rfl (by simp (disch:=first|omega|decide|simp only[nmsB,lB]) only[simprocAttr,-rR,-rS,leB,memB,qaf,h0,h1,qae,qac,qad,qab,qaa]) (qap _ _ _)
        · exact qai (1,2) rfl (by simp (disch:=first|omega|decide|simp only[nmsB,lB]) only[simprocAttr,-rR,-rS,leB,memB,qaf,h0,h1,h2,qae,qac,qad,qab,qaa]) (qap _ _ _)
    · refine qal [(1, 0), (1, 1), (1, 2)] rfl (by simp only [simprocAttr, -rR, -rS, qaj, L104k0, qaD, h0, h1, h2, qag, qab, qaa]) rfl ⟨_, rfl, ?_, ?_, ?_⟩
      · exact qai (1,0) rfl (by simp (disch:=first|omega|decide|simp only[nmsB,lB]) only[simprocAttr,-rR,-rS,leB,memB,qaf,h0,h1,qae,qac,qad,qab,qaa]) (qap _ _ _)
      · exact qai (1,1) rfl (by simp (disch:=first|omega|decide|simp only[nmsB,lB]) only[simprocAttr,-rR,-rS,leB,memB,qaf,h0,h1,qae,qac,qad,qab,qaa]) (qap _ _ _)
      · exact qai (1,2) rfl (by simp (disch:=first|omega|decide|simp only[nmsB,lB]) only[simprocAttr,-rR,-rS,leB,memB,qaf,h0,h1,h2,zY,qae,qac,qad,qab,qaa]) (qap _ _ _)
    · rintro st ⟨H, rfl, h0, h1, h2⟩
      apply qaG
      simp (disch:=first|omega|decide|simp only[nmsB,lB]) only[simprocAttr,-rR,-rS,leB,memB,arrB,numB,qaf,L104b0,qae,qac,qad,qab,qaa]
      rfl
    · rintro st ⟨H, rfl, h0, h1, h2⟩ rfl
      have e4:4*c+4=4*(c+1):=by omega
      rw[e4] at h2
      apply Exists.intro
      apply And.intro
      · simp (disch := first | omega | decide | simp only [nmsB, lB]) only [simprocAttr, -rR, -rS, leB, memB, arrB, numB, qaf, L104b0, qae, qac, qad, qab, qaa]
        rfl
      · refine qal [(1, 0), (1, 1), (1, 2)] rfl (by simp only [simprocAttr, -rR, -rS, qaj, L104k1, qaD, h0, h1, h2, qag, qab, qaa]) rfl ⟨_, rfl, ?_, ?_, ?_⟩
        · exact qai (1,0) rfl (by simp (disch:=first|omega|decide|simp only[nmsB,lB]) only[simprocAttr,-rR,-rS,leB,memB,qaf,h0,h1,qae,qac,qad,qab,qaa]) (qap _ _ _)
        · exact qai (1,1) rfl (by simp (disch:=first|omega|decide|simp only[nmsB,lB]) only[simprocAttr,-rR,-rS,leB,memB,qaf,h0,h1,qae,qac,qad,qab,qaa]) (qap _ _ _)
        · exact qai (1,2) rfl (by simp (disch:=first|omega|decide|simp only[nmsB,lB]) only[simprocAttr,-rR,-rS,leB,memB,qaf,h0,h1,h2,qae,qac,qad,qab,qaa]) (qap _ _ _)
  · refine qal [(2, 0), (3, 0), (4, 0)] rfl (by simp only [simprocAttr, -rR, -rS, qaj, L104k1, qaD, qag, qab, qaa]) rfl ⟨_, rfl, ?_, ?_, ?_⟩
    · exact qai (2,0) rfl (by simp (disch:=first|omega|decide|simp only[nmsB,lB]) only[simprocAttr,-rR,-rS,leB,memB,qaf,qae,qac,qad,qab,qaa]) (qap _ _ _)
    · exact qai (3,0) rfl (by simp (disch:=first|omega|decide|simp only[nmsB,lB]) only[simprocAttr,-rR,-rS,leB,memB,qaf,qae,qac,qad,qab,qaa]) (qap _ _ _)
    · rw[Nat.mul_zero,qdI]; exact qai (4,0) rfl (by simp (disch:=first|omega|decide|simp only[nmsB,lB]) only[simprocAttr,-rR,-rS,leB,memB,qaf,qae,qac,qad,qab,qaa]) (qap _ _ _)
  · rintro st ⟨H, rfl, h0, h1, h2⟩
    apply qaG
    simp (disch:=first|omega|decide|simp only[nmsB,lB]) only[simprocAttr,-rR,-rS,leB,memB,arrB,numB,qaf,L104b1,qae,qac,qad,qab,qaa]
    rfl
  · rintro st ⟨H, rfl, h0, h1, h2⟩ rfl
    simp (disch:=first|omega|decide|simp only[nmsB,lB]) only[simprocAttr,-rR,-rS,leB,memB,arrB,numB,qaf,L104b1,h0,h1,h2,qed,qae,qac,qad,qab,qaa]
end Aes
namespace Aes
open Go Go.LE Tb
def term (f s:R) (j k:Nat):BitVec 8:=mul (f ((k+4 - j % 4) % 4)) (s (4*(j / 4)+k))
def part (f s:R) (j:Nat):Nat→BitVec 8
  | 0=>0#8
  | k+1=>part f s j k ^^^ term f s j k
def mixg (f s:R):R:=fun j=>part f s j 4
def mxT (f s:R) (p k:Nat):R:=fun j=>if j < p then mixg f s j else if j=p then part f s j k else 0#8
theorem mxT_zero (f s:R) (p:Nat):mxT f s p 0=upto p (mixg f s) fun _=>0#8:=by
  funext j; simp only[mxT,upto,part,ite_self]
theorem mxT_four (f s:R) (p:Nat):mxT f s p 4=upto (p+1) (mixg f s) fun _=>0#8:=by
  funext j
  simp only[mxT,upto]
  by_cases h:j < p
  · rw[if_pos h,if_pos (by omega)]
  · rw [if_neg h]
    by_cases h2:j=p
    · rw[if_pos h2,if_pos (by omega)]; rfl
    · rw[if_neg h2,if_neg (by omega)]
theorem mxT_at (f s:R) (p k:Nat):mxT f s p k p=part f s p k:=by simp[mxT]
theorem mxT_succ (f s:R) (c r k:Nat) (hr:r < 4) (hk:k < 4):set1 (mxT f s (4*c+r) k) (4*c+r) (part f s (4*c+r) k ^^^ mul (f ((k+4 - r) % 4)) (s (4*c+k)))=mxT f s (4*c+r) (k+1):=by
  have e1:(4*c+r) % 4=r:=by omega
  have e2:(4*c+r) / 4=c:=by omega
  funext j
  simp only[set1,mxT]
  by_cases h:j=4*c+r
  · subst h; rw[if_pos rfl,if_neg (by omega),if_pos rfl,part,term,e1,e2]
  · rw [if_neg h]
    by_cases h2:j < 4*c+r
    · rw[if_pos h2,if_pos h2]
    · rw[if_neg h2,if_neg h2,if_neg h,if_neg h]
def x2J (f s:R) (c:Nat) (st:St):Prop := ∃ (H:Heap),st=⟨[.undef,.undef,.ptr (1,0) 0,.ptr (1,1) 0,.ptr (1,2) 0,.ptr (1,3) 0,N c,.undef,.undef,.undef,.undef,.undef,.undef,.undef,.undef,.undef,.undef,.undef,.undef,.undef,.undef,.undef,.undef,.undef,.undef,.undef,.undef,.undef,.undef,.undef,.undef,.undef,.undef,.undef,.undef,.undef,.undef,.undef,.undef,.undef,.undef,.undef,.undef,.undef,.undef,.undef,.undef,.undef],H,2,0⟩ ∧
  H (1,0)=some (aB 16 s)∧H (1,1)=some (aB 4 f)∧H (1,2)=some (aB 16 fun _=>0#8)∧H (1,3)=some (aB 16 (upto (4*c) (mixg f s) fun _=>0#8))
def x1J (f s:R) (c r:Nat) (st:St):Prop := ∃ (H:Heap),st=⟨[.undef,.undef,.ptr (1,0) 0,.ptr (1,1) 0,.ptr (1,2) 0,.ptr (1,3) 0,N c,N r,.undef,.undef,.undef,.undef,.undef,.undef,.undef,.undef,.undef,.undef,.undef,.undef,.undef,.undef,.undef,.undef,.undef,.undef,.undef,.undef,.undef,.undef,.undef,.undef,.undef,.undef,.undef,.undef,.undef,.undef,.undef,.undef,.undef,.undef,.undef,.undef,.undef,.undef,.undef,.undef],H,2,0⟩ ∧
  H (1,0)=some (aB 16 s)∧H (1,1)=some (aB 4 f)∧H (1,2)=some (aB 16 fun _=>0#8)∧H (1,3)=some (aB 16 (upto (4*c+r) (mixg f s) fun _=>0#8))
def x0J (f s:R) (c r k:Nat) (st:St):Prop := ∃ (H:Heap),st=⟨[.undef,.undef,.ptr (1,0) 0,.ptr (1,1) 0,.ptr (1,2) 0,.ptr (1,3) 0,N c,N r,N k,.undef,.undef,.undef,.undef,.undef,.undef,.undef,.undef,.undef,.undef,.undef,.undef,.undef,.undef,.undef,.undef,.undef,.undef,.undef,.undef,.undef,.undef,.undef,.undef,.undef,.undef,.undef,.undef,.undef,.undef,.undef,.undef,.undef,.undef,.undef,.undef,.undef,.undef,.undef],H,2,0⟩ ∧
  H (1,0)=some (aB 16 s)∧H (1,1)=some (aB 4 f)∧H (1,2)=some (aB 16 fun _=>0#8)∧H (1,3)=some (aB 16 (mxT f s (4*c+r) k))
theorem rmix_F (k:Nat) (s f:R):F C (k+30) 105 [.agg (aB 16 s),.agg (aB 4 f)] []=some (.agg (aB 16 (mixg f s)),[],[]):=by
  rw[qaL f105]
  simp (disch:=first|omega|decide|simp only[nmsB,lB]) only[simprocAttr,-rR,-rS,leB,memB,arrB,numB,qaf,L105,qae,qac,qad,qab,qaa]
  generalize hL:qaP L105k2 _ _ _=r
  refine qaK hL (x2J f s) 4 (by omega) ?_ ?_ ?_ ?_
  · rintro c st hc ⟨H, rfl, h0, h1, h2, h3⟩
    simp (disch:=first|omega|decide|simp only[nmsB,lB]) only[simprocAttr,-rR,-rS,leB,memB,arrB,numB,qaf,L105b2,hc,qae,qac,qad,qab,qaa]
    generalize hL1:qaP L105k1 _ _ _=r1
    refine qaK hL1 (x1J f s c) 4 (by omega) ?_ ?_ ?_ ?_
    · rintro r st hr ⟨H, rfl, h0, h1, h2, h3⟩
      simp (disch:=first|omega|decide|simp only[nmsB,lB]) only[simprocAttr,-rR,-rS,leB,memB,arrB,numB,qaf,L105b1,hr,qae,qac,qad,qab,qaa]
      generalize hL2:qaP L105k0 _ _ _=r2
      refine qaK hL2 (x0J f s c r) 4 (by omega) ?_ ?_ ?_ ?_
      · rintro i st hi ⟨H, rfl, h0, h1, h2, h3⟩
        have hm:4*c+r < 16:=by omega
        have hm2:4*c+i < 16:=by omega
        have hm3:(i+4 - r) % 4 < 4:=by omega
        have hs:=mxT_succ f s c r i hr hi
        apply Exists.intro
        apply And.intro
        · simp (disch := first | omega | decide | simp only [nmsB, lB]) only [simprocAttr, -rR, -rS, leB, memB, arrB, numB, qaf, ordB, L105b0, h0, h1, h2, h3, hi, hm, hm2, hm3, mxT_at, rmulF, hs, qae, qac, qad, qab, qaa, qaq]
          rfl
        · refine qal [(1, 0), (1, 1), (1, 2), (1, 3)] rfl (by simp only [simprocAttr, -rR, -rS, qaj, L105k0, qaD, h0, h1, h2, h3, qag, qab, qaa]) rfl ⟨_, rfl, ?_, ?_, ?_, ?_⟩
          · exact qai (1,0) rfl (by simp (disch:=first|omega|decide|simp only[nmsB,lB]) only[simprocAttr,-rR,-rS,leB,memB,qaf,h0,h1,qae,qac,qad,qab,qaa]) (qap _ _ _)
          · exact qai (1,1) rfl (by simp (disch:=first|omega|decide|simp only[nmsB,lB]) only[simprocAttr,-rR,-rS,leB,memB,qaf,h0,h1,qae,qac,qad,qab,qaa]) (qap _ _ _)
          · exact qai (1,2) rfl (by simp (disch:=first|omega|decide|simp only[nmsB,lB]) only[simprocAttr,-rR,-rS,leB,memB,qaf,h0,h1,h2,qae,qac,qad,qab,qaa]) (qap _ _ _)
          · exact qai (1,3) rfl (by simp (disch:=first|omega|decide|simp only[nmsB,lB]) only[simprocAttr,-rR,-rS,leB,memB,qaf,h0,h1,h2,qae,qac,qad,qab,qaa]) (qap _ _ _)
      · refine qal [(1, 0), (1, 1), (1, 2), (1, 3)] rfl (by simp only [simprocAttr, -rR, -rS, qaj, L105k0, qaD, h0, h1, h2, h3, qag, qab, qaa]) rfl ⟨_, rfl, ?_, ?_, ?_, ?_⟩
        · exact qai (1,0) rfl (by simp (disch:=first|omega|decide|simp only[nmsB,lB]) only[simprocAttr,-rR,-rS,leB,memB,qaf,h0,h1,qae,qac,qad,qab,qaa]) (qap _ _ _)
        · exact qai (1,1) rfl (by simp (disch:=first|omega|decide|simp only[nmsB,lB]) only[simprocAttr,-rR,-rS,leB,memB,qaf,h0,h1,qae,qac,qad,qab,qaa]) (qap _ _ _)
        · exact qai (1,2) rfl (by simp (disch:=first|omega|decide|simp only[nmsB,lB]) only[simprocAttr,-rR,-rS,leB,memB,qaf,h0,h1,h2,qae,qac,qad,qab,qaa]) (qap _ _ _)
        · rw[mxT_zero]; exact qai (1,3) rfl (by simp (disch:=first|omega|decide|simp only[nmsB,lB]) only[simprocAttr,-rR,-rS,leB,memB,qaf,h0,h1,h2,h3,qae,qac,qad,qab,qaa]) (qap _ _ _)
      · rintro st ⟨H, rfl, h0, h1, h2, h3⟩
        apply qaG
        simp (disch:=first|omega|decide|simp only[nmsB,lB]) only[simprocAttr,-rR,-rS,leB,memB,arrB,numB,qaf,L105b0,qae,qac,qad,qab,qaa]
        rfl
      · rintro st ⟨H, rfl, h0, h1, h2, h3⟩ rfl
        rw[mxT_four] at h3
        apply Exists.intro
        apply And.intro
        · simp (disch := first | omega | decide | simp only [nmsB, lB]) only [simprocAttr, -rR, -rS, leB, memB, arrB, numB, qaf, L105b0, qae, qac, qad, qab, qaa]
          rfl
        · refine qal [(1, 0), (1, 1), (1, 2), (1, 3)] rfl (by simp only [simprocAttr, -rR, -rS, qaj, L105k1, qaD, h0, h1, h2, h3, qag, qab, qaa]) rfl ⟨_, rfl, ?_, ?_, ?_, ?_⟩
          · exact qai (1,0) rfl (by simp (disch:=first|omega|decide|simp only[nmsB,lB]) only[simprocAttr,-rR,-rS,leB,memB,qaf,h0,h1,qae,qac,qad,qab,qaa]) (qap _ _ _)
          · exact qai (1,1) rfl (by simp (disch:=first|omega|decide|simp only[nmsB,lB]) only[simprocAttr,-rR,-rS,leB,memB,qaf,h0,h1,qae,qac,qad,qab,qaa]) (qap _ _ _)
          · exact qai (1,2) rfl (by simp (disch:=first|omega|decide|simp only[nmsB,lB]) only[simprocAttr,-rR,-rS,leB,memB,qaf,h0,h1,h2,qae,qac,qad,qab,qaa]) (qap _ _ _)
          · exact qai (1,3) rfl h3 (qap _ _ _)
    · refine qal [(1, 0), (1, 1), (1, 2), (1, 3)] rfl (by simp only [simprocAttr, -rR, -rS, qaj, L105k1, qaD, h0, h1, h2, h3, qag, qab, qaa]) rfl ⟨_, rfl, ?_, ?_, ?_, ?_⟩
      · exact qai (1,0) rfl (by simp (disch:=first|omega|decide|simp only[nmsB,lB]) only[simprocAttr,-rR,-rS,leB,memB,qaf,h0,h1,qae,qac,qad,qab,qaa]) (qap _ _ _)
      · exact qai (1,1) rfl (by simp (disch:=first|omega|decide|simp only[nmsB,lB]) only[simprocAttr,-rR,-rS,leB,memB,qaf,h0,h1,qae,qac,qad,qab,qaa]) (qap _ _ _)
      · exact qai (1,2) rfl (by simp (disch:=first|omega|decide|simp only[nmsB,lB]) only[simprocAttr,-rR,-rS,leB,memB,qaf,h0,h1,h2,qae,qac,qad,qab,qaa]) (qap _ _ _)
      · exact qai (1,3) rfl h3 (qap _ _ _)
    · rintro st ⟨H, rfl, h0, h1, h2, h3⟩
      apply qaG
      simp (disch:=first|omega|decide|simp only[nmsB,lB]) only[simprocAttr,-rR,-rS,leB,memB,arrB,numB,qaf,L105b1,qae,qac,qad,qab,qaa]
      rfl
    · rintro st ⟨H, rfl, h0, h1, h2, h3⟩ rfl
      apply Exists.intro
      apply And.intro
      · simp (disch := first | omega | decide | simp only [nmsB, lB]) only [simprocAttr, -rR, -rS, leB, memB, arrB, numB, qaf, L105b1, qae, qac, qad, qab, qaa]
        rfl
      · refine qal [(1, 0), (1, 1), (1, 2), (1, 3)] rfl (by simp only [simprocAttr, -rR, -rS, qaj, L105k2, qaD, h0, h1, h2, h3, qag, qab, qaa]) rfl ⟨_, rfl, ?_, ?_, ?_, ?_⟩
        · exact qai (1,0) rfl (by simp (disch:=first|omega|decide|simp only[nmsB,lB]) only[simprocAttr,-rR,-rS,leB,memB,qaf,h0,h1,qae,qac,qad,qab,qaa]) (qap _ _ _)
        · exact qai (1,1) rfl (by simp (disch:=first|omega|decide|simp only[nmsB,lB]) only[simprocAttr,-rR,-rS,leB,memB,qaf,h0,h1,qae,qac,qad,qab,qaa]) (qap _ _ _)
        · exact qai (1,2) rfl (by simp (disch:=first|omega|decide|simp only[nmsB,lB]) only[simprocAttr,-rR,-rS,leB,memB,qaf,h0,h1,h2,qae,qac,qad,qab,qaa]) (qap _ _ _)
        · exact qai (1,3) rfl h3 (qap _ _ _)
  · refine qal [(2, 0), (3, 0), (4, 0), (5, 0)] rfl (by simp only [simprocAttr, -rR, -rS, qaj, L105k2, qaD, qag, qab, qaa]) rfl ⟨_, rfl, ?_, ?_, ?_, ?_⟩
    · exact qai (2,0) rfl (by simp (disch:=first|omega|decide|simp only[nmsB,lB]) only[simprocAttr,-rR,-rS,leB,memB,qaf,qae,qac,qad,qab,qaa]) (qap _ _ _)
    · exact qai (3,0) rfl (by simp (disch:=first|omega|decide|simp only[nmsB,lB]) only[simprocAttr,-rR,-rS,leB,memB,qaf,qae,qac,qad,qab,qaa]) (qap _ _ _)
    · exact qai (4,0) rfl (by simp (disch:=first|omega|decide|simp only[nmsB,lB]) only[simprocAttr,-rR,-rS,leB,memB,qaf,qae,qac,qad,qab,qaa]) (qap _ _ _)
    · rw[Nat.mul_zero,qdI]; exact qai (5,0) rfl (by simp (disch:=first|omega|decide|simp only[nmsB,lB]) only[simprocAttr,-rR,-rS,leB,memB,qaf,qae,qac,qad,qab,qaa]) (qap _ _ _)
  · rintro st ⟨H, rfl, h0, h1, h2, h3⟩
    apply qaG
    simp (disch:=first|omega|decide|simp only[nmsB,lB]) only[simprocAttr,-rR,-rS,leB,memB,arrB,numB,qaf,L105b2,qae,qac,qad,qab,qaa]
    rfl
  · rintro st ⟨H, rfl, h0, h1, h2, h3⟩ rfl
    simp (disch:=first|omega|decide|simp only[nmsB,lB]) only[simprocAttr,-rR,-rS,leB,memB,arrB,numB,qaf,L105b2,h0,h1,h2,h3,qed,qae,qac,qad,qab,qaa]
def fM:R:=fun j=>[2#8,3#8,1#8,1#8].getD j 0#8
def fU:R:=fun j=>[14#8,11#8,13#8,9#8].getD j 0#8
theorem mixg_M (s:R) (j:Nat):mixg fM s j=mix s j:=by
  have h:j % 4=0∨j % 4=1∨j % 4=2∨j % 4=3:=by omega
  simp only[mixg,part,term,mix,at4,BitVec.zero_xor,zY,zO]
  have e0:(j+1) % 4=(j % 4+1) % 4:=by omega
  have e1:(j+2) % 4=(j % 4+2) % 4:=by omega
  have e2:(j+3) % 4=(j % 4+3) % 4:=by omega
  rw[e0,e1,e2]
  rcases h with h | h | h | h <;> rw[h] <;> simp only[fM,Nat.reduceAdd,Nat.reduceSub,Nat.reduceMod,List.getD_cons_zero,List.getD_cons_succ,qgp,mul_1,lin3,zY] <;> simp only[BitVec.xor_assoc,BitVec.xor_comm,xc]
theorem mixg_U (s:R) (j:Nat):mixg fU s j=qcD s j:=by
  have h:j % 4=0∨j % 4=1∨j % 4=2∨j % 4=3:=by omega
  simp only[mixg,part,term,qcD,at4,BitVec.zero_xor,zY,zO]
  have e0:(j+1) % 4=(j % 4+1) % 4:=by omega
  have e1:(j+2) % 4=(j % 4+2) % 4:=by omega
  have e2:(j+3) % 4=(j % 4+3) % 4:=by omega
  rw[e0,e1,e2]
  rcases h with h | h | h | h <;> rw[h] <;> simp only[fU,Nat.reduceAdd,Nat.reduceSub,Nat.reduceMod,List.getD_cons_zero,List.getD_cons_succ,lin9,lin11,lin13,lin14,T9,T11,T13,T14,zY] <;> simp only[BitVec.xor_assoc,BitVec.xor_comm,xc]
end Aes
