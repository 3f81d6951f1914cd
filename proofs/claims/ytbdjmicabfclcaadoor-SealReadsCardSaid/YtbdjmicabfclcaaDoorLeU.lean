/- AES in plain Lean: boxes, products, qe8, round keys. No program in sight. -/
import Derived.Test.YtbdjmicabfclcaaDoorLeG
import Derived.Test.YtbdjmicabfclcaaDoorLeT
set_option linter.unusedVariables false
set_option linter.unusedSimpArgs false
open List renaming reduceReplicate → rR
open Nat renaming reduceSubDiff → rS
namespace Aes
abbrev R:=Nat→BitVec 8
def PWl:List (BitVec 8):=[1#8,3#8,5#8,15#8,17#8,51#8,85#8,255#8,26#8,46#8,114#8,150#8,161#8,248#8,19#8,53#8,95#8,225#8,56#8,72#8,216#8,115#8,149#8,164#8,247#8,2#8,6#8,10#8,30#8,34#8,102#8,170#8,229#8,52#8,92#8,228#8,55#8,89#8,235#8,38#8,106#8,190#8,217#8,112#8,144#8,171#8,230#8,49#8,83#8,245#8,4#8,12#8,20#8,60#8,68#8,204#8,79#8,209#8,104#8,184#8,211#8,110#8,178#8,205#8,76#8,212#8,103#8,169#8,224#8,59#8,77#8,215#8,98#8,166#8,241#8,8#8,24#8,40#8,120#8,136#8,131#8,158#8,185#8,208#8,107#8,189#8,220#8,127#8,129#8,152#8,179#8,206#8,73#8,219#8,118#8,154#8,181#8,196#8,87#8,249#8,16#8,48#8,80#8,240#8,11#8,29#8,39#8,105#8,187#8,214#8,97#8,163#8,254#8,25#8,43#8,125#8,135#8,146#8,173#8,236#8,47#8,113#8,147#8,174#8,233#8,32#8,96#8,160#8,251#8,22#8,58#8,78#8,210#8,109#8,183#8,194#8,93#8,231#8,50#8,86#8,250#8,21#8,63#8,65#8,195#8,94#8,226#8,61#8,71#8,201#8,64#8,192#8,91#8,237#8,44#8,116#8,156#8,191#8,218#8,117#8,159#8,186#8,213#8,100#8,172#8,239#8,42#8,126#8,130#8,157#8,188#8,223#8,122#8,142#8,137#8,128#8,155#8,182#8,193#8,88#8,232#8,35#8,101#8,175#8,234#8,37#8,111#8,177#8,200#8,67#8,197#8,84#8,252#8,31#8,33#8,99#8,165#8,244#8,7#8,9#8,27#8,45#8,119#8,153#8,176#8,203#8,70#8,202#8,69#8,207#8,74#8,222#8,121#8,139#8,134#8,145#8,168#8,227#8,62#8,66#8,198#8,81#8,243#8,14#8,18#8,54#8,90#8,238#8,41#8,123#8,141#8,140#8,143#8,138#8,133#8,148#8,167#8,242#8,13#8,23#8,57#8,75#8,221#8,124#8,132#8,151#8,162#8,253#8,28#8,36#8,108#8,180#8,199#8,82#8,246#8,1#8]
def BOXl:List (BitVec 8):=[99#8,124#8,119#8,123#8,242#8,107#8,111#8,197#8,48#8,1#8,103#8,43#8,254#8,215#8,171#8,118#8,202#8,130#8,201#8,125#8,250#8,89#8,71#8,240#8,173#8,212#8,162#8,175#8,156#8,164#8,114#8,192#8,183#8,253#8,147#8,38#8,54#8,63#8,247#8,204#8,52#8,165#8,229#8,241#8,113#8,216#8,49#8,21#8,4#8,199#8,35#8,195#8,24#8,150#8,5#8,154#8,7#8,18#8,128#8,226#8,235#8,39#8,178#8,117#8,9#8,131#8,44#8,26#8,27#8,110#8,90#8,160#8,82#8,59#8,214#8,179#8,41#8,227#8,47#8,132#8,83#8,209#8,0#8,237#8,32#8,252#8,177#8,91#8,106#8,203#8,190#8,57#8,74#8,76#8,88#8,207#8,208#8,239#8,170#8,251#8,67#8,77#8,51#8,133#8,69#8,249#8,2#8,127#8,80#8,60#8,159#8,168#8,81#8,163#8,64#8,143#8,146#8,157#8,56#8,245#8,188#8,182#8,218#8,33#8,16#8,255#8,243#8,210#8,205#8,12#8,19#8,236#8,95#8,151#8,68#8,23#8,196#8,167#8,126#8,61#8,100#8,93#8,25#8,115#8,96#8,129#8,79#8,220#8,34#8,42#8,144#8,136#8,70#8,238#8,184#8,20#8,222#8,94#8,11#8,219#8,224#8,50#8,58#8,10#8,73#8,6#8,36#8,92#8,194#8,211#8,172#8,98#8,145#8,149#8,228#8,121#8,231#8,200#8,55#8,109#8,141#8,213#8,78#8,169#8,108#8,86#8,244#8,234#8,101#8,122#8,174#8,8#8,186#8,120#8,37#8,46#8,28#8,166#8,180#8,198#8,232#8,221#8,116#8,31#8,75#8,189#8,139#8,138#8,112#8,62#8,181#8,102#8,72#8,3#8,246#8,14#8,97#8,53#8,87#8,185#8,134#8,193#8,29#8,158#8,225#8,248#8,152#8,17#8,105#8,217#8,142#8,148#8,155#8,30#8,135#8,233#8,206#8,85#8,40#8,223#8,140#8,161#8,137#8,13#8,191#8,230#8,66#8,104#8,65#8,153#8,45#8,15#8,176#8,84#8,187#8,22#8]
def UNBl:List (BitVec 8):=[82#8,9#8,106#8,213#8,48#8,54#8,165#8,56#8,191#8,64#8,163#8,158#8,129#8,243#8,215#8,251#8,124#8,227#8,57#8,130#8,155#8,47#8,255#8,135#8,52#8,142#8,67#8,68#8,196#8,222#8,233#8,203#8,84#8,123#8,148#8,50#8,166#8,194#8,35#8,61#8,238#8,76#8,149#8,11#8,66#8,250#8,195#8,78#8,8#8,46#8,161#8,102#8,40#8,217#8,36#8,178#8,118#8,91#8,162#8,73#8,109#8,139#8,209#8,37#8,114#8,248#8,246#8,100#8,134#8,104#8,152#8,22#8,212#8,164#8,92#8,204#8,93#8,101#8,182#8,146#8,108#8,112#8,72#8,80#8,253#8,237#8,185#8,218#8,94#8,21#8,70#8,87#8,167#8,141#8,157#8,132#8,144#8,216#8,171#8,0#8,140#8,188#8,211#8,10#8,247#8,228#8,88#8,5#8,184#8,179#8,69#8,6#8,208#8,44#8,30#8,143#8,202#8,63#8,15#8,2#8,193#8,175#8,189#8,3#8,1#8,19#8,138#8,107#8,58#8,145#8,17#8,65#8,79#8,103#8,220#8,234#8,151#8,242#8,207#8,206#8,240#8,180#8,230#8,115#8,150#8,172#8,116#8,34#8,231#8,173#8,53#8,133#8,226#8,249#8,55#8,232#8,28#8,117#8,223#8,110#8,71#8,241#8,26#8,113#8,29#8,41#8,197#8,137#8,111#8,183#8,98#8,14#8,170#8,24#8,190#8,27#8,252#8,86#8,62#8,75#8,198#8,210#8,121#8,32#8,154#8,219#8,192#8,254#8,120#8,205#8,90#8,244#8,31#8,221#8,168#8,51#8,136#8,7#8,199#8,49#8,177#8,18#8,16#8,89#8,39#8,128#8,236#8,95#8,96#8,81#8,127#8,169#8,25#8,181#8,74#8,13#8,45#8,229#8,122#8,159#8,147#8,201#8,156#8,239#8,160#8,224#8,59#8,77#8,174#8,42#8,245#8,176#8,200#8,235#8,187#8,60#8,131#8,83#8,153#8,97#8,23#8,43#8,4#8,126#8,186#8,119#8,214#8,38#8,225#8,105#8,20#8,99#8,85#8,33#8,12#8,125#8]
def PW (i:Nat):BitVec 8:=PWl.getD i 0#8
def BX (i:Nat):BitVec 8:=BOXl.getD i 0#8
def UB (i:Nat):BitVec 8:=UNBl.getD i 0#8
def mul (a b:BitVec 8):BitVec 8:=GF.mul 27#8 a b
theorem ub_bx (x:BitVec 8):UB (BX x.toNat).toNat=x:=by
  revert x; decide +kernel
theorem bx_ub (x:BitVec 8):BX (UB x.toNat).toNat=x:=by
  revert x; decide +kernel
def T2 (x:BitVec 8):BitVec 8:=GF.dbl 27#8 x
theorem mul_T2' (x:BitVec 8):mul x 2#8=T2 x:=GF.mul_two _ _ (by decide)
theorem qfa (x y:BitVec 8):T2 (x ^^^ y)=T2 x ^^^ T2 y:=GF.qge _ _ _
def T4 (x:BitVec 8):BitVec 8:=T2 (T2 x)
def T8 (x:BitVec 8):BitVec 8:=T2 (T4 x)
theorem T4_lin (x y:BitVec 8):T4 (x ^^^ y)=T4 x ^^^ T4 y:=by simp only[T4,qfa]
theorem T8_lin (x y:BitVec 8):T8 (x ^^^ y)=T8 x ^^^ T8 y:=by simp only[T8,T4_lin,qfa]
theorem qgf (a b x:BitVec 8):mul (a ^^^ b) x=mul a x ^^^ mul b x:=GF.qgf _ _ _ _
def rnd (s:R):R:=fun i=>BX (s ((i+4*(i % 4)) % 16)).toNat
def qdW (s:R):R:=fun i=>UB (s ((i+12*(i % 4)) % 16)).toNat
def at4 (s:R) (i k:Nat):BitVec 8:=s (4*(i / 4)+(i+k) % 4)
def mix (s:R):R:=fun i=>T2 (at4 s i 0) ^^^ T2 (at4 s i 1) ^^^ at4 s i 1 ^^^ at4 s i 2 ^^^ at4 s i 3
def T9 (x:BitVec 8):BitVec 8:=T8 x ^^^ x
def T11 (x:BitVec 8):BitVec 8:=T8 x ^^^ T2 x ^^^ x
def T13 (x:BitVec 8):BitVec 8:=T8 x ^^^ T4 x ^^^ x
def T14 (x:BitVec 8):BitVec 8:=T8 x ^^^ T4 x ^^^ T2 x
def qcU (s:R):R:=fun i=>T14 (at4 s i 0) ^^^ T11 (at4 s i 1) ^^^ T13 (at4 s i 2) ^^^ T9 (at4 s i 3)
def add (s k:R):R:=fun i=>s i ^^^ k i
def E16 (s t:R):Prop := ∀ i,i < 16→s i=t i
theorem E16.refl (s:R):E16 s s:=fun _ _=>rfl
theorem E16.symm {s t:R} (h:E16 s t):E16 t s:=fun i hi=>(h i hi).symm
theorem E16.trans {s t u:R} (h:E16 s t) (h':E16 t u):E16 s u:=fun i hi=>(h i hi).trans (h' i hi)
theorem rnd_c {s t:R} (h:E16 s t):E16 (rnd s) (rnd t):=fun i _=>by simp only[rnd]; rw[h _ (Nat.mod_lt _ (by decide))]
theorem unrnd_c {s t:R} (h:E16 s t):E16 (qdW s) (qdW t):=fun i _=>by simp only[qdW]; rw[h _ (Nat.mod_lt _ (by decide))]
theorem at4_c {s t:R} (h:E16 s t) (i k:Nat) (hi:i < 16):at4 s i k=at4 t i k:=h _ (by omega)
theorem mix_c {s t:R} (h:E16 s t):E16 (mix s) (mix t):=fun i hi=>by simp only[mix,at4_c h _ _ hi]
theorem unmix_c {s t:R} (h:E16 s t):E16 (qcU s) (qcU t):=fun i hi=>by simp only[qcU,at4_c h _ _ hi]
theorem qex {s t:R} (h:E16 s t) (k:R):E16 (add s k) (add t k):=fun i hi=>by simp only[add,h i hi]
theorem unrnd_rnd (s:R):E16 (qdW (rnd s)) s:=by
  intro i hi
  simp only[qdW,rnd,ub_bx]
  congr 1; omega
theorem rnd_unrnd (s:R):E16 (rnd (qdW s)) s:=by
  intro i hi
  simp only[qdW,rnd,bx_ub]
  congr 1; omega
theorem qfs (s k:R):add (add s k) k=s:=by
  funext i; simp only[add]; rw[BitVec.xor_assoc,BitVec.xor_self,BitVec.xor_zero]
theorem at4_move (s:R) (i j k:Nat):at4 s (4*(i / 4)+(i+j) % 4) k=at4 s i ((j+k) % 4):=by
  simp only[at4]
  congr 1; omega
theorem unmix_mix (s:R):qcU (mix s)=fun i=>at4 s i 0:=by
  funext i
  simp only[qcU]
  have h:∀ k,at4 (mix s) i k=T2 (at4 s i (k % 4)) ^^^ T2 (at4 s i ((k+1) % 4)) ^^^ at4 s i ((k+1) % 4) ^^^ at4 s i ((k+2) % 4) ^^^ at4 s i ((k+3) % 4):=by
    intro k
    show mix s (4*(i / 4)+(i+k) % 4)=_
    simp only[mix,at4_move,zZ]
  rw[h,h,h,h]
  simp only[Nat.reduceMod,Nat.reduceAdd]
  generalize at4 s i 0=w; generalize at4 s i 1=x; generalize at4 s i 2=y; generalize at4 s i 3=z
  simp only[T14,T11,T13,T9,T8_lin,T4_lin,qfa]
  have e1:∀ a,T4 (T2 a)=T8 a:=fun a=>rfl
  have e2:∀ a,T2 (T2 a)=T4 a:=fun a=>rfl
  simp only[e1,e2]
  have e3:∀ a,T8 (T2 a)=T4 (T4 a):=fun a=>rfl
  simp only[e3]
  generalize T4 (T4 w)=w16; generalize T4 (T4 x)=x16; generalize T4 (T4 y)=y16; generalize T4 (T4 z)=z16
  generalize T8 w=w8; generalize T8 x=x8; generalize T8 y=y8; generalize T8 z=z8
  generalize T4 w=w4; generalize T4 x=x4; generalize T4 y=y4; generalize T4 z=z4
  generalize T2 w=w2; generalize T2 x=x2; generalize T2 y=y2; generalize T2 z=z2
  have hc:∀ a b c:BitVec 8,a ^^^ (b ^^^ c)=b ^^^ (a ^^^ c):=fun a b c=>by rw[←BitVec.xor_assoc,BitVec.xor_comm a b,BitVec.xor_assoc]
  simp only[BitVec.xor_assoc,BitVec.xor_comm,hc,GF.qdc,BitVec.xor_self,BitVec.xor_zero,BitVec.zero_xor]
end Aes
namespace Aes
open Go Go.LE Tb
theorem twice (k:Nat) (a:BitVec 8):F C (k+1) 95 [B8 a] []=some (B8 (if 128#8≤a then (a <<< 1) ^^^ 27#8 else a <<< 1),[],[]):=by
  rw[qaH f95]
  by_cases h:128#8≤a
  · simp (disch:=first|omega|decide|simp only[nmsB,lB]) only[simprocAttr,-rR,-rS,leB,memB,numB,qaf,L95,h,decide_true,zG,qae,qab,qad,qac,qaa]
  · simp (disch:=first|omega|decide|simp only[nmsB,lB]) only[simprocAttr,-rR,-rS,leB,memB,numB,qaf,L95,h,decide_false,zM,qae,qab,qad,qac,qaa]
theorem twice_gf (k:Nat) (a:BitVec 8):F C (k+1) 95 [B8 a] []=some (B8 (GF.dbl 27#8 a),[],[]):=by
  rw[twice]
  congr 3
  revert a
  decide
def mst (x0 x1 x5:BitVec 8) (H:Heap):St:=⟨[B8 x0,B8 x1,.undef,.undef,.undef,B8 x5,.undef,.undef,.undef,.undef,.undef,.undef,.undef,.undef,.undef,.undef,.undef,.undef,.undef],H,2,0⟩
theorem mul_loop (k K:Nat):∀ (n m:Nat) (st:St) (x0 x1 x5:BitVec 8) (H:Heap),qa8 L89k0 st=mst x0 x1 x5 H→x1.toNat < 2 ^ n →
    ∃ y H' z, qa1 L89k0 (ev (envC C (k + 1)) K L89b0) (m + n + 1) st =
      some (.exit 0,⟨[B8 y,B8 z,.undef,.undef,.undef,B8 (x5 ^^^ GF.mul 27#8 x0 x1),B8 z,Bo false,.undef,.undef,.undef,.undef,.undef,.undef,.undef,.undef,.undef,.undef,.undef],H',4,0⟩):=by
  intro n
  induction n with
  | zero =>
    intro m st x0 x1 x5 H hc hx
    have h0:x1=0#8:=by apply BitVec.eq_of_toNat_eq; simp at hx ⊢; omega
    subst h0
    refine ⟨x0,H,0#8,?_⟩
    rw[GF.qde]
    refine qgx hc ?_
    simp (disch:=first|omega|decide|simp only[nmsB,lB]) only[simprocAttr,-rR,-rS,leB,memB,numB,qaf,L89b0,mst,decide_false,zM,reduceIte,BitVec.xor_zero,show ¬ (0#8 < 0#8) by decide,qae,qab,qad,qac,qaa]
  | succ n ih =>
    intro m st x0 x1 x5 H hc hx
    by_cases h:0#8 < x1
    · rw [GF.mul_step _ _ _ (by decide), ← BitVec.xor_assoc]
      have hx':(x1 >>> 1).toNat < 2 ^ n:=by
        rw[BitVec.toNat_ushiftRight,Nat.shiftRight_eq_div_pow]
        rw[Nat.pow_succ] at hx
        omega
      by_cases h1:x1 &&& 1#8=1#8
      · rw [if_pos h1]
        have hr:∃ st1,ev (envC C (k+1)) K L89b0 (mst x0 x1 x5 H)=some (.normal,st1)∧qa8 L89k0 st1=mst (GF.dbl 27#8 x0) (x1 >>> 1) (x5 ^^^ x0) (cH H):=by
          apply Exists.intro
          apply And.intro
          · simp (disch := first | omega | decide | simp only [nmsB, lB]) only [simprocAttr, -rR, -rS, leB, memB, numB, qaf, L89b0, mst, h, decide_true, zG, h1, beq_self_eq_true, twice_gf, reduceIte, Nat.one_ne_zero, qae, qab, qad, qac, qaa]
            rfl
          · exact qfY rfl rfl rfl
        obtain ⟨st1,hr1,hr2⟩:=hr
        obtain ⟨y,H',z,e⟩:=ih (m:=m) st1 _ _ _ _ hr2 hx'
        refine ⟨y,H',z,?_⟩
        rw[←e]
        exact qgw hc hr1
      · rw [if_neg h1, BitVec.xor_zero]
        have h1':(x1 &&& 1#8 == 1#8)=false:=by simpa using h1
        have hr:∃ st1,ev (envC C (k+1)) K L89b0 (mst x0 x1 x5 H)=some (.normal,st1)∧qa8 L89k0 st1=mst (GF.dbl 27#8 x0) (x1 >>> 1) x5 (cH H):=by
          apply Exists.intro
          apply And.intro
          · simp (disch := first | omega | decide | simp only [nmsB, lB]) only [simprocAttr, -rR, -rS, leB, memB, numB, qaf, L89b0, mst, h, decide_true, zG, h1', twice_gf, reduceIte, Nat.one_ne_zero, qae, qab, qad, qac, qaa]
            rfl
          · exact qfY rfl rfl rfl
        obtain ⟨st1,hr1,hr2⟩:=hr
        obtain ⟨y,H',z,e⟩:=ih (m:=m) st1 _ _ _ _ hr2 hx'
        refine ⟨y,H',z,?_⟩
        rw[←e]
        exact qgw hc hr1
    · have h0:x1=0#8:=by
        apply BitVec.eq_of_toNat_eq
        rw[BitVec.lt_def] at h
        simp at h ⊢; omega
      subst h0
      refine ⟨x0,H,0#8,?_⟩
      rw[GF.qde]
      refine qgx hc ?_
      simp (disch:=first|omega|decide|simp only[nmsB,lB]) only[simprocAttr,-rR,-rS,leB,memB,numB,qaf,L89b0,mst,decide_false,zM,reduceIte,BitVec.xor_zero,show ¬ (0#8 < 0#8) by decide,qae,qab,qad,qac,qaa]
theorem mul_F (k:Nat) (a b:BitVec 8):F C (k+10) 89 [B8 a,B8 b] []=some (B8 (GF.mul 27#8 a b),[],[]):=by
  rw[qaH f89]
  have hl : ∀ (st : St) (H : Heap), qa8 L89k0 st = mst a b 0#8 H → ∃ y H' z, qa1 L89k0 (ev (envC C (k + 9)) (k + 9) L89b0) (k + 9) st =
      some (.exit 0,⟨[B8 y,B8 z,.undef,.undef,.undef,B8 (0#8 ^^^ GF.mul 27#8 a b),B8 z,Bo false,.undef,.undef,.undef,.undef,.undef,.undef,.undef,.undef,.undef,.undef,.undef],H',4,0⟩):=fun st H h=>mul_loop (k+8) (k+9) 8 k st a b 0#8 H h b.isLt
  simp (disch:=first|omega|decide|simp only[nmsB,lB]) only[simprocAttr,-rR,-rS,leB,memB,numB,qaf,L89,qae,qab,qad,qac,qaa]
  obtain ⟨y,H',z,e⟩:=hl ⟨[B8 a,B8 b,Un,Un,B8 0#8,B8 0#8,Un,Un,Un,Un,Un,Un,Un,Un,Un,Un,Un,Un,Un],qaY [],4,0⟩ (cH (qaY [])) (qfY rfl rfl rfl)
  rw[e]
  simp (disch:=first|omega|decide|simp only[nmsB,lB]) only[simprocAttr,-rR,-rS,leB,memB,numB,qaf,reduceIte,BitVec.zero_xor,qae,qab,qad,qac,qaa]
def rot (a:BitVec 8) (n:Nat):BitVec 8:=(a <<< n) ||| (a >>> (8 - n))
theorem rot1 (k:Nat) (a:BitVec 8):F C (k+1) 94 [B8 a,N 1] []=some (B8 (rot a 1),[],[]):=by rw[qaH f94]; simp (disch:=first|omega|decide|simp only[nmsB,lB]) only[simprocAttr,-rR,-rS,leB,memB,numB,qaf,L94,qae,qab,qad,qac,qaa]; rfl
theorem rot2 (k:Nat) (a:BitVec 8):F C (k+1) 94 [B8 a,N 2] []=some (B8 (rot a 2),[],[]):=by rw[qaH f94]; simp (disch:=first|omega|decide|simp only[nmsB,lB]) only[simprocAttr,-rR,-rS,leB,memB,numB,qaf,L94,qae,qab,qad,qac,qaa]; rfl
theorem rot3 (k:Nat) (a:BitVec 8):F C (k+1) 94 [B8 a,N 3] []=some (B8 (rot a 3),[],[]):=by rw[qaH f94]; simp (disch:=first|omega|decide|simp only[nmsB,lB]) only[simprocAttr,-rR,-rS,leB,memB,numB,qaf,L94,qae,qab,qad,qac,qaa]; rfl
theorem rot4 (k:Nat) (a:BitVec 8):F C (k+1) 94 [B8 a,N 4] []=some (B8 (rot a 4),[],[]):=by rw[qaH f94]; simp (disch:=first|omega|decide|simp only[nmsB,lB]) only[simprocAttr,-rR,-rS,leB,memB,numB,qaf,L94,qae,qab,qad,qac,qaa]; rfl
theorem box0_F (k:Nat):F C (k+30) 93 [B8 0#8] []=some (B8 99#8,[],[]):=by kernel_rfl
end Aes
namespace Aes
open Go Go.LE Tb
end Aes
namespace Aes
open Go Go.LE Tb
theorem mulF (k:Nat) (a b:BitVec 8):F C (k+10) 89 [B8 a,B8 b] []=some (B8 (mul a b),[],[]):=mul_F k a b
end Aes
namespace Aes
open Go Go.LE Tb
def CF (r:LV) (f:R):qal:=r::aB 1792 f
theorem qfR (r:LV) (f:R):(CF r f).length=1793:=by simp[CF,qbX]
theorem CF_k (r:LV) (f:R):qaS 0 1 (some (CF r f))=some [r]:=by
  rw[qbH,if_pos (by rw[qfR]; decide)]; rfl
theorem CF_at (r:LV) (f:R) (o:Nat) (h:o < 1792):qaS (o+1) 1 (some (CF r f))=some [B8 (f o)]:=by
  have:=aB_cell 1792 f o h
  rw[qbH,if_pos (by rw[qbX]; omega)] at this
  rw[qbH,if_pos (by rw[qfR]; omega),CF,zd]
  exact this
theorem qfI (r:LV) (f:R) (o p:Nat) (h0:o=p+1) (h:p < 1792):qaS o 1 (some (CF r f))=some [B8 (f p)]:=by subst h0; exact CF_at r f p h
theorem CF_st (r:LV) (f:R) (m:Nm) (o:Nat) (x:BitVec 8) (h0:0 < o) (h:o < 1793):stK 1 o m (some [B8 x]) (some (CF r f))=some ⟨Un,[],[(m,some (CF r (set1 f (o - 1) x)))]⟩:=by
  obtain ⟨p,rfl⟩:∃ p,o=p+1:=⟨o - 1,by omega⟩
  have:=aB_st p 1792 m x f (by omega)
  rw[qcw,if_pos ⟨rfl,by rw[qbX]; omega,rfl⟩] at this
  rw[qcw,if_pos ⟨rfl,by rw[qfR]; omega,rfl⟩]
  have e:qbh (aB 1792 f) p [B8 x]=aB 1792 (set1 f p x):=by simpa using this
  have e2:qbh (CF r f) (p+1) [B8 x]=r::qbh (aB 1792 f) p [B8 x]:=by
    simp only[qbh,CF,zf,zS,zE,zL,zO]
    rw[Nat.add_right_comm,zd]
  rw[e2,e]; rfl
theorem qaW (r:LV) (f:R):(CF r f).flatMap (nms D)=nms D r:=by
  rw[CF,zK,qaN,zD]
theorem qaV (π:Nm→Option Nm) (r:LV) (f:R):(CF r f).map (ren D π)=CF (ren D π r) f:=by
  rw[CF,zB,qaE,CF]
theorem CF_congr (r:LV) {f g:R} (h:∀ i,i < 1792→f i=g i):CF r f=CF r g:=by rw[CF,CF,qcn _ h]
def LGl:List Nat:=[0,0,25,1,50,2,26,198,75,199,27,104,51,238,223,3,100,4,224,14,52,141,129,239,76,113,8,200,248,105,28,193,125,194,29,181,249,185,39,106,77,228,166,114,154,201,9,120,101,47,138,5,33,15,225,36,18,240,130,69,53,147,218,142,150,143,219,189,54,208,206,148,19,92,210,241,64,70,131,56,102,221,253,48,191,6,139,98,179,37,226,152,34,136,145,16,126,110,72,195,163,182,30,66,58,107,40,84,250,133,61,186,43,121,10,21,155,159,94,202,78,212,172,229,243,115,167,87,175,88,168,80,244,234,214,116,79,174,233,213,231,230,173,232,44,215,117,122,235,22,11,245,89,203,95,176,156,169,81,160,127,12,246,111,23,196,73,236,216,67,31,45,164,118,123,183,204,187,62,90,251,96,177,134,59,82,161,108,170,85,41,157,151,178,135,144,97,190,220,252,188,149,207,205,55,63,91,209,83,57,132,60,65,162,109,71,20,42,158,93,86,242,211,171,68,17,146,217,35,32,46,137,180,124,184,38,119,153,227,165,103,74,237,222,197,49,254,24,13,99,140,128,192,247,112,7]
def LG (i:Nat):Nat:=LGl.getD i 0
def TB:R:=fun j=>if j < 256 then BX j else if j < 512 then UB (j - 256) else if j < 768 then T2 (BitVec.ofNat 8 j) else if j < 1024 then T9 (BitVec.ofNat 8 j)
  else if j < 1280 then T11 (BitVec.ofNat 8 j) else if j < 1536 then T13 (BitVec.ofNat 8 j) else T14 (BitVec.ofNat 8 j)
theorem pw_mul:∀ i:Fin 255,mul (PW i.val) 3#8=PW (i.val+1):=by decide +kernel
theorem lg_pw:∀ i:Fin 255,LG (PW i.val).toNat=i.val:=by decide +kernel
theorem pw_lg:∀ j:Fin 256,j.val=0∨PW (LG j.val)=BitVec.ofNat 8 j.val:=by decide +kernel
theorem lg_lt:∀ j:Fin 256,LG j.val < 255:=by decide +kernel
def xb (b:BitVec 8):BitVec 8:=99#8 ^^^ b ^^^ rot b 1 ^^^ rot b 2 ^^^ rot b 3 ^^^ rot b 4
theorem xb_pw:∀ i:Fin 255,xb (PW (255 - i.val))=BX (PW i.val).toNat:=by decide +kernel
def don (i a:Nat):Bool:=decide (a=0∨LG a < i)
theorem don_succ (i a:Nat) (hi:i < 255) (ha:a < 256):don (i+1) a=(decide (a=(PW i).toNat) || don i a):=by
  rw[don,don,Bool.eq_iff_iff]
  simp only[decide_eq_true_eq,Bool.or_eq_true]
  have h1:=lg_pw ⟨i,hi⟩
  have h2:=pw_lg ⟨a,ha⟩
  simp only at h1 h2
  constructor
  · rintro (h | h)
    · exact Or.inr (Or.inl h)
    · by_cases h3 : LG a < i
      · exact Or.inr (Or.inr h3)
      · have h4 : LG a = i := by omega
        rcases h2 with h2 | h2
        · exact Or.inr (Or.inl h2)
        · left
          rw[←h4,h2,BitVec.toNat_ofNat]; omega
  · rintro (h | h | h)
    · right; rw[h,h1]; omega
    · exact Or.inl h
    · exact Or.inr (by omega)
theorem don_all (a:Nat) (ha:a < 256):don 255 a=true:=by
  have:=lg_lt ⟨a,ha⟩
  simp only[don,decide_eq_true_eq]; exact Or.inr this
def bxT (i:Nat):R:=fun j=>if j < 256 then (if don i j=true then BX j else 0#8) else if j < 512 then (if don i (UB (j - 256)).toNat=true then UB (j - 256) else 0#8) else 0#8
theorem ub_lt (k:Nat):(UB k).toNat < 256:=(UB k).isLt
theorem bx_lt (k:Nat):(BX k).toNat < 256:=(BX k).isLt
theorem bx_ubN (k:Nat) (h:k < 256):BX (UB k).toNat=BitVec.ofNat 8 k:=by
  have:=bx_ub (BitVec.ofNat 8 k)
  rwa [BitVec.toNat_ofNat,Nat.mod_eq_of_lt h] at this
theorem bxT_0:bxT 0=set1 (set1 (fun _=>0#8) 0 99#8) 355 0#8:=by
  funext j
  simp only[bxT,don,Nat.not_lt_zero,or_false,decide_eq_true_eq,set1]
  by_cases h:j=355
  · subst h; decide
  · rw [if_neg h]
    by_cases h0:j=0
    · subst h0; decide
    · rw [if_neg h0]
      split
      · rfl
      · rename_i h1
        split
        · split
          · rename_i h2 h3
            exact BitVec.eq_of_toNat_eq h3
          · rfl
        · rfl
theorem bxT_succ (i:Nat) (hi:i < 255):bxT (i+1)=set1 (set1 (bxT i) (PW i).toNat (BX (PW i).toNat)) (256+(BX (PW i).toNat).toNat) (PW i):=by
  have hp:(PW i).toNat < 256:=(PW i).isLt
  have hb:=bx_lt (PW i).toNat
  funext j
  simp only[bxT,set1]
  by_cases h1:j < 256
  · rw [if_pos h1, if_pos h1, if_neg (show ¬ j = 256 + (BX (PW i).toNat).toNat by omega), don_succ i j hi h1]
    by_cases h2:j=(PW i).toNat
    · rw[if_pos h2,if_pos (by rw[decide_eq_true h2] <;> rfl),h2]
    · rw[if_neg h2,decide_eq_false h2,Bool.false_or]
  · rw [if_neg h1, if_neg h1, if_neg (show ¬ j = (PW i).toNat by omega)]
    by_cases h3:j < 512
    · rw [if_pos h3, if_pos h3, don_succ i _ hi (ub_lt _)]
      by_cases h2:j=256+(BX (PW i).toNat).toNat
      · have e:UB (j - 256)=PW i:=by
          rw[h2,zg,ub_bx]
        rw[if_pos h2,e,decide_eq_true rfl,Bool.true_or,if_pos rfl]
      · have e:¬ (UB (j - 256)).toNat=(PW i).toNat:=by
          intro e
          have:=bx_ubN (j - 256) (by omega)
          rw[e] at this
          rw[this,BitVec.toNat_ofNat] at h2
          omega
        rw[if_neg h2,decide_eq_false e,Bool.false_or]
    · rw[if_neg h3,if_neg h3,if_neg (show ¬ j=256+(BX (PW i).toNat).toNat by omega)]
theorem bxT_all (j:Nat) (h:j < 512):bxT 255 j=TB j:=by
  simp only[bxT,TB]
  by_cases h1:j < 256
  · rw[if_pos h1,if_pos h1,don_all j h1,if_pos rfl]
  · rw[if_neg h1,if_neg h1,if_pos h,if_pos h,don_all _ (ub_lt _),if_pos rfl]
def tbT (i:Nat):R:=fun j=>if j < 512∨(j < 1792∧j % 256 < i) then TB j else 0#8
theorem tbT_0:tbT 0=bxT 255:=by
  funext j
  simp only[tbT,Nat.not_lt_zero,and_false,or_false]
  by_cases h:j < 512
  · rw[if_pos h,bxT_all j h]
  · rw[if_neg h,bxT,if_neg (by omega),if_neg h]
theorem tbT_succ (i:Nat) (hi:i < 256):tbT (i+1)=set1 (set1 (set1 (set1 (set1 (tbT i) (512+i) (T2 (BitVec.ofNat 8 i))) (768+i) (T9 (BitVec.ofNat 8 i))) (1024+i) (T11 (BitVec.ofNat 8 i))) (1280+i) (T13 (BitVec.ofNat 8 i))) (1536+i) (T14 (BitVec.ofNat 8 i)):=by
  have e:∀ k,BitVec.ofNat 8 (256*k+i)=BitVec.ofNat 8 i:=by
    intro k; apply BitVec.eq_of_toNat_eq; simp only[BitVec.toNat_ofNat]; omega
  funext j
  simp only[set1]
  by_cases h5:j=1536+i
  · rw[if_pos h5,tbT,if_pos (by omega),TB,if_neg (by omega),if_neg (by omega),if_neg (by omega),if_neg (by omega),if_neg (by omega),if_neg (by omega),h5]; rw[←e 6]
  rw[if_neg h5]
  by_cases h4:j=1280+i
  · rw[if_pos h4,tbT,if_pos (by omega),TB,if_neg (by omega),if_neg (by omega),if_neg (by omega),if_neg (by omega),if_neg (by omega),if_pos (by omega),h4]; rw[←e 5]
  rw[if_neg h4]
  by_cases h3:j=1024+i
  · rw[if_pos h3,tbT,if_pos (by omega),TB,if_neg (by omega),if_neg (by omega),if_neg (by omega),if_neg (by omega),if_pos (by omega),h3]; rw[←e 4]
  rw[if_neg h3]
  by_cases h2:j=768+i
  · rw[if_pos h2,tbT,if_pos (by omega),TB,if_neg (by omega),if_neg (by omega),if_neg (by omega),if_pos (by omega),h2]; rw[←e 3]
  rw[if_neg h2]
  by_cases h1:j=512+i
  · rw[if_pos h1,tbT,if_pos (by omega),TB,if_neg (by omega),if_neg (by omega),if_pos (by omega),h1]; rw[←e 2]
  rw[if_neg h1]
  simp only[tbT]
  by_cases h:j < 512∨(j < 1792∧j % 256 < i)
  · rw[if_pos h,if_pos (by omega)]
  · rw[if_neg h,if_neg (by omega)]
theorem tbT_all (r:LV):CF r (tbT 256)=CF r TB:=CF_congr r fun j hj=>by rw[tbT,if_pos (by omega)]
end Aes
namespace Aes
open Go Go.LE Tb
theorem idx0 (x:Nm) (xs:List Nm):idx x (x::xs) 0=some 0:=by simp[idx]
theorem idx1 (x y:Nm) (xs:List Nm) (h:x≠y):idx y (x::y::xs) 0=some 1:=by simp[idx,h]
structure Pl (ps:List LV):Prop where
  n:ps.flatMap (nms D)=[]
  r:∀ π,ps.map (ren D π)=ps
theorem Pl.e:Pl []:=⟨rfl,fun _=>rfl⟩
theorem Pl.pa (n:Nat) (s:R) {ps:List LV} (h:Pl ps):Pl (.agg (aB n s)::ps) :=
  ⟨by rw[zK,qbt,h.n]; rfl,fun π=>by rw[zB,qbx,h.r]⟩
theorem call0 (k b g:Nat) (hg:qaJ g=fun _=>false) (H:Heap) (fN:Nm) (f f':R) (h:H fN=some (CF Nil f)) (ps:List LV) (hp:Pl ps) (r:LV) (hr:∀ π,ren D π r=r)
    (hw:F C k g (.ptr (0,0) 0::ps) [CF Nil f]=some (r,[some (CF Nil f')],[])) :
    qar (envC C k) H b g (.ptr fN 0::ps)=some ⟨r,[],[(fN,some (CF Nil f'))]⟩:=by
  have hre:qa7 H FUEL [] [fN]=[fN]:=by
    simp only[FUEL,qah,ze,zP,zM,h,qcc,qaW,qbD,zI,qba]
  rw[qbU,qbF,qc3,hg,qdC,qbA]
  have hn:(LV.ptr fN 0::ps).flatMap (nms D)=[fN]:=by rw[zK,qcp,hp.n]; rfl
  rw[hn,hre,qbV _ _ _ _ _ rfl,show ([fN]:List Nm).filterMap H=[CF Nil f] by simp[h]]
  have ha:(LV.ptr fN 0::ps).map (ren D (qaK [fN])) = .ptr (0,0) 0::ps:=by
    simp only[zB,qbk,qbC,idx0,zC,qbs,hp.r]
  rw[ha,zB,zA,qaV,qbS,qbT,hw,show ([]:List Nm).isEmpty=true from rfl,qeB,qaT,hr]
  simp only[List.zipWith_cons_cons,List.zipWith_nil_left,zC,qaV,qbS,zA]
end Aes
namespace Aes
open Go Go.LE Tb
def pwT (i:Nat):R:=fun j=>if j < i then PW j else 0#8
theorem pwT_succ (i:Nat) (h:i < 255):set1 (pwT (i+1)) (i+1) (mul (pwT (i+1) i) 3#8)=pwT (i+2):=by
  funext j
  have:=pw_mul ⟨i,h⟩
  simp only at this
  simp only[set1,pwT]
  by_cases h1:j=i+1
  · subst h1; rw[if_pos rfl,if_pos (by omega),if_pos (by omega),this]
  · rw [if_neg h1]
    by_cases h2:j < i+1
    · rw[if_pos h2,if_pos (by omega)]
    · rw[if_neg h2,if_neg (by omega)]
def bJ1 (i:Nat) (st:St):Prop := ∃ (H:Heap),st=⟨[.ptr (0,0) 0,.undef,.ptr (1,0) 0,N (i+1),.undef,.undef,.undef,.undef,.undef,.undef,.undef,.undef,.undef,.undef,.undef,.undef,.undef,.undef,.undef,.undef,.undef,.undef,.undef,.undef,.undef,.undef,.undef,.undef,.undef,.undef,.undef,.undef,.undef,.undef,.undef,.undef,.undef,.undef,.undef,.undef,.undef,.undef,.undef,.undef,.undef,.undef,.undef,.undef,.undef,.undef,.undef,.undef,.undef,.undef,.undef,.undef,.undef,.undef,.undef,.undef,.undef,.undef,.undef,.undef,.undef,.undef,.undef,.undef,.undef,.undef,.undef],H,2,1⟩∧H (0,0)=some (CF Nil fun _=>0#8)∧H (1,0)=some (aB 256 (pwT (i+1)))
def bJ2 (i:Nat) (st:St):Prop := ∃ (H:Heap),st=⟨[.ptr (0,0) 0,.undef,.ptr (1,0) 0,.undef,B8 99#8,.undef,.undef,.undef,.undef,.undef,.undef,.undef,.undef,.undef,.undef,.undef,.undef,.undef,.undef,.undef,.undef,.undef,.undef,.undef,.undef,.undef,.undef,.undef,.undef,.undef,.undef,.undef,.sl (1,0) 0 255 (some 256) 1,N 255,N i,.undef,.undef,.undef,.undef,.undef,.undef,.undef,.undef,.undef,.undef,.undef,.undef,.undef,.undef,.undef,.undef,.undef,.undef,.undef,.undef,.undef,.undef,.undef,.undef,.undef,.undef,.undef,.undef,.undef,.undef,.undef,.undef,.undef,.undef,.undef,.undef],H,2,1⟩∧H (0,0)=some (CF Nil (bxT i))∧H (1,0)=some (aB 256 (pwT 256))
theorem boxes_F (k:Nat):F C (k+300) 88 [.ptr (0,0) 0] [CF Nil fun _=>0#8]=some (.tup [],[some (CF Nil (bxT 255))],[]):=by
  rw[qaH f88]
  have e0:set1 (fun _=>0#8) 0 1#8=pwT 1:=by
    funext j; simp only[set1,pwT]
    by_cases h:j=0
    · subst h; rfl
    · rw[if_neg h,if_neg (by omega)]
  simp (disch:=first|omega|decide|simp only[nmsB,lB]) only[simprocAttr,-rR,-rS,leB,memB,arrB,numB,qaf,L88,e0,qae,qab,qad,qac,qaa]
  generalize hL:qa1 L88k1 _ _ _=r
  refine qaR hL bJ1 255 (by omega) ?_ ?_ ?_ ?_
  · rintro i st hi ⟨H, rfl, h0, h1⟩
    have hlt:i+1 < 256:=by omega
    have hs:=pwT_succ i hi
    have e1:i+1 - 1=i:=by omega
    apply Exists.intro
    apply And.intro
    · simp (disch := first | omega | decide | simp only [nmsB, lB]) only [simprocAttr, -rR, -rS, leB, memB, arrB, numB, qaf, L88b1, h0, h1, hlt, e1, mulF, hs, qae, qab, qad, qac, qaa]
      rfl
    · refine qao [(1, 0)] rfl (by simp only [simprocAttr, -rR, -rS, qak, L88k1, qaW, qaN, qbD, h0, h1, qah, qac, qaa]) rfl ⟨_, rfl, ?_, ?_⟩
      · rw [qaG]
        simp (disch:=first|omega|decide|simp only[nmsB,lB]) only[simprocAttr,-rR,-rS,leB,memB,qaf,h0,h1,qaV,qbS,qae,qab,qad,qac,qaa]
      · exact qaj (1,0) rfl (by simp (disch:=first|omega|decide|simp only[nmsB,lB]) only[simprocAttr,-rR,-rS,leB,memB,qaf,h0,h1,qae,qab,qad,qac,qaa]) (qaE _ _ _)
  · refine qao [(2, 0)] rfl (by simp only [simprocAttr, -rR, -rS, qak, L88k1, qaW, qaN, qbD, qah, qac, qaa]) rfl ⟨_, rfl, ?_, ?_⟩
    · rw [qaG]
      simp (disch:=first|omega|decide|simp only[nmsB,lB]) only[simprocAttr,-rR,-rS,leB,memB,qaf,qaV,qbS,qae,qab,qad,qac,qaa]
    · exact qaj (2,0) rfl (by simp (disch:=first|omega|decide|simp only[nmsB,lB]) only[simprocAttr,-rR,-rS,leB,memB,qaf,qae,qab,qad,qac,qaa]) (qaE _ _ _)
  · rintro st ⟨H, rfl, h0, h1⟩
    apply qaO
    simp (disch:=first|omega|decide|simp only[nmsB,lB]) only[simprocAttr,-rR,-rS,leB,memB,arrB,numB,qaf,L88b1,h0,h1,qae,qab,qad,qac,qaa]
    rfl
  · rintro st ⟨H, rfl, h0, h1⟩ rfl
    simp (disch:=first|omega|decide|simp only[nmsB,lB]) only[simprocAttr,-rR,-rS,leB,memB,arrB,numB,qaf,L88b1,h0,h1,ordB,box0_F,CF_st,show (99#8:BitVec 8).toNat=99 from rfl,←bxT_0,qae,qab,qad,qac,qaa,qas]
    generalize hL:qa1 L88k0 _ _ _=r
    refine qaR hL bJ2 255 (by omega) ?_ ?_ ?_ ?_
    · rintro i st hi ⟨H, rfl, h0, h1⟩
      have hp:(PW i).toNat < 256:=(PW i).isLt
      have hb:=bx_lt (PW i).toNat
      have e0:pwT 256 i=PW i:=if_pos (by omega)
      have e2:pwT 256 (255 - i)=PW (255 - i):=if_pos (by omega)
      have hx:=xb_pw ⟨i,hi⟩
      simp only[xb] at hx
      have s1:1+(PW i).toNat - 1=(PW i).toNat:=by omega
      have s2:257+(BX (PW i).toNat).toNat - 1=256+(BX (PW i).toNat).toNat:=by omega
      have hs:=bxT_succ i hi
      apply Exists.intro
      apply And.intro
      · simp (disch := first | omega | decide | simp only [nmsB, lB]) only [simprocAttr, -rR, -rS, leB, memB, arrB, numB, qaf, ordB, L88b0, h0, h1, hi, e0, e2, rot1, rot2, rot3, rot4, hx, CF_st, s1, s2, ← hs, qae, qab, qad, qac, qaa, qas]
        rfl
      · refine qao [(1, 0)] rfl (by simp only [simprocAttr, -rR, -rS, qak, L88k0, qaW, qaN, qbD, h0, h1, qah, qac, qaa]) rfl ⟨_, rfl, ?_, ?_⟩
        · rw [qaG]
          simp (disch:=first|omega|decide|simp only[nmsB,lB]) only[simprocAttr,-rR,-rS,leB,memB,qaf,h0,h1,qaV,qbS,qae,qab,qad,qac,qaa]
        · exact qaj (1,0) rfl (by simp (disch:=first|omega|decide|simp only[nmsB,lB]) only[simprocAttr,-rR,-rS,leB,memB,qaf,h0,h1,qae,qab,qad,qac,qaa]) (qaE _ _ _)
    · refine qao [(1, 0)] rfl (by simp only [simprocAttr, -rR, -rS, qak, L88k0, qaW, qaN, qbD, h0, h1, qah, qac, qaa]) rfl ⟨_, rfl, ?_, ?_⟩
      · rw [qaG]
        simp (disch:=first|omega|decide|simp only[nmsB,lB]) only[simprocAttr,-rR,-rS,leB,memB,qaf,qaV,qbS,qae,qab,qad,qac,qaa]
      · exact qaj (1,0) rfl (by simp (disch:=first|omega|decide|simp only[nmsB,lB]) only[simprocAttr,-rR,-rS,leB,memB,qaf,h1,qae,qab,qad,qac,qaa]) (qaE _ _ _)
    · rintro st ⟨H, rfl, h0, h1⟩
      apply qaO
      simp (disch:=first|omega|decide|simp only[nmsB,lB]) only[simprocAttr,-rR,-rS,leB,memB,arrB,numB,qaf,L88b0,h0,h1,qae,qab,qad,qac,qaa]
      rfl
    · rintro st ⟨H, rfl, h0, h1⟩ rfl
      simp (disch:=first|omega|decide|simp only[nmsB,lB]) only[simprocAttr,-rR,-rS,leB,memB,arrB,numB,qaf,L88b0,h0,h1,qae,qab,qad,qac,qaa]
      rw[qaX 1 _ _ [] (by simp only[simprocAttr,-rR,-rS,qak,qaW,qbD,qcr,h0,qah,qac,qaa])]
      simp (disch:=first|omega|decide|simp only[nmsB,lB]) only[simprocAttr,-rR,-rS,leB,memB,qaf,qaV,qbS,h0,qae,qab,qad,qac,qaa]
def tJ (i:Nat) (st:St):Prop := ∃ (H:Heap),st=⟨[.ptr (0,0) 0,.undef,.undef,.undef,.undef,.undef,.undef,.undef,.undef,N i,.undef,.undef,.undef,.undef,.undef,.undef,.undef,.undef,.undef,.undef,.undef,.undef,.undef,.undef,.undef,.undef,.undef,.undef,.undef,.undef,.undef,.undef,.undef,.undef,.undef,.undef,.undef,.undef,.undef,.undef,.undef,.undef,.undef,.undef,.undef,.undef,.undef,.undef,.undef,.undef,.undef,.undef,.undef,.undef,.undef,.undef,.undef,.undef,.undef,.undef,.undef,.undef,.undef,.undef,.undef],H,2,1⟩∧H (0,0)=some (CF Nil (tbT i))
theorem boxes_call (k b:Nat) (H:Heap) (h0:H (0,0)=some (CF Nil fun _=>0#8)):qar (envC C (k+300)) H b 88 [.ptr (0,0) 0]=some ⟨.tup [],[],[((0,0),some (CF Nil (bxT 255)))]⟩:=by
  exact call0 _ b 88 l88 H (0,0) _ _ h0 [] Pl.e _ (fun _=>rfl) (boxes_F k)
theorem tables_F (k:Nat):F C (k+301) 73 [.ptr (0,0) 0] [CF Nil fun _=>0#8]=some (.tup [],[some (CF Nil TB)],[]):=by
  rw[qaH f73]
  have hc:=boxes_call k 3 (qaY [CF Nil fun _=>0#8]) rfl
  simp (disch:=first|omega|decide|simp only[nmsB,lB]) only[simprocAttr,-rR,-rS,leB,memB,arrB,numB,qaf,L73,hc,←tbT_0,qae,qab,qad,qac,qaa]
  generalize hL:qa1 L73k0 _ _ _=r
  refine qaR hL tJ 256 (by omega) ?_ ?_ ?_ ?_
  · rintro i st hi ⟨H, rfl, h0⟩
    have hs:=tbT_succ i hi
    have s1:513+i - 1=512+i:=by omega
    have s2:769+i - 1=768+i:=by omega
    have s3:1025+i - 1=1024+i:=by omega
    have s4:1281+i - 1=1280+i:=by omega
    have s5:1537+i - 1=1536+i:=by omega
    have m1:∀ x,mul x 2#8=T2 x:=mul_T2'
    simp only[T9,T11,T13,T14,T8,T4] at hs
    apply Exists.intro
    apply And.intro
    · simp (disch := first | omega | decide | simp only [nmsB, lB]) only [simprocAttr, -rR, -rS, leB, memB, arrB, numB, qaf, ordB, L73b0, h0, hi, mulF, m1, CF_st, s1, s2, s3, s4, s5, ← hs, qae, qab, qad, qac, qaa, qas]
      rfl
    · refine qao [] rfl (by simp only [simprocAttr, -rR, -rS, qak, L73k0, qaW, qaN, qbD, h0, qah, qac, qaa]) rfl ⟨_, rfl, ?_⟩
      rw[qaG]
      simp (disch:=first|omega|decide|simp only[nmsB,lB]) only[simprocAttr,-rR,-rS,leB,memB,qaf,h0,qaV,qbS,qae,qab,qad,qac,qaa]
  · refine qao [] rfl (by simp only [simprocAttr, -rR, -rS, qak, L73k0, qaW, qaN, qbD, qah, qac, qaa]) rfl ⟨_, rfl, ?_⟩
    rw[qaG]
    simp (disch:=first|omega|decide|simp only[nmsB,lB]) only[simprocAttr,-rR,-rS,leB,memB,qaf,qaV,qbS,qae,qab,qad,qac,qaa]
  · rintro st ⟨H, rfl, h0⟩
    apply qaO
    simp (disch:=first|omega|decide|simp only[nmsB,lB]) only[simprocAttr,-rR,-rS,leB,memB,arrB,numB,qaf,L73b0,h0,qae,qab,qad,qac,qaa]
    rfl
  · rintro st ⟨H, rfl, h0⟩ rfl
    simp (disch:=first|omega|decide|simp only[nmsB,lB]) only[simprocAttr,-rR,-rS,leB,memB,arrB,numB,qaf,L73b0,h0,qae,qab,qad,qac,qaa]
    rw[qaX 1 _ _ [] (by simp only[simprocAttr,-rR,-rS,qak,qaW,qbD,qcr,h0,qah,qac,qaa])]
    simp (disch:=first|omega|decide|simp only[nmsB,lB]) only[simprocAttr,-rR,-rS,leB,memB,qaf,qaV,qbS,h0,tbT_all,qae,qab,qad,qac,qaa]
end Aes
namespace Aes
open Go Go.LE Tb
structure KG (H:Heap) (c m:Nm) (len:Nat) (cap:Option Nat) (l:List (BitVec 8)):Prop where
  hc:H c=some (CF (.sl m 0 len cap 16) TB)
  hm:H m=some (bs l)
  ne:c≠m
theorem callK (k b g:Nat) (hg:qaJ g=fun _=>false) (H:Heap) (c m:Nm) (len:Nat) (cap:Option Nat) (l:List (BitVec 8)) (h:KG H c m len cap l) (ps:List LV) (hp:Pl ps) (r:LV) (hr:∀ π,ren D π r=r)
    (hw:F C k g (.ptr (0,0) 0::ps) [CF (.sl (0,1) 0 len cap 16) TB,bs l]=some (r,[some (CF (.sl (0,1) 0 len cap 16) TB),some (bs l)],[])) :
    qar (envC C k) H b g (.ptr c 0::ps)=some ⟨r,[],[(c,some (CF (.sl m 0 len cap 16) TB)),(m,some (bs l))]⟩:=by
  have hc:([c]:List Nm).contains m=false:=by simp; exact fun e=>h.ne e.symm
  have hre:qa7 H FUEL [] [c]=[c,m]:=by
    simp only[FUEL,qah,ze,zP,zM,h.hc,qcc,qaW,qa3,zI,zS,hc,h.hm,qam,qba]
  rw[qbU,qbF,qc3,hg,qdC,qbA]
  have hn:(LV.ptr c 0::ps).flatMap (nms D)=[c]:=by rw[zK,qcp,hp.n]; rfl
  rw[hn,hre,qbV _ _ _ _ _ rfl,show ([c,m]:List Nm).filterMap H=[CF (.sl m 0 len cap 16) TB,bs l] by simp[h.hc,h.hm]]
  have ha:(LV.ptr c 0::ps).map (ren D (qaK [c,m])) = .ptr (0,0) 0::ps:=by
    simp only[zB,qbk,qbC,idx0,zC,qbs,hp.r]
  rw[ha,zB,zB,zA,qaV,qaZ,qbC,idx1 _ _ _ h.ne,zC,qa9,qaq,qbT,hw,show ([]:List Nm).isEmpty=true from rfl,qeB,qaT,hr]
  simp only[List.zipWith_cons_cons,List.zipWith_nil_left,zC,qaV,qaZ,qcI,qaq,zA,qa9,List.getElem?_cons_zero,List.getElem?_cons_succ]
theorem made_F (k:Nat) (len:Nat) (hl:0 < len) (h2:len < 4611686018427387904) (cap:Option Nat) (f:R) (l:List (BitVec 8)) :
    F C (k+1) 79 [.ptr (0,0) 0] [CF (.sl (0,1) 0 len cap 16) f,bs l]=some (Bo true,[some (CF (.sl (0,1) 0 len cap 16) f),some (bs l)],[]):=by
  rw[qaH f79]
  simp (disch:=first|omega|decide|simp only[nmsB,lB]) only[simprocAttr,-rR,-rS,leB,memB,arrB,numB,qaf,L79,CF_k,hl,qae,qab,qad,qac,qaa]
  rw[qaX 2 _ _ [] (by simp only[simprocAttr,-rR,-rS,qak,qaW,qam,qah,qac,qaa])]
  simp (disch:=first|omega|decide|simp only[nmsB,lB]) only[simprocAttr,-rR,-rS,leB,memB,qaf,qaV,qae,qab,qad,qac,qaa]
theorem plus_F (k:Nat) (a b:R):F C (k+1) 75 [.agg (aB 4 a),.agg (aB 4 b)] []=some (.agg (aB 4 fun j=>a j ^^^ b j),[],[]):=by
  rw[qaH f75]
  simp (disch:=first|omega|decide|simp only[nmsB,lB]) only[simprocAttr,-rR,-rS,leB,memB,arrB,numB,qaf,L75,qae,qab,qad,qac,qaa]
  rfl
end Aes
namespace Aes
open Go Go.LE Tb
def upto (i:Nat) (f g:R):R:=fun j=>if j < i then f j else g j
theorem qeC (i:Nat) (f g:R) (x:BitVec 8) (hx:x=f i):set1 (upto i f g) i x=upto (i+1) f g:=by
  subst hx
  funext j
  simp only[set1,upto]
  by_cases h:j=i
  · subst h; rw[if_pos rfl,if_pos (by omega)]
  · rw [if_neg h]
    by_cases h2:j < i
    · rw[if_pos h2,if_pos (by omega)]
    · rw[if_neg h2,if_neg (by omega)]
theorem qfS (f g:R):upto 0 f g=g:=by funext j; simp[upto]
theorem upto_at (i:Nat) (f g:R):upto i f g i=g i:=by simp[upto]
theorem qgB (n:Nat) (f g:R):aB n (upto n f g)=aB n f:=qcn n fun j h=>by simp[upto,h]
def aJ (a b:R) (i:Nat) (st:St):Prop := ∃ (H:Heap),st=⟨[.undef,.undef,.ptr (1,0) 0,.ptr (1,1) 0,.ptr (1,2) 0,.undef,N i,.undef,.undef,.undef,.undef,.undef,.undef,.undef,.undef,.undef,.undef,.undef,.undef],H,2,0⟩∧H (1,0)=some (aB 16 (upto i (add a b) a))∧H (1,1)=some (aB 16 b)∧H (1,2)=some (aB 16 fun _=>0#8)
theorem add_F (k:Nat) (a b:R):F C (k+30) 80 [.agg (aB 16 a),.agg (aB 16 b)] []=some (.agg (aB 16 (add a b)),[],[]):=by
  rw[qaH f80]
  simp (disch:=first|omega|decide|simp only[nmsB,lB]) only[simprocAttr,-rR,-rS,leB,memB,arrB,numB,qaf,L80,qae,qab,qad,qac,qaa]
  generalize hL:qa1 L80k0 _ _ _=r
  refine qaR hL (aJ a b) 16 (by omega) ?_ ?_ ?_ ?_
  · rintro i st hi ⟨H, rfl, h0, h1, h2⟩
    have hs:=qeC i (add a b) a (a i ^^^ b i) rfl
    apply Exists.intro
    apply And.intro
    · simp (disch := first | omega | decide | simp only [nmsB, lB]) only [simprocAttr, -rR, -rS, leB, memB, arrB, numB, qaf, ordB, L80b0, h0, h1, h2, hi, upto_at, hs, qae, qab, qad, qac, qaa, qas]
      rfl
    · refine qao [(1, 0), (1, 1), (1, 2)] rfl (by simp only [simprocAttr, -rR, -rS, qak, L80k0, qaN, h0, h1, h2, qah, qac, qaa]) rfl ⟨_, rfl, ?_, ?_, ?_⟩
      · exact qaj (1,0) rfl (by simp (disch:=first|omega|decide|simp only[nmsB,lB]) only[simprocAttr,-rR,-rS,leB,memB,qaf,h0,h1,qae,qab,qad,qac,qaa]) (qaE _ _ _)
      · exact qaj (1,1) rfl (by simp (disch:=first|omega|decide|simp only[nmsB,lB]) only[simprocAttr,-rR,-rS,leB,memB,qaf,h0,h1,qae,qab,qad,qac,qaa]) (qaE _ _ _)
      · exact qaj (1,2) rfl (by simp (disch:=first|omega|decide|simp only[nmsB,lB]) only[simprocAttr,-rR,-rS,leB,memB,qaf,h0,h1,h2,qae,qab,qad,qac,qaa]) (qaE _ _ _)
  · refine qao [(2, 0), (3, 0), (4, 0)] rfl (by simp only [simprocAttr, -rR, -rS, qak, L80k0, qaN, qah, qac, qaa]) rfl ⟨_, rfl, ?_, ?_, ?_⟩
    · rw[qfS]; exact qaj (2,0) rfl (by simp (disch:=first|omega|decide|simp only[nmsB,lB]) only[simprocAttr,-rR,-rS,leB,memB,qaf,qae,qab,qad,qac,qaa]) (qaE _ _ _)
    · exact qaj (3,0) rfl (by simp (disch:=first|omega|decide|simp only[nmsB,lB]) only[simprocAttr,-rR,-rS,leB,memB,qaf,qae,qab,qad,qac,qaa]) (qaE _ _ _)
    · exact qaj (4,0) rfl (by simp (disch:=first|omega|decide|simp only[nmsB,lB]) only[simprocAttr,-rR,-rS,leB,memB,qaf,qae,qab,qad,qac,qaa]) (qaE _ _ _)
  · rintro st ⟨H, rfl, h0, h1, h2⟩
    apply qaO
    simp (disch:=first|omega|decide|simp only[nmsB,lB]) only[simprocAttr,-rR,-rS,leB,memB,arrB,numB,qaf,L80b0,qae,qab,qad,qac,qaa]
    rfl
  · rintro st ⟨H, rfl, h0, h1, h2⟩ rfl
    simp (disch:=first|omega|decide|simp only[nmsB,lB]) only[simprocAttr,-rR,-rS,leB,memB,arrB,numB,qaf,L80b0,h0,h1,h2,qgB,qae,qab,qad,qac,qaa]
theorem TB_bx (x:BitVec 8):TB x.toNat=BX x.toNat:=if_pos x.isLt
theorem TB_ub (x:BitVec 8):TB (256+x.toNat)=UB x.toNat:=by
  have:=x.isLt
  rw[TB,if_neg (by omega),if_pos (by omega),zg]
theorem TB_off (k:Nat) (x:BitVec 8):BitVec.ofNat 8 (256*k+x.toNat)=x:=by
  have:=x.isLt
  apply BitVec.eq_of_toNat_eq; simp only[BitVec.toNat_ofNat]; omega
theorem TB_2 (x:BitVec 8):TB (512+x.toNat)=T2 x:=by
  have:=x.isLt
  rw[TB,if_neg (by omega),if_neg (by omega),if_pos (by omega)]; exact congrArg T2 (TB_off 2 x)
theorem TB_9 (x:BitVec 8):TB (768+x.toNat)=T9 x:=by
  have:=x.isLt
  rw[TB,if_neg (by omega),if_neg (by omega),if_neg (by omega),if_pos (by omega)]; exact congrArg T9 (TB_off 3 x)
theorem TB_11 (x:BitVec 8):TB (1024+x.toNat)=T11 x:=by
  have:=x.isLt
  rw[TB,if_neg (by omega),if_neg (by omega),if_neg (by omega),if_neg (by omega),if_pos (by omega)]; exact congrArg T11 (TB_off 4 x)
theorem TB_13 (x:BitVec 8):TB (1280+x.toNat)=T13 x:=by
  have:=x.isLt
  rw[TB,if_neg (by omega),if_neg (by omega),if_neg (by omega),if_neg (by omega),if_neg (by omega),if_pos (by omega)]; exact congrArg T13 (TB_off 5 x)
theorem TB_14 (x:BitVec 8):TB (1536+x.toNat)=T14 x:=by
  have:=x.isLt
  rw[TB,if_neg (by omega),if_neg (by omega),if_neg (by omega),if_neg (by omega),if_neg (by omega),if_neg (by omega)]; exact congrArg T14 (TB_off 6 x)
theorem CT_bx (r:LV) (x:BitVec 8):qaS (1+x.toNat) 1 (some (CF r TB))=some [B8 (BX x.toNat)]:=by
  have:=x.isLt
  rw[qfI r TB _ x.toNat (by omega) (by omega),TB_bx]
theorem CT_ub (r:LV) (x:BitVec 8):qaS (257+x.toNat) 1 (some (CF r TB))=some [B8 (UB x.toNat)]:=by
  have:=x.isLt
  rw[qfI r TB _ (256+x.toNat) (by omega) (by omega),TB_ub]
theorem CT_2 (r:LV) (x:BitVec 8):qaS (513+x.toNat) 1 (some (CF r TB))=some [B8 (T2 x)]:=by
  have:=x.isLt
  rw[qfI r TB _ (512+x.toNat) (by omega) (by omega),TB_2]
theorem CT_9 (r:LV) (x:BitVec 8):qaS (769+x.toNat) 1 (some (CF r TB))=some [B8 (T9 x)]:=by
  have:=x.isLt
  rw[qfI r TB _ (768+x.toNat) (by omega) (by omega),TB_9]
theorem CT_11 (r:LV) (x:BitVec 8):qaS (1025+x.toNat) 1 (some (CF r TB))=some [B8 (T11 x)]:=by
  have:=x.isLt
  rw[qfI r TB _ (1024+x.toNat) (by omega) (by omega),TB_11]
theorem CT_13 (r:LV) (x:BitVec 8):qaS (1281+x.toNat) 1 (some (CF r TB))=some [B8 (T13 x)]:=by
  have:=x.isLt
  rw[qfI r TB _ (1280+x.toNat) (by omega) (by omega),TB_13]
theorem CT_14 (r:LV) (x:BitVec 8):qaS (1537+x.toNat) 1 (some (CF r TB))=some [B8 (T14 x)]:=by
  have:=x.isLt
  rw[qfI r TB _ (1536+x.toNat) (by omega) (by omega),TB_14]
def rJ (len:Nat) (cap:Option Nat) (l:List (BitVec 8)) (s:R) (i:Nat) (st:St):Prop := ∃ (H:Heap),st=⟨[.ptr (0,0) 0,.undef,.undef,.ptr (1,0) 0,.ptr (1,1) 0,.ptr (1,2) 0,.undef,.undef,N i,.undef,.undef,.undef,.undef,.undef,.undef,.undef,.undef,.undef,.undef,.undef,.undef,.undef,.undef,.undef,.undef,.undef,.undef,.undef],H,2,2⟩ ∧
  H (0,0)=some (CF (.sl (0,1) 0 len cap 16) TB)∧H (0,1)=some (bs l)∧H (1,0)=some (aB 16 s)∧H (1,1)=some (aB 16 fun _=>0#8)∧H (1,2)=some (aB 16 (upto i (rnd s) fun _=>0#8))
theorem round_F (k len:Nat) (cap:Option Nat) (l:List (BitVec 8)) (s:R):F C (k+30) 82 [.ptr (0,0) 0,.agg (aB 16 s)] [CF (.sl (0,1) 0 len cap 16) TB,bs l] =
    some (.agg (aB 16 (rnd s)),[some (CF (.sl (0,1) 0 len cap 16) TB),some (bs l)],[]):=by
  rw[qaH f82]
  simp (disch:=first|omega|decide|simp only[nmsB,lB]) only[simprocAttr,-rR,-rS,leB,memB,arrB,numB,qaf,L82,qae,qab,qad,qac,qaa]
  generalize hL:qa1 L82k0 _ _ _=r
  refine qaR hL (rJ len cap l s) 16 (by omega) ?_ ?_ ?_ ?_
  · rintro i st hi ⟨H, rfl, h0, h1, h2, h3, h4⟩
    have hm:(i+4*(i % 4)) % 16 < 16:=by omega
    have hs:=qeC i (rnd s) (fun _=>0#8) (BX (s ((i+4*(i % 4)) % 16)).toNat) rfl
    apply Exists.intro
    apply And.intro
    · simp (disch := first | omega | decide | simp only [nmsB, lB]) only [simprocAttr, -rR, -rS, leB, memB, arrB, numB, qaf, ordB, L82b0, h0, h1, h2, h3, h4, hi, hm, CT_bx, hs, qae, qab, qad, qac, qaa, qas]
      rfl
    · refine qao [(1, 0), (1, 1), (1, 2)] rfl (by simp only [simprocAttr, -rR, -rS, qak, L82k0, qaN, qaW, qam, h0, h1, h2, h3, h4, qah, qac, qaa]) rfl ⟨_, rfl, ?_, ?_, ?_, ?_, ?_⟩
      · rw[qaG]; simp (disch:=first|omega|decide|simp only[nmsB,lB]) only[simprocAttr,-rR,-rS,leB,memB,qaf,h0,qaV,qae,qab,qad,qac,qaa]
      · rw[qaG]; simp (disch:=first|omega|decide|simp only[nmsB,lB]) only[simprocAttr,-rR,-rS,leB,memB,qaf,h1,qae,qab,qad,qac,qaa]
      · exact qaj (1,0) rfl (by simp (disch:=first|omega|decide|simp only[nmsB,lB]) only[simprocAttr,-rR,-rS,leB,memB,qaf,h2,qae,qab,qad,qac,qaa]) (qaE _ _ _)
      · exact qaj (1,1) rfl (by simp (disch:=first|omega|decide|simp only[nmsB,lB]) only[simprocAttr,-rR,-rS,leB,memB,qaf,h3,qae,qab,qad,qac,qaa]) (qaE _ _ _)
      · exact qaj (1,2) rfl (by simp (disch:=first|omega|decide|simp only[nmsB,lB]) only[simprocAttr,-rR,-rS,leB,memB,qaf,h3,qae,qab,qad,qac,qaa]) (qaE _ _ _)
  · refine qao [(2, 0), (3, 0), (5, 0)] rfl (by simp only [simprocAttr, -rR, -rS, qak, L82k0, qaN, qaW, qam, qah, qac, qaa]) rfl ⟨_, rfl, ?_, ?_, ?_, ?_, ?_⟩
    · rw[qaG]; simp (disch:=first|omega|decide|simp only[nmsB,lB]) only[simprocAttr,-rR,-rS,leB,memB,qaf,qaV,qae,qab,qad,qac,qaa]
    · rw[qaG]; simp (disch:=first|omega|decide|simp only[nmsB,lB]) only[simprocAttr,-rR,-rS,leB,memB,qaf,qae,qab,qad,qac,qaa]
    · exact qaj (2,0) rfl (by simp (disch:=first|omega|decide|simp only[nmsB,lB]) only[simprocAttr,-rR,-rS,leB,memB,qaf,qae,qab,qad,qac,qaa]) (qaE _ _ _)
    · exact qaj (3,0) rfl (by simp (disch:=first|omega|decide|simp only[nmsB,lB]) only[simprocAttr,-rR,-rS,leB,memB,qaf,qae,qab,qad,qac,qaa]) (qaE _ _ _)
    · rw[qfS]; exact qaj (5,0) rfl (by simp (disch:=first|omega|decide|simp only[nmsB,lB]) only[simprocAttr,-rR,-rS,leB,memB,qaf,qae,qab,qad,qac,qaa]) (qaE _ _ _)
  · rintro st ⟨H, rfl, h0, h1, h2, h3, h4⟩
    apply qaO
    simp (disch:=first|omega|decide|simp only[nmsB,lB]) only[simprocAttr,-rR,-rS,leB,memB,arrB,numB,qaf,L82b0,qae,qab,qad,qac,qaa]
    rfl
  · rintro st ⟨H, rfl, h0, h1, h2, h3, h4⟩ rfl
    simp (disch:=first|omega|decide|simp only[nmsB,lB]) only[simprocAttr,-rR,-rS,leB,memB,arrB,numB,qaf,L82b0,h0,h1,h2,h3,h4,qgB,qae,qab,qad,qac,qaa]
    rw[qaX 2 _ _ [] (by simp only[simprocAttr,-rR,-rS,qak,qaW,qam,qbt,h0,h1,qah,qac,qaa])]
    simp (disch:=first|omega|decide|simp only[nmsB,lB]) only[simprocAttr,-rR,-rS,leB,memB,qaf,qaV,qbx,h0,h1,qae,qab,qad,qac,qaa]
def urT (i:Nat) (s:R):R:=fun j=>if j < 16∧(j+12*(j % 4)) % 16 < i then qdW s j else 0#8
theorem urT_succ (i:Nat) (hi:i < 16) (s:R):set1 (urT i s) ((i+4*(i % 4)) % 16) (UB (s i).toNat)=urT (i+1) s:=by
  funext j
  simp only[set1,urT]
  by_cases h:j=(i+4*(i % 4)) % 16
  · have e : (j + 12 * (j % 4)) % 16 = i := by omega
    rw[if_pos h,if_pos (by omega),qdW,e]
  · rw [if_neg h]
    by_cases h2:j < 16∧(j+12*(j % 4)) % 16 < i
    · rw[if_pos h2,if_pos (by omega)]
    · rw[if_neg h2,if_neg (by omega)]
theorem urT_zero (s:R):urT 0 s=fun _=>0#8:=by funext j; simp[urT]
theorem urT_all (s:R):aB 16 (urT 16 s)=aB 16 (qdW s):=qcn 16 fun j h=>by rw[urT,if_pos (by omega)]
def uJ (len:Nat) (cap:Option Nat) (l:List (BitVec 8)) (s:R) (i:Nat) (st:St):Prop := ∃ (H:Heap),st=⟨[.ptr (0,0) 0,.undef,.undef,.undef,.ptr (1,0) 0,.ptr (1,1) 0,.undef,.undef,.undef,.agg (aB 16 s),N i,.undef,.undef,.undef,.undef,.undef,.undef,.undef,.undef,.undef,.undef,.undef,.undef,.undef,.undef,.undef,.undef,.undef,.undef],H,2,2⟩ ∧
  H (0,0)=some (CF (.sl (0,1) 0 len cap 16) TB)∧H (0,1)=some (bs l)∧H (1,0)=some (aB 16 fun _=>0#8)∧H (1,1)=some (aB 16 (urT i s))
theorem unround_F (k len:Nat) (cap:Option Nat) (l:List (BitVec 8)) (s:R):F C (k+30) 83 [.ptr (0,0) 0,.agg (aB 16 s)] [CF (.sl (0,1) 0 len cap 16) TB,bs l] =
    some (.agg (aB 16 (qdW s)),[some (CF (.sl (0,1) 0 len cap 16) TB),some (bs l)],[]):=by
  rw[qaH f83]
  simp (disch:=first|omega|decide|simp only[nmsB,lB]) only[simprocAttr,-rR,-rS,leB,memB,arrB,numB,qaf,L83,qae,qab,qad,qac,qaa]
  generalize hL:qa1 L83k0 _ _ _=r
  refine qaR hL (uJ len cap l s) 16 (by omega) ?_ ?_ ?_ ?_
  · rintro i st hi ⟨H, rfl, h0, h1, h2, h3⟩
    have hm:(i+4*(i % 4)) % 16 < 16:=by omega
    have hm2:(i+i % 4*4) % 16=(i+4*(i % 4)) % 16:=by omega
    have hs:=urT_succ i hi s
    apply Exists.intro
    apply And.intro
    · simp (disch := first | omega | decide | simp only [nmsB, lB]) only [simprocAttr, -rR, -rS, leB, memB, arrB, numB, qaf, ordB, L83b0, h0, h1, h2, h3, hi, hm, hm2, CT_ub, hs, qae, qab, qad, qac, qaa, qas]
      rfl
    · refine qao [(1, 0), (1, 1)] rfl (by simp only [simprocAttr, -rR, -rS, qak, L83k0, qaN, qbt, qaW, qam, h0, h1, h2, h3, qah, qac, qaa]) (by simp only [simprocAttr, -rR, -rS, qak, L83k0, zB, zA, qbx, qah, qac, qaa] <;> rfl) ⟨_, rfl, ?_, ?_, ?_, ?_⟩
      · rw[qaG]; simp (disch:=first|omega|decide|simp only[nmsB,lB]) only[simprocAttr,-rR,-rS,leB,memB,qaf,h0,qaV,qae,qab,qad,qac,qaa]
      · rw[qaG]; simp (disch:=first|omega|decide|simp only[nmsB,lB]) only[simprocAttr,-rR,-rS,leB,memB,qaf,h1,qae,qab,qad,qac,qaa]
      · exact qaj (1,0) rfl (by simp (disch:=first|omega|decide|simp only[nmsB,lB]) only[simprocAttr,-rR,-rS,leB,memB,qaf,h2,qae,qab,qad,qac,qaa]) (qaE _ _ _)
      · exact qaj (1,1) rfl (by simp (disch:=first|omega|decide|simp only[nmsB,lB]) only[simprocAttr,-rR,-rS,leB,memB,qaf,h3,qae,qab,qad,qac,qaa]) (qaE _ _ _)
  · refine qao [(3, 0), (5, 0)] rfl (by simp only [simprocAttr, -rR, -rS, qak, L83k0, qaN, qbt, qaW, qam, qah, qac, qaa]) (by simp only [simprocAttr, -rR, -rS, qak, L83k0, zB, zA, qbx, qah, qac, qaa] <;> rfl) ⟨_, rfl, ?_, ?_, ?_, ?_⟩
    · rw[qaG]; simp (disch:=first|omega|decide|simp only[nmsB,lB]) only[simprocAttr,-rR,-rS,leB,memB,qaf,qaV,qae,qab,qad,qac,qaa]
    · rw[qaG]; simp (disch:=first|omega|decide|simp only[nmsB,lB]) only[simprocAttr,-rR,-rS,leB,memB,qaf,qae,qab,qad,qac,qaa]
    · exact qaj (3,0) rfl (by simp (disch:=first|omega|decide|simp only[nmsB,lB]) only[simprocAttr,-rR,-rS,leB,memB,qaf,qae,qab,qad,qac,qaa]) (qaE _ _ _)
    · rw[urT_zero]; exact qaj (5,0) rfl (by simp (disch:=first|omega|decide|simp only[nmsB,lB]) only[simprocAttr,-rR,-rS,leB,memB,qaf,qae,qab,qad,qac,qaa]) (qaE _ _ _)
  · rintro st ⟨H, rfl, h0, h1, h2, h3⟩
    apply qaO
    simp (disch:=first|omega|decide|simp only[nmsB,lB]) only[simprocAttr,-rR,-rS,leB,memB,arrB,numB,qaf,L83b0,qae,qab,qad,qac,qaa]
    rfl
  · rintro st ⟨H, rfl, h0, h1, h2, h3⟩ rfl
    simp (disch:=first|omega|decide|simp only[nmsB,lB]) only[simprocAttr,-rR,-rS,leB,memB,arrB,numB,qaf,L83b0,h0,h1,h2,h3,urT_all,qae,qab,qad,qac,qaa]
    rw[qaX 2 _ _ [] (by simp only[simprocAttr,-rR,-rS,qak,qaW,qam,qbt,h0,h1,qah,qac,qaa])]
    simp (disch:=first|omega|decide|simp only[nmsB,lB]) only[simprocAttr,-rR,-rS,leB,memB,qaf,qaV,qbx,h0,h1,qae,qab,qad,qac,qaa]
end Aes
namespace Aes
open Go Go.LE Tb
theorem upto_ge (i j:Nat) (f g:R) (h:i≤j):upto i f g j=g j:=if_neg (by omega)
theorem qft (s:R) (c r k:Nat) (hr:r < 4):at4 s (4*c+r) k=s (4*c+(r+k) % 4):=by
  rw[at4]; congr 1; omega
theorem qed (s:R) (c k:Nat) (hk:k < 4):at4 s (4*c) k=s (4*c+k):=by
  rw[at4]; congr 1; omega
theorem upto4 (c:Nat) (f g:R) (v0 v1 v2 v3:BitVec 8) (h0:v0=f (4*c)) (h1:v1=f (4*c+1)) (h2:v2=f (4*c+2)) (h3:v3=f (4*c+3)) :
    set1 (set1 (set1 (set1 (upto (4*c) f g) (4*c) v0) (4*c+1) v1) (4*c+2) v2) (4*c+3) v3=upto (4*(c+1)) f g:=by
  rw[qeC _ _ _ _ h0,qeC _ _ _ _ h1,qeC _ _ _ _ h2,qeC _ _ _ _ h3]; rfl
theorem xc (a b c:BitVec 8):a ^^^ (b ^^^ c)=b ^^^ (a ^^^ c):=by rw[←BitVec.xor_assoc,BitVec.xor_comm a b,BitVec.xor_assoc]
def mJ (len:Nat) (cap:Option Nat) (l:List (BitVec 8)) (s:R) (i:Nat) (st:St):Prop := ∃ (H:Heap),st=⟨[.ptr (0,0) 0,.undef,.undef,.ptr (1,0) 0,.ptr (1,1) 0,N (4*i),.undef,.undef,.undef,.undef,.undef,.undef,.undef,.undef,.undef,.undef,.undef,.undef,.undef,.undef,.undef,.undef,.undef,.undef,.undef,.undef,.undef,.undef,.undef,.undef,.undef,.undef,.undef,.undef,.undef,.undef,.undef,.undef,.undef,.undef,.undef,.undef,.undef,.undef,.undef,.undef,.undef,.undef,.undef,.undef,.undef,.undef,.undef,.undef,.undef,.undef,.undef,.undef,.undef,.undef,.undef,.undef,.undef,.undef,.undef,.undef,.undef,.undef,.undef,.undef,.undef,.undef,.undef,.undef,.undef,.undef,.undef,.undef,.undef,.undef,.undef,.undef,.undef,.undef,.undef,.undef,.undef,.undef,.undef,.undef,.undef,.undef,.undef,.undef,.undef,.undef,.undef],H,2,2⟩ ∧
  H (0,0)=some (CF (.sl (0,1) 0 len cap 16) TB)∧H (0,1)=some (bs l)∧H (1,0)=some (aB 16 (upto (4*i) (mix s) s))∧H (1,1)=some (aB 16 fun _=>0#8)
theorem mix_F (k len:Nat) (cap:Option Nat) (l:List (BitVec 8)) (s:R):F C (k+30) 81 [.ptr (0,0) 0,.agg (aB 16 s)] [CF (.sl (0,1) 0 len cap 16) TB,bs l] =
    some (.agg (aB 16 (mix s)),[some (CF (.sl (0,1) 0 len cap 16) TB),some (bs l)],[]):=by
  rw[qaH f81]
  simp (disch:=first|omega|decide|simp only[nmsB,lB]) only[simprocAttr,-rR,-rS,leB,memB,arrB,numB,qaf,L81,qae,qab,qad,qac,qaa]
  generalize hL:qa1 L81k0 _ _ _=r
  refine qaR hL (mJ len cap l s) 4 (by omega) ?_ ?_ ?_ ?_
  · rintro i st hi ⟨H, rfl, h0, h1, h2, h3⟩
    have hm:4*i < 16:=by omega
    have e4:4*i+4=4*(i+1):=by omega
    have v0:s (4*i) ^^^ (s (4*i) ^^^ s (4*i+1) ^^^ s (4*i+2) ^^^ s (4*i+3)) ^^^ T2 (s (4*i) ^^^ s (4*i+1))=mix s (4*i):=by
      simp only[mix,qed s i _ (show 0 < 4 by decide),qed s i _ (show 1 < 4 by decide),qed s i _ (show 2 < 4 by decide),qed s i _ (show 3 < 4 by decide),zZ,qfa]
      simp only[BitVec.xor_assoc,BitVec.xor_comm,xc,GF.qdc,BitVec.xor_self,BitVec.xor_zero,BitVec.zero_xor]
    have v1:s (4*i+1) ^^^ (s (4*i) ^^^ s (4*i+1) ^^^ s (4*i+2) ^^^ s (4*i+3)) ^^^ T2 (s (4*i+1) ^^^ s (4*i+2))=mix s (4*i+1):=by
      simp only[mix,qft s i 1 _ (by decide),Nat.reduceAdd,Nat.reduceMod,zZ,qfa]
      simp only[BitVec.xor_assoc,BitVec.xor_comm,xc,GF.qdc,BitVec.xor_self,BitVec.xor_zero,BitVec.zero_xor]
    have v2:s (4*i+2) ^^^ (s (4*i) ^^^ s (4*i+1) ^^^ s (4*i+2) ^^^ s (4*i+3)) ^^^ T2 (s (4*i+2) ^^^ s (4*i+3))=mix s (4*i+2):=by
      simp only[mix,qft s i 2 _ (by decide),Nat.reduceAdd,Nat.reduceMod,zZ,qfa]
      simp only[BitVec.xor_assoc,BitVec.xor_comm,xc,GF.qdc,BitVec.xor_self,BitVec.xor_zero,BitVec.zero_xor]
    have v3:s (4*i+3) ^^^ (s (4*i) ^^^ s (4*i+1) ^^^ s (4*i+2) ^^^ s (4*i+3)) ^^^ T2 (s (4*i+3) ^^^ s (4*i))=mix s (4*i+3):=by
      simp only[mix,qft s i 3 _ (by decide),Nat.reduceAdd,Nat.reduceMod,zZ,qfa]
      simp only[BitVec.xor_assoc,BitVec.xor_comm,xc,GF.qdc,BitVec.xor_self,BitVec.xor_zero,BitVec.zero_xor]
    have hs:=upto4 i (mix s) s _ _ _ _ rfl rfl rfl rfl
    apply Exists.intro
    apply And.intro
    · simp (disch := first | omega | decide | simp only [nmsB, lB]) only [simprocAttr, -rR, -rS, leB, memB, arrB, numB, qaf, ordB, L81b0, h0, h1, h2, h3, hm, upto_ge, CT_2, v0, v1, v2, v3, hs, e4, qae, qab, qad, qac, qaa, qas]
      rfl
    · refine qao [(1, 0), (1, 1)] rfl (by simp only [simprocAttr, -rR, -rS, qak, L81k0, qaN, qbt, qaW, qam, h0, h1, h2, h3, qah, qac, qaa]) rfl ⟨_, rfl, ?_, ?_, ?_, ?_⟩
      · rw[qaG]; simp (disch:=first|omega|decide|simp only[nmsB,lB]) only[simprocAttr,-rR,-rS,leB,memB,qaf,h0,qaV,qae,qab,qad,qac,qaa]
      · rw[qaG]; simp (disch:=first|omega|decide|simp only[nmsB,lB]) only[simprocAttr,-rR,-rS,leB,memB,qaf,h1,qae,qab,qad,qac,qaa]
      · exact qaj (1,0) rfl (by simp (disch:=first|omega|decide|simp only[nmsB,lB]) only[simprocAttr,-rR,-rS,leB,memB,qaf,h2,qae,qab,qad,qac,qaa]) (qaE _ _ _)
      · exact qaj (1,1) rfl (by simp (disch:=first|omega|decide|simp only[nmsB,lB]) only[simprocAttr,-rR,-rS,leB,memB,qaf,h3,qae,qab,qad,qac,qaa]) (qaE _ _ _)
  · refine qao [(2, 0), (3, 0)] rfl (by simp only [simprocAttr, -rR, -rS, qak, L81k0, qaN, qbt, qaW, qam, qah, qac, qaa]) rfl ⟨_, rfl, ?_, ?_, ?_, ?_⟩
    · rw[qaG]; simp (disch:=first|omega|decide|simp only[nmsB,lB]) only[simprocAttr,-rR,-rS,leB,memB,qaf,qaV,qae,qab,qad,qac,qaa]
    · rw[qaG]; simp (disch:=first|omega|decide|simp only[nmsB,lB]) only[simprocAttr,-rR,-rS,leB,memB,qaf,qae,qab,qad,qac,qaa]
    · rw[Nat.mul_zero,qfS]; exact qaj (2,0) rfl (by simp (disch:=first|omega|decide|simp only[nmsB,lB]) only[simprocAttr,-rR,-rS,leB,memB,qaf,qae,qab,qad,qac,qaa]) (qaE _ _ _)
    · exact qaj (3,0) rfl (by simp (disch:=first|omega|decide|simp only[nmsB,lB]) only[simprocAttr,-rR,-rS,leB,memB,qaf,qae,qab,qad,qac,qaa]) (qaE _ _ _)
  · rintro st ⟨H, rfl, h0, h1, h2, h3⟩
    apply qaO
    simp (disch:=first|omega|decide|simp only[nmsB,lB]) only[simprocAttr,-rR,-rS,leB,memB,arrB,numB,qaf,L81b0,qae,qab,qad,qac,qaa]
    rfl
  · rintro st ⟨H, rfl, h0, h1, h2, h3⟩ rfl
    simp (disch:=first|omega|decide|simp only[nmsB,lB]) only[simprocAttr,-rR,-rS,leB,memB,arrB,numB,qaf,L81b0,h0,h1,h2,h3,qgB,qae,qab,qad,qac,qaa]
    rw[qaX 2 _ _ [] (by simp only[simprocAttr,-rR,-rS,qak,qaW,qam,qbt,h0,h1,qah,qac,qaa])]
    simp (disch:=first|omega|decide|simp only[nmsB,lB]) only[simprocAttr,-rR,-rS,leB,memB,qaf,qaV,qbx,h0,h1,qae,qab,qad,qac,qaa]
def umJ (len:Nat) (cap:Option Nat) (l:List (BitVec 8)) (s:R) (i:Nat) (st:St):Prop := ∃ (H:Heap),st=⟨[.undef,.undef,.undef,.ptr (1,0) 0,.ptr (1,1) 0,.ptr (0,0) 1537,.ptr (0,0) 1025,.ptr (0,0) 1281,.ptr (0,0) 769,N (4*i),.undef,.undef,.undef,.undef,.undef,.undef,.undef,.undef,.undef,.undef,.undef,.undef,.undef,.undef,.undef,.undef,.undef,.undef,.undef,.undef,.undef,.undef,.undef,.undef,.undef,.undef,.undef,.undef,.undef,.undef,.undef,.undef,.undef,.undef,.undef,.undef,.undef,.undef,.undef,.undef,.undef,.undef,.undef,.undef,.undef,.undef,.undef,.undef,.undef,.undef,.undef,.undef,.undef,.undef,.undef,.undef,.undef,.undef,.undef,.undef,.undef,.undef,.undef,.undef,.undef,.undef,.undef,.undef,.undef,.undef,.undef,.undef,.undef,.undef,.undef,.undef,.undef,.undef,.undef,.undef,.undef,.undef,.undef,.undef,.undef,.undef,.undef,.undef,.undef,.undef,.undef,.undef,.undef,.undef,.undef,.undef,.undef,.undef,.undef,.undef,.undef,.undef,.undef,.undef,.undef,.undef,.undef,.undef,.undef,.undef,.undef,.undef,.undef,.undef,.undef,.undef,.undef,.undef,.undef,.undef,.undef,.undef,.undef,.undef,.undef,.undef,.undef,.undef,.undef,.undef,.undef,.undef,.undef,.undef,.undef,.undef,.undef,.undef,.undef],H,2,2⟩ ∧
  H (0,0)=some (CF (.sl (0,1) 0 len cap 16) TB)∧H (0,1)=some (bs l)∧H (1,0)=some (aB 16 (upto (4*i) (qcU s) s))∧H (1,1)=some (aB 16 fun _=>0#8)
set_option maxRecDepth 20000 in
set_option maxHeartbeats 1000000 in
theorem unmix_F (k len:Nat) (cap:Option Nat) (l:List (BitVec 8)) (s:R):F C (k+30) 84 [.ptr (0,0) 0,.agg (aB 16 s)] [CF (.sl (0,1) 0 len cap 16) TB,bs l] =
    some (.agg (aB 16 (qcU s)),[some (CF (.sl (0,1) 0 len cap 16) TB),some (bs l)],[]):=by
  rw[qaH f84]
  simp (disch:=first|omega|decide|simp only[nmsB,lB]) only[simprocAttr,-rR,-rS,leB,memB,arrB,numB,qaf,L84,qae,qab,qad,qac,qaa]
  generalize hL:qa1 L84k0 _ _ _=r
  refine qaR hL (umJ len cap l s) 4 (by omega) ?_ ?_ ?_ ?_
  · rintro i st hi ⟨H, rfl, h0, h1, h2, h3⟩
    have hm:4*i < 16:=by omega
    have e4:4*i+4=4*(i+1):=by omega
    have v0:T14 (s (4*i)) ^^^ T11 (s (4*i+1)) ^^^ T13 (s (4*i+2)) ^^^ T9 (s (4*i+3))=qcU s (4*i):=by
      simp only[qcU,qed s i _ (show 0 < 4 by decide),qed s i _ (show 1 < 4 by decide),qed s i _ (show 2 < 4 by decide),qed s i _ (show 3 < 4 by decide),zZ]
    have v1:T9 (s (4*i)) ^^^ T14 (s (4*i+1)) ^^^ T11 (s (4*i+2)) ^^^ T13 (s (4*i+3))=qcU s (4*i+1):=by
      simp only[qcU,qft s i 1 _ (by decide),Nat.reduceAdd,Nat.reduceMod,zZ]
      simp only[BitVec.xor_assoc,BitVec.xor_comm,xc]
    have v2:T13 (s (4*i)) ^^^ T9 (s (4*i+1)) ^^^ T14 (s (4*i+2)) ^^^ T11 (s (4*i+3))=qcU s (4*i+2):=by
      simp only[qcU,qft s i 2 _ (by decide),Nat.reduceAdd,Nat.reduceMod,zZ]
      simp only[BitVec.xor_assoc,BitVec.xor_comm,xc]
    have v3:T11 (s (4*i)) ^^^ T13 (s (4*i+1)) ^^^ T9 (s (4*i+2)) ^^^ T14 (s (4*i+3))=qcU s (4*i+3):=by
      simp only[qcU,qft s i 3 _ (by decide),Nat.reduceAdd,Nat.reduceMod,zZ]
      simp only[BitVec.xor_assoc,BitVec.xor_comm,xc]
    have hs:=upto4 i (qcU s) s _ _ _ _ rfl rfl rfl rfl
    apply Exists.intro
    apply And.intro
    · simp (disch := first | omega | decide | simp only [nmsB, lB]) only [simprocAttr, -rR, -rS, leB, memB, arrB, numB, qaf, ordB, L84b0, h0, h1, h2, h3, hm, upto_ge, CT_9, CT_11, CT_13, CT_14, v0, v1, v2, v3, hs, e4, qae, qab, qad, qac, qaa, qas]
      rfl
    · refine qao [(1, 0), (1, 1)] rfl (by simp only [simprocAttr, -rR, -rS, qak, L84k0, qaN, qbt, qaW, qam, h0, h1, h2, h3, qah, qac, qaa]) rfl ⟨_, rfl, ?_, ?_, ?_, ?_⟩
      · rw[qaG]; simp (disch:=first|omega|decide|simp only[nmsB,lB]) only[simprocAttr,-rR,-rS,leB,memB,qaf,h0,qaV,qae,qab,qad,qac,qaa]
      · rw[qaG]; simp (disch:=first|omega|decide|simp only[nmsB,lB]) only[simprocAttr,-rR,-rS,leB,memB,qaf,h1,qae,qab,qad,qac,qaa]
      · exact qaj (1,0) rfl (by simp (disch:=first|omega|decide|simp only[nmsB,lB]) only[simprocAttr,-rR,-rS,leB,memB,qaf,h2,qae,qab,qad,qac,qaa]) (qaE _ _ _)
      · exact qaj (1,1) rfl (by simp (disch:=first|omega|decide|simp only[nmsB,lB]) only[simprocAttr,-rR,-rS,leB,memB,qaf,h3,qae,qab,qad,qac,qaa]) (qaE _ _ _)
  · refine qao [(2, 0), (3, 0)] rfl (by simp only [simprocAttr, -rR, -rS, qak, L84k0, qaN, qbt, qaW, qam, qah, qac, qaa]) rfl ⟨_, rfl, ?_, ?_, ?_, ?_⟩
    · rw[qaG]; simp (disch:=first|omega|decide|simp only[nmsB,lB]) only[simprocAttr,-rR,-rS,leB,memB,qaf,qaV,qae,qab,qad,qac,qaa]
    · rw[qaG]; simp (disch:=first|omega|decide|simp only[nmsB,lB]) only[simprocAttr,-rR,-rS,leB,memB,qaf,qae,qab,qad,qac,qaa]
    · rw[Nat.mul_zero,qfS]; exact qaj (2,0) rfl (by simp (disch:=first|omega|decide|simp only[nmsB,lB]) only[simprocAttr,-rR,-rS,leB,memB,qaf,qae,qab,qad,qac,qaa]) (qaE _ _ _)
    · exact qaj (3,0) rfl (by simp (disch:=first|omega|decide|simp only[nmsB,lB]) only[simprocAttr,-rR,-rS,leB,memB,qaf,qae,qab,qad,qac,qaa]) (qaE _ _ _)
  · rintro st ⟨H, rfl, h0, h1, h2, h3⟩
    apply qaO
    simp (disch:=first|omega|decide|simp only[nmsB,lB]) only[simprocAttr,-rR,-rS,leB,memB,arrB,numB,qaf,L84b0,qae,qab,qad,qac,qaa]
    rfl
  · rintro st ⟨H, rfl, h0, h1, h2, h3⟩ rfl
    simp (disch:=first|omega|decide|simp only[nmsB,lB]) only[simprocAttr,-rR,-rS,leB,memB,arrB,numB,qaf,L84b0,h0,h1,h2,h3,qgB,qae,qab,qad,qac,qaa]
    rw[qaX 2 _ _ [] (by simp only[simprocAttr,-rR,-rS,qak,qaW,qam,qbt,h0,h1,qah,qac,qaa])]
    simp (disch:=first|omega|decide|simp only[nmsB,lB]) only[simprocAttr,-rR,-rS,leB,memB,qaf,qaV,qbx,h0,h1,qae,qab,qad,qac,qaa]
end Aes
namespace Aes
open Go Go.LE Tb
end Aes
namespace Aes
open Go Go.LE Tb
def term (f s:R) (j k:Nat):BitVec 8:=mul (f ((k+4 - j % 4) % 4)) (s (4*(j / 4)+k))
def part (f s:R) (j:Nat):Nat→BitVec 8
  | 0=>0#8
  | k+1=>part f s j k ^^^ term f s j k
end Aes
