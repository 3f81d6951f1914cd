/- AES in plain Lean: boxes, products, rounds, round keys. No program in sight. -/
set_option linter.unusedVariables false
set_option linter.unusedSimpArgs false

namespace GF
variable {n:Nat}
def dbl (r:BitVec n) (x:BitVec n):BitVec n:=(x <<< 1) ^^^ (if x.getLsbD (n - 1) then r else 0#n)
def dblN (r:BitVec n):Nat→BitVec n→BitVec n
  | 0,x=>x
  | k+1,x=>dblN r k (dbl r x)
def sumTo (p:Nat→Bool) (f:Nat→BitVec n):Nat→BitVec n
  | 0=>0#n
  | k+1=>sumTo p f k ^^^ (if p k then f k else 0#n)
def mul (r:BitVec n) (a b:BitVec n):BitVec n:=sumTo (fun i=>b.getLsbD i) (fun i=>dblN r i a) n
theorem xor_self_cancel (a b:BitVec n):a ^^^ (a ^^^ b)=b:=by rw[←BitVec.xor_assoc,BitVec.xor_self,BitVec.zero_xor]
theorem xor4 (a b c d:BitVec n):(a ^^^ b) ^^^ (c ^^^ d)=(a ^^^ c) ^^^ (b ^^^ d):=by
  rw[BitVec.xor_assoc,BitVec.xor_assoc,←BitVec.xor_assoc b,BitVec.xor_comm b c,BitVec.xor_assoc c]
theorem ite_xor (p q:Bool) (r:BitVec n):(if (p ^^ q)=true then r else 0#n)=(if p=true then r else 0#n) ^^^ (if q=true then r else 0#n):=by
  cases p <;> cases q <;> simp
theorem dbl_zero (r:BitVec n):dbl r 0#n=0#n:=by simp[dbl]
theorem dbl_xor (r a b:BitVec n):dbl r (a ^^^ b)=dbl r a ^^^ dbl r b:=by
  unfold dbl
  rw[BitVec.getLsbD_xor,ite_xor,BitVec.shiftLeft_xor_distrib,xor4]
theorem dblN_zero (r:BitVec n) (k:Nat):dblN r k 0#n=0#n:=by
  induction k with
  | zero=>rfl
  | succ k ih=>simp only[dblN,dbl_zero,ih]
theorem dblN_xor (r:BitVec n) (k:Nat):∀ a b,dblN r k (a ^^^ b)=dblN r k a ^^^ dblN r k b:=by
  induction k with
  | zero=>intro a b; rfl
  | succ k ih=>intro a b; simp only[dblN,dbl_xor,ih]
theorem dblN_succ (r:BitVec n) (k:Nat):∀ a,dblN r (k+1) a=dbl r (dblN r k a):=by
  induction k with
  | zero=>intro a; rfl
  | succ k ih=>intro a; show dblN r (k+1) (dbl r a)=_; rw[ih]; rfl
theorem sumTo_congr {p q:Nat→Bool} {f g:Nat→BitVec n} (k:Nat) (hp:∀ i,i < k→p i=q i) (hf:∀ i,i < k→p i=true→f i=g i):sumTo p f k=sumTo q g k:=by
  induction k with
  | zero=>rfl
  | succ k ih =>
    simp only[sumTo]
    rw[ih (fun i h=>hp i (by omega)) (fun i h=>hf i (by omega)),←hp k (by omega)]
    by_cases h:p k=true
    · rw[if_pos h,if_pos h,hf k (by omega) h]
    · rw[if_neg h,if_neg h]
theorem sumTo_false (f:Nat→BitVec n) (k:Nat):sumTo (fun _=>false) f k=0#n:=by
  induction k with
  | zero=>rfl
  | succ k ih=>simp[sumTo,ih]
theorem sumTo_pxor (p q:Nat→Bool) (f:Nat→BitVec n) (k:Nat):sumTo (fun i=>p i ^^ q i) f k=sumTo p f k ^^^ sumTo q f k:=by
  induction k with
  | zero=>simp[sumTo]
  | succ k ih=>simp only[sumTo]; rw[ih,ite_xor,xor4]
theorem sumTo_map {m:Nat} (F:BitVec n→BitVec m) (h0:F 0#n=0#m) (hx:∀ a b,F (a ^^^ b)=F a ^^^ F b) (p:Nat→Bool) (f:Nat→BitVec n) (k:Nat) :
    F (sumTo p f k)=sumTo p (fun i=>F (f i)) k:=by
  induction k with
  | zero=>exact h0
  | succ k ih =>
    simp only[sumTo]; rw[hx,ih]
    by_cases h:p k=true
    · rw[if_pos h,if_pos h]
    · rw[if_neg h,if_neg h,h0]
theorem sumTo_fxor (p:Nat→Bool) (f g:Nat→BitVec n) (k:Nat):sumTo p (fun i=>f i ^^^ g i) k=sumTo p f k ^^^ sumTo p g k:=by
  induction k with
  | zero=>simp[sumTo]
  | succ k ih =>
    simp only[sumTo]; rw[ih]
    by_cases h:p k=true
    · simp only[if_pos h]; rw[xor4]
    · simp[if_neg h]
theorem mul_zero (r a:BitVec n):mul r a 0#n=0#n:=by
  unfold mul
  rw[sumTo_congr n (q:=fun _=>false) (g:=fun i=>dblN r i a) (fun i _=>by simp) (fun _ _ _=>rfl),sumTo_false]
theorem mul_xor (r a b c:BitVec n):mul r a (b ^^^ c)=mul r a b ^^^ mul r a c:=by
  unfold mul
  rw[←sumTo_pxor]
  exact sumTo_congr n (fun i _=>by simp) (fun _ _ _=>rfl)
theorem zero_mul (r b:BitVec n):mul r 0#n b=0#n:=by
  unfold mul
  rw[sumTo_congr n (q:=fun i=>b.getLsbD i) (g:=fun _=>0#n) (fun _ _=>rfl) (fun i _ _=>dblN_zero r i)]
  have h:=sumTo_map (n:=n) (m:=n) (fun _=>0#n) rfl (fun _ _=>by simp) (fun i=>b.getLsbD i) (fun _=>0#n) n
  exact h.symm
theorem xor_mul (r a b c:BitVec n):mul r (a ^^^ b) c=mul r a c ^^^ mul r b c:=by
  unfold mul
  rw[←sumTo_fxor]
  exact sumTo_congr n (fun _ _=>rfl) (fun i _ _=>dblN_xor r i a b)
theorem dbl_mul (r a b:BitVec n):mul r (dbl r a) b=dbl r (mul r a b):=by
  unfold mul
  rw[sumTo_map (dbl r) (dbl_zero r) (dbl_xor r)]
  exact sumTo_congr n (fun _ _=>rfl) (fun i _ _=>by rw[←dblN_succ]; rfl)
theorem dblN_one (r:BitVec n) (hn:0 < n) (i:Nat) (h:i < n):dblN r i 1#n=BitVec.twoPow n i:=by
  induction i with
  | zero=>ext j hj; simp[dblN]
  | succ i ih =>
    rw[dblN_succ,ih (by omega)]
    unfold dbl
    have:(BitVec.twoPow n i).getLsbD (n - 1)=false:=by simp[BitVec.getLsbD_twoPow]; omega
    rw[this]
    simp only[Bool.false_eq_true,if_false,BitVec.xor_zero]
    ext j hj
    simp
    by_cases h0:j=0
    · subst h0; simp
    · simp[h0]; constructor <;> intro h <;> omega
theorem dblN_one_n (r:BitVec n) (hn:0 < n):dblN r n 1#n=r:=by
  obtain ⟨m,rfl⟩:∃ m,n=m+1:=⟨n - 1,by omega⟩
  rw[dblN_succ,dblN_one r hn m (by omega)]
  unfold dbl
  have:(BitVec.twoPow (m+1) m).getLsbD (m+1 - 1)=true:=by simp
  rw[this]
  simp only[if_true]
  have h0:(BitVec.twoPow (m+1) m) <<< 1=0#(m+1):=by
    ext j hj
    simp
    omega
  rw[h0,BitVec.zero_xor]
theorem sumTo_twoPow (b:BitVec n) (k:Nat) (hk:k≤n) (j:Nat) (hj:j < n) :
    (sumTo (fun i=>b.getLsbD i) (fun i=>BitVec.twoPow n i) k).getLsbD j=(decide (j < k) && b.getLsbD j):=by
  induction k with
  | zero=>simp[sumTo]
  | succ k ih =>
    simp only[sumTo]
    rw[BitVec.getLsbD_xor,ih (by omega)]
    by_cases h:b.getLsbD k=true
    · rw [if_pos h, BitVec.getLsbD_twoPow]
      by_cases e:j=k
      · subst e; simp[h,hj]
      · have : decide (k = j) = false := by simp; omega
        simp only[this,Bool.and_false,Bool.xor_false]
        congr 1
        simp; omega
    · rw [if_neg h]
      by_cases e:j=k
      · subst e; simp at h; simp[h]
      · simp only [BitVec.getLsbD_zero, Bool.xor_false]
        congr 1
        simp; omega
theorem one_mul (r b:BitVec n) (hn:0 < n):mul r 1#n b=b:=by
  unfold mul
  rw[sumTo_congr n (q:=fun i=>b.getLsbD i) (g:=fun i=>BitVec.twoPow n i) (fun _ _=>rfl) (fun i h _=>dblN_one r hn i h)]
  apply BitVec.eq_of_getLsbD_eq
  intro j hj
  rw[sumTo_twoPow b n (Nat.le_refl _) j hj]
  simp[hj]
theorem same_of_one (r:BitVec n) (hn:0 < n) (f g:BitVec n→BitVec n) (f0:f 0#n=0#n) (g0:g 0#n=0#n)
    (fx:∀ a b,f (a ^^^ b)=f a ^^^ f b) (gx:∀ a b,g (a ^^^ b)=g a ^^^ g b) (fd:∀ a,f (dbl r a)=dbl r (f a)) (gd:∀ a,g (dbl r a)=dbl r (g a))
    (h1:f 1#n=g 1#n) (b:BitVec n):f b=g b:=by
  have fN:∀ k,f (dblN r k 1#n)=dblN r k (f 1#n):=by
    intro k; induction k with
    | zero=>rfl
    | succ k ih=>rw[dblN_succ,fd,ih,←dblN_succ]
  have gN:∀ k,g (dblN r k 1#n)=dblN r k (g 1#n):=by
    intro k; induction k with
    | zero=>rfl
    | succ k ih=>rw[dblN_succ,gd,ih,←dblN_succ]
  have hb:=one_mul r b hn
  rw[←hb]
  unfold mul
  rw[sumTo_map f f0 fx,sumTo_map g g0 gx]
  exact sumTo_congr n (fun _ _=>rfl) (fun i _ _=>by rw[fN,gN,h1])
theorem qaS (r a:BitVec n) (hn:0 < n):mul r a 1#n=a :=
  same_of_one r hn (fun a=>mul r a 1#n) (fun a=>a) (zero_mul r _) rfl (fun a b=>xor_mul r a b _) (fun _ _=>rfl) (fun a=>dbl_mul r a _) (fun _=>rfl) (one_mul r _ hn) a
theorem dblN_dbl (r:BitVec n) (k:Nat) (a:BitVec n):dblN r k (dbl r a)=dbl r (dblN r k a):=by rw[←dblN_succ]; rfl
theorem mul_r (r a:BitVec n) (hn:0 < n):mul r a r=dblN r n a :=
  same_of_one r hn (fun a => mul r a r) (fun a => dblN r n a) (zero_mul r _) (dblN_zero r n) (fun a b => xor_mul r a b _) (dblN_xor r n) (fun a => dbl_mul r a _)
    (dblN_dbl r n) ((one_mul r r hn).trans (dblN_one_n r hn).symm) a
theorem mul_dbl (r a b:BitVec n) (hn:0 < n):mul r a (dbl r b)=dbl r (mul r a b):=by
  obtain ⟨m,rfl⟩:∃ m,n=m+1:=⟨n - 1,by omega⟩
  have e1:mul r a (dbl r b)=mul r a (b <<< 1) ^^^ (if b.getLsbD m then dblN r (m+1) a else 0#(m+1)):=by
    show mul r a ((b <<< 1) ^^^ (if b.getLsbD (m+1 - 1) then r else 0#(m+1)))=_
    rw[mul_xor]
    congr 1
    rw[Nat.add_sub_cancel]
    by_cases h:b.getLsbD m=true
    · rw[if_pos h,if_pos h,mul_r r a hn]
    · rw[if_neg h,if_neg h,mul_zero]
  have e2:∀ k,k≤m→sumTo (fun i=>(b <<< 1).getLsbD i) (fun i=>dblN r i a) (k+1)=dbl r (sumTo (fun i=>b.getLsbD i) (fun i=>dblN r i a) k):=by
    intro k hk
    induction k with
    | zero=>simp[sumTo,dbl_zero]
    | succ k ih =>
      rw[show sumTo (fun i=>(b <<< 1).getLsbD i) (fun i=>dblN r i a) (k+1+1)=sumTo (fun i=>(b <<< 1).getLsbD i) (fun i=>dblN r i a) (k+1) ^^^ (if (b <<< 1).getLsbD (k+1) then dblN r (k+1) a else 0#(m+1)) from rfl]
      rw[ih (by omega)]
      rw[show sumTo (fun i=>b.getLsbD i) (fun i=>dblN r i a) (k+1)=sumTo (fun i=>b.getLsbD i) (fun i=>dblN r i a) k ^^^ (if b.getLsbD k then dblN r k a else 0#(m+1)) from rfl]
      rw[dbl_xor]
      congr 1
      have:(b <<< 1).getLsbD (k+1)=b.getLsbD k:=by simp[BitVec.getLsbD_shiftLeft]; intro _; omega
      rw[this]
      by_cases h:b.getLsbD k=true
      · rw[if_pos h,if_pos h,dblN_succ]
      · rw[if_neg h,if_neg h,dbl_zero]
  rw[e1]
  show sumTo (fun i=>(b <<< 1).getLsbD i) (fun i=>dblN r i a) (m+1) ^^^ _=dbl r (sumTo (fun i=>b.getLsbD i) (fun i=>dblN r i a) m ^^^ (if b.getLsbD m then dblN r m a else 0#(m+1)))
  rw[e2 m (Nat.le_refl _),dbl_xor]
  congr 1
  by_cases h:b.getLsbD m=true
  · rw[if_pos h,if_pos h,dblN_succ]
  · rw[if_neg h,if_neg h,dbl_zero]
theorem mul_comm (r a b:BitVec n) (hn:0 < n):mul r a b=mul r b a :=
  same_of_one r hn (fun b => mul r a b) (fun b => mul r b a) (mul_zero r a) (zero_mul r a) (mul_xor r a) (fun b c => xor_mul r b c a)
    (fun b=>mul_dbl r a b hn) (fun b=>dbl_mul r b a) ((qaS r a hn).trans (one_mul r a hn).symm) b
theorem mul_assoc (r a b c:BitVec n) (hn:0 < n):mul r (mul r a b) c=mul r a (mul r b c) :=
  same_of_one r hn (fun c => mul r (mul r a b) c) (fun c => mul r a (mul r b c)) (mul_zero r _) (by rw [mul_zero, mul_zero]) (mul_xor r _) (fun x y => by rw [mul_xor, mul_xor])
    (fun x=>mul_dbl r _ x hn) (fun x=>by rw[mul_dbl r _ _ hn,mul_dbl r _ _ hn]) (by rw[qaS r _ hn,qaS r _ hn]) c
theorem mul_two (r a:BitVec n) (hn:1 < n):mul r a (2#n)=dbl r a:=by
  have h2:(2#n)=dbl r 1#n:=by
    have h:=dblN_one r (by omega) 1 hn
    rw[show dblN r 1 1#n=dbl r 1#n from rfl] at h
    rw[h]
    apply BitVec.eq_of_toNat_eq
    simp[BitVec.toNat_twoPow]
  rw[h2,mul_dbl r _ _ (by omega),qaS r _ (by omega)]
theorem dbl_half (r b:BitVec n):dbl r (b >>> 1)=(b >>> 1) <<< 1:=by
  unfold dbl
  have:(b >>> 1).getLsbD (n - 1)=false:=by
    rw[BitVec.getLsbD_ushiftRight]
    exact BitVec.getLsbD_of_ge _ _ (by omega)
  rw[this]
  simp
theorem low_split (b:BitVec n):(b &&& 1#n) ^^^ ((b >>> 1) <<< 1)=b:=by
  apply BitVec.eq_of_getLsbD_eq
  intro i hi
  simp only[BitVec.getLsbD_xor,BitVec.getLsbD_and,BitVec.getLsbD_shiftLeft,BitVec.getLsbD_ushiftRight,BitVec.getLsbD_one]
  by_cases h:i=0
  · subst h; simp[hi]
  · have h1 : 1 + (i - 1) = i := by omega
    simp[h,hi,h1]
theorem mul_step (r a b:BitVec n) (hn:0 < n):mul r a b=(if b &&& 1#n=1#n then a else 0#n) ^^^ mul r (dbl r a) (b >>> 1):=by
  have h1:mul r a b=mul r a (b &&& 1#n) ^^^ mul r a ((b >>> 1) <<< 1):=by rw[←mul_xor,low_split]
  rw[h1,←dbl_half r,mul_dbl r _ _ hn,←dbl_mul]
  congr 1
  split
  · rename_i h; rw[h,qaS r a hn]
  · rename_i h
    have:b &&& 1#n=0#n:=by
      apply BitVec.eq_of_getLsbD_eq
      intro i hi
      simp only[BitVec.getLsbD_and,BitVec.getLsbD_one,BitVec.getLsbD_zero]
      by_cases h0:i=0
      · subst h0
        cases hb:b.getLsbD 0
        · simp
        · exfalso; apply h
          apply BitVec.eq_of_getLsbD_eq
          intro j hj
          simp only[BitVec.getLsbD_and,BitVec.getLsbD_one]
          by_cases h0:j=0
          · subst h0; simp[hb,hj]
          · simp[h0]
      · simp[h0]
    rw[this,mul_zero]
end GF
namespace Aes
abbrev R:=Nat→BitVec 8
def PWl:List (BitVec 8):=[1#8,3#8,5#8,15#8,17#8,51#8,85#8,255#8,26#8,46#8,114#8,150#8,161#8,248#8,19#8,53#8,95#8,225#8,56#8,72#8,216#8,115#8,149#8,164#8,247#8,2#8,6#8,10#8,30#8,34#8,102#8,170#8,229#8,52#8,92#8,228#8,55#8,89#8,235#8,38#8,106#8,190#8,217#8,112#8,144#8,171#8,230#8,49#8,83#8,245#8,4#8,12#8,20#8,60#8,68#8,204#8,79#8,209#8,104#8,184#8,211#8,110#8,178#8,205#8,76#8,212#8,103#8,169#8,224#8,59#8,77#8,215#8,98#8,166#8,241#8,8#8,24#8,40#8,120#8,136#8,131#8,158#8,185#8,208#8,107#8,189#8,220#8,127#8,129#8,152#8,179#8,206#8,73#8,219#8,118#8,154#8,181#8,196#8,87#8,249#8,16#8,48#8,80#8,240#8,11#8,29#8,39#8,105#8,187#8,214#8,97#8,163#8,254#8,25#8,43#8,125#8,135#8,146#8,173#8,236#8,47#8,113#8,147#8,174#8,233#8,32#8,96#8,160#8,251#8,22#8,58#8,78#8,210#8,109#8,183#8,194#8,93#8,231#8,50#8,86#8,250#8,21#8,63#8,65#8,195#8,94#8,226#8,61#8,71#8,201#8,64#8,192#8,91#8,237#8,44#8,116#8,156#8,191#8,218#8,117#8,159#8,186#8,213#8,100#8,172#8,239#8,42#8,126#8,130#8,157#8,188#8,223#8,122#8,142#8,137#8,128#8,155#8,182#8,193#8,88#8,232#8,35#8,101#8,175#8,234#8,37#8,111#8,177#8,200#8,67#8,197#8,84#8,252#8,31#8,33#8,99#8,165#8,244#8,7#8,9#8,27#8,45#8,119#8,153#8,176#8,203#8,70#8,202#8,69#8,207#8,74#8,222#8,121#8,139#8,134#8,145#8,168#8,227#8,62#8,66#8,198#8,81#8,243#8,14#8,18#8,54#8,90#8,238#8,41#8,123#8,141#8,140#8,143#8,138#8,133#8,148#8,167#8,242#8,13#8,23#8,57#8,75#8,221#8,124#8,132#8,151#8,162#8,253#8,28#8,36#8,108#8,180#8,199#8,82#8,246#8,1#8]
def BOXl:List (BitVec 8):=[99#8,124#8,119#8,123#8,242#8,107#8,111#8,197#8,48#8,1#8,103#8,43#8,254#8,215#8,171#8,118#8,202#8,130#8,201#8,125#8,250#8,89#8,71#8,240#8,173#8,212#8,162#8,175#8,156#8,164#8,114#8,192#8,183#8,253#8,147#8,38#8,54#8,63#8,247#8,204#8,52#8,165#8,229#8,241#8,113#8,216#8,49#8,21#8,4#8,199#8,35#8,195#8,24#8,150#8,5#8,154#8,7#8,18#8,128#8,226#8,235#8,39#8,178#8,117#8,9#8,131#8,44#8,26#8,27#8,110#8,90#8,160#8,82#8,59#8,214#8,179#8,41#8,227#8,47#8,132#8,83#8,209#8,0#8,237#8,32#8,252#8,177#8,91#8,106#8,203#8,190#8,57#8,74#8,76#8,88#8,207#8,208#8,239#8,170#8,251#8,67#8,77#8,51#8,133#8,69#8,249#8,2#8,127#8,80#8,60#8,159#8,168#8,81#8,163#8,64#8,143#8,146#8,157#8,56#8,245#8,188#8,182#8,218#8,33#8,16#8,255#8,243#8,210#8,205#8,12#8,19#8,236#8,95#8,151#8,68#8,23#8,196#8,167#8,126#8,61#8,100#8,93#8,25#8,115#8,96#8,129#8,79#8,220#8,34#8,42#8,144#8,136#8,70#8,238#8,184#8,20#8,222#8,94#8,11#8,219#8,224#8,50#8,58#8,10#8,73#8,6#8,36#8,92#8,194#8,211#8,172#8,98#8,145#8,149#8,228#8,121#8,231#8,200#8,55#8,109#8,141#8,213#8,78#8,169#8,108#8,86#8,244#8,234#8,101#8,122#8,174#8,8#8,186#8,120#8,37#8,46#8,28#8,166#8,180#8,198#8,232#8,221#8,116#8,31#8,75#8,189#8,139#8,138#8,112#8,62#8,181#8,102#8,72#8,3#8,246#8,14#8,97#8,53#8,87#8,185#8,134#8,193#8,29#8,158#8,225#8,248#8,152#8,17#8,105#8,217#8,142#8,148#8,155#8,30#8,135#8,233#8,206#8,85#8,40#8,223#8,140#8,161#8,137#8,13#8,191#8,230#8,66#8,104#8,65#8,153#8,45#8,15#8,176#8,84#8,187#8,22#8]
def UNBl:List (BitVec 8):=[82#8,9#8,106#8,213#8,48#8,54#8,165#8,56#8,191#8,64#8,163#8,158#8,129#8,243#8,215#8,251#8,124#8,227#8,57#8,130#8,155#8,47#8,255#8,135#8,52#8,142#8,67#8,68#8,196#8,222#8,233#8,203#8,84#8,123#8,148#8,50#8,166#8,194#8,35#8,61#8,238#8,76#8,149#8,11#8,66#8,250#8,195#8,78#8,8#8,46#8,161#8,102#8,40#8,217#8,36#8,178#8,118#8,91#8,162#8,73#8,109#8,139#8,209#8,37#8,114#8,248#8,246#8,100#8,134#8,104#8,152#8,22#8,212#8,164#8,92#8,204#8,93#8,101#8,182#8,146#8,108#8,112#8,72#8,80#8,253#8,237#8,185#8,218#8,94#8,21#8,70#8,87#8,167#8,141#8,157#8,132#8,144#8,216#8,171#8,0#8,140#8,188#8,211#8,10#8,247#8,228#8,88#8,5#8,184#8,179#8,69#8,6#8,208#8,44#8,30#8,143#8,202#8,63#8,15#8,2#8,193#8,175#8,189#8,3#8,1#8,19#8,138#8,107#8,58#8,145#8,17#8,65#8,79#8,103#8,220#8,234#8,151#8,242#8,207#8,206#8,240#8,180#8,230#8,115#8,150#8,172#8,116#8,34#8,231#8,173#8,53#8,133#8,226#8,249#8,55#8,232#8,28#8,117#8,223#8,110#8,71#8,241#8,26#8,113#8,29#8,41#8,197#8,137#8,111#8,183#8,98#8,14#8,170#8,24#8,190#8,27#8,252#8,86#8,62#8,75#8,198#8,210#8,121#8,32#8,154#8,219#8,192#8,254#8,120#8,205#8,90#8,244#8,31#8,221#8,168#8,51#8,136#8,7#8,199#8,49#8,177#8,18#8,16#8,89#8,39#8,128#8,236#8,95#8,96#8,81#8,127#8,169#8,25#8,181#8,74#8,13#8,45#8,229#8,122#8,159#8,147#8,201#8,156#8,239#8,160#8,224#8,59#8,77#8,174#8,42#8,245#8,176#8,200#8,235#8,187#8,60#8,131#8,83#8,153#8,97#8,23#8,43#8,4#8,126#8,186#8,119#8,214#8,38#8,225#8,105#8,20#8,99#8,85#8,33#8,12#8,125#8]
def PW (i:Nat):BitVec 8:=PWl.getD i 0#8
def BX (i:Nat):BitVec 8:=BOXl.getD i 0#8
def UB (i:Nat):BitVec 8:=UNBl.getD i 0#8
def mul (a b:BitVec 8):BitVec 8:=GF.mul 27#8 a b
theorem ub_bx (x:BitVec 8):UB (BX x.toNat).toNat=x:=by
  revert x; decide +kernel
theorem bx_ub (x:BitVec 8):BX (UB x.toNat).toNat=x:=by
  revert x; decide +kernel
theorem mul_com (a b:BitVec 8):mul a b=mul b a:=GF.mul_comm _ _ _ (by decide)
theorem mul_ass (a b c:BitVec 8):mul (mul a b) c=mul a (mul b c):=GF.mul_assoc _ _ _ _ (by decide)
def T2 (x:BitVec 8):BitVec 8:=GF.dbl 27#8 x
theorem mul_T2 (x:BitVec 8):mul 2#8 x=T2 x:=by rw[mul_com]; exact GF.mul_two _ _ (by decide)
theorem mul_T2' (x:BitVec 8):mul x 2#8=T2 x:=GF.mul_two _ _ (by decide)
theorem T2_lin (x y:BitVec 8):T2 (x ^^^ y)=T2 x ^^^ T2 y:=GF.dbl_xor _ _ _
theorem mul_1 (x:BitVec 8):mul 1#8 x=x:=GF.one_mul _ _ (by decide)
theorem lin3 (x:BitVec 8):mul 3#8 x=T2 x ^^^ x:=by
  rw[show (3#8:BitVec 8)=2#8 ^^^ 1#8 from rfl]
  show GF.mul 27#8 (2#8 ^^^ 1#8) x=_
  rw[GF.xor_mul]
  show mul 2#8 x ^^^ mul 1#8 x=_
  rw[mul_T2,mul_1]
def T4 (x:BitVec 8):BitVec 8:=T2 (T2 x)
def T8 (x:BitVec 8):BitVec 8:=T2 (T4 x)
theorem T4_lin (x y:BitVec 8):T4 (x ^^^ y)=T4 x ^^^ T4 y:=by simp only[T4,T2_lin]
theorem T8_lin (x y:BitVec 8):T8 (x ^^^ y)=T8 x ^^^ T8 y:=by simp only[T8,T4_lin,T2_lin]
theorem mul_4 (x:BitVec 8):mul 4#8 x=T4 x:=by
  rw[show (4#8:BitVec 8)=mul 2#8 2#8 by decide,mul_ass,mul_T2,mul_T2]; rfl
theorem mul_8 (x:BitVec 8):mul 8#8 x=T8 x:=by
  rw[show (8#8:BitVec 8)=mul 2#8 4#8 by decide,mul_ass,mul_4,mul_T2]; rfl
theorem xor_mul (a b x:BitVec 8):mul (a ^^^ b) x=mul a x ^^^ mul b x:=GF.xor_mul _ _ _ _
theorem lin9 (x:BitVec 8):mul 9#8 x=T8 x ^^^ x:=by
  rw[show (9#8:BitVec 8)=8#8 ^^^ 1#8 from rfl,xor_mul,mul_8,mul_1]
theorem lin11 (x:BitVec 8):mul 11#8 x=T8 x ^^^ T2 x ^^^ x:=by
  rw[show (11#8:BitVec 8)=8#8 ^^^ 2#8 ^^^ 1#8 from rfl,xor_mul,xor_mul,mul_8,mul_T2,mul_1]
theorem lin13 (x:BitVec 8):mul 13#8 x=T8 x ^^^ T4 x ^^^ x:=by
  rw[show (13#8:BitVec 8)=8#8 ^^^ 4#8 ^^^ 1#8 from rfl,xor_mul,xor_mul,mul_8,mul_4,mul_1]
theorem lin14 (x:BitVec 8):mul 14#8 x=T8 x ^^^ T4 x ^^^ T2 x:=by
  rw[show (14#8:BitVec 8)=8#8 ^^^ 4#8 ^^^ 2#8 from rfl,xor_mul,xor_mul,mul_8,mul_4,mul_T2]
def rnd (s:R):R:=fun i=>BX (s ((i+4*(i % 4)) % 16)).toNat
def unrnd (s:R):R:=fun i=>UB (s ((i+12*(i % 4)) % 16)).toNat
def at4 (s:R) (i k:Nat):BitVec 8:=s (4*(i / 4)+(i+k) % 4)
def mix (s:R):R:=fun i=>T2 (at4 s i 0) ^^^ T2 (at4 s i 1) ^^^ at4 s i 1 ^^^ at4 s i 2 ^^^ at4 s i 3
def T9 (x:BitVec 8):BitVec 8:=T8 x ^^^ x
def T11 (x:BitVec 8):BitVec 8:=T8 x ^^^ T2 x ^^^ x
def T13 (x:BitVec 8):BitVec 8:=T8 x ^^^ T4 x ^^^ x
def T14 (x:BitVec 8):BitVec 8:=T8 x ^^^ T4 x ^^^ T2 x
def unmix (s:R):R:=fun i=>T14 (at4 s i 0) ^^^ T11 (at4 s i 1) ^^^ T13 (at4 s i 2) ^^^ T9 (at4 s i 3)
def add (s k:R):R:=fun i=>s i ^^^ k i
def E16 (s t:R):Prop := ∀ i,i < 16→s i=t i
theorem E16.refl (s:R):E16 s s:=fun _ _=>rfl
theorem E16.symm {s t:R} (h:E16 s t):E16 t s:=fun i hi=>(h i hi).symm
theorem E16.trans {s t u:R} (h:E16 s t) (h':E16 t u):E16 s u:=fun i hi=>(h i hi).trans (h' i hi)
theorem rnd_c {s t:R} (h:E16 s t):E16 (rnd s) (rnd t):=fun i _=>by simp only[rnd]; rw[h _ (Nat.mod_lt _ (by decide))]
theorem unrnd_c {s t:R} (h:E16 s t):E16 (unrnd s) (unrnd t):=fun i _=>by simp only[unrnd]; rw[h _ (Nat.mod_lt _ (by decide))]
theorem at4_c {s t:R} (h:E16 s t) (i k:Nat) (hi:i < 16):at4 s i k=at4 t i k:=h _ (by omega)
theorem mix_c {s t:R} (h:E16 s t):E16 (mix s) (mix t):=fun i hi=>by simp only[mix,at4_c h _ _ hi]
theorem unmix_c {s t:R} (h:E16 s t):E16 (unmix s) (unmix t):=fun i hi=>by simp only[unmix,at4_c h _ _ hi]
theorem add_c {s t:R} (h:E16 s t) (k:R):E16 (add s k) (add t k):=fun i hi=>by simp only[add,h i hi]
theorem unrnd_rnd (s:R):E16 (unrnd (rnd s)) s:=by
  intro i hi
  simp only[unrnd,rnd,ub_bx]
  congr 1; omega
theorem rnd_unrnd (s:R):E16 (rnd (unrnd s)) s:=by
  intro i hi
  simp only[unrnd,rnd,bx_ub]
  congr 1; omega
theorem add_add (s k:R):add (add s k) k=s:=by
  funext i; simp only[add]; rw[BitVec.xor_assoc,BitVec.xor_self,BitVec.xor_zero]
theorem at4_move (s:R) (i j k:Nat):at4 s (4*(i / 4)+(i+j) % 4) k=at4 s i ((j+k) % 4):=by
  simp only[at4]
  congr 1; omega
theorem unmix_mix (s:R):unmix (mix s)=fun i=>at4 s i 0:=by
  funext i
  simp only[unmix]
  have h:∀ k,at4 (mix s) i k=T2 (at4 s i (k % 4)) ^^^ T2 (at4 s i ((k+1) % 4)) ^^^ at4 s i ((k+1) % 4) ^^^ at4 s i ((k+2) % 4) ^^^ at4 s i ((k+3) % 4):=by
    intro k
    show mix s (4*(i / 4)+(i+k) % 4)=_
    simp only[mix,at4_move,Nat.add_zero]
  rw[h,h,h,h]
  simp only[Nat.reduceMod,Nat.reduceAdd]
  generalize at4 s i 0=w; generalize at4 s i 1=x; generalize at4 s i 2=y; generalize at4 s i 3=z
  simp only[T14,T11,T13,T9,T8_lin,T4_lin,T2_lin]
  have e1:∀ a,T4 (T2 a)=T8 a:=fun a=>rfl
  have e2:∀ a,T2 (T2 a)=T4 a:=fun a=>rfl
  simp only[e1,e2]
  have e3:∀ a,T8 (T2 a)=T4 (T4 a):=fun a=>rfl
  simp only[e3]
  generalize T4 (T4 w)=w16; generalize T4 (T4 x)=x16; generalize T4 (T4 y)=y16; generalize T4 (T4 z)=z16
  generalize T8 w=w8; generalize T8 x=x8; generalize T8 y=y8; generalize T8 z=z8
  generalize T4 w=w4; generalize T4 x=x4; generalize T4 y=y4; generalize T4 z=z4
  generalize T2 w=w2; generalize T2 x=x2; generalize T2 y=y2; generalize T2 z=z2
  have hc:∀ a b c:BitVec 8,a ^^^ (b ^^^ c)=b ^^^ (a ^^^ c):=fun a b c=>by rw[←BitVec.xor_assoc,BitVec.xor_comm a b,BitVec.xor_assoc]
  simp only[BitVec.xor_assoc,BitVec.xor_comm,hc,GF.xor_self_cancel,BitVec.xor_self,BitVec.xor_zero,BitVec.zero_xor]
end Aes
