/- The constants of the digest, and the package-level variable that holds them. -/
import Derived.Test.YtbdjmicabfclcaaDoorLeE
set_option linter.unusedVariables false
set_option linter.unusedSimpArgs false

namespace GF
variable {n:Nat}
def dbl (r:BitVec n) (x:BitVec n):BitVec n:=(x <<< 1) ^^^ (if x.getLsbD (n - 1) then r else 0#n)
def dblN (r:BitVec n):Nat→BitVec n→BitVec n
  | 0,x=>x
  | k+1,x=>dblN r k (dbl r x)
def qck (p:Nat→Bool) (f:Nat→BitVec n):Nat→BitVec n
  | 0=>0#n
  | k+1=>qck p f k ^^^ (if p k then f k else 0#n)
def mul (r:BitVec n) (a b:BitVec n):BitVec n:=qck (fun i=>b.getLsbD i) (fun i=>dblN r i a) n
theorem qdc (a b:BitVec n):a ^^^ (a ^^^ b)=b:=by rw[←BitVec.xor_assoc,BitVec.xor_self,BitVec.zero_xor]
theorem xor4 (a b c d:BitVec n):(a ^^^ b) ^^^ (c ^^^ d)=(a ^^^ c) ^^^ (b ^^^ d):=by
  rw[BitVec.xor_assoc,BitVec.xor_assoc,←BitVec.xor_assoc b,BitVec.xor_comm b c,BitVec.xor_assoc c]
theorem ite_xor (p q:Bool) (r:BitVec n):(if (p ^^ q)=true then r else 0#n)=(if p=true then r else 0#n) ^^^ (if q=true then r else 0#n):=by
  cases p <;> cases q <;> simp
theorem qfH (r:BitVec n):dbl r 0#n=0#n:=by simp[dbl]
theorem qge (r a b:BitVec n):dbl r (a ^^^ b)=dbl r a ^^^ dbl r b:=by
  unfold dbl
  rw[BitVec.getLsbD_xor,ite_xor,BitVec.shiftLeft_xor_distrib,xor4]
theorem dblN_zero (r:BitVec n) (k:Nat):dblN r k 0#n=0#n:=by
  induction k with
  | zero=>rfl
  | succ k ih=>simp only[dblN,qfH,ih]
theorem dblN_xor (r:BitVec n) (k:Nat):∀ a b,dblN r k (a ^^^ b)=dblN r k a ^^^ dblN r k b:=by
  induction k with
  | zero=>intro a b; rfl
  | succ k ih=>intro a b; simp only[dblN,qge,ih]
theorem qdk (r:BitVec n) (k:Nat):∀ a,dblN r (k+1) a=dbl r (dblN r k a):=by
  induction k with
  | zero=>intro a; rfl
  | succ k ih=>intro a; show dblN r (k+1) (dbl r a)=_; rw[ih]; rfl
theorem qdH {p q:Nat→Bool} {f g:Nat→BitVec n} (k:Nat) (hp:∀ i,i < k→p i=q i) (hf:∀ i,i < k→p i=true→f i=g i):qck p f k=qck q g k:=by
  induction k with
  | zero=>rfl
  | succ k ih =>
    simp only[qck]
    rw[ih (fun i h=>hp i (by omega)) (fun i h=>hf i (by omega)),←hp k (by omega)]
    by_cases h:p k=true
    · rw[if_pos h,if_pos h,hf k (by omega) h]
    · rw[if_neg h,if_neg h]
theorem sumTo_false (f:Nat→BitVec n) (k:Nat):qck (fun _=>false) f k=0#n:=by
  induction k with
  | zero=>rfl
  | succ k ih=>simp[qck,ih]
theorem sumTo_pxor (p q:Nat→Bool) (f:Nat→BitVec n) (k:Nat):qck (fun i=>p i ^^ q i) f k=qck p f k ^^^ qck q f k:=by
  induction k with
  | zero=>simp[qck]
  | succ k ih=>simp only[qck]; rw[ih,ite_xor,xor4]
theorem qfQ {m:Nat} (F:BitVec n→BitVec m) (h0:F 0#n=0#m) (hx:∀ a b,F (a ^^^ b)=F a ^^^ F b) (p:Nat→Bool) (f:Nat→BitVec n) (k:Nat) :
    F (qck p f k)=qck p (fun i=>F (f i)) k:=by
  induction k with
  | zero=>exact h0
  | succ k ih =>
    simp only[qck]; rw[hx,ih]
    by_cases h:p k=true
    · rw[if_pos h,if_pos h]
    · rw[if_neg h,if_neg h,h0]
theorem sumTo_fxor (p:Nat→Bool) (f g:Nat→BitVec n) (k:Nat):qck p (fun i=>f i ^^^ g i) k=qck p f k ^^^ qck p g k:=by
  induction k with
  | zero=>simp[qck]
  | succ k ih =>
    simp only[qck]; rw[ih]
    by_cases h:p k=true
    · simp only[if_pos h]; rw[xor4]
    · simp[if_neg h]
theorem qde (r a:BitVec n):mul r a 0#n=0#n:=by
  unfold mul
  rw[qdH n (q:=fun _=>false) (g:=fun i=>dblN r i a) (fun i _=>by simp) (fun _ _ _=>rfl),sumTo_false]
theorem qfq (r a b c:BitVec n):mul r a (b ^^^ c)=mul r a b ^^^ mul r a c:=by
  unfold mul
  rw[←sumTo_pxor]
  exact qdH n (fun i _=>by simp) (fun _ _ _=>rfl)
theorem qgz (r b:BitVec n):mul r 0#n b=0#n:=by
  unfold mul
  rw[qdH n (q:=fun i=>b.getLsbD i) (g:=fun _=>0#n) (fun _ _=>rfl) (fun i _ _=>dblN_zero r i)]
  have h:=qfQ (n:=n) (m:=n) (fun _=>0#n) rfl (fun _ _=>by simp) (fun i=>b.getLsbD i) (fun _=>0#n) n
  exact h.symm
theorem qgf (r a b c:BitVec n):mul r (a ^^^ b) c=mul r a c ^^^ mul r b c:=by
  unfold mul
  rw[←sumTo_fxor]
  exact qdH n (fun _ _=>rfl) (fun i _ _=>dblN_xor r i a b)
theorem dbl_mul (r a b:BitVec n):mul r (dbl r a) b=dbl r (mul r a b):=by
  unfold mul
  rw[qfQ (dbl r) (qfH r) (qge r)]
  exact qdH n (fun _ _=>rfl) (fun i _ _=>by rw[←qdk]; rfl)
theorem dblN_one (r:BitVec n) (hn:0 < n) (i:Nat) (h:i < n):dblN r i 1#n=BitVec.twoPow n i:=by
  induction i with
  | zero=>ext j hj; simp[dblN]
  | succ i ih =>
    rw[qdk,ih (by omega)]
    unfold dbl
    have:(BitVec.twoPow n i).getLsbD (n - 1)=false:=by simp[BitVec.getLsbD_twoPow]; omega
    rw[this]
    simp only[zP,zM,BitVec.xor_zero]
    ext j hj
    simp
    by_cases h0:j=0
    · subst h0; simp
    · simp[h0]; constructor <;> intro h <;> omega
theorem dblN_one_n (r:BitVec n) (hn:0 < n):dblN r n 1#n=r:=by
  obtain ⟨m,rfl⟩:∃ m,n=m+1:=⟨n - 1,by omega⟩
  rw[qdk,dblN_one r hn m (by omega)]
  unfold dbl
  have:(BitVec.twoPow (m+1) m).getLsbD (m+1 - 1)=true:=by simp
  rw[this]
  simp only[zG]
  have h0:(BitVec.twoPow (m+1) m) <<< 1=0#(m+1):=by
    ext j hj
    simp
    omega
  rw[h0,BitVec.zero_xor]
theorem sumTo_twoPow (b:BitVec n) (k:Nat) (hk:k≤n) (j:Nat) (hj:j < n) :
    (qck (fun i=>b.getLsbD i) (fun i=>BitVec.twoPow n i) k).getLsbD j=(decide (j < k) && b.getLsbD j):=by
  induction k with
  | zero=>simp[qck]
  | succ k ih =>
    simp only[qck]
    rw[BitVec.getLsbD_xor,ih (by omega)]
    by_cases h:b.getLsbD k=true
    · rw [if_pos h, BitVec.getLsbD_twoPow]
      by_cases e:j=k
      · subst e; simp[h,hj]
      · have : decide (k = j) = false := by simp; omega
        simp only[this,Bool.and_false,Bool.xor_false]
        congr 1
        simp; omega
    · rw [if_neg h]
      by_cases e:j=k
      · subst e; simp at h; simp[h]
      · simp only [BitVec.getLsbD_zero, Bool.xor_false]
        congr 1
        simp; omega
theorem one_mul (r b:BitVec n) (hn:0 < n):mul r 1#n b=b:=by
  unfold mul
  rw[qdH n (q:=fun i=>b.getLsbD i) (g:=fun i=>BitVec.twoPow n i) (fun _ _=>rfl) (fun i h _=>dblN_one r hn i h)]
  apply BitVec.eq_of_getLsbD_eq
  intro j hj
  rw[sumTo_twoPow b n (Nat.le_refl _) j hj]
  simp[hj]
theorem qe1 (r:BitVec n) (hn:0 < n) (f g:BitVec n→BitVec n) (f0:f 0#n=0#n) (g0:g 0#n=0#n)
    (fx:∀ a b,f (a ^^^ b)=f a ^^^ f b) (gx:∀ a b,g (a ^^^ b)=g a ^^^ g b) (fd:∀ a,f (dbl r a)=dbl r (f a)) (gd:∀ a,g (dbl r a)=dbl r (g a))
    (h1:f 1#n=g 1#n) (b:BitVec n):f b=g b:=by
  have fN:∀ k,f (dblN r k 1#n)=dblN r k (f 1#n):=by
    intro k; induction k with
    | zero=>rfl
    | succ k ih=>rw[qdk,fd,ih,←qdk]
  have gN:∀ k,g (dblN r k 1#n)=dblN r k (g 1#n):=by
    intro k; induction k with
    | zero=>rfl
    | succ k ih=>rw[qdk,gd,ih,←qdk]
  have hb:=one_mul r b hn
  rw[←hb]
  unfold mul
  rw[qfQ f f0 fx,qfQ g g0 gx]
  exact qdH n (fun _ _=>rfl) (fun i _ _=>by rw[fN,gN,h1])
theorem qb3 (r a:BitVec n) (hn:0 < n):mul r a 1#n=a :=
  qe1 r hn (fun a=>mul r a 1#n) (fun a=>a) (qgz r _) rfl (fun a b=>qgf r a b _) (fun _ _=>rfl) (fun a=>dbl_mul r a _) (fun _=>rfl) (one_mul r _ hn) a
theorem dblN_dbl (r:BitVec n) (k:Nat) (a:BitVec n):dblN r k (dbl r a)=dbl r (dblN r k a):=by rw[←qdk]; rfl
theorem mul_r (r a:BitVec n) (hn:0 < n):mul r a r=dblN r n a :=
  qe1 r hn (fun a => mul r a r) (fun a => dblN r n a) (qgz r _) (dblN_zero r n) (fun a b => qgf r a b _) (dblN_xor r n) (fun a => dbl_mul r a _)
    (dblN_dbl r n) ((one_mul r r hn).trans (dblN_one_n r hn).symm) a
theorem qfr (r a b:BitVec n) (hn:0 < n):mul r a (dbl r b)=dbl r (mul r a b):=by
  obtain ⟨m,rfl⟩:∃ m,n=m+1:=⟨n - 1,by omega⟩
  have e1:mul r a (dbl r b)=mul r a (b <<< 1) ^^^ (if b.getLsbD m then dblN r (m+1) a else 0#(m+1)):=by
    show mul r a ((b <<< 1) ^^^ (if b.getLsbD (m+1 - 1) then r else 0#(m+1)))=_
    rw[qfq]
    congr 1
    rw[Nat.add_sub_cancel]
    by_cases h:b.getLsbD m=true
    · rw[if_pos h,if_pos h,mul_r r a hn]
    · rw[if_neg h,if_neg h,qde]
  have e2:∀ k,k≤m→qck (fun i=>(b <<< 1).getLsbD i) (fun i=>dblN r i a) (k+1)=dbl r (qck (fun i=>b.getLsbD i) (fun i=>dblN r i a) k):=by
    intro k hk
    induction k with
    | zero=>simp[qck,qfH]
    | succ k ih =>
      rw[show qck (fun i=>(b <<< 1).getLsbD i) (fun i=>dblN r i a) (k+1+1)=qck (fun i=>(b <<< 1).getLsbD i) (fun i=>dblN r i a) (k+1) ^^^ (if (b <<< 1).getLsbD (k+1) then dblN r (k+1) a else 0#(m+1)) from rfl]
      rw[ih (by omega)]
      rw[show qck (fun i=>b.getLsbD i) (fun i=>dblN r i a) (k+1)=qck (fun i=>b.getLsbD i) (fun i=>dblN r i a) k ^^^ (if b.getLsbD k then dblN r k a else 0#(m+1)) from rfl]
      rw[qge]
      congr 1
      have:(b <<< 1).getLsbD (k+1)=b.getLsbD k:=by simp[BitVec.getLsbD_shiftLeft]; intro _; omega
      rw[this]
      by_cases h:b.getLsbD k=true
      · rw[if_pos h,if_pos h,qdk]
      · rw[if_neg h,if_neg h,qfH]
  rw[e1]
  show qck (fun i=>(b <<< 1).getLsbD i) (fun i=>dblN r i a) (m+1) ^^^ _=dbl r (qck (fun i=>b.getLsbD i) (fun i=>dblN r i a) m ^^^ (if b.getLsbD m then dblN r m a else 0#(m+1)))
  rw[e2 m (Nat.le_refl _),qge]
  congr 1
  by_cases h:b.getLsbD m=true
  · rw[if_pos h,if_pos h,qdk]
  · rw[if_neg h,if_neg h,qfH]
theorem qgA (r a b:BitVec n) (hn:0 < n):mul r a b=mul r b a :=
  qe1 r hn (fun b => mul r a b) (fun b => mul r b a) (qde r a) (qgz r a) (qfq r a) (fun b c => qgf r b c a)
    (fun b=>qfr r a b hn) (fun b=>dbl_mul r b a) ((qb3 r a hn).trans (one_mul r a hn).symm) b
theorem qe9 (r a b c:BitVec n) (hn:0 < n):mul r (mul r a b) c=mul r a (mul r b c) :=
  qe1 r hn (fun c => mul r (mul r a b) c) (fun c => mul r a (mul r b c)) (qde r _) (by rw [qde, qde]) (qfq r _) (fun x y => by rw [qfq, qfq])
    (fun x=>qfr r _ x hn) (fun x=>by rw[qfr r _ _ hn,qfr r _ _ hn]) (by rw[qb3 r _ hn,qb3 r _ hn]) c
theorem mul_two (r a:BitVec n) (hn:1 < n):mul r a (2#n)=dbl r a:=by
  have h2:(2#n)=dbl r 1#n:=by
    have h:=dblN_one r (by omega) 1 hn
    rw[show dblN r 1 1#n=dbl r 1#n from rfl] at h
    rw[h]
    apply BitVec.eq_of_toNat_eq
    simp[BitVec.toNat_twoPow]
  rw[h2,qfr r _ _ (by omega),qb3 r _ (by omega)]
theorem dbl_half (r b:BitVec n):dbl r (b >>> 1)=(b >>> 1) <<< 1:=by
  unfold dbl
  have:(b >>> 1).getLsbD (n - 1)=false:=by
    rw[BitVec.getLsbD_ushiftRight]
    exact BitVec.getLsbD_of_ge _ _ (by omega)
  rw[this]
  simp
theorem low_split (b:BitVec n):(b &&& 1#n) ^^^ ((b >>> 1) <<< 1)=b:=by
  apply BitVec.eq_of_getLsbD_eq
  intro i hi
  simp only[BitVec.getLsbD_xor,BitVec.getLsbD_and,BitVec.getLsbD_shiftLeft,BitVec.getLsbD_ushiftRight,BitVec.getLsbD_one]
  by_cases h:i=0
  · subst h; simp[hi]
  · have h1 : 1 + (i - 1) = i := by omega
    simp[h,hi,h1]
theorem mul_step (r a b:BitVec n) (hn:0 < n):mul r a b=(if b &&& 1#n=1#n then a else 0#n) ^^^ mul r (dbl r a) (b >>> 1):=by
  have h1:mul r a b=mul r a (b &&& 1#n) ^^^ mul r a ((b >>> 1) <<< 1):=by rw[←qfq,low_split]
  rw[h1,←dbl_half r,qfr r _ _ hn,←dbl_mul]
  congr 1
  split
  · rename_i h; rw[h,qb3 r a hn]
  · rename_i h
    have:b &&& 1#n=0#n:=by
      apply BitVec.eq_of_getLsbD_eq
      intro i hi
      simp only[BitVec.getLsbD_and,BitVec.getLsbD_one,BitVec.getLsbD_zero]
      by_cases h0:i=0
      · subst h0
        cases hb:b.getLsbD 0
        · simp
        · exfalso; apply h
          apply BitVec.eq_of_getLsbD_eq
          intro j hj
          simp only[BitVec.getLsbD_and,BitVec.getLsbD_one]
          by_cases h0:j=0
          · subst h0; simp[hb,hj]
          · simp[h0]
      · simp[h0]
    rw[this,qde]
end GF
namespace Sha
open Go Go.LE
def kList:List (BitVec 32):=[0x428a2f98#32,0x71374491#32,0xb5c0fbcf#32,0xe9b5dba5#32,0x3956c25b#32,0x59f111f1#32,0x923f82a4#32,0xab1c5ed5#32,0xd807aa98#32,0x12835b01#32,0x243185be#32,0x550c7dc3#32,0x72be5d74#32,0x80deb1fe#32,0x9bdc06a7#32,0xc19bf174#32,0xe49b69c1#32,0xefbe4786#32,0x0fc19dc6#32,0x240ca1cc#32,0x2de92c6f#32,0x4a7484aa#32,0x5cb0a9dc#32,0x76f988da#32,0x983e5152#32,0xa831c66d#32,0xb00327c8#32,0xbf597fc7#32,0xc6e00bf3#32,0xd5a79147#32,0x06ca6351#32,0x14292967#32,0x27b70a85#32,0x2e1b2138#32,0x4d2c6dfc#32,0x53380d13#32,0x650a7354#32,0x766a0abb#32,0x81c2c92e#32,0x92722c85#32,0xa2bfe8a1#32,0xa81a664b#32,0xc24b8b70#32,0xc76c51a3#32,0xd192e819#32,0xd6990624#32,0xf40e3585#32,0x106aa070#32,0x19a4c116#32,0x1e376c08#32,0x2748774c#32,0x34b0bcb5#32,0x391c0cb3#32,0x4ed8aa4a#32,0x5b9cca4f#32,0x682e6ff3#32,0x748f82ee#32,0x78a5636f#32,0x84c87814#32,0x8cc70208#32,0x90befffa#32,0xa4506ceb#32,0xbef9a3f7#32,0xc67178f2#32]
def kc (i:Nat):BitVec 32:=kList.getD i 0#32
def glf:Nat→Option qal:=fun n=>if n=0 then some (aW 64 kc) else none
end Sha
