/- seal: hashes and tags, reckoned by the kernel. -/
import Derived.Test.YtbdjmicabfclcaaDoorLeH
import Derived.Test.YtbdjmicabfclcaaDoorLeJ
import Derived.Test.YtbdjmicabfclcaaDoorLeY
set_option linter.unusedVariables false
set_option linter.unusedSimpArgs false
namespace Sha
open Go Go.LE Tb
set_option maxRecDepth 20000
def fz {α:Type} (x:BitVec 32) (k:BitVec 32→α):α:=match x.toNat with
  | 0=>k 0#32
  | n+1=>k (BitVec.ofNat 32 (n+1))
theorem fz_eq {α:Type} (x:BitVec 32) (k:BitVec 32→α):fz x k=k x:=by
  have h:BitVec.ofNat 32 x.toNat=x:=by simp
  unfold fz
  split
  · next e=>rw[←h,e]
  · next n e=>rw[←Nat.succ_eq_add_one,←e,h]
def wz (p:Nat→BitVec 8):Nat→Nat→List (BitVec 32)→List (BitVec 32)
  | 0,_,l=>l
  | n+1,i,l=>fz (wstep p (fun j=>l.getD (i - 1 - j) 0#32) i) fun x=>wz p n (i+1) (x::l)
theorem wstep_same (p:Nat→BitVec 8) (w v:Nat→BitVec 32) (i:Nat) (h:∀ j,j < i→w j=v j):wstep p w i=wstep p v i:=by
  unfold wstep
  split
  · rfl
  · simp only[wnew]; rw[h (i - 16) (by omega),h (i - 7) (by omega),h (i - 15) (by omega),h (i - 2) (by omega)]
theorem wz_eq (p:Nat→BitVec 8):∀ n i l,l.length=i→(∀ j,j < i→l.getD (i - 1 - j) 0#32=W p i j) →
    (wz p n i l).length=i+n∧∀ j,j < i+n→(wz p n i l).getD (i+n - 1 - j) 0#32=W p (i+n) j:=by
  intro n
  induction n with
  | zero=>intro i l h1 h2; exact ⟨h1,h2⟩
  | succ n ih =>
    intro i l h1 h2
    rw[wz,fz_eq,wstep_same p _ (W p i) i h2,show i+(n+1)=i+1+n by omega]
    refine ih (i+1) _ (by rw[zE,h1]) fun j hj => ?_
    rw[W,set1]
    by_cases e:j=i
    · subst e; rw[if_pos rfl,show j+1 - 1 - j=0 by omega]; rfl
    · rw[if_neg e,show i+1 - 1 - j=(i - 1 - j)+1 by omega,List.getD_cons_succ]; exact h2 j (by omega)
theorem wz_rev (p:Nat→BitVec 8) (j:Nat) (hj:j < 64):(wz p 64 0 []).reverse.getD j 0#32=W p 64 j:=by
  obtain ⟨h1,h2⟩:=wz_eq p 64 0 [] rfl (by intro j h; omega)
  rw[List.getD_eq_getElem?_getD,List.getElem?_reverse (by omega),h1,←List.getD_eq_getElem?_getD]
  exact h2 j (by omega)
def rg (ws:List (BitVec 32)):Nat→Nat→(a b c d e f g h:BitVec 32)→List (BitVec 32)
  | 0,_,a,b,c,d,e,f,g,h=>[a,b,c,d,e,f,g,h]
  | n+1,i,a,b,c,d,e,f,g,h=>fz (one (vec8 a b c d e f g h) (kc i) (ws.getD i 0#32)) fun t=>fz (t+two (vec8 a b c d e f g h)) fun x=>fz (d+t) fun y=>rg ws n (i+1) x a b c y e f g
def toV (l:List (BitVec 32)):Nat→BitVec 32:=vec8 (l.getD 0 0#32) (l.getD 1 0#32) (l.getD 2 0#32) (l.getD 3 0#32) (l.getD 4 0#32) (l.getD 5 0#32) (l.getD 6 0#32) (l.getD 7 0#32)
theorem rg_eq (ws:List (BitVec 32)) (s w:Nat→BitVec 32) (hw:∀ j,j < 64→ws.getD j 0#32=w j):∀ n i a b c d e f g h,i+n≤64→R s w i=vec8 a b c d e f g h→toV (rg ws n i a b c d e f g h)=R s w (i+n):=by
  intro n
  induction n with
  | zero=>intro i a b c d e f g h _ hR; exact hR.symm
  | succ n ih =>
    intro i a b c d e f g h hi hR
    rw[rg,fz_eq,fz_eq,fz_eq,show i+(n+1)=i+1+n by omega]
    refine ih (i+1) _ _ _ _ _ _ _ _ (by omega) ?_
    rw[R,hR,hw i (by omega)]
    rfl
def cL (s:List (BitVec 32)) (p:Nat→BitVec 8):List (BitVec 32) :=
  let r:=rg (wz p 64 0 []).reverse 64 0 (s.getD 0 0#32) (s.getD 1 0#32) (s.getD 2 0#32) (s.getD 3 0#32) (s.getD 4 0#32) (s.getD 5 0#32) (s.getD 6 0#32) (s.getD 7 0#32)
  fz (s.getD 0 0#32+r.getD 0 0#32) fun a=>fz (s.getD 1 0#32+r.getD 1 0#32) fun b=>fz (s.getD 2 0#32+r.getD 2 0#32) fun c=>fz (s.getD 3 0#32+r.getD 3 0#32) fun d =>
  fz (s.getD 4 0#32+r.getD 4 0#32) fun e=>fz (s.getD 5 0#32+r.getD 5 0#32) fun f=>fz (s.getD 6 0#32+r.getD 6 0#32) fun g=>fz (s.getD 7 0#32+r.getD 7 0#32) fun h=>[a,b,c,d,e,f,g,h]
theorem cL_eq (s:List (BitVec 32)) (p:Nat→BitVec 8):blk (toV s) p=toV (cL s p):=by
  have e:=rg_eq (wz p 64 0 []).reverse (toV s) (W p 64) (wz_rev p) 64 0 _ _ _ _ _ _ _ _ (by omega) (show R (toV s) (W p 64) 0=vec8 (s.getD 0 0#32) (s.getD 1 0#32) (s.getD 2 0#32) (s.getD 3 0#32) (s.getD 4 0#32) (s.getD 5 0#32) (s.getD 6 0#32) (s.getD 7 0#32) from rfl)
  rw[blk,←e,cL]
  simp only[fz_eq]
  funext j
  simp only[addW,toV]
  by_cases hj:j < 8
  · have:∀ i:Fin 8,∀ a b c d e f g h x y z u v w q r:BitVec 32,vec8 a b c d e f g h i.val+vec8 x y z u v w q r i.val=vec8 (a+x) (b+y) (c+z) (d+u) (e+v) (f+w) (g+q) (h+r) i.val:=by
      intro i; match i with
      | 0=>intros; rfl
      | 1=>intros; rfl
      | 2=>intros; rfl
      | 3=>intros; rfl
      | 4=>intros; rfl
      | 5=>intros; rfl
      | 6=>intros; rfl
      | 7=>intros; rfl
    exact this ⟨j,hj⟩ _ _ _ _ _ _ _ _ _ _ _ _ _ _ _ _
  · obtain ⟨d, rfl⟩ : ∃ d, j = d + 8 := ⟨j - 8, by omega⟩
    show (0#32:BitVec 32)+0#32=0#32
    decide
def absL (m:List (BitVec 8)) (s:List (BitVec 32)):Nat→List (BitVec 32)
  | 0=>s
  | i+1=>cL (absL m s i) (qdL m i)
theorem absL_eq (m:List (BitVec 8)) (s:List (BitVec 32)):∀ n,absN m (toV s) n=toV (absL m s n):=by
  intro n
  induction n with
  | zero=>rfl
  | succ n ih=>rw[absN,ih,cL_eq]; rfl
def iniL:List (BitVec 32):=[0x6a09e667#32,0xbb67ae85#32,0x3c6ef372#32,0xa54ff53a#32,0x510e527f#32,0x9b05688c#32,0x1f83d9ab#32,0x5be0cd19#32]
theorem dig_by (b m:List (BitVec 8)) (n:Nat) (hm:pad b=m) (hn:m.length / 64=n):dig b=outB (toV (absL m iniL n)):=by
  rw[dig,hm,hn,show ini=toV iniL from rfl,absL_eq]
end Sha
namespace Aes
open Go Go.LE Tb Xf
set_option maxRecDepth 20000
def fz8 {α:Type} (x:BitVec 8) (k:BitVec 8→α):α:=match x.toNat with
  | 0=>k 0#8
  | n+1=>k (BitVec.ofNat 8 (n+1))
theorem fz8_eq {α:Type} (x:BitVec 8) (k:BitVec 8→α):fz8 x k=k x:=by
  have h:BitVec.ofNat 8 x.toNat=x:=by simp
  unfold fz8
  split
  · next e=>rw[←h,e]
  · next n e=>rw[←Nat.succ_eq_add_one,←e,h]
def fzT {α:Type} (x:BitVec 128) (k:BitVec 128→α):α:=match x.toNat with
  | 0=>k 0#128
  | n+1=>k (BitVec.ofNat 128 (n+1))
theorem fzT_eq {α:Type} (x:BitVec 128) (k:BitVec 128→α):fzT x k=k x:=by
  have h:BitVec.ofNat 128 x.toNat=x:=by simp
  unfold fzT
  split
  · next e=>rw[←h,e]
  · next n e=>rw[←Nat.succ_eq_add_one,←e,h]
def by16 {α:Type} (f:R):Nat→Nat→List (BitVec 8)→(List (BitVec 8)→α)→α
  | 0,_,l,k=>k l
  | n+1,i,l,k=>fz8 (f (i - 1)) fun x=>by16 f n (i - 1) (x::l) k
theorem qeE {α:Type} (f:R) (k:List (BitVec 8)→α):by16 f 16 16 [] k=k ((List.range 16).map f):=by
  simp only[by16,fz8_eq]
  rfl
def ebL (l:List (BitVec 8)) (s:List (BitVec 8)):Nat→List (BitVec 8)
  | 0=>by16 (add (fl s) (kf l 0)) 16 16 [] fun x=>x
  | i+1=>by16 (rnd (fl (ebL l s i))) 16 16 [] fun t=>by16 (add (mix (fl t)) (kf l (i+1))) 16 16 [] fun x=>x
theorem ebL_eq (l s:List (BitVec 8)):∀ i,E16 (fl (ebL l s i)) (encl (kf l) (fl s) i):=by
  intro i
  induction i with
  | zero=>rw[ebL,qeE]; exact qd2 _
  | succ i ih =>
    rw[ebL,qeE,qeE]
    refine (qd2 _).trans (qex (mix_c ((qd2 _).trans (rnd_c ih))) _)
def ecL (l s:List (BitVec 8)):List (BitVec 8):=by16 (rnd (fl (ebL l s 9))) 16 16 [] fun t=>by16 (add (fl t) (kf l 10)) 16 16 [] fun x=>x
theorem ecL_eq (l s:List (BitVec 8)):E16 (fl (ecL l s)) (enc (kf l) 9 (fl s)):=by
  rw[ecL,qeE,qeE]
  exact (qd2 _).trans (qex ((qd2 _).trans (rnd_c (ebL_eq l s 9))) _)
def wtL (l:List (BitVec 8)) (t:BitVec 128) (b:List (BitVec 8)):List (BitVec 8) :=
  by16 (qbO t) 16 16 [] fun u=>by16 (fun i=>fl b i ^^^ fl u i) 16 16 [] fun x=>by16 (fun j=>fl (ecL l x) j ^^^ fl u j) 16 16 [] fun x=>x
theorem wtL_eq (l:List (BitVec 8)) (t:BitVec 128) (b:List (BitVec 8)):wtl (enc (kf l) 9) t b=wtL l t b:=by
  rw[wtL,qeE,qeE,qeE]
  have hu:E16 (fl ((List.range 16).map (qbO t))) (qbO t):=qd2 _
  generalize (List.range 16).map (qbO t)=u at hu ⊢
  have hx:E16 (fl ((List.range 16).map fun i=>fl b i ^^^ fl u i)) (fun i=>fl b i ^^^ fl u i):=qd2 _
  generalize ((List.range 16).map fun i=>fl b i ^^^ fl u i)=x at hx ⊢
  have hy:E16 (fl ((List.range 16).map fun j=>fl (ecL l x) j ^^^ fl u j)) (fun j=>fl (ecL l x) j ^^^ fl u j):=qd2 _
  have hl:((List.range 16).map fun j=>fl (ecL l x) j ^^^ fl u j).length=16:=by rw[zV,List.length_range]
  generalize ((List.range 16).map fun j=>fl (ecL l x) j ^^^ fl u j)=y at hy hl ⊢
  have hw:E16 (fl (wtl (enc (kf l) 9) t b)) (wt (enc (kf l) 9) t (fl b)):=qd2 _
  have he:E16 (fun i=>fl b i ^^^ qbO t i) (fl x):=fun i hi=>by
    rw[hx i hi]
    show fl b i ^^^ qbO t i=fl b i ^^^ fl u i
    rw[hu i hi]
  have hc:E16 (enc (kf l) 9 (fun i=>fl b i ^^^ qbO t i)) (fl (ecL l x)):=(enc_c _ 9 he).trans (ecL_eq l x).symm
  refine list16 (qcA _ _ _) hl (hw.trans fun j hj => ?_)
  rw[hy j hj]
  show enc (kf l) 9 (fun i=>fl b i ^^^ qbO t i) j ^^^ qbO t j=fl (ecL l x) j ^^^ fl u j
  rw[hc j hj,hu j hj]
def uL (l:List (BitVec 8)):Nat→BitVec 128→List (BitVec 8)→List (BitVec 8)
  | 0,_,_=>[]
  | n+1,t,d=>wtL l t (d.take 16)++fzT (GF.dbl 135#128 t) fun t'=>uL l n t' (d.drop 16)
theorem uL_eq (l:List (BitVec 8)) (t0:BitVec 128) (d:List (BitVec 8)):∀ n i,done (enc (kf l) 9) t0 d (i+n)=done (enc (kf l) 9) t0 d i++uL l n (tws t0 i) (d.drop (16*i)):=by
  intro n
  induction n with
  | zero=>intro i; rw[uL,zD]; rfl
  | succ n ih =>
    intro i
    rw[show i+(n+1)=i+1+n by omega,ih (i+1),done,uL,fzT_eq,wtL_eq,List.append_assoc,List.drop_drop,blk]
    rfl
theorem unit_by (l:List (BitVec 8)) (t0:BitVec 128) (d:List (BitVec 8)) (h:d.length % 16=0):qbI (enc (kf l) 9) t0 d false=uL l (d.length / 16) t0 d:=by
  rw[qbI,if_pos h,show d.length / 16=0+d.length / 16 by omega,uL_eq,done,zI,zO]; rfl
theorem ofBits_c' {c c':R} (h:E16 c c'):qfc (qdR c)=qfc (qdR c'):=by
  apply BitVec.eq_of_getLsbD_eq
  intro j hj
  rw[qfl,qfl]
  simp only[qdR]
  rw[h (j / 8) (by omega)]
theorem tw_by (l:List (BitVec 8)) (u:BitVec 64) (T:BitVec 128) (h:∀ j:Fin 128,qdR (fl (ecL l ((List.range 16).map (qbO (U128 u))))) j.val=T.getLsbD j.val):tw0 9 l u=T:=by
  have e:E16 (enc (kf l) 9 (qbO (U128 u))) (fl (ecL l ((List.range 16).map (qbO (U128 u))))):=(enc_c _ 9 (qd2 _).symm).trans (ecL_eq l _).symm
  rw[tw0,ofBits_c' e]
  apply BitVec.eq_of_getLsbD_eq
  intro j hj
  rw[qfl,decide_eq_true hj,Bool.true_and]
  exact h ⟨j,hj⟩
end Aes
namespace Sl
open Go Go.LE Tb
open Sha (tagv)
set_option maxRecDepth 20000
def d1:List (BitVec 8):=1#8::List.replicate 31 0#8
def t2:List (BitVec 8):=2#8::List.replicate 31 0#8
def Wx:List (BitVec 8):=[1#8,0#8,0#8,0#8,0#8,0#8,0#8,0#8,0#8,0#8,0#8,0#8,0#8,0#8,0#8,0#8,99#8,99#8,99#8,99#8,99#8,99#8,99#8,99#8,99#8,99#8,99#8,99#8,99#8,99#8,99#8,99#8,154#8,152#8,152#8,152#8,249#8,251#8,251#8,251#8,154#8,152#8,152#8,152#8,249#8,251#8,251#8,251#8,145#8,151#8,151#8,1#8,104#8,108#8,108#8,250#8,242#8,244#8,244#8,98#8,11#8,15#8,15#8,153#8,239#8,225#8,121#8,42#8,135#8,141#8,21#8,208#8,117#8,121#8,225#8,178#8,126#8,118#8,238#8,43#8,199#8,201#8,136#8,217#8,64#8,68#8,157#8,9#8,53#8,61#8,124#8,187#8,75#8,75#8,146#8,144#8,84#8,134#8,232#8,106#8,20#8,194#8,117#8,99#8,33#8,255#8,9#8,216#8,106#8,180#8,155#8,72#8,153#8,146#8,186#8,104#8,141#8,80#8,207#8,11#8,172#8,175#8,198#8,211#8,198#8,27#8,93#8,155#8,182#8,222#8,174#8,220#8,59#8,142#8,97#8,215#8,151#8,33#8,167#8,4#8,81#8,58#8,250#8,159#8,45#8,243#8,117#8,13#8,22#8,125#8,20#8,218#8,129#8,92#8,179#8,222#8,208#8,102#8,73#8,65#8,40#8,200#8,246#8,125#8,62#8,181#8,226#8,167#8,191#8,233#8,81#8,121#8,111#8,143#8,24#8,56#8]
def Wz:List (BitVec 8):=[0#8,0#8,0#8,0#8,0#8,0#8,0#8,0#8,0#8,0#8,0#8,0#8,0#8,0#8,0#8,0#8,98#8,99#8,99#8,99#8,98#8,99#8,99#8,99#8,98#8,99#8,99#8,99#8,98#8,99#8,99#8,99#8,155#8,152#8,152#8,201#8,249#8,251#8,251#8,170#8,155#8,152#8,152#8,201#8,249#8,251#8,251#8,170#8,144#8,151#8,52#8,80#8,105#8,108#8,207#8,250#8,242#8,244#8,87#8,51#8,11#8,15#8,172#8,153#8,238#8,6#8,218#8,123#8,135#8,106#8,21#8,129#8,117#8,158#8,66#8,178#8,126#8,145#8,238#8,43#8,127#8,46#8,43#8,136#8,248#8,68#8,62#8,9#8,141#8,218#8,124#8,187#8,243#8,75#8,146#8,144#8,236#8,97#8,75#8,133#8,20#8,37#8,117#8,140#8,153#8,255#8,9#8,55#8,106#8,180#8,155#8,167#8,33#8,117#8,23#8,135#8,53#8,80#8,98#8,11#8,172#8,175#8,107#8,60#8,198#8,27#8,240#8,155#8,14#8,249#8,3#8,51#8,59#8,169#8,97#8,56#8,151#8,6#8,10#8,4#8,81#8,29#8,250#8,159#8,177#8,212#8,216#8,226#8,138#8,125#8,185#8,218#8,29#8,123#8,179#8,222#8,76#8,102#8,73#8,65#8,180#8,239#8,91#8,203#8,62#8,146#8,226#8,17#8,35#8,233#8,81#8,207#8,111#8,143#8,24#8,142#8]
def csz:List (BitVec 8):=[1#8,2#8,4#8,8#8,16#8,32#8,64#8,128#8,27#8,54#8,108#8]
theorem W_by (key w:List (BitVec 8)) (h0:key=w.take 16) (hw:w.length=176) (h:∀ m:Fin 40,Aes.kstep 4 (4+m.val) (w.take (16+4*m.val),csz.getD ((m.val+3) / 4) 0#8)=(w.take (16+4*(m.val+1)),csz.getD ((m.val+4) / 4) 0#8)):Aes.W 4 key=w:=by
  have hs:∀ m,m≤40→Aes.KS 4 key m=(w.take (16+4*m),csz.getD ((m+3) / 4) 0#8):=by
    intro m
    induction m with
    | zero=>intro _; rw[h0]; rfl
    | succ m ih=>intro hm; rw[Aes.KS,ih (by omega)]; exact h ⟨m,by omega⟩
  rw[Aes.W,hs 40 (Nat.le_refl _)]
  exact List.take_of_length_le (by rw[hw]; decide)
theorem W_x:Aes.W 4 (d1.take 16)=Wx:=W_by _ _ rfl rfl (by decide +kernel)
theorem W_0:Aes.W 4 (d1.drop 16)=Wz:=W_by _ _ rfl rfl (by decide +kernel)
def T5:BitVec 128:=261550219829964821304578606853850403191#128
theorem tw_5:Aes.tw0 9 Wz 5#64=T5:=Aes.tw_by _ _ _ (by decide +kernel)
def b5:List (BitVec 8):=[217#8,213#8,161#8,171#8,218#8,32#8,40#8,22#8,167#8,18#8,37#8,154#8,12#8,3#8,248#8,52#8,37#8,2#8,209#8,96#8,140#8,166#8,73#8,116#8,156#8,78#8,116#8,179#8,8#8,51#8,191#8,48#8,253#8,210#8,254#8,26#8,255#8,173#8,227#8,191#8,11#8,224#8,204#8,160#8,29#8,213#8,200#8,20#8,240#8,169#8,155#8,186#8,104#8,235#8,192#8,99#8,73#8,146#8,26#8,40#8,116#8,55#8,149#8,160#8,169#8,189#8,90#8,191#8,138#8,68#8,8#8,103#8,55#8,132#8,152#8,91#8,4#8,22#8,170#8,230#8,60#8,17#8,41#8,179#8,251#8,122#8,178#8,162#8,56#8,131#8,153#8,127#8,175#8,197#8,208#8,61#8,132#8,117#8,182#8,105#8,40#8,89#8,57#8,205#8,109#8,227#8,131#8,94#8,15#8,72#8,70#8,25#8,178#8,15#8,246#8,186#8,13#8,251#8,19#8,46#8,136#8,19#8,200#8,198#8,56#8,1#8,233#8,226#8,19#8,17#8,20#8,197#8,147#8,0#8,185#8,181#8,218#8,237#8,1#8,167#8,96#8,233#8,213#8,125#8,82#8,207#8,83#8,164#8,155#8,121#8,19#8,70#8,20#8,95#8,215#8,169#8,159#8,227#8,37#8,36#8,90#8,21#8,175#8,125#8,149#8,11#8,213#8,31#8,8#8,125#8,175#8,104#8,169#8,32#8,64#8,217#8,66#8,201#8,234#8,138#8,254#8,196#8,241#8,81#8,212#8,131#8,132#8,8#8,132#8,163#8,40#8,150#8,168#8,208#8,94#8,9#8,70#8,62#8,61#8,116#8,173#8,65#8,99#8,222#8,144#8,163#8,134#8,49#8,34#8,1#8,123#8,133#8,41#8,57#8,100#8,241#8,58#8,247#8,146#8,226#8,202#8,190#8,92#8,147#8,146#8,54#8,168#8,192#8,210#8,117#8,122#8,144#8,244#8,148#8,251#8,85#8,132#8,167#8,59#8,128#8,11#8,71#8,233#8,125#8,44#8,177#8,26#8,112#8,140#8,119#8,132#8,143#8,164#8,26#8,4#8,31#8,174#8,125#8,200#8,87#8,155#8,23#8,220#8,53#8,120#8,203#8,63#8,30#8,30#8,69#8,75#8,210#8,107#8,184#8,190#8,79#8,105#8,203#8,97#8,75#8,57#8,58#8,26#8,105#8,14#8,110#8,116#8,33#8,250#8,39#8,182#8,176#8,11#8,170#8,49#8,129#8,52#8,239#8,136#8,227#8,225#8,195#8,97#8,101#8,34#8,194#8,251#8,69#8,125#8,120#8,229#8,87#8,241#8,253#8,151#8,0#8,72#8,146#8,208#8,111#8,135#8,164#8,233#8,87#8,214#8,189#8,56#8,243#8,77#8,244#8,127#8,85#8,127#8,27#8,205#8,80#8,20#8,243#8,128#8,136#8,113#8,104#8,21#8,242#8,103#8,105#8,133#8,250#8,140#8,145#8,245#8,39#8,43#8,171#8,177#8,214#8,91#8,249#8,216#8,110#8,246#8,77#8,35#8,162#8,159#8,141#8,85#8,13#8,235#8,60#8,114#8,117#8,212#8,251#8,188#8,117#8,251#8,54#8,22#8,5#8,7#8,103#8,158#8,254#8,132#8,127#8,109#8,248#8,19#8,82#8,122#8,231#8,184#8,166#8,120#8,27#8,232#8,38#8,4#8,37#8,96#8,105#8,81#8,242#8,247#8,13#8,71#8,117#8,172#8,244#8,242#8,80#8,252#8,162#8,156#8,127#8,187#8,181#8,74#8,48#8,4#8,225#8,126#8,24#8,245#8,178#8,121#8,138#8,129#8,243#8,224#8,5#8,59#8,12#8,71#8,251#8,171#8,70#8,23#8,235#8,170#8,3#8,234#8,48#8,115#8,167#8,90#8,112#8,13#8,137#8,130#8,220#8,114#8,214#8,252#8,184#8,27#8,2#8,5#8,128#8,47#8,249#8,217#8,150#8,88#8,103#8,55#8,170#8,130#8,153#8,65#8,161#8,22#8,53#8,196#8,18#8,162#8,94#8,212#8,166#8,120#8,111#8,90#8,115#8,231#8,13#8,10#8,103#8,96#8,149#8,49#8,156#8,194#8,166#8,30#8,69#8,96#8,44#8,212#8,104#8,109#8,27#8,63#8,89#8,126#8,245#8,133#8,213#8,115#8,29#8,158#8,185#8]
theorem b5_by:Aes.uL Wx 32 T5 (List.replicate 512 120#8)=b5:=by decide +kernel
theorem sealed_5:qcy d1 5 (List.replicate 512 120#8)=b5:=by
  rw[qcy,W_x,W_0,show BitVec.ofNat 64 5=5#64 from rfl,tw_5,Aes.unit_by _ _ _ rfl]
  exact b5_by
theorem in_5:Sha.dl (Sha.ik t2++recM 3 5 b5)=[173#8,117#8,198#8,26#8,44#8,41#8,52#8,153#8,253#8,11#8,158#8,41#8,113#8,27#8,249#8,96#8,228#8,12#8,164#8,225#8,123#8,250#8,119#8,186#8,131#8,160#8,44#8,255#8,183#8,64#8,233#8,89#8]:=by
  rw[Sha.dl,Sha.dig_by _ _ 10 rfl rfl]; decide +kernel
theorem out_5:tagL t2 (recM 3 5 b5)=[192#8,47#8,4#8,103#8,59#8,21#8,126#8,77#8,182#8,107#8,123#8,119#8,58#8,130#8,196#8,134#8,118#8,233#8,57#8,30#8,62#8,26#8,176#8,204#8,10#8,87#8,64#8,33#8,158#8,207#8,94#8,129#8]:=by
  rw[tagL,tagv,in_5,Sha.dig_by _ _ 2 rfl rfl]; decide +kernel
theorem in_6:Sha.dl (Sha.ik t2++recM 3 6 b5)=[3#8,30#8,213#8,203#8,57#8,79#8,104#8,207#8,31#8,68#8,80#8,248#8,2#8,166#8,176#8,78#8,199#8,56#8,133#8,130#8,80#8,160#8,135#8,160#8,190#8,56#8,24#8,26#8,36#8,220#8,34#8,111#8]:=by
  rw[Sha.dl,Sha.dig_by _ _ 10 rfl rfl]; decide +kernel
theorem out_6:tagL t2 (recM 3 6 b5)=[250#8,240#8,107#8,148#8,241#8,246#8,240#8,19#8,197#8,58#8,241#8,192#8,255#8,187#8,156#8,12#8,55#8,124#8,190#8,234#8,115#8,210#8,161#8,149#8,148#8,9#8,63#8,240#8,224#8,166#8,154#8,236#8]:=by
  rw[tagL,tagv,in_6,Sha.dig_by _ _ 2 rfl rfl]; decide +kernel
theorem rec_ne:recL 3 6 t2 b5≠recL 3 5 t2 b5:=by
  rw[recL,recL,out_5,out_6]; decide +kernel
end Sl
