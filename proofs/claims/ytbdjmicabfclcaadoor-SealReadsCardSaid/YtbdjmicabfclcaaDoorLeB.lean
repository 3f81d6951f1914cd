/- Soundness of a call: what is handed in takes the callee's names, and what comes back the caller's. -/
import Derived.Test.YtbdjmicabfclcaaDoorLeA
import Derived.LoopN
import Derived.Below
set_option linter.unusedVariables false
set_option linter.unusedSimpArgs false
namespace Go.LE
variable {P:Program} {R:Imm} {p:qa0} {gl:Nat→Option qal} {H:Heap} {w:World} {E:Env}
def qcK (passed:List (Option qal)) (news:List qal):Heap:=fun n =>
  if n.1=0 then (passed[n.2]?).join else if n.1=1 then news[n.2]? else none
def FTri (P:Program) (gl:Nat→Option qal) (f:FuncId) (args:List LV) (objs:List qal) (res:qcg):Prop :=
  ∀ (R : Imm) (p : qa0) (w : World) (vals : List Value), qdr gl R → Rep R p args vals → Sim R p (qaY objs) w → (∀ n, 1 ≤ n.1 → p n = none) →
    res.2.1.length=objs.length ∧
    Calls P f vals.toArray w fun e w' => ∃ v R' p', e = .returned v ∧ Rep1 R' p' res.1 v ∧ Sim R' p' (qcK res.2.1 res.2.2) w' ∧
      Ext R p (qaY objs) w R' p' (qcK res.2.1 res.2.2) w'∧(∀ k,p' (0,k)=p (0,k))
def Plain (P:Program) (f:FuncId):Prop := ∃ fn,P.funcs[f]? = some fn∧(fn.name == "runtime.NumGoroutine")=false∧fn.body.isNone=false
def CalOk (P:Program) (E:Env):Prop := ∀ f args objs res,E.cal f args objs=some res→Plain P f∧FTri P E.gl f args objs res
theorem qhC (H:Heap):∀ f seen todo,(seen.Nodup→(qa7 H f seen todo).Nodup)∧∀ n ∈ qa7 H f seen todo,n ∈ seen∨∃ cs,H n=some cs:=by
  intro f
  induction f with
  | zero=>intro seen todo; exact ⟨id,fun n h => .inl h⟩
  | succ f ih =>
    intro seen todo
    cases todo with
    | nil=>exact ⟨id,fun n h => .inl h⟩
    | cons n todo =>
      simp only[qa7]
      split
      · exact ih seen todo
      · rename_i hn
        split
        · exact ih seen todo
        · rename_i cs hcs
          obtain ⟨h1,h2⟩:=ih (seen++[n]) (cs.flatMap (nms D)++todo)
          refine ⟨fun hs=>h1 ?_,fun m hm => ?_⟩
          · rw [List.nodup_append]
            refine ⟨hs,by simp,?_⟩
            intro a ha b hb
            simp at hb
            subst hb
            intro e
            subst e
            simp at hn
            exact hn ha
          · rcases h2 m hm with h | h
            · rcases List.mem_append.1 h with h | h
              · exact .inl h
              · simp at h; subst h; exact .inr ⟨cs,hcs⟩
            · exact .inr h
theorem qgU {l:List Nm} (h:l.Nodup) {i j:Nat} (hi:i < l.length) (hj:j < l.length) (e:l[i]=l[j]):i=j:=by
  rcases Nat.lt_trichotomy i j with h1 | h1 | h1
  · exact absurd e (List.pairwise_iff_getElem.1 h i j hi hj h1)
  · exact h1
  · exact absurd e.symm (List.pairwise_iff_getElem.1 h j i hj hi h1)
theorem idx_spec (n:Nm):∀ (l:List Nm) (k i:Nat),idx n l k=some i→k≤i∧l[i - k]? = some n:=by
  intro l
  induction l with
  | nil=>intro k i h; simp[idx] at h
  | cons m l ih =>
    intro k i h
    simp only[idx] at h
    split at h
    · simp at h; subst h; rename_i e; simp[e]
    · obtain ⟨h1, h2⟩ := ih (k + 1) i h
      refine ⟨by omega,?_⟩
      rw[show i - k=(i - (k+1))+1 by omega]
      simpa using h2
theorem qgM (H:Heap):∀ (l:List Nm),(∀ n ∈ l,∃ cs,H n=some cs)→(l.filterMap H).length=l.length∧∀ i:Nat,(l.filterMap H)[i]? = (l[i]?).bind H:=by
  intro l
  induction l with
  | nil=>intro _; simp
  | cons n l ih =>
    intro h
    obtain ⟨cs,hcs⟩:=h n (by simp)
    obtain ⟨h1,h2⟩:=ih (fun m hm=>h m (by simp[hm]))
    simp only[List.filterMap_cons,hcs]
    refine ⟨by simp[h1],fun i => ?_⟩
    cases i with
    | zero=>simp[hcs]
    | succ i=>simpa using h2 i
def qgb (p:qa0) (H:Heap) (L:List Nm) (b:Nat):Prop := ∃ n ∈ L,∃ cs o s,H n=some cs∧p n=some (.at b o s)
open Classical in
noncomputable def qdN (R:Imm) (p:qa0) (H:Heap) (L:List Nm) (w:World):Imm:=fun b =>
  if qgb p H L b then (match w.heap[b]? with | some (.cells vs _ _)=>some vs.toList | _=>none) else R b
theorem qgV {L:List Nm} {b:Nat} {vs:Array Value} {T:TypeId} {fz:Nat × Nat} (h:qgb p H L b) (hw:w.heap[b]? = some (.cells vs T fz)):qdN R p H L w b=some vs.toList:=by
  unfold qdN; rw[if_pos h,hw]
theorem qdv {L:List Nm} {b:Nat} (h:¬ qgb p H L b):qdN R p H L w b=R b:=by
  unfold qdN; rw[if_neg h]
theorem qec (hs:Sim R p H w) {L:List Nm}:∀ b cs,R b=some cs→qdN R p H L w b=some cs:=by
  intro b cs hb
  rw[qdv]
  · exact hb
  · rintro ⟨n, _, ds, o, s, h1, h2⟩
    obtain ⟨vs,T,fz,l⟩:=hs.at h1 h2
    rw[l.imm] at hb; cases hb
def qgc (L:List Nm) (H:Heap):Heap:=fun n=>if L.contains n then none else H n
theorem qfi {L:List Nm}:∀ n cs,qgc L H n=some cs→H n=some cs∧¬ n ∈ L:=by
  intro n cs h
  unfold qgc at h
  split at h
  · cases h
  · rename_i hn; exact ⟨h,by simpa using hn⟩
theorem Sim.lend (hs:Sim R p H w) (L:List Nm):Sim (qdN R p H L w) p (qgc L H) w:=by
  have hR:=qec hs (L:=L)
  refine ⟨?_,?_,?_⟩
  · intro n cs hn
    obtain ⟨h1,h2⟩:=qfi n cs hn
    rcases hs.obj n cs h1 with ⟨a,c⟩ | ⟨b,o,s,vs,T,fz,a,l⟩
    · exact .inl ⟨a,c⟩
    · refine .inr ⟨b, o, s, vs, T, fz, a, l.mono hR (fun _ _ h => h) rfl ?_⟩
      rw[qdv]
      · exact l.imm
      · rintro ⟨m, hm, ds, o', s', h3, h4⟩
        have:=hs.inj n m cs ds b o s o' s' h1 h3 a h4
        subst this
        exact h2 hm
  · intro n m cs ds b o s o' s' h1 h2 h3 h4
    exact hs.inj n m cs ds b o s o' s' (qfi _ _ h1).1 (qfi _ _ h2).1 h3 h4
  · intro b cs hb
    by_cases h:qgb p H L b
    · obtain ⟨n, hn, ds, o, s, h1, h2⟩ := h
      obtain ⟨vs,T,fz,l⟩:=hs.at h1 h2
      rw[qgV ⟨n,hn,ds,o,s,h1,h2⟩ l.heap] at hb
      exact ⟨vs,T,fz,l.heap,Option.some.inj hb⟩
    · rw [qdv h] at hb
      exact hs.imm b cs hb
theorem snapL_rep {f:LV→Option (LV × List Nm)} {L:List Nm} {R':Imm} (hf:∀ x y a v,f x=some (y,a)→(∀ n ∈ a,n ∈ L)→Rep1 R p x v→Rep1 R' p y v) :
    ∀ (xs ys:List LV) (a:List Nm) (vs:List Value),qet f xs=some (ys,a)→(∀ n ∈ a,n ∈ L)→Rep R p xs vs→Rep R' p ys vs:=by
  intro xs
  induction xs with
  | nil=>intro ys a vs h _ hr; simp[qet] at h; obtain ⟨rfl,rfl⟩:=h; cases hr; exact .nil
  | cons x xs ih =>
    intro ys a vs h ha hr
    obtain ⟨v,vs,rfl,h1,h2⟩:=hr.uncons
    simp only[qet] at h
    split at h
    · rename_i y a1 ys' a2 e1 e2
      obtain ⟨rfl,rfl⟩:=Prod.mk.inj (Option.some.inj h)
      exact Rep.cons (hf x y a1 v e1 (fun n hn=>ha n (by simp[hn])) h1) (ih ys' a2 vs e2 (fun n hn=>ha n (by simp[hn])) h2)
    · cases h
theorem snapL_len {f:LV→Option (LV × List Nm)}:∀ (xs ys:List LV) (a:List Nm),qet f xs=some (ys,a)→ys.length=xs.length:=by
  intro xs
  induction xs with
  | nil=>intro ys a h; simp[qet] at h; rw[h.1]
  | cons x xs ih =>
    intro ys a h
    simp only[qet] at h
    split at h
    · rename_i y a1 ys' a2 e1 e2
      obtain ⟨rfl,rfl⟩:=Prod.mk.inj (Option.some.inj h)
      simp[ih ys' a2 e2]
    · cases h
theorem snap_rep (hs:Sim R p H w) (L:List Nm):∀ (d:Nat) (x y:LV) (a:List Nm) (v:Value),snap H d x=some (y,a)→(∀ n ∈ a,n ∈ L)→Rep1 R p x v→Rep1 (qdN R p H L w) p y v:=by
  have hR:=qec hs (L:=L)
  intro d
  induction d with
  | zero=>intro x y a v h; simp[snap] at h
  | succ d ih =>
    intro x y a v h ha hr
    cases x <;> try (simp [snap] at h; done)
    case v u =>
      unfold snap at h
      split at h
      all_goals try (cases h; done)
      · rename_i h1; cases h1
      · rename_i h1; cases h1
      · rename_i h1; cases h1
      · rename_i h1; cases h1; obtain ⟨rfl,rfl⟩:=Prod.mk.inj (Option.some.inj h); cases hr; exact .isl0 .nil
      · rename_i h1; cases h1; obtain ⟨rfl,rfl⟩:=Prod.mk.inj (Option.some.inj h); exact hr.mono hR (fun _ _ h=>h)
    case ipt u=>simp[snap] at h; obtain ⟨rfl,rfl⟩:=h; exact hr.mono hR (fun _ _ h=>h)
    case isl u n=>simp[snap] at h; obtain ⟨rfl,rfl⟩:=h; exact hr.mono hR (fun _ _ h=>h)
    case sl n off len cap es =>
      simp only[snap] at h
      split at h
      · rename_i h0
        obtain ⟨rfl,rfl⟩:=Prod.mk.inj (Option.some.inj h)
        subst h0
        cases hr <;> exact .isl0 .nil
      · rename_i h0
        split at h
        · rename_i cs hn
          simp only[zJ] at h
          obtain ⟨⟨ys,b'⟩,h1,h2⟩:=h
          simp at h2
          obtain ⟨rfl,rfl⟩:=h2
          cases hr with
          | sl0 _ _=>exact absurd rfl h0
          | @sl _ _ _ _ _ b o s c _ _ hp hl hk hsz _ =>
            obtain ⟨vs,T,fz,l⟩:=hs.at hn hp
            have hL:n ∈ L:=ha n (by simp)
            have hb:=qgV (R:=R) ⟨n,hL,cs,o,s,hn,hp⟩ l.heap
            have hlen:=snapL_len _ _ _ h1
            have hrep:=snapL_rep (R':=qdN R p H L w) (L:=L) (fun x y a v h1 h2 h3=>ih x y a v h1 h2 h3) _ _ _ _ h1 (fun m hm=>ha m (by simp[hm])) ((l.rep.drop off).take (len*es))
            rw[List.drop_take,List.drop_drop,List.take_take] at hrep
            refine .isl hb ?_ hl .nil
            have e3:ys.length=min (len*es) (cs.length - off):=by rw[hlen]; simp
            rw[e3]
            exact hrep
        · cases h
theorem lend_rep (hs:Sim R p H w) (L:List Nm) {b:Nat→Bool}:∀ (xs ys:List LV) (i:Nat) (a:List Nm) (vs:List Value),lend H b i xs=some (ys,a)→(∀ n ∈ a,n ∈ L)→Rep R p xs vs →
    Rep (qdN R p H L w) p ys vs:=by
  have hR:=qec hs (L:=L)
  intro xs
  induction xs with
  | nil=>intro ys i a vs h _ hr; simp[lend] at h; obtain ⟨rfl,rfl⟩:=h; cases hr; exact .nil
  | cons x xs ih =>
    intro ys i a vs h ha hr
    obtain ⟨v,vs,rfl,h1,h2⟩:=hr.uncons
    simp only[lend] at h
    split at h
    · rename_i y a1 ys' a2 e1 e2
      obtain ⟨rfl,rfl⟩:=Prod.mk.inj (Option.some.inj h)
      refine Rep.cons ?_ (ih ys' (i+1) a2 vs e2 (fun n hn=>ha n (by simp[hn])) h2)
      split at e1
      · exact snap_rep hs L D x y a1 v e1 (fun n hn=>ha n (by simp[hn])) h1
      · obtain ⟨rfl,rfl⟩:=Prod.mk.inj (Option.some.inj e1); exact h1.mono hR (fun _ _ h=>h)
    · cases h
def OpOk (P:Program) (R:Imm) (p:qa0) (H:Heap) (w:World) (base:Nat) (o:Oper) (a:Act) (r:Out):Prop :=
  ∀ (K:Act→World→Prop) (Q:Exit→Act→World→Prop),
    (∀ v w' R' p', Rep1 R' p' r.val v → Sim R' p' (qbv base r H) w' → Ext R p H w R' p' (qbv base r H) w' → (∀ n x, p n = some x → p' n = some x) →
      (∀ n x,p' n=some x→p n=some x∨n.1=base)→K (a.put o.dst v) w')→o.wp P a w K Q
theorem Runs.ok {base:Nat} {o:Oper} {a:Act} {r:Out} (h:Runs P R p H w base (execOp a.eval o) r):OpOk P R p H w base o a r:=by
  intro K Q hK
  obtain ⟨nx,w',R',p',h1,h2,h3,h4,h5,h6⟩:=h.out
  unfold Oper.wp
  rw[h1]
  rcases h2 with ⟨v,rfl,hv⟩ | ⟨rfl,hv⟩
  · rw [Oper.upon_value]
    exact hK v w' R' p' hv h3 h4 h5 h6
  · rw [Oper.upon_skip]
    exact hK undef w' R' p' (by rw[hv]; exact .v .nil) h3 h4 h5 h6
theorem modsAt_zip {names:List Nm} (hnd:names.Nodup) (H:Heap) (f:Option qal→Option qal):∀ (passed:List (Option qal)),passed.length=names.length →
    (∀ (i:Nat) (n:Nm) (x:Option qal),names[i]? = some n→passed[i]? = some x→qbN H (List.zipWith (fun n x=>(n,f x)) names passed) n=f x) ∧
    (∀ n,n ∉ names→qbN H (List.zipWith (fun n x=>(n,f x)) names passed) n=H n):=by
  induction names with
  | nil=>intro passed _; simp[qbN]
  | cons m names ih =>
    intro passed hl
    cases passed with
    | nil=>simp at hl
    | cons y passed =>
      obtain ⟨hm,hnd'⟩:=List.nodup_cons.1 hnd
      obtain ⟨h1,h2⟩:=ih hnd' passed (by simpa using hl)
      simp only[List.zipWith_cons_cons,qcM]
      refine ⟨fun i n x hn hx => ?_,fun n hn => ?_⟩
      · cases i with
        | zero=>simp at hn hx; subst hn hx; simp[upd]
        | succ i =>
          simp at hn hx
          have:n≠m:=fun e=>by subst e; exact hm (List.mem_of_getElem? hn)
          unfold upd
          rw[if_neg this]
          exact h1 i n x hn hx
      · simp at hn
        unfold upd
        rw[if_neg hn.1]
        exact h2 n hn.2
theorem call_ok (hE:CalOk P E) (hg:qdr E.gl R) (hs:Sim R p H w) {base:Nat} (hn:∀ k,p (base,k)=none) {g:FuncId} {args:List LV} {vals:List Value} (hr:Rep R p args vals) {r:Out}
    (hc:qar E H base g args=some r) {K:Value→World→Prop}
    (hK : ∀ v w' R' p', Rep1 R' p' r.val v → Sim R' p' (qbv base r H) w' → Ext R p H w R' p' (qbv base r H) w' → (∀ n x, p n = some x → p' n = some x) →
      (∀ n x,p' n=some x→p n=some x∨n.1=base)→K v w') :
    Calls P g vals.toArray w fun e w'=>∃ v,e = .returned v∧K v w':=by
  unfold qar at hc
  split at hc
  · cases hc
  · rename_i args' lent hl
    simp only at hc
    split at hc
    · cases hc
    · rename_i hdis
      split at hc
      · cases hc
      · rename_i res hcal
        split at hc
        · rename_i hplain
          obtain rfl:=Option.some.inj hc
          generalize hnames:qa7 H FUEL [] (args'.flatMap (nms D))=names at *
          have hspec:=qhC H FUEL [] (args'.flatMap (nms D))
          rw[hnames] at hspec
          have hnd:names.Nodup:=hspec.1 List.nodup_nil
          have hex:∀ n ∈ names,∃ cs,H n=some cs:=fun n hm=>(hspec.2 n hm).resolve_left (by simp)
          obtain ⟨hol,hoi⟩:=qgM H names hex
          have hdisj:∀ n ∈ names,n ∉ lent:=by
            intro n hm hl'
            apply hdis
            rw[List.any_eq_true]
            exact ⟨n,hl',by simpa using hm⟩
          let Rc:=qdN R p H lent w
          let pc:qa0:=fun n=>if n.1=0 then (names[n.2]?).bind p else none
          have hRc:∀ b cs,R b=some cs→Rc b=some cs:=qec hs
          have hπ:∀ n m x,qaK names n=some m→p n=some x→pc m=some x:=by
            intro n m x h1 h2
            simp only[qaK,zJ] at h1
            obtain ⟨i,h1,rfl⟩:=h1
            have:=(idx_spec n names 0 i h1).2
            simp at this
            simp[pc,this,h2]
          have hargs:Rep Rc pc (args'.map (ren D (qaK names))) vals:=(lend_rep hs lent _ _ _ _ _ hl (fun n h=>h) hr).ren hπ D
          have sl:=hs.lend lent
          have inObj : ∀ n cs, qaY ((names.filterMap H).map fun cs => cs.map (ren D (qaK names))) n = some cs →
              n.1=0∧∃ m ds,names[n.2]? = some m∧H m=some ds∧qgc lent H m=some ds∧cs=ds.map (ren D (qaK names)):=by
            intro n cs h
            unfold qaY at h
            split at h
            · rename_i h0
              simp only[List.getElem?_map,zJ] at h
              obtain ⟨ds,h1,rfl⟩:=h
              rw[hoi] at h1
              simp only[Option.bind_eq_some_iff] at h1
              obtain ⟨m,h1,h2⟩:=h1
              refine ⟨h0,m,ds,h1,h2,?_,rfl⟩
              unfold qgc
              rw[if_neg (by simpa using hdisj m (List.mem_of_getElem? h1))]
              exact h2
            · cases h
          have hsc:Sim Rc pc (qaY ((names.filterMap H).map fun cs=>cs.map (ren D (qaK names)))) w:=by
            refine ⟨?_,?_,sl.imm⟩
            · intro n cs h
              obtain ⟨h0,m,ds,h1,h2,h3,rfl⟩:=inObj n cs h
              have hp:pc n=p m:=by simp[pc,h0,h1]
              rcases sl.obj m ds h3 with ⟨a,c⟩ | ⟨b,o,s,vs,T,fz,a,l⟩
              · exact .inl ⟨by rw[hp]; exact a,by rw[c]; rfl⟩
              · exact .inr ⟨b,o,s,vs,T,fz,by rw[hp]; exact a,l.heap,l.imm,l.free,l.size,by rw[zV]; exact l.fits,by rw[zV]; exact l.rep.ren hπ D⟩
            · intro n m cs ds b o s o' s' h1 h2 h3 h4
              obtain ⟨e0,k1,d1,e1,e2,e3,_⟩:=inObj n cs h1
              obtain ⟨f0,k2,d2,f1,f2,f3,_⟩:=inObj m ds h2
              simp only[pc,e0,zG,e1,Option.bind_some] at h3
              simp only[pc,f0,zG,f1,Option.bind_some] at h4
              have hk:=hs.inj k1 k2 d1 d2 b o s o' s' e2 f2 h3 h4
              subst hk
              obtain ⟨n1,n2⟩:=n
              obtain ⟨m1,m2⟩:=m
              simp at e0 f0 e1 f1
              subst e0 f0
              have:n2=m2:=by
                obtain ⟨q1,q2⟩:=List.getElem?_eq_some_iff.1 e1
                obtain ⟨q3,q4⟩:=List.getElem?_eq_some_iff.1 f1
                exact qgU hnd q1 q3 (q2.trans q4.symm)
              rw[this]
          have hgc:qdr E.gl Rc:=fun g xs h=>by obtain ⟨cs,h1,h2⟩:=hg g xs h; exact ⟨cs,hRc _ _ h1,h2⟩
          have hpc1:∀ n:Nm,1≤n.1→pc n=none:=fun n h=>by simp only[pc]; rw[if_neg (by omega)]
          obtain ⟨hplen,hcalls⟩:=(hE g _ _ res hcal).2 Rc pc w vals hgc hargs hsc hpc1
          refine hcalls.mono ?_
          rintro e w' ⟨v,R',p',rfl,hv,hsim,hext,hkeep⟩
          refine ⟨v,rfl,?_⟩
          obtain ⟨ret,passed,news⟩:=res
          simp only at hplen hv hsim hext hplain ⊢
          rw[zV,hol] at hplen
          let pf:qa0:=fun n=>if n.1=base then (if n.2 < news.length then p' (1,n.2) else none) else p n
          have hpf:∀ n x,p n=some x→pf n=some x:=by
            intro n x h
            have:n.1≠base:=fun e=>by
              obtain ⟨n1,n2⟩:=n
              simp at e
              subst e
              rw[hn] at h; cases h
            simp[pf,this,h]
          have hpf':∀ n x,pf n=some x→p n=some x∨n.1=base:=by
            intro n x h
            by_cases e:n.1=base
            · exact .inr e
            · simp only[pf,e,zM] at h; exact .inl h
          have hσ:∀ n m x,qbf names base news.length n=some m→p' n=some x→pf m=some x:=by
            intro n m x h1 h2
            unfold qbf at h1
            split at h1
            · rename_i h0
              obtain ⟨n1,n2⟩:=n
              simp at h0 h1
              subst h0
              rw[hkeep] at h2
              simp only[pc,zG,h1,Option.bind_some] at h2
              exact hpf _ _ h2
            · rename_i h0
              split at h1
              · rename_i h3
                obtain ⟨n1,n2⟩:=n
                simp at h3 h1
                obtain ⟨rfl,h3⟩:=h3
                subst h1
                simp[pf,h3,h2]
              · cases h1
          have hRf : ∃ Rf : Imm, (∀ b, (∃ n ∈ lent, ∃ cs o s, H n = some cs ∧ p n = some (.at b o s)) → Rf b = none) ∧
              (∀ b,¬ (∃ n ∈ lent,∃ cs o s,H n=some cs∧p n=some (.at b o s))→Rf b=R' b) ∧
              (∀ xs ys,(xs=[ret]∨some xs ∈ passed∨xs ∈ news)→Rep R' p' xs ys→Rep Rf p' xs ys):=by
            by_cases hle:lent=[]
            · refine ⟨R', ?_, fun _ _ => rfl, fun _ _ _ h => h⟩
              rintro b ⟨n,hn',_⟩
              rw[hle] at hn'; cases hn'
            · classical
              refine ⟨fun b=>if qgb p H lent b then none else R' b,fun b h=>if_pos h,fun b h=>if_neg h,?_⟩
              intro xs ys hx hrep
              have hpl:qa5 (ret,passed,news)=true:=by
                have:lent.isEmpty=false:=by simpa using hle
                simpa [this] using hplain
              simp only[qa5,Bool.and_eq_true,List.all_eq_true] at hpl
              apply hrep.noImm_all D
              rcases hx with rfl | hx | hx
              · simp[hpl.1.1]
              · have:=hpl.1.2 _ hx; simpa using this
              · have:=hpl.2 _ hx; simpa using this
          obtain ⟨Rf,hRf1,hRf2,hRf3⟩:=hRf
          have ownIn:∀ b,Owned pc (qaY ((names.filterMap H).map fun cs=>cs.map (ren D (qaK names)))) b→∃ m ds o s,m ∈ names∧H m=some ds∧p m=some (.at b o s):=by
            rintro b ⟨n,cs,o,s,h1,h2⟩
            obtain ⟨h0,m,ds,h3,h4,h5,_⟩:=inObj n cs h1
            simp only[pc,h0,zG,h3,Option.bind_some] at h2
            exact ⟨m,ds,o,s,List.mem_of_getElem? h3,h4,h2⟩
          have rest:∀ n cs b o s vs T fz,n ∉ names→H n=some cs→p n=some (.at b o s)→Lies R p w cs b o s vs T fz→Lies Rf pf w' cs b o s vs T fz:=by
            intro n cs b o s vs T fz hnn hH hp l
            have hno:¬ Owned pc (qaY ((names.filterMap H).map fun cs=>cs.map (ren D (qaK names)))) b:=by
              intro ho
              obtain ⟨m,ds,o',s',h1,h2,h3⟩:=ownIn b ho
              have:=hs.inj n m cs ds b o s o' s' hH h2 hp h3
              subst this
              exact hnn h1
            have hheap:=hext.kept b l.lt hno
            have hRnone:Rf b=none:=by
              by_cases hlb:∃ n ∈ lent,∃ cs o s,H n=some cs∧p n=some (.at b o s)
              · exact hRf1 b hlb
              · rw [hRf2 b hlb]
                cases hb:R' b with
                | none=>rfl
                | some ds =>
                  rcases hext.newImm b ds hb with h1 | h1 | h1
                  · have : Rc b = R b := qdv hlb
                    rw[this,l.imm] at h1; cases h1
                  · exact absurd l.lt (by omega)
                  · exact absurd h1 hno
            refine ⟨hheap.trans l.heap,hRnone,l.free,l.size,l.fits,l.rep.mono ?_ hpf⟩
            intro b' cs' hb'
            have hlb:¬ ∃ n ∈ lent,∃ cs o s,H n=some cs∧p n=some (.at b' o s):=by
              rintro ⟨m,_,ds,o',s',h1,h2⟩
              obtain ⟨_,_,_,l'⟩:=hs.at h1 h2
              rw[l'.imm] at hb'; cases hb'
            rw[hRf2 b' hlb]
            exact hext.imm _ _ (hRc _ _ hb')
          have back : ∀ n cs m, qcK passed news n = some cs → qbf names base news.length n = some m → (cs = [] ∧ pf m = some .nowhere) ∨
              ∃ b o s vs T fz,p' n=some (.at b o s)∧pf m=some (.at b o s)∧Lies Rf pf w' (cs.map (ren D (qbf names base news.length))) b o s vs T fz:=by
            intro n cs m h1 h2
            have hmem:cs=[ret]∨some cs ∈ passed∨cs ∈ news:=by
              unfold qcK at h1
              split at h1
              · cases hq:passed[n.2]? with
                | none=>simp[hq] at h1
                | some q=>simp[hq] at h1; subst h1; exact .inr (.inl (List.mem_of_getElem? hq))
              · split at h1
                · exact .inr (.inr (List.mem_of_getElem? h1))
                · cases h1
            rcases hsim.obj n cs h1 with ⟨a,c⟩ | ⟨b,o,s,vs,T,fz,a,l⟩
            · exact .inl ⟨c,hσ _ _ _ h2 a⟩
            · refine .inr ⟨b, o, s, vs, T, fz, a, hσ _ _ _ h2 a, l.heap, ?_, l.free, l.size, by rw [zV]; exact l.fits, ?_⟩
              · by_cases hlb : ∃ n ∈ lent, ∃ cs o s, H n = some cs ∧ p n = some (.at b o s)
                · exact hRf1 b hlb
                · rw[hRf2 b hlb]; exact l.imm
              · rw [zV]
                exact (hRf3 _ _ hmem l.rep).ren hσ D
          obtain ⟨z1,z2⟩:=modsAt_zip hnd H (fun p:Option qal=>p.map fun cs=>cs.map (ren D (qbf names base news.length))) passed hplen
          have cases_ : ∀ n cs, qbv base (qcG names base (ret, passed, news)) H n = some cs →
              (∃ m ds,qcK passed news m=some ds∧qbf names base news.length m=some n∧cs=ds.map (ren D (qbf names base news.length)))∨(n ∉ names∧n.1≠base∧H n=some cs):=by
            intro n cs h
            unfold qbv at h
            split at h
            · rename_i h0
              obtain ⟨n1,n2⟩:=n
              simp only[qcG,zV,List.getElem?_map,zJ] at h0 h
              obtain ⟨rfl,h0⟩:=h0
              obtain ⟨ds,h1,rfl⟩:=h
              exact .inl ⟨(1,n2),ds,by simpa [qcK] using h1,by simp[qbf,h0],rfl⟩
            · rename_i h0
              by_cases hm:n ∈ names
              · obtain ⟨i, hi⟩ := List.getElem?_of_mem hm
                obtain ⟨hlt,_⟩:=List.getElem?_eq_some_iff.1 hi
                have hpi:passed[i]? = some passed[i]:=List.getElem?_eq_getElem (by omega)
                have e:qbN H (qcG names base (ret,passed,news)).mods n=_:=z1 i n passed[i] hi hpi
                rw[e] at h
                simp only[zJ] at h
                obtain ⟨ds,h1,rfl⟩:=h
                exact .inl ⟨(0,i),ds,by simp[qcK,hpi,h1],by simpa [qbf] using hi,rfl⟩
              · have e : qbN H (qcG names base (ret, passed, news)).mods n = _ := z2 n hm
                rw[e] at h
                refine .inr ⟨hm,fun eb => ?_,h⟩
                have hd:=hs.dom (n:=n) (by obtain ⟨n1,n2⟩:=n; simp at eb; subst eb; exact hn n2)
                rw[hd] at h; cases h
          have injOut:∀ m m' n,qbf names base news.length m=some n→qbf names base news.length m'=some n→(∃ x,qcK passed news m=some x)→(∃ x,qcK passed news m'=some x)→m=m':=by
            intro m m' n h1 h2 hx hx'
            obtain ⟨m1,m2⟩:=m
            obtain ⟨k1,k2⟩:=m'
            unfold qbf at h1 h2
            have inNames:∀ i:Nat,names[i]? = some n→n.1≠base:=by
              intro i hi eb
              obtain ⟨cs,hcs⟩:=hex n (List.mem_of_getElem? hi)
              have hd:=hs.dom (n:=n) (by obtain ⟨n1,n2⟩:=n; simp at eb; subst eb; exact hn n2)
              rw[hd] at hcs; cases hcs
            split at h1 <;> split at h2
            · rename_i a b
              simp at a b h1 h2
              subst a b
              obtain ⟨q1,q2⟩:=List.getElem?_eq_some_iff.1 h1
              obtain ⟨q3,q4⟩:=List.getElem?_eq_some_iff.1 h2
              have:=qgU hnd q1 q3 (q2.trans q4.symm)
              rw[this]
            · split at h2
              · simp at h2; subst h2; exact absurd rfl (inNames _ h1)
              · cases h2
            · split at h1
              · simp at h1; subst h1; exact absurd rfl (inNames _ h2)
              · cases h1
            · split at h1
              · split at h2
                · rename_i a b
                  simp at a b h1 h2
                  obtain ⟨rfl,_⟩:=a
                  obtain ⟨rfl,_⟩:=b
                  subst h1
                  simp at h2
                  rw[h2]
                · cases h2
              · cases h1
          have hSim:Sim Rf pf (qbv base (qcG names base (ret,passed,news)) H) w':=by
            refine ⟨?_,?_,?_⟩
            · intro n cs h
              rcases cases_ n cs h with ⟨m,ds,h1,h2,rfl⟩ | ⟨h1,h2,h3⟩
              · rcases back m ds n h1 h2 with ⟨rfl, a⟩ | ⟨b, o, s, vs, T, fz, _, a, l⟩
                · exact .inl ⟨a,rfl⟩
                · exact .inr ⟨b,o,s,vs,T,fz,a,l⟩
              · rcases hs.obj n cs h3 with ⟨a, c⟩ | ⟨b, o, s, vs, T, fz, a, l⟩
                · exact .inl ⟨hpf _ _ a,c⟩
                · exact .inr ⟨b,o,s,vs,T,fz,hpf _ _ a,rest n cs b o s vs T fz h1 h3 a l⟩
            · intro n m cs ds b o s o' s' h1 h2 h3 h4
              have far:∀ n cs k ds b o s o' s',(n ∉ names∧n.1≠base∧H n=some cs)→qcK passed news k=some ds→pf n=some (.at b o s)→p' k=some (.at b o' s')→False:=by
                intro n cs k ds b o s o' s' ⟨q1,q2,q3⟩ q4 q5 q6
                have q7:p n=some (.at b o s):=by simpa [pf,q2] using q5
                obtain ⟨vs,T,fz,l⟩:=hs.at q3 q7
                rcases hext.own b ⟨k,ds,o',s',q4,q6⟩ with h | h
                · obtain ⟨m', d', o2, s2, g1, g2, g3⟩ := ownIn b h
                  have:=hs.inj n m' cs d' b o s o2 s2 q3 g2 q7 g3
                  subst this
                  exact q1 g1
                · exact absurd l.lt (by omega)
              have get:∀ k dk n b o s,qcK passed news k=some dk→qbf names base news.length k=some n→pf n=some (.at b o s)→p' k=some (.at b o s):=by
                intro k dk n b o s g1 g2 g3
                rcases back k dk n g1 g2 with ⟨_,a⟩ | ⟨b',o2,s2,vs,T,fz,a1,a2,_⟩
                · rw[a] at g3; cases g3
                · rw[a2] at g3; cases g3; exact a1
              rcases cases_ n cs h1 with ⟨k,dk,e1,e2,_⟩ | e <;> rcases cases_ m ds h2 with ⟨k',dk',f1,f2,_⟩ | f
              · have p1 := get k dk n b o s e1 e2 h3
                have p2:=get k' dk' m b o' s' f1 f2 h4
                have:=hsim.inj k k' dk dk' b o s o' s' e1 f1 p1 p2
                subst this
                rw[e2] at f2
                exact Option.some.inj f2
              · exact (far m ds k dk b o' s' o s f e1 h4 (get k dk n b o s e1 e2 h3)).elim
              · exact (far n cs k' dk' b o s o' s' e f1 h3 (get k' dk' m b o' s' f1 f2 h4)).elim
              · have p1 : p n = some (.at b o s) := by simpa [pf, e.2.1] using h3
                have p2:p m=some (.at b o' s'):=by simpa [pf,f.2.1] using h4
                exact hs.inj n m cs ds b o s o' s' e.2.2 f.2.2 p1 p2
            · intro b cs hb
              by_cases hlb:∃ n ∈ lent,∃ cs o s,H n=some cs∧p n=some (.at b o s)
              · rw[hRf1 b hlb] at hb; cases hb
              · rw[hRf2 b hlb] at hb; exact hsim.imm b cs hb
          refine hK v w' Rf pf ((hRf3 [ret] [v] (.inl rfl) hv).ren hσ D) hSim ?_ hpf hpf'
          refine ⟨?_,hext.size,?_,?_,?_,hext.io⟩
          · intro b cs hb
            have hlb:¬ ∃ n ∈ lent,∃ cs o s,H n=some cs∧p n=some (.at b o s):=by
              rintro ⟨m,_,ds,o',s',h1,h2⟩
              obtain ⟨_,_,_,l'⟩:=hs.at h1 h2
              rw[l'.imm] at hb; cases hb
            rw[hRf2 b hlb]
            exact hext.imm _ _ (hRc _ _ hb)
          · intro b hb hno
            apply hext.kept b hb
            intro ho
            obtain ⟨m,ds,o,s,_,h2,h3⟩:=ownIn b ho
            exact hno ⟨m,ds,o,s,h2,h3⟩
          · intro b cs hb
            by_cases hlb:∃ n ∈ lent,∃ cs o s,H n=some cs∧p n=some (.at b o s)
            · rw[hRf1 b hlb] at hb; cases hb
            · rw [hRf2 b hlb] at hb
              rcases hext.newImm b cs hb with h1 | h1 | h1
              · have : Rc b = R b := qdv hlb
                rw[this] at h1; exact .inl h1
              · exact .inr (.inl h1)
              · obtain ⟨m, ds, o, s, _, h2, h3⟩ := ownIn b h1
                exact .inr (.inr ⟨m,ds,o,s,h2,h3⟩)
          · rintro b ⟨n, cs, o, s, h1, h2⟩
            rcases cases_ n cs h1 with ⟨k,dk,e1,e2,_⟩ | e
            · rcases back k dk n e1 e2 with ⟨_, a⟩ | ⟨b', o2, s2, vs, T, fz, a1, a2, _⟩
              · rw[a] at h2; cases h2
              · rw [a2] at h2; cases h2
                rcases hext.own b ⟨k,dk,o,s,e1,a1⟩ with h | h
                · obtain ⟨m, ds, o', s', _, g2, g3⟩ := ownIn b h
                  exact .inl ⟨m,ds,o',s',g2,g3⟩
                · exact .inr h
            · have p1 : p n = some (.at b o s) := by simpa [pf, e.2.1] using h2
              exact .inl ⟨n,cs,o,s,e.2.2,p1⟩
        · cases hc
end Go.LE
namespace Go.LE
variable {P:Program} {R:Imm} {p:qa0} {gl:Nat→Option qal} {H:Heap} {w:World} {E:Env}
theorem callOp_plain (hE:CalOk P E) {base:Nat} {g:FuncId} {args:List LV} {r:Out} (hc:qar E H base g args=some r):Plain P g:=by
  unfold qar at hc
  split at hc
  · cases hc
  · simp only at hc
    split at hc
    · cases hc
    · split at hc
      · cases hc
      · rename_i res hcal
        exact (hE g _ _ res hcal).1
theorem op_ok (hE:CalOk P E) (hg:qdr E.gl R) (hs:Sim R p H w) {base:Nat} (hn:∀ k,p (base,k)=none) {tm:List LV} {a:Act} (ht:Rep R p tm a.tmps.toList) {o:Oper} {lo:LOp} {r:Out}
    (hc:qea P o.op=some lo) (hr:qa4 E tm H base lo=some r):OpOk P R p H w base o a r:=by
  have hX:∀ x,Rep1 R p (evX E.gl tm (qaQ x)) (a.eval x):=evX_rep hg ht
  unfold qa4 at hr
  split at hr
  · rename_i z hz
    obtain rfl:=Option.some.inj hr
    exact (Runs.pure hs (pure_sound hX hc hz)).ok
  · by_cases hcall : ∃ f as, lo = .call f as
    · obtain ⟨f, as, rfl⟩ := hcall
      obtain ⟨dst,op,type,pos,after,guard⟩:=o
      simp only at hc
      have hop:∃ f' args ts,op = .call ⟨.value f',args,ts⟩∧f=qaQ f'∧as=args.toList.map qaQ:=by
        cases op <;> simp only[qea] at hc
        case call c =>
          obtain ⟨callee,args,argTypes⟩:=c
          simp only[qfz] at hc
          split at hc
          · injection hc with hc; injection hc with h1 h2; exact ⟨_,_,_,rfl,h1.symm,h2.symm⟩
          · cases hc
          · split at hc <;> (try cases hc)
            · split at hc <;> (try cases hc)
              split at hc <;> cases hc
            · split at hc <;> (try cases hc)
              · split at hc
                · split at hc <;> cases hc
                · cases hc
              · split at hc
                · split at hc <;> cases hc
                · cases hc
            · split at hc
              · split at hc
                · split at hc <;> cases hc
                · cases hc
              · cases hc
        all_goals first
          | cases hc
          | (injection hc with hc; cases hc)
          | (simp only[zJ] at hc; obtain ⟨_,_,hc⟩:=hc; cases hc)
          | (exfalso; revert hc; repeat' split
             all_goals (intro hc; first | cases hc | (injection hc with hc; cases hc) | (simp [zJ,Option.bind_eq_some_iff] at hc)))
      obtain ⟨f',args,ts,rfl,rfl,rfl⟩:=hop
      simp only[qbz] at hr
      split at hr
      · rename_i g as' bs' he
        intro K Q hK
        have hf:=hX f'
        rw[he] at hf
        generalize hy:a.eval f'=y at hf
        cases hf with
        | @fn _ _ av _ bv _ _ h1 h2 _ =>
          obtain ⟨fn,hfn,hname,hbody⟩:=callOp_plain hE hr
          have hvals:Rep R p (as'++(args.toList.map qaQ).map (evX E.gl tm)++bs') (av++args.toList.map a.eval++bv):=(h1.append (fnargs hX args.toList)).append h2
          unfold Oper.wp
          have hrun:(execOp a.eval ⟨dst,.call ⟨.value f',args,ts⟩,type,pos,after,guard⟩).run P w = .ok (.enter g (av++args.toList.map a.eval++bv).toArray) w:=by
            simp only[execOp,resolve,hy,Deferred.ofValue,pure_bind,invoke,callFunc,Sem.run_bind,run_program,Result.andThen_ok,hfn,hname,zP,zM,hbody,Sem.run_pure]
            congr 2
            apply Array.ext'
            simp
          rw[hrun,Oper.upon_enter]
          refine (call_ok (K:=fun v w'=>K (a.put dst v) w') hE hg hs hn hvals hr hK).mono ?_
          rintro e w' ⟨v,rfl,h⟩
          exact h
      · cases hr
    · exact (heap_sound hs (hn 0) hX hc (fun f as e=>hcall ⟨f,as,e⟩) hr).ok
structure Aft (R:Imm) (p:qa0) (H:Heap) (w:World) (a:Act) (lim:Nat) (tm:List LV) (H':Heap) (R':Imm) (p':qa0) (a':Act) (w':World):Prop where
  rep:Rep R' p' tm a'.tmps.toList
  sim:Sim R' p' H' w'
  ext:Ext R p H w R' p' H' w'
  mono:∀ n x,p n=some x→p' n=some x
  fresh:∀ n x,p' n=some x→p n=some x∨lim≤n.1
  defers:a'.defers=a.defers
theorem put_rep {tm:List LV} {a:Act} {dst:Option Nat} {x:LV} {v:Value} (h:Rep R p tm a.tmps.toList) (hv:Rep1 R p x v):Rep R p (put tm dst x) (a.put dst v).tmps.toList:=by
  cases dst with
  | none=>exact h
  | some d=>simpa [put,Act.put] using h.set d hv
theorem qgu {ops:Array Oper} {o:Oper} {g:Option (Nat × Bool)} {tm:List LV} {a:Act} {b:Bool} (ht:Rep R p tm a.tmps.toList) (hg:qeA ops o=some g) (hw:qc5 g tm=some b) :
    Region.wanted o (yielded ops a.tmps)=b:=by
  unfold qeA at hg
  unfold Region.wanted
  split at hg
  · rename_i h0
    obtain rfl:=Option.some.inj hg
    simp[qc5] at hw
    rw[h0]; exact hw.symm
  · rename_i j want h0
    rw[h0]
    simp only
    split at hg
    · rename_i t htt
      obtain rfl:=Option.some.inj hg
      simp only[qc5] at hw
      have hy:∀ v,a.tmps[t]? = some v→yielded ops a.tmps j=(match v with | .bool b=>some b | _=>none):=by
        intro v hv
        unfold yielded
        rw[htt]
        simp only[Option.bind_some,hv]
        cases v <;> rfl
      cases hq:tm[t]? with
      | none=>simp[List.getD,hq] at hw
      | some x =>
        obtain ⟨v,hv,hr⟩:=ht.get hq
        have hv:a.tmps[t]? = some v:=by simpa using hv
        rw[hy v hv]
        simp only[List.getD,hq,Option.getD_some] at hw
        split at hw
        · cases hr
          simp at hw
          simp[←hw]
        · rename_i z hz
          cases hr
          simp at hw
          subst hw
          cases v <;> simp
          exact absurd rfl (hz _)
        · cases hw
    · cases hg
theorem aft_put {a:Act} {lim:Nat} {tm:List LV} {H':Heap} {R':Imm} {p':qa0} {a':Act} {w':World} (h:Aft R p H w a lim tm H' R' p' a' w') {dst:Option Nat} :
    Aft R p H w a lim (put tm dst (.v (.tuple #[]))) H' R' p' (a'.put dst undef) w' :=
  ⟨put_rep h.rep (.v .nil),h.sim,h.ext,h.mono,h.fresh,by cases dst <;> exact h.defers⟩
theorem qhD {a:Act} {dst:Option Nat} {v:Value}:(a.put dst v).defers=a.defers:=by cases dst <;> rfl
theorem qdd {ops:Array Oper} {draw:Bool} {as:List Nat} {i:Nat} {o:Oper} {lo:LOper} (h:qeR P ops draw as i o=some lo) :
    qea P o.op=some lo.op∧qeA ops o=some lo.guard∧lo.dst=o.dst∧(lo.ord=none∨(draw=true∧heapy lo.op=true∧lo.ord=some (as.getD i 0)))∧(lo.ord=none→draw=false∨heapy lo.op=false):=by
  unfold qeR at h
  split at h
  · rename_i x g h1 h2
    obtain rfl:=Option.some.inj h
    refine ⟨h1,h2,rfl,?_,?_⟩
    · cases draw <;> cases heapy x <;> simp
    · cases draw <;> cases heapy x <;> simp
  · cases h
theorem oper_seq (hE:CalOk P E) {ops:Array Oper} {as:List Nat} {base0 i:Nat} {o:Oper} {lo:LOper} {log log':List Done} {st st':St} {a a':Act} {R':Imm} {p':qa0} {w':World} {lim:Nat}
    (hg:qdr E.gl R) (hc:qeR P ops false as i o=some lo) (he:qe4 E base0 i lo log st=some (st',log')) (h:Aft R p H w a lim st.tm st.H R' p' a' w') (hlim:lim≤base0)
    (hf:∀ n,base0+i≤n.1→p' n=none) (ho:ops[i]? = some o) {K:Act→World→Prop} {Q:Exit→Act→World→Prop}
    (hK:∀ R'' p'' a'' w'',Aft R p H w a lim st'.tm st'.H R'' p'' a'' w''→(∀ n,base0+(i+1)≤n.1→p'' n=none)→K a'' w''):wpOp P ops Q i K a' w':=by
  obtain ⟨h1,h2,h3,h4,_⟩:=qdd hc
  have hord:lo.ord=none:=by rcases h4 with h4 | ⟨h4,_⟩; exact h4; cases h4
  unfold wpOp
  simp only[ho]
  unfold qe4 at he
  cases hw:qc5 lo.guard st.tm with
  | none=>simp[hw] at he
  | some b =>
    have hwant:=qgu h.rep h2 hw
    cases b with
    | false =>
      simp only[hw] at he
      obtain ⟨rfl,rfl⟩:=Prod.mk.inj (Option.some.inj he)
      simp only[hwant,zP,zM]
      rw[←h3]
      exact hK R' p' _ _ (aft_put h) (fun n hn=>hf n (by omega))
    | true =>
      simp only[hw,hord] at he
      simp only[hwant,zG]
      left
      cases hr:qa4 E st.tm st.H (base0+i) lo.op with
      | none=>simp[hr] at he
      | some r =>
        simp only[hr] at he
        obtain ⟨rfl,rfl⟩:=Prod.mk.inj (Option.some.inj he)
        have hg':qdr E.gl R':=fun g xs hx=>by obtain ⟨cs,c1,c2⟩:=hg g xs hx; exact ⟨cs,h.ext.imm _ _ c1,c2⟩
        refine op_ok hE hg' h.sim (base:=base0+i) (fun k=>hf _ (Nat.le_refl _)) h.rep h1 hr K Q ?_
        intro v w'' R'' p'' q1 q2 q3 q4 q5
        refine hK R'' p'' _ _ ⟨?_,q2,h.ext.trans q3,fun n x hx=>q4 _ _ (h.mono _ _ hx),?_,?_⟩ ?_
        · rw [h3]
          exact put_rep (h.rep.mono q3.imm q4) q1
        · intro n x hx
          rcases q5 n x hx with c | c
          · exact h.fresh n x c
          · exact .inr (by omega)
        · rw[qhD]; exact h.defers
        · intro n hn
          cases hp:p'' n with
          | none=>rfl
          | some x =>
            rcases q5 n x hp with c | c
            · rw[hf n (by omega)] at c; cases c
            · omega
theorem opers_seq (hE:CalOk P E) {ops:Array Oper} {as:List Nat} {base0 lim:Nat} {a:Act} (hg:qdr E.gl R) (hlim:lim≤base0) {Q:Exit→Act→World→Prop} :
    ∀ (os : List Oper) (i : Nat) (los : List LOper) (log : List Done) (st st' : St) (R' : Imm) (p' : qa0) (a' : Act) (w' : World), os = ops.toList.drop i → qcv P ops false as i os = some los →
      qbw E base0 i los log st=some st'→Aft R p H w a lim st.tm st.H R' p' a' w'→(∀ n,base0+i≤n.1→p' n=none) →
      (∀ R'' p'' a'' w'',Aft R p H w a lim st'.tm st'.H R'' p'' a'' w''→(∀ n,base0+(i+os.length)≤n.1→p'' n=none)→Q .normal a'' w'') →
      wpOps P ops Q (List.range' i os.length) a' w':=by
  intro os
  induction os with
  | nil =>
    intro i los log st st' R' p' a' w' _ hc he h hf hQ
    simp[qcv] at hc
    subst hc
    simp[qbw] at he
    subst he
    exact hQ R' p' a' w' h (by simpa using hf)
  | cons o os ih =>
    intro i los log st st' R' p' a' w' hos hc he h hf hQ
    simp only[qcv] at hc
    split at hc
    · rename_i lo los' h1 h2
      obtain rfl:=Option.some.inj hc
      simp only[qbw] at he
      split at he
      · rename_i st1 log1 he1
        have hi:i < ops.toList.length:=by
          rcases Nat.lt_or_ge i ops.toList.length with hlt | hge
          · exact hlt
          · rw[List.drop_eq_nil_of_le hge] at hos; cases hos
        rw[List.drop_eq_getElem_cons hi] at hos
        injection hos with e1 e2
        have ho:ops[i]? = some o:=by
          rw[e1]
          have:=Array.getElem?_eq_getElem (xs:=ops) (i:=i) (by simpa using hi)
          rw[this]; rfl
        rw[zE,List.range'_succ,wpOps_cons]
        refine oper_seq hE hg h1 he1 h hlim hf ho ?_
        intro R'' p'' a'' w'' q1 q2
        refine ih (i+1) los' log1 st1 st' R'' p'' a'' w'' e2 h2 he q1 q2 ?_
        intro R3 p3 a3 w3 c1 c2
        exact hQ R3 p3 a3 w3 c1 (fun n hn=>c2 n (by simp at hn; omega))
      · cases he
    · cases hc
end Go.LE
namespace Go.LE
variable {P:Program} {E:Env}
def qc0:LOp→List LX
  | .mv x | .box x | .ld1 x | .ld _ x | .chk x | .un _ x | .cvt _ x | .s2b x | .b2s x | .cvs x | .arrp _ x | .fa _ x | .fld1 _ x | .fld _ _ x | .ext x _ | .len x | .lenT x=>[x]
  | .pick c a b=>[c,a,b]
  | .new _ | .lenA _=>[]
  | .build _ ps=>ps.map fun q=>q.2.2
  | .mkrow _ _ ps _=>ps.map fun q=>q.2.2
  | .st _ x y | .bin _ _ x y | .mkslice _ _ _ x y | .iaA _ _ x y | .iaS _ x y | .ix1 _ _ x y | .ix _ _ _ x y | .ixT x y | .append _ _ _ x y | .appz _ _ _ x y | .copy _ x y=>[x,y]
  | .fn _ a b=>a++b
  | .slcA _ _ x lo hi mx | .slcS _ x lo hi mx=>x::(lo.toList++hi.toList++mx.toList)
  | .slcT x lo hi=>x::(lo.toList++hi.toList)
  | .call f as=>f::as
  | .mnmx _ as=>as
theorem qc6 {gl:Nat→Option qal} {tm tm':List LV} {d:Nat} {x:Option LX} (h:∀ y ∈ x.toList,evX gl tm y=evX gl tm' y):qbl gl tm d x=qbl gl tm' d x:=by
  cases x with
  | none=>rfl
  | some x=>simp only[qbl]; rw[h x (by simp)]
theorem qhi {tm tm':List LV} {H:Heap} {base:Nat} {op:LOp} (h:∀ x ∈ qc0 op,evX E.gl tm x=evX E.gl tm' x):qa4 E tm H base op=qa4 E tm' H base op:=by
  have hmap:∀ l:List LX,(∀ x ∈ l,evX E.gl tm x=evX E.gl tm' x)→l.map (evX E.gl tm)=l.map (evX E.gl tm'):=fun l hl=>List.map_congr_left hl
  have hps:∀ ps:List (Nat × Nat × LX),(∀ x ∈ ps.map (fun q=>q.2.2),evX E.gl tm x=evX E.gl tm' x)→ps.map (fun q=>(q.1,q.2.1,evX E.gl tm q.2.2))=ps.map (fun q=>(q.1,q.2.1,evX E.gl tm' q.2.2)):=by
    intro ps hps
    apply List.map_congr_left
    intro q hq
    rw[hps q.2.2 (List.mem_map.2 ⟨q,hq,rfl⟩)]
  cases op <;> simp only[qc0] at h <;> simp only[qa4,qa2,qbz]
  case build z ps=>rw[hps ps h]
  case mkrow n z ps l=>rw[hps ps h]
  case fn f a b=>rw[hmap a fun x hx=>h x (by simp[hx]),hmap b fun x hx=>h x (by simp[hx])]
  case slcA n s x lo hi mx =>
    rw [h x (by simp), qc6 (x := lo) fun y hy => h y (by simp at hy; simp [hy]), qc6 (x := hi) fun y hy => h y (by simp at hy; simp [hy]),
      qc6 (x:=mx) fun y hy=>h y (by simp at hy; simp[hy])]
  case slcS s x lo hi mx =>
    have hm:∀ d,qbl E.gl tm d mx=qbl E.gl tm' d mx:=fun d=>qc6 fun y hy=>h y (by simp at hy; simp[hy])
    have hl:∀ d,qbl E.gl tm d lo=qbl E.gl tm' d lo:=fun d=>qc6 fun y hy=>h y (by simp at hy; simp[hy])
    have hh:∀ d,qbl E.gl tm d hi=qbl E.gl tm' d hi:=fun d=>qc6 fun y hy=>h y (by simp at hy; simp[hy])
    simp only[h x (by simp),hl,hh,hm]
  case slcT x lo hi =>
    have hl:∀ d,qbl E.gl tm d lo=qbl E.gl tm' d lo:=fun d=>qc6 fun y hy=>h y (by simp at hy; simp[hy])
    have hh:∀ d,qbl E.gl tm d hi=qbl E.gl tm' d hi:=fun d=>qc6 fun y hy=>h y (by simp at hy; simp[hy])
    simp only[h x (by simp),hl,hh]
  case call f as=>rw[h f (by simp),hmap as fun x hx=>h x (by simp[hx])]
  case mnmx m as=>rw[hmap as h]
  all_goals first
    | rfl
    | (rename_i x y; simp only[h x (by simp),h y (by simp)]; done)
    | (rename_i x; simp only[h x (by simp)]; done)
    | (rename_i x _; simp only[h x (by simp)]; done)
    | (rename_i c a b; simp only[h c (by simp),h a (by simp),h b (by simp)]; done)
theorem qeJ {f:Nat→Option (Nat × Nat)}:∀ {l:List (Nat × Operand)} {qs:List (Nat × Nat × LX)},qcV f l=some qs→∀ x ∈ qs.map (fun q=>q.2.2),∃ y ∈ l.map (·.2),x=qaQ y:=by
  intro l
  induction l with
  | nil=>intro qs h; simp[qcV] at h; subst h; simp
  | cons q l ih =>
    obtain ⟨i,y⟩:=q
    intro qs h x hx
    simp only[qcV] at h
    split at h
    · rename_i off n ps h1 h2
      obtain rfl:=Option.some.inj h
      simp at hx
      rcases hx with rfl | ⟨a,b,hx⟩
      · exact ⟨y,by simp,rfl⟩
      · obtain ⟨z, hz, e⟩ := ih h2 x (by simp; exact ⟨a, b, hx⟩)
        exact ⟨z,by simp at hz ⊢; exact .inr hz,e⟩
    · cases h
theorem atoms_sub {op:Op} {lo:LOp} (hc:qea P op=some lo):∀ x ∈ qc0 lo,∃ y ∈ op.operands.toList,x=qaQ y:=by
  have hopt:∀ (z:Option Operand) (x:LX),x ∈ (z.map qaQ).toList→∃ y ∈ z.toList,x=qaQ y:=by
    intro z x hx
    cases z with
    | none=>simp at hx
    | some z=>simp at hx; exact ⟨z,by simp,hx⟩
  cases op <;> simp only[qea] at hc
  case panic x=>obtain rfl:=Option.some.inj hc; intro x hx; simp[qc0] at hx
  case makeInterface t x=>obtain rfl:=Option.some.inj hc; intro x hx; simp[qc0] at hx
  case build t parts =>
    split at hc
    · simp only [Option.bind_eq_some_iff, zJ] at hc
      obtain ⟨_,_,qs,hqs,rfl⟩:=hc
      intro x hx
      obtain ⟨y,hy,e⟩:=qeJ hqs x hx
      exact ⟨y,by simpa [Op.operands] using hy,e⟩
    · simp only [Option.bind_eq_some_iff, zJ] at hc
      obtain ⟨_,_,qs,hqs,rfl⟩:=hc
      intro x hx
      obtain ⟨y,hy,e⟩:=qeJ hqs x hx
      exact ⟨y,by simpa [Op.operands] using hy,e⟩
    · cases hc
  case buildSlice t len parts =>
    split at hc
    · split at hc
      · split at hc
        · simp only [zJ] at hc
          obtain ⟨qs,hqs,rfl⟩:=hc
          intro x hx
          obtain ⟨y,hy,e⟩:=qeJ hqs x hx
          exact ⟨y,by simpa [Op.operands] using hy,e⟩
        · cases hc
      · cases hc
    · cases hc
  case makeFunc f a b =>
    obtain rfl:=Option.some.inj hc
    intro x hx
    simp only[qc0,List.mem_append,List.mem_map] at hx
    rcases hx with ⟨y,hy,rfl⟩ | ⟨y,hy,rfl⟩
    · exact ⟨y,by simp[Op.operands]; exact .inl (by simpa using hy),rfl⟩
    · exact ⟨y,by simp[Op.operands]; exact .inr (by simpa using hy),rfl⟩
  case slice t x lo hi mx =>
    have fin:∀ z ∈ qaQ x::((lo.map qaQ).toList++(hi.map qaQ).toList++(mx.map qaQ).toList),∃ y ∈ (Op.slice t x lo hi mx).operands.toList,z=qaQ y:=by
      intro z hz
      simp only[List.mem_cons,List.mem_append] at hz
      rcases hz with rfl | (hz | hz) | hz
      · exact ⟨x,by simp[Op.operands],rfl⟩
      · obtain ⟨y,hy,e⟩:=hopt lo z hz; exact ⟨y,by simp[Op.operands]; simp at hy; simp[hy],e⟩
      · obtain ⟨y,hy,e⟩:=hopt hi z hz; exact ⟨y,by simp[Op.operands]; simp at hy; simp[hy],e⟩
      · obtain ⟨y,hy,e⟩:=hopt mx z hz; exact ⟨y,by simp[Op.operands]; simp at hy; simp[hy],e⟩
    split at hc
    · simp only[zJ] at hc; obtain ⟨_,_,rfl⟩:=hc; exact fin
    · simp only[zJ] at hc; obtain ⟨_,_,rfl⟩:=hc; exact fin
    · split at hc
      · obtain rfl := Option.some.inj hc
        intro z hz
        simp only[qc0,List.mem_cons,List.mem_append] at hz
        refine fin z ?_
        simp only[List.mem_cons,List.mem_append]
        rcases hz with h | h | h <;> simp[h]
      · cases hc
    · split at hc
      · simp only[zJ] at hc; obtain ⟨_,_,rfl⟩:=hc; exact fin
      · cases hc
    · cases hc
  case call c =>
    obtain ⟨callee,args,ts⟩:=c
    simp only[qfz] at hc
    split at hc
    · obtain rfl := Option.some.inj hc
      intro z hz
      simp only[qc0,List.mem_cons,List.mem_map] at hz
      rcases hz with rfl | ⟨y,hy,rfl⟩
      · exact ⟨_,by simp[Op.operands,Call.operands],rfl⟩
      · exact ⟨y,by simp[Op.operands,Call.operands]; exact .inr (by simpa using hy),rfl⟩
    · cases hc
    · split at hc
      · rename_i x t hargs htypes
        split at hc
        · obtain rfl:=Option.some.inj hc; intro z hz; simp[qc0] at hz; exact ⟨x,by simp[Op.operands,Call.operands,hargs],hz⟩
        · obtain rfl:=Option.some.inj hc; intro z hz; simp[qc0] at hz; exact ⟨x,by simp[Op.operands,Call.operands,hargs],hz⟩
        · obtain rfl:=Option.some.inj hc; intro z hz; simp[qc0] at hz
        · split at hc <;> (try cases hc); intro z hz; simp[qc0] at hz
        · cases hc
      · rename_i x y t u hargs htypes
        split at hc
        · split at hc
          · split at hc
            · obtain rfl := Option.some.inj hc
              intro z hz
              simp only[qc0,List.mem_cons,List.not_mem_nil,or_false] at hz
              rcases hz with rfl | rfl
              · exact ⟨x,by simp[Op.operands,Call.operands,hargs],rfl⟩
              · exact ⟨y,by simp[Op.operands,Call.operands,hargs],rfl⟩
            · cases hc
          · cases hc
        · split at hc
          · split at hc
            · obtain rfl := Option.some.inj hc
              intro z hz
              simp only[qc0,List.mem_cons,List.not_mem_nil,or_false] at hz
              rcases hz with rfl | rfl
              · exact ⟨x,by simp[Op.operands,Call.operands,hargs],rfl⟩
              · exact ⟨y,by simp[Op.operands,Call.operands,hargs],rfl⟩
            · cases hc
          · cases hc
        · cases hc
      · rename_i x y t us hargs htypes
        split at hc
        · split at hc
          · split at hc
            · obtain rfl := Option.some.inj hc
              intro z hz
              simp only[qc0,List.mem_cons,List.not_mem_nil,or_false] at hz
              rcases hz with rfl | rfl
              · exact ⟨x,by simp[Op.operands,Call.operands,hargs],rfl⟩
              · exact ⟨y,by simp[Op.operands,Call.operands,hargs],rfl⟩
            · cases hc
          · cases hc
        · cases hc
      · obtain rfl := Option.some.inj hc
        intro z hz
        simp only[qc0,List.mem_map] at hz
        obtain ⟨y,hy,rfl⟩:=hz
        exact ⟨y,by simp[Op.operands,Call.operands]; simpa using hy,rfl⟩
      · obtain rfl := Option.some.inj hc
        intro z hz
        simp only[qc0,List.mem_map] at hz
        obtain ⟨y,hy,rfl⟩:=hz
        exact ⟨y,by simp[Op.operands,Call.operands]; simpa using hy,rfl⟩
      · cases hc
  all_goals
    first
    | (cases hc; done)
    | skip
  all_goals
    (repeat' split at hc)
  all_goals
    first
    | (cases hc; done)
    | (obtain rfl := Option.some.inj hc; intro z hz; simp only [qc0, List.mem_cons, List.not_mem_nil, or_false] at hz <;> first
       | (rcases hz with rfl | rfl | rfl <;> exact ⟨_,by simp[Op.operands],rfl⟩)
       | (rcases hz with rfl | rfl <;> exact ⟨_,by simp[Op.operands],rfl⟩)
       | (subst hz; exact ⟨_,by simp[Op.operands],rfl⟩)
       | exact hz.elim
       | (cases hz; done))
    | (simp only [zJ] at hc; obtain ⟨_, _, rfl⟩ := hc; intro z hz; simp only [qc0, List.mem_cons, List.not_mem_nil, or_false] at hz <;> first
       | (rcases hz with rfl | rfl <;> exact ⟨_,by simp[Op.operands],rfl⟩)
       | (subst hz; exact ⟨_,by simp[Op.operands],rfl⟩)
       | exact hz.elim)
theorem opRes_light {tm:List LV} {H H':Heap} {base:Nat} {op:LOp} (h:heapy op=false):qa4 E tm H base op=qa4 E tm H' base op:=by
  cases op <;> simp only[heapy,reduceCtorEq,Bool.true_eq_false] at h <;> rfl
theorem mods_light {tm:List LV} {H:Heap} {base:Nat} {op:LOp} {r:Out} (h:heapy op=false) (hr:qa4 E tm H base op=some r):r.mods=[]:=by
  unfold qa4 at hr
  split at hr
  · obtain rfl:=Option.some.inj hr; rfl
  · cases op <;> simp only [heapy, reduceCtorEq, Bool.true_eq_false] at h <;> simp only [qbz, reduceCtorEq] at hr
    all_goals
      (repeat' split at hr)
    all_goals first
      | (cases hr; done)
      | (obtain rfl:=Option.some.inj hr; rfl)
theorem before1_bit (acc:List Nat) (o:Oper) {m:Nat} (h:(qfp acc o).testBit m=true):∃ e ∈ o.after,Region.binds .any e=true∧(m=e.on∨(acc.getD e.on 0).testBit m=true):=by
  unfold qfp at h
  have key : ∀ (l : List Edge) (s : Nat), (l.foldl (fun s e => if Region.binds .any e then s ||| 2 ^ e.on ||| acc.getD e.on 0 else s) s).testBit m = true →
      s.testBit m=true∨∃ e ∈ l,Region.binds .any e=true∧(m=e.on∨(acc.getD e.on 0).testBit m=true):=by
    intro l
    induction l with
    | nil=>intro s h; exact .inl h
    | cons e l ih =>
      intro s h
      rw[List.foldl_cons] at h
      rcases ih _ h with h1 | ⟨e',he',h1⟩
      · split at h1
        · rename_i hb
          rw[Nat.testBit_or,Nat.testBit_or,Bool.or_eq_true,Bool.or_eq_true,Nat.testBit_two_pow] at h1
          rcases h1 with (h1 | h1) | h1
          · exact .inl h1
          · exact .inr ⟨e,by simp,hb,.inl (by simpa using (of_decide_eq_true h1).symm)⟩
          · exact .inr ⟨e,by simp,hb,.inr h1⟩
        · exact .inl h1
      · exact .inr ⟨e',by simp[he'],h1⟩
  rcases key _ _ h with h1 | ⟨e,he,h1⟩
  · simp at h1
  · exact ⟨e,by simpa using he,h1⟩
theorem aheadsGo_get:∀ (os:List Oper) (acc:List Nat),(∀ k,k < acc.length→(qdG acc os).getD k 0=acc.getD k 0) ∧
    (∀ k o,os[k]? = some o→∃ acc',acc'.length=acc.length+k∧(∀ j,j < acc.length+k→acc'.getD j 0=(qdG acc os).getD j 0)∧(qdG acc os).getD (acc.length+k) 0=qfp acc' o):=by
  intro os
  induction os with
  | nil=>intro acc; exact ⟨fun k _=>rfl,fun k o h=>by simp at h⟩
  | cons o os ih =>
    intro acc
    obtain ⟨h1,h2⟩:=ih (acc++[qfp acc o])
    have hpre:∀ k,k < acc.length→(acc++[qfp acc o]).getD k 0=acc.getD k 0:=by
      intro k hk
      simp[List.getD,List.getElem?_append_left hk]
    refine ⟨fun k hk => ?_,fun k o' h => ?_⟩
    · simp only [qdG]
      rw[h1 k (by simp; omega),hpre k hk]
    · cases k with
      | zero =>
        simp at h
        subst h
        refine ⟨acc,rfl,fun j hj => ?_,?_⟩
        · simp only [qdG]
          rw[h1 j (by simp; omega),hpre j (by omega)]
        · simp only [qdG, zZ]
          rw[h1 acc.length (by simp)]
          simp[List.getD]
      | succ k =>
        simp at h
        obtain ⟨acc',q1,q2,q3⟩:=h2 k o' h
        simp only[zH,zE,zL] at q1 q2 q3
        refine ⟨acc',by omega,fun j hj => ?_,?_⟩
        · simp only[qdG]; exact q2 j (by omega)
        · simp only [qdG]
          rw[show acc.length+(k+1)=acc.length+(0+1)+k by omega]
          exact q3
theorem qhE {os:List Oper} (hlow:∀ k o,os[k]? = some o→∀ e ∈ o.after,Region.binds .any e=true→e.on < k) {i m:Nat} {o:Oper} (ho:os[i]? = some o)
    (h:((qcB os).getD i 0).testBit m=true):∃ e ∈ o.after,Region.binds .any e=true∧(m=e.on∨((qcB os).getD e.on 0).testBit m=true):=by
  obtain ⟨acc',q1,q2,q3⟩:=(aheadsGo_get os []).2 i o ho
  simp only[zL,zO] at q1 q2 q3
  unfold qcB at h ⊢
  rw[q3] at h
  obtain ⟨e,he,hb,hm⟩:=before1_bit acc' o h
  refine ⟨e,he,hb,?_⟩
  rcases hm with hm | hm
  · exact .inl hm
  · right
    rw[←q2 e.on (hlow i o ho e he hb)]
    exact hm
theorem aheads_lt {os:List Oper} (hlow:∀ k o,os[k]? = some o→∀ e ∈ o.after,Region.binds .any e=true→e.on < k):∀ (i m:Nat) (o:Oper),os[i]? = some o→((qcB os).getD i 0).testBit m=true→m < i:=by
  intro i
  induction i using Nat.strongRecOn with
  | _ i ih =>
    intro m o ho h
    obtain ⟨e,he,hb,hm⟩:=qhE hlow ho h
    have hlt:=hlow i o ho e he hb
    rcases hm with rfl | hm
    · exact hlt
    · have hlen : i < os.length := (List.getElem?_eq_some_iff.1 ho).1
      have:=ih e.on hlt m os[e.on] (List.getElem?_eq_getElem (by omega)) hm
      omega
end Go.LE
namespace Go.LE
variable {P:Program} {R:Imm} {p:qa0} {w:World} {E:Env}
structure Ent where
  i:Nat
  dst:Option Nat
  res:Option Out
  saw:List Nm
  heap:Bool
def Ent.wrote (e:Ent):List Nm:=match e.res with | some r=>r.mods.map (·.1) | none=>[]
abbrev S2:=List LV × Heap
def qbG (base0:Nat) (e:Ent) (s:S2):S2 :=
  match e.res with
  | none=>(put s.1 e.dst (.v (.tuple #[])),s.2)
  | some r=>(put s.1 e.dst r.val,qbv (base0+e.i) r s.2)
def runS (base0:Nat) (S:Nat→Bool):List Ent→S2→S2
  | [],s=>s
  | e::es,s=>runS base0 S es (if S e.i then qbG base0 e s else s)
def EntOk (E:Env) (base0:Nat) (s:S2) (lo:LOper) (e:Ent):Prop :=
  e.dst=lo.dst ∧
  ((qc5 lo.guard s.1 = some false ∧ e.res = none ∧ e.heap = false) ∨
   (qc5 lo.guard s.1 = some true ∧ ∃ r, e.res = some r ∧
     ((lo.ord = none ∧ e.heap = false ∧ qa4 E s.1 s.2 (base0 + e.i) lo.op = some r) ∨
      (∃ b,lo.ord=some b∧e.heap=true∧qdp (E.trim && qdz lo.op) (only e.saw s.2) (qa4 E s.1 (only e.saw s.2) (base0+e.i) lo.op)=some r∧(∀ q ∈ r.mods,q.1 ∈ e.saw)∧∀ n ∈ e.saw,n.1 < base0∨b.testBit (n.1 - base0)=true))))
def Free (i:Nat) (saw wrote:List Nm) (e:Ent) (b:Nat):Prop:=b.testBit i=true∨((∀ n ∈ wrote,n ∉ e.saw)∧∀ n ∈ e.wrote,n ∉ saw)
theorem qgW (base0:Nat) {S:Nat→Bool}:∀ (es:List Ent) (s:S2),(∀ e ∈ es,S e.i=false)→runS base0 S es s=s
  | [],_,_=>rfl
  | e::es,s,h=>by
    simp only[runS,h e (by simp),zP,zM]
    exact qgW base0 es s fun e he=>h e (by simp[he])
theorem qfj (base0:Nat) {S S':Nat→Bool}:∀ (es:List Ent) (s:S2),(∀ e ∈ es,S e.i=S' e.i)→runS base0 S es s=runS base0 S' es s
  | [],_,_=>rfl
  | e::es,s,h=>by
    simp only[runS,h e (by simp)]
    exact qfj base0 es _ fun e he=>h e (by simp[he])
theorem apart_of {a b:List Nm} (h:qdy a b=true):∀ n ∈ a,n ∉ b:=by
  intro n hn hb
  simp only[qdy,List.all_eq_true] at h
  have:=h n hn
  simp at this
  exact this hb
theorem trace (base0:Nat):∀ (los:List LOper) (i:Nat) (log:List Done) (st st':St),qbw E base0 i los log st=some st' →
    ∃ es : List Ent, es.length = los.length ∧ (∀ (k : Nat) (e : Ent), es[k]? = some e → e.i = i + k) ∧
      (∀ (k:Nat) (e:Ent) (lo:LOper),es[k]? = some e→los[k]? = some lo→EntOk E base0 (runS base0 (fun j=>decide (j < i+k)) es (st.tm,st.H)) lo e) ∧
      (∀ (k:Nat) (e:Ent) (lo:LOper) (b:Nat),es[k]? = some e→los[k]? = some lo→lo.ord=some b→e.heap=true→∀ d ∈ log,Free d.i d.saw d.wrote e b) ∧
      (∀ (k k':Nat) (e e':Ent) (lo:LOper) (b:Nat),k < k'→es[k]? = some e→es[k']? = some e'→los[k']? = some lo→lo.ord=some b→e.heap=true→e'.heap=true→Free e.i e.saw e.wrote e' b) ∧
      (st'.tm,st'.H)=runS base0 (fun _=>true) es (st.tm,st.H):=by
  intro los
  induction los with
  | nil =>
    intro i log st st' h
    simp[qbw] at h
    subst h
    exact ⟨[],rfl,by simp,by simp,by simp,by simp,rfl⟩
  | cons lo los ih =>
    intro i log st st' h
    simp only[qbw] at h
    split at h
    · rename_i st1 log1 he
      obtain ⟨es,q1,q2,q3,q4,q5,q6⟩:=ih (i+1) log1 st1 st' h
      have first : ∃ e : Ent, e.i = i ∧ EntOk E base0 (st.tm, st.H) lo e ∧ (st1.tm, st1.H) = qbG base0 e (st.tm, st.H) ∧
          (∀ b,lo.ord=some b→e.heap=true→∀ d ∈ log,Free d.i d.saw d.wrote e b)∧(∀ d ∈ log,d ∈ log1)∧(e.heap=true→(⟨e.i,e.saw,e.wrote⟩:Done) ∈ log1):=by
        unfold qe4 at he
        split at he
        · cases he
        · rename_i hw
          obtain ⟨rfl,rfl⟩:=Prod.mk.inj (Option.some.inj he)
          exact ⟨⟨i,lo.dst,none,[],false⟩,rfl,⟨rfl,.inl ⟨hw,rfl,rfl⟩⟩,rfl,by simp,fun _ h=>h,by simp⟩
        · rename_i hw
          split at he
          · rename_i hord
            split at he
            · cases he
            · rename_i r hr
              obtain ⟨rfl,rfl⟩:=Prod.mk.inj (Option.some.inj he)
              exact ⟨⟨i,lo.dst,some r,[],false⟩,rfl,⟨rfl,.inr ⟨hw,r,rfl,.inl ⟨hord,rfl,hr⟩⟩⟩,rfl,by simp,fun _ h=>h,by simp⟩
          · rename_i b hord
            simp only at he
            split at he
            · cases he
            · rename_i r hr
              split at he
              · rename_i hc
                obtain ⟨rfl,rfl⟩:=Prod.mk.inj (Option.some.inj he)
                simp only[Bool.and_eq_true,List.all_eq_true] at hc
                obtain ⟨⟨c1,c2⟩,c3⟩:=hc
                refine ⟨⟨i,lo.dst,some r,qcj E.gl st.tm st.H lo.op,true⟩,rfl,⟨rfl,.inr ⟨hw,r,rfl,.inr ⟨b,hord,rfl,hr,?_,?_⟩⟩⟩,rfl,?_,?_,?_⟩
                · intro q hq
                  have:=c1 q.1 (List.mem_map.2 ⟨q,hq,rfl⟩)
                  simpa using this
                · intro n hn
                  have:=c2 n hn
                  simp only[Bool.or_eq_true,decide_eq_true_eq] at this
                  exact this
                · intro b' hb' _ d hd
                  rw[hord] at hb'
                  obtain rfl:=Option.some.inj hb'
                  have:=c3 d hd
                  simp only[Bool.or_eq_true,Bool.and_eq_true] at this
                  rcases this with h | ⟨h1,h2⟩
                  · exact .inl h
                  · exact .inr ⟨apart_of h1,apart_of h2⟩
                · intro d hd; simp[hd]
                · intro _; simp[Ent.wrote]
              · cases he
      obtain ⟨e,f1,f2,f3,f4,f5,f6⟩:=first
      have hbig:∀ e' ∈ es,i < e'.i:=by
        intro e' he'
        obtain ⟨k,hk⟩:=List.getElem?_of_mem he'
        have:=q2 k e' hk
        omega
      refine ⟨e::es,by simp[q1],?_,?_,?_,?_,?_⟩
      · intro k e' hk
        cases k with
        | zero=>simp at hk; subst hk; simpa using f1
        | succ k=>simp at hk; have:=q2 k e' hk; omega
      · intro k e' lo' hk hl
        cases k with
        | zero =>
          simp at hk hl
          subst hk hl
          simp only[runS,f1,zZ,zY,decide_false,zP,zM]
          rw[qgW]
          · exact f2
          · intro e' he'; have:=hbig e' he'; simp; omega
        | succ k =>
          simp at hk hl
          have:=q3 k e' lo' hk hl
          simp only[runS,f1]
          rw[if_pos (by simp),←f3]
          rw[show (fun j=>decide (j < i+(k+1)))=(fun j=>decide (j < i+1+k)) by funext j; congr 1; rw[Nat.add_assoc,Nat.add_comm 1 k]]
          exact this
      · intro k e' lo' b hk hl hb hh d hd
        cases k with
        | zero=>simp at hk hl; subst hk hl; exact f4 b hb hh d hd
        | succ k=>simp at hk hl; exact q4 k e' lo' b hk hl hb hh d (f5 d hd)
      · intro k k' e1 e2 lo' b hkk hk hk' hl hb h1 h2
        cases k' with
        | zero=>omega
        | succ k' =>
          simp at hk' hl
          cases k with
          | zero =>
            simp at hk
            subst hk
            exact q4 k' e2 lo' b hk' hl hb h2 _ (f6 h1)
          | succ k=>simp at hk; exact q5 k k' e1 e2 lo' b (by omega) hk hk' hl hb h1 h2
      · rw [q6, f3]
        simp[runS]
    · cases h
theorem put_get {tm:List LV} {dst:Option Nat} {x:LV} {t:Nat}:(put tm dst x)[t]? = if dst=some t∧t < tm.length then some x else tm[t]? := by
  cases dst with
  | none=>simp[put]
  | some d =>
    simp only[put,List.getElem?_set,Option.some.injEq]
    by_cases h:d=t
    · subst h
      by_cases h2:d < tm.length
      · simp[h2]
      · simp[h2]
    · simp[h]
theorem put_len {tm:List LV} {dst:Option Nat} {x:LV}:(put tm dst x).length=tm.length:=by cases dst <;> simp[put]
theorem applyEnt_len (base0:Nat) (e:Ent) (s:S2):(qbG base0 e s).1.length=s.1.length:=by
  unfold qbG; split <;> simp[put_len]
theorem runS_slot (base0:Nat) {S S':Nat→Bool} {t:Nat}:∀ (es:List Ent) (s s':S2),(∀ e ∈ es,e.dst=some t→S e.i=S' e.i)→s.1[t]? = s'.1[t]? → s.1.length=s'.1.length →
    (runS base0 S es s).1[t]? = (runS base0 S' es s').1[t]?
  | [],_,_,_,h,_=>h
  | e::es,s,s',h,h1,h2=>by
    simp only[runS]
    refine runS_slot base0 es _ _ (fun e he=>h e (by simp[he])) ?_ ?_
    · have step:∀ s:S2,e.dst≠some t→(qbG base0 e s).1[t]? = s.1[t]? := by
        intro s hd
        unfold qbG
        split <;> (rw [put_get]; simp[hd])
      by_cases hd:e.dst=some t
      · have := h e (by simp) hd
        rw[this]
        cases S' e.i
        · simpa using h1
        · simp only [zG]
          unfold qbG
          split <;> (simp only[put_get,h1,h2])
      · cases S e.i <;> cases S' e.i <;> simp only[zP,zM,zG,step _ hd,h1]
    · split <;> split <;> simp[applyEnt_len,h2]
def Aff (base0:Nat) (e:Ent) (n:Nm):Prop := ∃ r,e.res=some r∧(n.1=base0+e.i∨n ∈ r.mods.map (·.1))
theorem qgX {H H':Heap} {n:Nm}:∀ ms:List (Nm × Option qal),H n=H' n→qbN H ms n=qbN H' ms n
  | [],h=>h
  | (m,v)::ms,h=>by
    simp only[qcM]
    unfold upd
    split
    · rfl
    · exact qgX ms h
theorem qgv {H:Heap} {n:Nm}:∀ ms:List (Nm × Option qal),n ∉ ms.map (·.1)→qbN H ms n=H n
  | [],_=>rfl
  | (m,v)::ms,h=>by
    simp only[zB,List.mem_cons,not_or] at h
    simp only[qcM]
    unfold upd
    rw[if_neg h.1]
    exact qgv ms h.2
theorem modsAt_on {H H':Heap} {n:Nm}:∀ ms:List (Nm × Option qal),n ∈ ms.map (·.1)→qbN H ms n=qbN H' ms n
  | [],h=>by simp at h
  | (m,v)::ms,h=>by
    simp only[qcM]
    unfold upd
    split
    · rfl
    · rename_i hn
      simp only[zB,List.mem_cons] at h
      exact modsAt_on ms (h.resolve_left hn)
theorem qej {base:Nat} {r:Out} {H H':Heap} {n:Nm} (h:H n=H' n):qbv base r H n=qbv base r H' n:=by
  unfold qbv
  split
  · rfl
  · exact qgX _ h
theorem qcH {base0:Nat} {e:Ent} {s:S2} {n:Nm} (h:¬ Aff base0 e n):(qbG base0 e s).2 n=s.2 n:=by
  unfold qbG
  split
  · rfl
  · rename_i r hr
    simp only[Aff,not_exists,not_and,not_or] at h
    obtain ⟨h1,h2⟩:=h r hr
    show qbv (base0+e.i) r s.2 n=s.2 n
    unfold qbv
    rw[if_neg (fun q=>h1 q.1)]
    exact qgv _ h2
theorem runS_heap (base0:Nat) {S S':Nat→Bool} {n:Nm}:∀ (es:List Ent) (s s':S2),(∀ e ∈ es,Aff base0 e n→S e.i=S' e.i)→s.2 n=s'.2 n→(runS base0 S es s).2 n=(runS base0 S' es s').2 n
  | [],_,_,_,h=>h
  | e::es,s,s',h,h1=>by
    simp only[runS]
    refine runS_heap base0 es _ _ (fun e he=>h e (by simp[he])) ?_
    by_cases ha:Aff base0 e n
    · rw [h e (by simp) ha]
      cases S' e.i
      · simpa using h1
      · simp only [zG]
        unfold qbG
        split
        · exact h1
        · exact qej h1
    · cases S e.i <;> cases S' e.i <;> simp only[zP,zM,zG,qcH ha,h1]
theorem put_comm {tm:List LV} {d d':Option Nat} {x y:LV} (h:∀ t,d=some t→d'≠some t):put (put tm d x) d' y=put (put tm d' y) d x:=by
  cases d <;> cases d' <;> simp only[put]
  rename_i a b
  rw[List.set_comm _ _ (fun e=>h a rfl (by rw[e]))]
theorem applyEnt_comm (base0:Nat) {e e':Ent} {s:S2} (hd:∀ t,e.dst=some t→e'.dst≠some t) (ha:∀ n,¬ (Aff base0 e n∧Aff base0 e' n)) :
    qbG base0 e' (qbG base0 e s)=qbG base0 e (qbG base0 e' s):=by
  apply Prod.ext
  · unfold qbG
    cases e.res <;> cases e'.res <;> simp only <;> exact put_comm hd
  · funext n
    by_cases h1:Aff base0 e n
    · have h2 : ¬ Aff base0 e' n := fun h => ha n ⟨h1, h⟩
      rw[qcH h2]
      unfold qbG
      cases hr:e.res with
      | none=>simp only; cases hr':e'.res <;> simp only[hr']; have:=qcH (s:=s) h2; unfold qbG at this; simp only[hr'] at this; exact this.symm
      | some r =>
        simp only
        apply qej
        have:=qcH (s:=s) h2
        unfold qbG at this
        exact this.symm
    · rw [qcH (s := qbG base0 e' s) h1]
      by_cases h2:Aff base0 e' n
      · unfold qbG
        cases hr':e'.res with
        | none=>simp only; have:=qcH (s:=s) h1; unfold qbG at this; exact this
        | some r =>
          simp only
          apply qej
          have:=qcH (s:=s) h1
          unfold qbG at this
          exact this
      · rw[qcH h2,qcH h1,qcH h2]
theorem qgY (base0:Nat) {S:Nat→Bool} {e:Ent}:∀ (es:List Ent) (s:S2),(∀ e' ∈ es,S e'.i=true→(∀ t,e.dst=some t→e'.dst≠some t)∧∀ n,¬ (Aff base0 e n∧Aff base0 e' n)) →
    runS base0 S es (qbG base0 e s)=qbG base0 e (runS base0 S es s)
  | [],_,_=>rfl
  | e'::es,s,h=>by
    simp only[runS]
    cases hS:S e'.i
    · simp only [zP, zM]
      exact qgY base0 es s fun x hx=>h x (by simp[hx])
    · simp only [zG]
      obtain ⟨h1,h2⟩:=h e' (by simp) hS
      rw[applyEnt_comm base0 h1 h2]
      exact qgY base0 es _ fun x hx=>h x (by simp[hx])
theorem compOpers_get {ops:Array Oper} {draw:Bool} {as:List Nat}:∀ (os:List Oper) (i:Nat) (los:List LOper),qcv P ops draw as i os=some los →
    los.length=os.length∧∀ (k:Nat) (o:Oper),os[k]? = some o→∃ lo,los[k]? = some lo∧qeR P ops draw as (i+k) o=some lo:=by
  intro os
  induction os with
  | nil=>intro i los h; simp[qcv] at h; subst h; simp
  | cons o os ih =>
    intro i los h
    simp only[qcv] at h
    split at h
    · rename_i lo los' h1 h2
      obtain rfl:=Option.some.inj h
      obtain ⟨e1,e2⟩:=ih (i+1) los' h2
      refine ⟨by simp[e1],fun k o' hk => ?_⟩
      cases k with
      | zero=>simp at hk; subst hk; exact ⟨lo,rfl,h1⟩
      | succ k =>
        simp at hk
        obtain ⟨lo',h3,h4⟩:=e2 k o' hk
        exact ⟨lo',by simpa using h3,by rw[show i+(k+1)=i+1+k by omega]; exact h4⟩
    · cases h
theorem qgZ {g:Option (Nat × Bool)} {tm tm':List LV} (h:∀ t b,g=some (t,b)→tm[t]? = tm'[t]?):qc5 g tm=qc5 g tm':=by
  cases g with
  | none=>rfl
  | some q=>obtain ⟨t,b⟩:=q; simp only[qc5,List.getD]; rw[h t b rfl]
theorem looksAt_atoms {ops:Array Oper} {o:Oper} {lo:LOp} (hc:qea P o.op=some lo) {tm tm':List LV} (h:∀ t ∈ o.looksAt ops,tm[t]? = tm'[t]?) :
    ∀ x ∈ qc0 lo,evX E.gl tm x=evX E.gl tm' x:=by
  intro x hx
  obtain ⟨y,hy,rfl⟩:=atoms_sub hc x hx
  cases y with
  | tmp t =>
    simp only[qaQ,evX,List.getD]
    rw[h t]
    simp only[Oper.looksAt,List.mem_append,List.mem_filterMap]
    exact .inl ⟨.tmp t,hy,rfl⟩
  | _=>rfl
theorem qgN {ops:Array Oper} {o:Oper} {g:Option (Nat × Bool)} (hg:qeA ops o=some g) {t:Nat} {b:Bool} (h:g=some (t,b)):t ∈ o.looksAt ops:=by
  subst h
  unfold qeA at hg
  split at hg
  · cases hg
  · rename_i j want hj
    split at hg
    · rename_i t' ht
      obtain ⟨rfl,rfl⟩:=Prod.mk.inj (Option.some.inj (Option.some.inj hg))
      simp[Oper.looksAt,hj,ht]
    · cases hg
theorem only_sub {X:List Nm} {H:Heap}:∀ n cs,only X H n=some cs→H n=some cs:=by
  intro n cs h
  unfold only at h
  split at h
  · exact h
  · cases h
theorem only_eq {X:List Nm} {H H':Heap} (h:∀ n ∈ X,H n=H' n):only X H=only X H':=by
  funext n
  unfold only
  split
  · rename_i hn; exact h n (by simpa using hn)
  · rfl
theorem same1_eq:∀ {x y:LV},qeu x y=true→x=y:=by
  intro x y h
  unfold qeu at h
  split at h
  · simp only[Bool.and_eq_true,decide_eq_true_eq] at h; rw[h.1,h.2]
  · rfl
  · simp only[Bool.and_eq_true,decide_eq_true_eq] at h; obtain ⟨⟨⟨⟨rfl,rfl⟩,rfl⟩,rfl⟩,rfl⟩:=h; rfl
  · simp only[Bool.and_eq_true,decide_eq_true_eq] at h; rw[h.1,h.2]
  · cases h
theorem sameL_eq:∀ {a b:qal},qdJ a b=true→a=b:=by
  intro a
  induction a with
  | nil=>intro b h; cases b with
    | nil=>rfl
    | cons=>cases h
  | cons x xs ih=>intro b h; cases b with
    | nil=>cases h
    | cons y ys=>simp only[qdJ,Bool.and_eq_true] at h; rw[same1_eq h.1,ih h.2]
theorem sameO_eq {a b:Option qal} (h:qcY a b=true):a=b:=by
  unfold qcY at h
  split at h
  · rw[sameL_eq h]
  · cases h
theorem modsAt_same {H:Heap}:∀ {ms:List (Nm × Option qal)},(∀ m ∈ ms,H m.1=m.2)→qbN H ms=H:=by
  intro ms
  induction ms with
  | nil=>intro _; rfl
  | cons m ms ih =>
    intro h
    obtain ⟨n,x⟩:=m
    funext k
    simp only[qbN]
    rw[ih fun m hm=>h m (by simp[hm])]
    split
    · rename_i e; subst e; exact (h (k,x) (by simp)).symm
    · rfl
theorem trimO_some {t:Bool} {H:Heap} {r':Option Out} {r:Out} (h:qdp t H r'=some r):∃ r0,r'=some r0∧r.val=r0.val∧∀ base,qbv base r H=qbv base r0 H:=by
  unfold qdp at h
  split at h
  · simp only [zJ] at h
    obtain ⟨r0,h0,h1⟩:=h
    refine ⟨r0,h0,?_⟩
    split at h1
    · rename_i hs
      subst h1
      refine ⟨rfl,fun base => ?_⟩
      simp only[List.all_eq_true] at hs
      have:=modsAt_same (H:=H) (ms:=r0.mods) fun m hm=>sameO_eq (hs m hm)
      funext n
      simp only[qbv,this]
      rfl
    · subst h1; exact ⟨rfl,fun _=>rfl⟩
  · exact ⟨r,h,rfl,fun _=>rfl⟩
theorem OpOk.trim {H:Heap} {base:Nat} {o:Oper} {a:Act} {r r0:Out} (h:OpOk P R p H w base o a r0) (h1:r.val=r0.val) (h2:∀ base,qbv base r H=qbv base r0 H):OpOk P R p H w base o a r:=by
  intro K Q hK
  refine h K Q ?_
  rw[←h1,←h2 base]
  exact hK
theorem OpOk.frame {H H₁:Heap} {base:Nat} {o:Oper} {a:Act} {r:Out} (hs:Sim R p H w) (hsub:∀ n cs,H₁ n=some cs→H n=some cs) (h:OpOk P R p H₁ w base o a r)
    (hfree:∀ k,p (base,k)=none):OpOk P R p H w base o a r:=by
  intro K Q hK
  refine h K Q ?_
  intro v w' R' p' q1 q2 q3 q4 q5
  obtain ⟨f1,f2⟩:=hs.frame hsub q2 q3 q4 (qbv base r H) (by
    intro n cs hn
    by_cases e:H₁ n=H n
    · left; rw[qej e]; exact hn
    · cases h1:H₁ n with
      | some ds=>rw[hsub n ds h1] at e; exact absurd h1 e
      | none =>
        by_cases h2:(n.1=base∧n.2 < r.news.length)∨n ∈ r.mods.map (·.1)
        · left
          rw[←hn]
          unfold qbv
          split
          · rfl
          · rename_i h3
            exact modsAt_on _ (h2.resolve_left h3)
        · right
          refine ⟨rfl,?_⟩
          simp only[not_or] at h2
          unfold qbv at hn
          rw[if_neg h2.1,qgv _ h2.2] at hn
          exact hn)
  exact hK v w' R' p' q1 f1 f2 q4 q5
theorem region_any (hE:CalOk P E) {ops:Array Oper} {los:List LOper} {st st':St} {a:Act} (hg:qdr E.gl R) (hord:orderOk ops (qcB ops.toList)=true)
    (hc:qcv P ops true (qcB ops.toList) 0 ops.toList=some los) (he:qbw E st.nx 0 los [] st=some st') (hr:Rep R p st.tm a.tmps.toList) (hs:Sim R p st.H w)
    (hf:∀ n,st.nx≤n.1→p n=none) {Q:Exit→Act→World→Prop}
    (hQ:∀ R' p' a' w',Aft R p st.H w a st.nx st'.tm st'.H R' p' a' w'→(∀ n,st.nx+ops.size≤n.1→p' n=none)→Q .normal a' w') :
    wpAny P .any ops Q ops.size (Array.replicate ops.size false) a w:=by
  obtain ⟨es,q1,q2,q3,_,q5,q6⟩:=trace st.nx los 0 [] st st' he
  obtain ⟨hlen,hget⟩:=compOpers_get _ _ _ hc
  have hesn:es.length=ops.size:=by rw[q1,hlen]; simp
  simp only[orderOk,Bool.and_eq_true,List.all_eq_true] at hord
  obtain ⟨hlow0,hpair0⟩:=hord
  have hlow:∀ (k:Nat) (o:Oper),ops.toList[k]? = some o→∀ e ∈ o.after,Region.binds .any e=true→e.on < k:=by
    intro k o hk e hea hb
    have:=hlow0 (o,k) (List.mem_zipIdx_iff_getElem?.2 hk)
    simp only[Array.all_eq_true_iff_forall_mem] at this
    have:=this e hea
    simp only[hb,Bool.not_true,Bool.false_or,decide_eq_true_eq] at this
    exact this
  have hpair:∀ (i j:Nat) (oi oj:Oper),i < j→ops.toList[i]? = some oi→ops.toList[j]? = some oj→((qcB ops.toList).getD j 0).testBit i=true∨oi.apart ops oj=true:=by
    intro i j oi oj hij hi hj
    have:=hpair0 (oj,j) (List.mem_zipIdx_iff_getElem?.2 hj) (oi,i) (List.mem_zipIdx_iff_getElem?.2 hi)
    simp only[hij,decide_true,Bool.not_true,Bool.false_or,pairOk,Bool.or_eq_true] at this
    exact this
  have hent : ∀ (k : Nat) (o : Oper), ops.toList[k]? = some o → ∃ e lo, es[k]? = some e ∧ los[k]? = some lo ∧ e.i = k ∧ qeR P ops true (qcB ops.toList) k o = some lo ∧
      EntOk E st.nx (runS st.nx (fun j=>decide (j < k)) es (st.tm,st.H)) lo e:=by
    intro k o hk
    obtain ⟨lo,h1,h2⟩:=hget k o hk
    have hlt:k < es.length:=by rw[hesn]; have:=(List.getElem?_eq_some_iff.1 hk).1; simpa using this
    have h3:=List.getElem?_eq_getElem hlt
    refine ⟨es[k],lo,h3,h1,by simpa using q2 k _ h3,by simpa using h2,?_⟩
    have:=q3 k _ lo h3 h1
    simpa using this
  have hmem:∀ e ∈ es,∃ (o:Oper),ops.toList[e.i]? = some o∧es[e.i]? = some e:=by
    intro e hee
    obtain ⟨k,hk⟩:=List.getElem?_of_mem hee
    have h1:=q2 k e hk
    simp at h1
    have hlt:=(List.getElem?_eq_some_iff.1 hk).1
    subst h1
    exact ⟨ops.toList[e.i]'(by simp; omega),List.getElem?_eq_getElem (by simp; omega),hk⟩
  have main : ∀ (fuel : Nat) (listed : Array Bool) (rem : List Nat) (a' : Act) (w' : World) (R' : Imm) (p' : qa0), listed.size = ops.size → rem.length ≤ fuel →
      (∀ k,k < ops.size→listed.getD k true=false→k ∈ rem)→(∀ k ∈ rem,listed.getD k true=false) →
      (∀ k o,ops.toList[k]? = some o→listed.getD k false=true→∀ m,((qcB ops.toList).getD k 0).testBit m=true→listed.getD m false=true) →
      Aft R p st.H w a st.nx (runS st.nx (fun k=>listed.getD k false) es (st.tm,st.H)).1 (runS st.nx (fun k=>listed.getD k false) es (st.tm,st.H)).2 R' p' a' w' →
      (∀ n x,p' n=some x→n.1 < st.nx∨∃ k,k < ops.size∧n.1=st.nx+k∧listed.getD k false=true)→wpAny P .any ops Q fuel listed a' w':=by
    have fin : ∀ (listed : Array Bool) (a' : Act) (w' : World) (R' : Imm) (p' : qa0), listed.size = ops.size → (∀ k, k < ops.size → listed.getD k false = true) →
        Aft R p st.H w a st.nx (runS st.nx (fun k=>listed.getD k false) es (st.tm,st.H)).1 (runS st.nx (fun k=>listed.getD k false) es (st.tm,st.H)).2 R' p' a' w' →
        (∀ n x,p' n=some x→n.1 < st.nx∨∃ k,k < ops.size∧n.1=st.nx+k∧listed.getD k false=true)→Q .normal a' w':=by
      intro listed a' w' R' p' hsz hall haft hpl
      have e1:runS st.nx (fun k=>listed.getD k false) es (st.tm,st.H)=(st'.tm,st'.H):=by
        rw[q6]
        apply qfj
        intro e hee
        obtain ⟨o,ho,_⟩:=hmem e hee
        have:=(List.getElem?_eq_some_iff.1 ho).1
        exact hall e.i (by simpa using this)
      rw[e1] at haft
      refine hQ R' p' a' w' haft ?_
      intro n hn
      cases hp:p' n with
      | none=>rfl
      | some x =>
        rcases hpl n x hp with h | ⟨k,hk,h,_⟩ <;> omega
    have flip:∀ (listed:Array Bool) (k:Nat),k < listed.size→(listed.getD k true=false↔listed.getD k false=false):=by
      intro listed k hk
      simp[Array.getD_eq_getD_getElem?,hk]
    have allOf:∀ (listed:Array Bool),listed.size=ops.size→Region.ready .any ops listed=[]→∀ k,k < ops.size→listed.getD k false=true:=by
      intro listed hsz hr k
      induction k using Nat.strongRecOn with
      | _ k ih =>
        intro hk
        cases hl:listed.getD k false with
        | true=>rfl
        | false =>
          exfalso
          have hin:k ∈ Region.ready .any ops listed:=by
            rw[mem_ready]
            refine ⟨(flip listed k (by omega)).2 hl,ops[k],Array.getElem?_eq_getElem hk,fun e hea hb => ?_⟩
            have hlt:=hlow k ops[k] (by simp[hk]) e hea hb
            exact ih e.on hlt (by omega)
          rw[hr] at hin; cases hin
    intro fuel
    induction fuel with
    | zero =>
      intro listed rem a' w' R' p' hsz hrem h1 h2 hcl haft hpl
      have hrem0:rem=[]:=List.eq_nil_of_length_eq_zero (by omega)
      subst hrem0
      have hall:∀ k,k < ops.size→listed.getD k false=true:=by
        intro k hk
        cases hl:listed.getD k false with
        | true=>rfl
        | false=>exact absurd (h1 k hk ((flip listed k (by omega)).2 hl)) (by simp)
      refine ⟨?_,fin listed a' w' R' p' hsz hall haft hpl⟩
      cases hr':Region.ready .any ops listed with
      | nil=>rfl
      | cons k l =>
        exfalso
        have hin:k ∈ Region.ready .any ops listed:=by rw[hr']; simp
        obtain ⟨h3,o,ho,_⟩:=mem_ready.1 hin
        have hk:=(Array.getElem?_eq_some_iff.1 ho).1
        rw[flip listed k (by omega),hall k hk] at h3
        cases h3
    | succ fuel ih =>
      intro listed rem a' w' R' p' hsz hrem h1 h2 hcl haft hpl
      refine ⟨fun hr'=>fin listed a' w' R' p' hsz (allOf listed hsz hr') haft hpl,?_⟩
      intro i hi
      obtain ⟨hi1,o,ho,hi2⟩:=mem_ready.1 hi
      have hilt:=(Array.getElem?_eq_some_iff.1 ho).1
      have hi1':listed.getD i false=false:=(flip listed i (by omega)).1 hi1
      have hol:ops.toList[i]? = some o:=by simpa using ho
      obtain ⟨e,lo,he1,hl1,hei,hcomp,hok⟩:=hent i o hol
      obtain ⟨c1,c2,c3,c4,c5⟩:=qdd hcomp
      have qdq:∀ m,((qcB ops.toList).getD i 0).testBit m=true→listed.getD m false=true:=by
        intro m hm
        obtain ⟨ed,hed,hb,hm'⟩:=qhE hlow hol hm
        have hon:=hi2 ed hed hb
        have hlt:=hlow i o hol ed hed hb
        rcases hm' with rfl | hm'
        · exact hon
        · exact hcl ed.on ops[ed.on] (by simp) hon m hm'
      have behind:∀ k ok,ops.toList[k]? = some ok→listed.getD k false=true→((qcB ops.toList).getD k 0).testBit i=false:=by
        intro k ok hk hl
        cases hb:((qcB ops.toList).getD k 0).testBit i with
        | false=>rfl
        | true=>rw[hcl k ok hk hl i hb] at hi1'; cases hi1'
      have slots:∀ t ∈ o.looksAt ops,(runS st.nx (fun k=>listed.getD k false) es (st.tm,st.H)).1[t]? = (runS st.nx (fun k=>decide (k < i)) es (st.tm,st.H)).1[t]? := by
        intro t ht
        apply runS_slot st.nx es _ _ _ rfl rfl
        intro e' he' hd
        obtain ⟨o',ho',hx'⟩:=hmem e' he'
        obtain ⟨e2,lo2,g1,g2,g3,g4,g5⟩:=hent e'.i o' ho'
        rw[hx'] at g1
        obtain rfl:=Option.some.inj g1
        have hdst:o'.dst=some t:=by rw[←(qdd g4).2.2.1,←g5.1]; exact hd
        rcases Nat.lt_trichotomy e'.i i with h | h | h
        · rw [decide_eq_true h]
          rcases hpair e'.i i o' o h ho' hol with hb | hb
          · exact qdq _ hb
          · exact absurd ht ((Oper.apart_spec hb).1 t hdst)
        · rw[h,hi1',decide_eq_false (zY i)]
        · rw [decide_eq_false (by omega)]
          rcases hpair i e'.i o o' h hol ho' with hb | hb
          · cases hl:listed.getD e'.i false with
            | false=>rfl
            | true=>rw[behind e'.i o' ho' hl] at hb; cases hb
          · exact absurd ht ((Oper.apart_spec hb).2.2 t hdst)
      have affInfo:∀ (e':Ent),e' ∈ es→∀ n,Aff st.nx e' n→n.1=st.nx+e'.i∨(e'.heap=true∧n ∈ e'.wrote∧n ∈ e'.saw∧∃ lo',los[e'.i]? = some lo'∧lo'.ord=some ((qcB ops.toList).getD e'.i 0)):=by
        intro e' he' n ha
        obtain ⟨o',ho',hx'⟩:=hmem e' he'
        obtain ⟨e2,lo2,g1,g2,g3,g4,g5⟩:=hent e'.i o' ho'
        rw[hx'] at g1
        obtain rfl:=Option.some.inj g1
        obtain ⟨r,hr1,hr2⟩:=ha
        rcases hr2 with hr2 | hr2
        · exact .inl hr2
        · right
          obtain ⟨d1,d2,d3,d4,d5⟩:=qdd g4
          rcases g5.2 with ⟨_,z,_⟩ | ⟨_,r',z1,z2⟩
          · rw[hr1] at z; cases z
          · rw [hr1] at z1
            obtain rfl:=Option.some.inj z1
            rcases z2 with ⟨y1,y2,y3⟩ | ⟨b,y1,y2,y3,y4,y5⟩
            · have hl := mods_light ((d5 y1).resolve_left (by simp)) y3
              rw[hl] at hr2; simp at hr2
            · refine ⟨y2, by simp only [Ent.wrote, hr1]; exact hr2, ?_, lo2, g2, ?_⟩
              · obtain ⟨q, hq, rfl⟩ := List.mem_map.1 hr2
                exact y4 q hq
              · rcases d4 with d4 | ⟨_, _, d4⟩
                · rw[d4] at y1; cases y1
                · exact d4
      have sawInfo:∀ (e':Ent),e' ∈ es→e'.heap=true→∀ n ∈ e'.saw,n.1 < st.nx∨((qcB ops.toList).getD e'.i 0).testBit (n.1 - st.nx)=true:=by
        intro e' he' hh n hn
        obtain ⟨o',ho',hx'⟩:=hmem e' he'
        obtain ⟨e2,lo2,g1,g2,g3,g4,g5⟩:=hent e'.i o' ho'
        rw[hx'] at g1
        obtain rfl:=Option.some.inj g1
        obtain ⟨d1,d2,d3,d4,d5⟩:=qdd g4
        rcases g5.2 with ⟨_,_,z⟩ | ⟨_,r',z1,z2⟩
        · rw[hh] at z; cases z
        · rcases z2 with ⟨y1, y2, y3⟩ | ⟨b, y1, y2, y3, y4, y5⟩
          · rw[hh] at y2; cases y2
          · rcases d4 with d4 | ⟨_, _, d4⟩
            · rw[d4] at y1; cases y1
            · rw [d4] at y1
              obtain rfl:=Option.some.inj y1
              exact y5 n hn
      have free:∀ (e1 e2:Ent),e1 ∈ es→e2 ∈ es→e1.i < e2.i→e1.heap=true→e2.heap=true→Free e1.i e1.saw e1.wrote e2 ((qcB ops.toList).getD e2.i 0):=by
        intro e1 e2 m1 m2 hlt h1 h2
        obtain ⟨o1,ho1,hx1⟩:=hmem e1 m1
        obtain ⟨o2,ho2,hx2⟩:=hmem e2 m2
        obtain ⟨e3,lo3,g1,g2,g3,g4,g5⟩:=hent e2.i o2 ho2
        rw[hx2] at g1
        obtain rfl:=Option.some.inj g1
        obtain ⟨d1,d2,d3,d4,d5⟩:=qdd g4
        have hord:lo3.ord=some ((qcB ops.toList).getD e2.i 0):=by
          rcases d4 with d4 | ⟨_,_,d4⟩
          · exfalso
            rcases g5.2 with ⟨_,_,z⟩ | ⟨_,r',z1,z2⟩
            · rw[h2] at z; cases z
            · rcases z2 with ⟨_, y2, _⟩ | ⟨b, y1, _⟩
              · rw[h2] at y2; cases y2
              · rw[d4] at y1; cases y1
          · exact d4
        exact q5 e1.i e2.i e1 e2 lo3 _ hlt hx1 hx2 g2 hord h1 h2
      have emem:e ∈ es:=List.mem_of_getElem? he1
      have aheadLt:∀ k ok,ops.toList[k]? = some ok→∀ m,((qcB ops.toList).getD k 0).testBit m=true→m < k:=fun k ok hk m hm=>aheads_lt hlow k m ok hk hm
      have sees:e.heap=true→∀ n ∈ e.saw,(runS st.nx (fun k=>listed.getD k false) es (st.tm,st.H)).2 n=(runS st.nx (fun k=>decide (k < i)) es (st.tm,st.H)).2 n:=by
        intro hh n hn
        apply runS_heap st.nx es _ _ _ rfl
        intro e' he' ha
        obtain ⟨o',ho',hx'⟩:=hmem e' he'
        have hsaw:=sawInfo e emem hh n hn
        rw[hei] at hsaw
        rcases affInfo e' he' n ha with h | ⟨k1,k2,k3,_⟩
        ·
          have hb:((qcB ops.toList).getD i 0).testBit e'.i=true:=by
            rcases hsaw with h' | h'
            · omega
            · rw[h,zg] at h'; exact h'
          have hlt:=aheadLt i o hol _ hb
          rw[qdq _ hb,decide_eq_true hlt]
        · rcases Nat.lt_trichotomy e'.i i with h | h | h
          · rw [decide_eq_true h]
            rcases free e' e he' emem (by omega) k1 hh with hb | ⟨hb,_⟩
            · rw[hei] at hb; exact qdq _ hb
            · exact absurd hn (hb n k2)
          · rw[h,hi1',decide_eq_false (zY i)]
          · rw [decide_eq_false (by omega)]
            rcases free e e' emem he' (by omega) hh k1 with hb | ⟨_,hb⟩
            · rw [hei] at hb
              cases hl:listed.getD e'.i false with
              | false=>rfl
              | true=>rw[behind e'.i o' ho' hl] at hb; cases hb
            · exact absurd hn (hb n k2)
      have push:runS st.nx (fun k=>(listed.setIfInBounds i true).getD k false) es (st.tm,st.H)=qbG st.nx e (runS st.nx (fun k=>listed.getD k false) es (st.tm,st.H)):=by
        have hsplit:es=es.take i++e::es.drop (i+1):=by
          obtain ⟨hlt,heq⟩:=List.getElem?_eq_some_iff.1 he1
          rw[←heq,List.getElem_cons_drop,List.take_append_drop]
        have app:∀ (S:Nat→Bool) (xs ys:List Ent) (s:S2),runS st.nx S (xs++ys) s=runS st.nx S ys (runS st.nx S xs s):=by
          intro S xs
          induction xs with
          | nil=>intro ys s; rfl
          | cons x xs ihx=>intro ys s; simp only[zS,runS]; exact ihx ys _
        have hset:∀ k,k≠i→(listed.setIfInBounds i true).getD k false=listed.getD k false:=fun k hk=>getD_set_ne false (fun e=>hk e.symm)
        have hseti:(listed.setIfInBounds i true).getD i false=true:=by simp[Array.getD_eq_getD_getElem?,hsz,hilt]
        have ne1:∀ x ∈ es.take i,x.i≠i:=by
          intro x hx
          obtain ⟨k,hk⟩:=List.getElem?_of_mem hx
          rw[List.getElem?_take] at hk
          split at hk
          · have:=q2 k x hk; omega
          · cases hk
        have ne2:∀ x ∈ es.drop (i+1),i < x.i:=by
          intro x hx
          obtain ⟨k,hk⟩:=List.getElem?_of_mem hx
          rw[List.getElem?_drop] at hk
          have:=q2 _ x hk; omega
        conv=>lhs; rw[hsplit]
        conv=>rhs; rw[hsplit]
        rw[app,app]
        simp only[runS,hei,hseti,hi1',zG,zP,zM]
        rw[qfj (S':=fun k=>listed.getD k false) st.nx (es.take i) _ (fun x hx=>hset x.i (ne1 x hx)),qfj (S':=fun k=>listed.getD k false) st.nx (es.drop (i+1)) _ (fun x hx=>hset x.i (by have:=ne2 x hx; omega))]
        apply qgY
        intro e' he' hS
        have hgt:=ne2 e' he'
        have he'm:e' ∈ es:=List.mem_of_mem_drop he'
        obtain ⟨o',ho',hx'⟩:=hmem e' he'm
        have hnb:=behind e'.i o' ho' hS
        obtain ⟨e2,lo2,g1,g2,g3,g4,g5⟩:=hent e'.i o' ho'
        rw[hx'] at g1
        obtain rfl:=Option.some.inj g1
        refine ⟨?_,?_⟩
        · intro t ht hd
          rcases hpair i e'.i o o' hgt hol ho' with hb | hb
          · rw[hnb] at hb; cases hb
          · have h1 : o.dst = some t := by rw [← c3, ← hok.1]; exact ht
            have h2:o'.dst=some t:=by rw[←(qdd g4).2.2.1,←g5.1]; exact hd
            exact (Oper.apart_spec hb).2.1 t h1 h2
        · rintro n ⟨ha1, ha2⟩
          rcases affInfo e emem n ha1 with h1 | ⟨k1,k2,k3,_⟩ <;> rcases affInfo e' he'm n ha2 with h2 | ⟨m1,m2,m3,_⟩
          · omega
          · rcases sawInfo e' he'm m1 n m3 with h' | h'
            · omega
            · rw[h1,hei,zg,hnb] at h'; cases h'
          · rcases sawInfo e emem k1 n k3 with h' | h'
            · omega
            · rw [h2, hei, zg] at h'
              have:=aheadLt i o hol _ h'
              omega
          · rcases free e e' emem he'm (by omega) k1 m1 with hb | ⟨hb, _⟩
            · rw[hei,hnb] at hb; cases hb
            · exact hb n k2 m3
      have cont : ∀ (a'' : Act) (w'' : World) (R'' : Imm) (p'' : qa0), Aft R p st.H w a st.nx (qbG st.nx e (runS st.nx (fun k => listed.getD k false) es (st.tm, st.H))).1
            (qbG st.nx e (runS st.nx (fun k=>listed.getD k false) es (st.tm,st.H))).2 R'' p'' a'' w'' →
          (∀ n x,p'' n=some x→p' n=some x∨n.1=st.nx+i)→wpAny P .any ops Q fuel (listed.setIfInBounds i true) a'' w'':=by
        intro a'' w'' R'' p'' haft' hpl'
        have hgi:∀ k,(listed.setIfInBounds i true).getD k true=(if k=i then true else listed.getD k true):=by
          intro k
          by_cases hk:k=i
          · subst hk; simp[Array.getD_eq_getD_getElem?,hsz,hilt]
          · rw[if_neg hk]; exact getD_set_ne true (fun e=>hk e.symm)
        have hgf:∀ k,(listed.setIfInBounds i true).getD k false=(if k=i then true else listed.getD k false):=by
          intro k
          by_cases hk:k=i
          · subst hk; simp[Array.getD_eq_getD_getElem?,hsz,hilt]
          · rw[if_neg hk]; exact getD_set_ne false (fun e=>hk e.symm)
        have himem:i ∈ rem:=h1 i hilt hi1
        refine ih (listed.setIfInBounds i true) (rem.filter (· != i)) a'' w'' R'' p'' (by simp[hsz]) ?_ ?_ ?_ ?_ (by rw[push]; exact haft') ?_
        · have hlt:(rem.filter (· != i)).length < rem.length:=by
            rcases Nat.lt_or_ge (rem.filter (· != i)).length rem.length with h | h
            · exact h
            · have hle := List.length_filter_le (· != i) rem
              have:=List.length_filter_eq_length_iff.1 (Nat.le_antisymm hle h) i himem
              simp at this
          omega
        · intro k hk hl
          rw[hgi] at hl
          split at hl
          · cases hl
          · rename_i hki
            exact List.mem_filter.2 ⟨h1 k hk hl,by simpa using hki⟩
        · intro k hk
          obtain ⟨hk1,hk2⟩:=List.mem_filter.1 hk
          rw[hgi,if_neg (by simpa using hk2)]
          exact h2 k hk1
        · intro k ok hk hl m hm
          rw[hgf] at hl ⊢
          split
          · rfl
          · split at hl
            · rename_i hki
              subst hki
              exact qdq m hm
            · exact hcl k ok hk hl m hm
        · intro n x hx
          rcases hpl' n x hx with h | h
          · rcases hpl n x h with h' | ⟨k, k1, k2, k3⟩
            · exact .inl h'
            · refine .inr ⟨k, k1, k2, ?_⟩
              rw[hgf]; split
              · rfl
              · exact k3
          · exact .inr ⟨i,hilt,h,by rw[hgf,if_pos rfl]⟩
      have hfresh:∀ k,p' (st.nx+i,k)=none:=by
        intro k
        cases hp:p' (st.nx+i,k) with
        | none=>rfl
        | some x =>
          rcases hpl _ x hp with h | ⟨k',_,h,h'⟩
          · exact absurd h (by show ¬ (st.nx+i < st.nx); omega)
          · have h2 : st.nx + i = st.nx + k' := h
            obtain rfl:k'=i:=by omega
            rw[hi1'] at h'; cases h'
      have hg':qdr E.gl R':=fun g xs hx=>by obtain ⟨cs,d1,d2⟩:=hg g xs hx; exact ⟨cs,haft.ext.imm _ _ d1,d2⟩
      unfold wpOp
      simp only[ho]
      rcases hok.2 with ⟨hw,hres,_⟩ | ⟨hw,r,hres,hcase⟩
      ·
        have hw':qc5 lo.guard (runS st.nx (fun k=>listed.getD k false) es (st.tm,st.H)).1=some false:=by
          rw[←hw]; exact qgZ fun t b h=>slots t (qgN c2 h)
        have hwant:=qgu haft.rep c2 hw'
        simp only[hwant,zP,zM]
        refine cont _ _ R' p' ?_ (fun n x h => .inl h)
        have:=aft_put haft (dst:=o.dst)
        unfold qbG
        rw[hres]
        simp only
        rw[hok.1,c3]
        exact this
      · have hw':qc5 lo.guard (runS st.nx (fun k=>listed.getD k false) es (st.tm,st.H)).1=some true:=by
          rw[←hw]; exact qgZ fun t b h=>slots t (qgN c2 h)
        have hwant:=qgu haft.rep c2 hw'
        simp only[hwant,zG]
        left
        have hat:∀ x ∈ qc0 lo.op,evX E.gl (runS st.nx (fun k=>decide (k < i)) es (st.tm,st.H)).1 x=evX E.gl (runS st.nx (fun k=>listed.getD k false) es (st.tm,st.H)).1 x :=
          fun x hx=>(looksAt_atoms (E:=E) c1 slots x hx).symm
        have hop:OpOk P R' p' (runS st.nx (fun k=>listed.getD k false) es (st.tm,st.H)).2 w' (st.nx+i) o a' r:=by
          rcases hcase with ⟨y1,y2,y3⟩ | ⟨b,y1,y2,y3,y4,y5⟩
          · rw [qhi hat, hei] at y3
            have hl:=(c5 y1).resolve_left (by simp)
            rw[opRes_light (H':=fun _=>none) hl] at y3
            exact OpOk.frame haft.sim (fun n cs h=>by cases h) (op_ok hE hg' (haft.sim.sub fun n cs h=>by cases h) hfresh haft.rep c1 y3) hfresh
          · rw [qhi hat, hei, only_eq (H' := (runS st.nx (fun k => listed.getD k false) es (st.tm, st.H)).2) (fun n hn => (sees y2 n hn).symm)] at y3
            obtain ⟨r0,t1,t2,t3⟩:=trimO_some y3
            exact OpOk.frame haft.sim only_sub (OpOk.trim (op_ok hE hg' (haft.sim.sub only_sub) hfresh haft.rep c1 t1) t2 t3) hfresh
        refine hop _ Q ?_
        intro v w'' R'' p'' z1 z2 z3 z4 z5
        refine cont _ _ R'' p'' ?_ z5
        unfold qbG
        rw[hres]
        simp only
        rw[hok.1,c3,hei]
        refine ⟨put_rep (haft.rep.mono z3.imm z4) z1,z2,haft.ext.trans z3,fun n x hx=>z4 _ _ (haft.mono _ _ hx),?_,by rw[qhD]; exact haft.defers⟩
        intro n x hx
        rcases z5 n x hx with h | h
        · exact haft.fresh n x h
        · exact .inr (by omega)
  have hrep0:∀ k,(Array.replicate ops.size false).getD k false=false:=by intro k; by_cases hk:k < ops.size <;> simp[Array.getD_eq_getD_getElem?,hk]
  have hrun0:runS st.nx (fun k=>(Array.replicate ops.size false).getD k false) es (st.tm,st.H)=(st.tm,st.H):=qgW _ _ _ fun e _=>hrep0 e.i
  refine main ops.size (Array.replicate ops.size false) (List.range ops.size) a w R p (by simp) (by simp) (fun k hk _=>by simpa using hk) ?_ ?_ ?_ ?_
  · intro k hk
    have:k < ops.size:=by simpa using hk
    simp[Array.getD_eq_getD_getElem?,this]
  · intro k o _ hl; rw[hrep0] at hl; cases hl
  · rw [hrun0]
    exact ⟨hr,hs,Ext.refl _ _ _ _,fun _ _ h=>h,fun _ _ h => .inl h,rfl⟩
  · intro n x hx
    left
    rcases Nat.lt_or_ge n.1 st.nx with h | h
    · exact h
    · rw[hf n h] at hx; cases hx
end Go.LE
namespace Go.LE
variable {P:Program} {R:Imm} {p:qa0} {w:World} {E:Env}
def CRel (P:Program):Code→LCode→Prop
  | .skip,.skip=>True
  | .region _ ops draw,.region los=>qgr P ops draw=some los
  | .seq a b,.seq x y=>CRel P a x∧CRel P b y
  | .seq a b,.seqz x _ y=>CRel P a x∧CRel P b y
  | .cond c a b,.cond c' x y=>c'=qaQ c∧CRel P a x∧CRel P b y
  | .block id c,.block id' x=>id=id'∧CRel P c x
  | .loop c,.loop _ x=>CRel P c x
  | .exit i,.exit j=>i=j
  | .ret,.ret=>True
  | _,_=>False
theorem comp_rel:∀ (c:Code) (lc:LCode),comp P c=some lc→CRel P c lc:=by
  intro c
  induction c with
  | skip=>intro lc h; simp[comp] at h; subst h; trivial
  | region id ops draw=>intro lc h; simp only[comp,zJ] at h; obtain ⟨los,h,rfl⟩:=h; exact h
  | seq a b iha ihb =>
    intro lc h
    simp only[comp] at h
    split at h
    · rename_i x y h1 h2; obtain rfl:=Option.some.inj h; exact ⟨iha x h1,ihb y h2⟩
    · cases h
  | cond c a b iha ihb =>
    intro lc h
    simp only[comp] at h
    split at h
    · rename_i x y h1 h2; obtain rfl:=Option.some.inj h; exact ⟨rfl,iha x h1,ihb y h2⟩
    · cases h
  | block id c ih=>intro lc h; simp only[comp,zJ] at h; obtain ⟨x,h,rfl⟩:=h; exact ⟨rfl,ih x h⟩
  | loop c ih=>intro lc h; simp only[comp,zJ] at h; obtain ⟨x,h,rfl⟩:=h; exact ih x h
  | exit i=>intro lc h; simp[comp] at h; subst h; rfl
  | ret=>intro lc h; simp[comp] at h; subst h; trivial
  | _=>intro lc h; simp[comp] at h
theorem annot_rel {n ret:Nat}:∀ (lc:LCode) (c:Code) (out:Nat) (es:List (Nat × Nat)),CRel P c lc→CRel P c (qeh n ret lc out es).1:=by
  intro lc
  induction lc with
  | skip=>intro c out es h; exact h
  | region ops=>intro c out es h; exact h
  | seq a b iha ihb => intro c out es h; cases c <;> try exact h.elim
                       exact ⟨iha _ _ _ h.1,ihb _ _ _ h.2⟩
  | seqz a s b iha ihb => intro c out es h; cases c <;> try exact h.elim
                          exact ⟨iha _ _ _ h.1,ihb _ _ _ h.2⟩
  | cond x a b iha ihb => intro c out es h; cases c <;> try exact h.elim
                          exact ⟨h.1,iha _ _ _ h.2.1,ihb _ _ _ h.2.2⟩
  | block id x ih => intro c out es h; cases c <;> try exact h.elim
                     exact ⟨h.1,ih _ _ _ h.2⟩
  | loop keep x ih => intro c out es h; cases c <;> try exact h.elim
                      exact ih _ _ _ h
  | exit i=>intro c out es h; exact h
  | ret=>intro c out es h; exact h
theorem Sim.of_heap {H:Heap} {w':World} (h:Sim R p H w) (e:w'.heap=w.heap):Sim R p H w':=by
  refine ⟨fun n cs hn => ?_,h.inj,fun b cs hb=>by rw[e]; exact h.imm b cs hb⟩
  rcases h.obj n cs hn with h1 | ⟨b,o,s,vs,T,fz,a,l⟩
  · exact .inl h1
  · exact .inr ⟨b,o,s,vs,T,fz,a,by rw[e]; exact l.heap,l.imm,l.free,l.size,l.fits,l.rep⟩
theorem Ext.of_heap {H : Heap} {w' : World} (e : w'.heap = w.heap) (hio : w'.os = w.os ∧ w'.output = w.output ∧ w'.tape = w.tape := by exact ⟨rfl, rfl, rfl⟩) : Ext R p H w R p H w' :=
  ⟨fun _ _ h=>h,by rw[e]; exact Nat.le_refl _,fun b _ _=>by rw[e],fun _ _ h => .inl h,fun _ h => .inl h,hio⟩
theorem mask_rep:∀ (keep:List Bool) (tm:List LV) (ys:List Value),Rep R p tm ys→Rep R p (mask keep tm) ys:=by
  intro keep tm
  induction tm generalizing keep with
  | nil=>intro ys h; cases keep <;> exact h
  | cons x xs ih =>
    intro ys h
    obtain ⟨y,ys,rfl,h1,h2⟩:=h.uncons
    cases keep with
    | nil=>exact .undef (ih [] ys h2)
    | cons b bs =>
      simp only[mask]
      cases b
      · exact .undef (ih bs ys h2)
      · exact Rep.cons h1 (ih bs ys h2)
theorem qfO (H:Heap) (np:Nat) (tm:List LV):(qbE H np tm).Nodup∧∀ n ∈ qbE H np tm,n.1≠0∧∃ cs,H n=some cs:=by
  unfold qbE
  obtain ⟨h1,h2⟩:=qhC H FUEL [] ((List.range np).map (fun i=>(0,i))++tm.flatMap (nms D))
  refine ⟨(h1 List.nodup_nil).filter _,fun n hn => ?_⟩
  obtain ⟨h3,h4⟩:=List.mem_filter.1 hn
  exact ⟨by simpa using h4,(h2 n h3).resolve_left (by simp)⟩
def qcL (names:List Nm) (p:qa0):qa0:=fun n=>if n.1=0 then p n else if n.1=1 then (names[n.2]?).bind p else none
theorem qfX (names:List Nm) (p:qa0):∀ n m x,qbm names n=some m→p n=some x→qcL names p m=some x:=by
  intro n m x h1 h2
  unfold qbm at h1
  split at h1
  · rename_i h0
    obtain rfl:=Option.some.inj h1
    simp[qcL,h0,h2]
  · simp only [zJ] at h1
    obtain ⟨i,h1,rfl⟩:=h1
    have:=(idx_spec n names 0 i h1).2
    simp at this
    simp[qcL,this,h2]
theorem Sim.renamed {H H':Heap} (hs:Sim R p H w) {names:List Nm} (hnd:names.Nodup) (h0:∀ n ∈ names,n.1≠0)
    (hH:∀ n cs,H' n=some cs→(n.1=0∧∃ ds,H n=some ds∧cs=ds.map (LE.ren D (qbm names)))∨(n.1=1∧∃ m ds,names[n.2]? = some m∧H m=some ds∧cs=ds.map (LE.ren D (qbm names)))) :
    Sim R (qcL names p) H' w∧Ext R p H w R (qcL names p) H' w:=by
  have hπ:=qfX names p
  have src:∀ n cs,H' n=some cs→∃ m ds,H m=some ds∧cs=ds.map (LE.ren D (qbm names))∧qcL names p n=p m∧((n.1=0∧m=n)∨(n.1=1∧names[n.2]? = some m)):=by
    intro n cs h
    rcases hH n cs h with ⟨e,ds,h1,h2⟩ | ⟨e,m,ds,h1,h2,h3⟩
    · exact ⟨n,ds,h1,h2,by simp[qcL,e],.inl ⟨e,rfl⟩⟩
    · exact ⟨m,ds,h2,h3,by simp[qcL,e,h1],.inr ⟨e,h1⟩⟩
  refine ⟨⟨?_,?_,hs.imm⟩,⟨fun _ _ h=>h,Nat.le_refl _,fun _ _ _=>rfl,fun _ _ h => .inl h,?_,rfl,rfl,rfl⟩⟩
  · intro n cs h
    obtain ⟨m,ds,h1,rfl,h3,_⟩:=src n cs h
    rcases hs.obj m ds h1 with ⟨a,c⟩ | ⟨b,o,s,vs,T,fz,a,l⟩
    · exact .inl ⟨by rw[h3]; exact a,by rw[c]; rfl⟩
    · exact .inr ⟨b,o,s,vs,T,fz,by rw[h3]; exact a,l.heap,l.imm,l.free,l.size,by rw[zV]; exact l.fits,by rw[zV]; exact l.rep.ren hπ D⟩
  · intro n n' cs ds b o s o' s' h1 h2 h3 h4
    obtain ⟨m,d1,e1,_,e3,e4⟩:=src n cs h1
    obtain ⟨m',d2,f1,_,f3,f4⟩:=src n' ds h2
    rw[e3] at h3
    rw[f3] at h4
    have hm:=hs.inj m m' d1 d2 b o s o' s' e1 f1 h3 h4
    subst hm
    obtain ⟨n1,n2⟩:=n
    obtain ⟨k1,k2⟩:=n'
    rcases e4 with ⟨g1,rfl⟩ | ⟨g1,g2⟩ <;> rcases f4 with ⟨i1,i2⟩ | ⟨i1,i2⟩
    · rw[i2]
    · exact absurd g1 (h0 _ (List.mem_of_getElem? i2))
    · subst i2; exact absurd i1 (h0 _ (List.mem_of_getElem? g2))
    · simp at g1 i1 g2 i2
      subst g1 i1
      obtain ⟨q1,q2⟩:=List.getElem?_eq_some_iff.1 g2
      obtain ⟨q3,q4⟩:=List.getElem?_eq_some_iff.1 i2
      rw[qgU hnd q1 q3 (q2.trans q4.symm)]
  · rintro b ⟨n, cs, o, s, h1, h2⟩
    obtain ⟨m,ds,e1,_,e3,_⟩:=src n cs h1
    rw[e3] at h2
    exact .inl ⟨m,ds,o,s,e1,h2⟩
structure CAft (R:Imm) (p:qa0) (H:Heap) (w:World) (a:Act) (st:St) (R':Imm) (p':qa0) (a':Act) (w':World):Prop where
  rep:Rep R' p' st.tm a'.tmps.toList
  sim:Sim R' p' st.H w'
  ext:Ext R p H w R' p' st.H w'
  fresh:∀ n,st.nx≤n.1→p' n=none
  zero:∀ k,p' (0,k)=p (0,k)
  two:2≤st.nx
  defers:a'.defers=a.defers
theorem CAft.canon {H:Heap} {a:Act} {st:St} {R':Imm} {p':qa0} {a':Act} {w':World} (h:CAft R p H w a st R' p' a' w') (keep:List Bool) :
    ∃ p'',CAft R p H w a (qa8 keep st) R' p'' a' w':=by
  obtain ⟨h1,h2⟩:=qfO st.H st.np (mask keep st.tm)
  obtain ⟨s1,s2⟩:=h.sim.renamed (H':=(LE.qa8 keep st).H) h1 (fun n hn=>(h2 n hn).1) (by
    intro n cs hn
    simp only[LE.qa8] at hn
    split at hn
    · rename_i h0
      simp only[zJ] at hn
      obtain ⟨ds,h3,rfl⟩:=hn
      exact .inl ⟨h0,ds,h3,rfl⟩
    · split at hn
      · rename_i h0
        split at hn
        · rename_i m hm
          simp only[zJ] at hn
          obtain ⟨ds,h3,rfl⟩:=hn
          exact .inr ⟨h0,m,ds,hm,h3,rfl⟩
        · cases hn
      · cases hn)
  refine ⟨qcL (qbE st.H st.np (mask keep st.tm)) p',?_,s1,h.ext.trans s2,?_,?_,Nat.le_refl _,h.defers⟩
  · exact (mask_rep keep _ _ h.rep).ren (qfX _ _) D
  · intro n hn
    have:2≤n.1:=hn
    simp only[qcL]
    rw[if_neg (by omega),if_neg (by omega)]
  · intro k
    simp only[qcL,zG]
    exact h.zero k
theorem CAft.fz {H:Heap} {a:Act} {st:St} {R':Imm} {p':qa0} {a':Act} {w':World} (h:CAft R p H w a st R' p' a' w') (s:Nat) :
    ∃ R'',CAft R p H w a (fzSt s st) R'' p' a' w':=by
  unfold fzSt
  split
  · rename_i v ms he
    cases hq:st.tm[s]? with
    | none =>
      have e:st.tm.getD s .undef = .undef:=by simp[List.getD,hq]
      rw[e] at he
      simp[qdT,frozenOf] at he
    | some x =>
      have e:st.tm.getD s .undef=x:=by simp[List.getD,hq]
      rw[e] at he
      obtain ⟨y,h1,h2⟩:=h.rep.get hq
      obtain ⟨R1,r1,r2,r3,r4⟩:=qgL h.sim [x] [v] ms [y] he h2
      refine ⟨R1,?_,r2,h.ext.trans r3,h.fresh,h.zero,h.two,h.defers⟩
      have hset:=(h.rep.mono r3.imm (fun _ _ h=>h)).set s r1
      have e2:a'.tmps.toList.set s y=a'.tmps.toList:=by
        apply List.ext_getElem?
        intro i
        rw[List.getElem?_set]
        split
        · rename_i hi; subst hi
          split
          · exact h1.symm
          · rename_i hlt
            rw[List.getElem?_eq_none (by omega)]
        · rfl
      rw[e2] at hset
      exact hset
  · exact ⟨R',h⟩
def exOf:Ex→Exit
  | .normal => .normal
  | .exit i => .exit i
  | .ret => .ret
theorem CAft.of_aft {H:Heap} {a:Act} {st st':St} {R₁ R':Imm} {p₁ p':qa0} {a₁ a':Act} {w₁ w':World} (h:CAft R p H w a st R₁ p₁ a₁ w₁) {n:Nat}
    (h':Aft R₁ p₁ st.H w₁ a₁ st.nx st'.tm st'.H R' p' a' w') (hf:∀ m,st.nx+n≤m.1→p' m=none):CAft R p H w a { st' with nx:=st.nx+n } R' p' a' w':=by
  refine ⟨h'.rep,h'.sim,h.ext.trans h'.ext,hf,fun k => ?_,Nat.le_trans h.two (Nat.le_add_right _ _),h'.defers.trans h.defers⟩
  rw[←h.zero k]
  cases hp:p₁ (0,k) with
  | some x=>exact h'.mono _ _ hp
  | none =>
    cases hp':p' (0,k) with
    | none=>rfl
    | some x =>
      rcases h'.fresh _ _ hp' with e | e
      · rw[hp] at e; cases e
      · have:=h.two; simp at e; omega
theorem qgO {ops:Array Oper} {draw:Bool} {as:List Nat}:∀ (os:List Oper) (i:Nat) (los:List LOper),qcv P ops draw as i os=some los→los.length=os.length:=by
  intro os
  induction os with
  | nil=>intro i los h; simp[qcv] at h; subst h; rfl
  | cons o os ih =>
    intro i los h
    simp only[qcv] at h
    split at h
    · rename_i x xs h1 h2
      obtain rfl:=Option.some.inj h
      simp[ih _ _ h2]
    · cases h
theorem ev_sound (hE:CalOk P E) {R:Imm} {p:qa0} {H:Heap} {w:World} {a:Act} (hg:qdr E.gl R) (k:Nat):∀ (c:Code) (lc:LCode),CRel P c lc →
    ∀ (st:St) (R':Imm) (p':qa0) (a':Act) (w':World) (ex:Ex) (st':St),CAft R p H w a st R' p' a' w'→ev E k lc st=some (ex,st') →
    ∀ Q:Exit→Act→World→Prop,(∀ R'' p'' a'' w'',CAft R p H w a st' R'' p'' a'' w''→Q (exOf ex) a'' w'')→c.wp P Q a' w':=by
  intro c
  induction c with
  | skip =>
    intro lc hc st R' p' a' w' ex st' h he Q hQ
    cases lc <;> first | exact hc.elim | skip
    simp only[ev,Option.some.injEq,za] at he
    obtain ⟨rfl,rfl⟩:=he
    exact wp_skip (hQ _ _ _ _ h)
  | region id ops draw =>
    intro lc hc st R' p' a' w' ex st' h he Q hQ
    cases lc <;> first | exact hc.elim | skip
    rename_i los
    simp only[CRel,qgr] at hc
    simp only[ev,evRegion,zJ,za] at he
    obtain ⟨st2,⟨st1,he,rfl⟩,rfl,rfl⟩:=he
    have hg':qdr E.gl R':=fun g xs hx=>by obtain ⟨cs,c1,c2⟩:=hg g xs hx; exact ⟨cs,h.ext.imm _ _ c1,c2⟩
    cases draw with
    | false =>
      have hc:qcv P ops false [] 0 ops.toList=some los:=by simpa using hc
      have hlen:los.length=ops.size:=by simpa using qgO _ _ _ hc
      rw[hlen] at hQ
      refine wp_region ?_
      have := opers_seq hE (ops := ops) (base0 := st.nx) (lim := st.nx) (a := a') (w := w') (p := p') (H := st.H) hg' (Nat.le_refl _) (Q := Q) ops.toList 0 los [] st st1 R' p' a' w' rfl hc he
        ⟨h.rep,h.sim,Ext.refl _ _ _ _,fun _ _ h=>h,fun _ _ h => .inl h,rfl⟩ h.fresh (fun R'' p'' a'' w'' q1 q2=>hQ _ _ _ _ (h.of_aft q1 (by simpa using q2)))
      rw[List.range_eq_range']
      simpa using this
    | true =>
      have hc':(P.follows .mixedOrders=true∧orderOk ops (qcB ops.toList)=true)∧qcv P ops true (qcB ops.toList) 0 ops.toList=some los:=by
        simp only[Bool.not_true,Bool.false_or,zG] at hc
        split at hc
        · rename_i hd
          exact ⟨by simpa using hd,hc⟩
        · cases hc
      obtain ⟨hd,hc⟩:=hc'
      have hlen:los.length=ops.size:=by simpa using qgO _ _ _ hc
      rw[hlen] at hQ
      refine wp_region_any hd.1 ?_
      refine region_any (w:={ w' with drawn:=w'.drawn+1 }) hE hg' hd.2 hc he h.rep (h.sim.of_heap rfl) h.fresh ?_
      intro R'' p'' a'' w'' q1 q2
      refine hQ _ _ _ _ (h.of_aft ⟨q1.rep,q1.sim,?_,q1.mono,q1.fresh,q1.defers⟩ q2)
      exact (Ext.of_heap (w:=w') (w':={ w' with drawn:=w'.drawn+1 }) rfl).trans q1.ext
  | seq x y ihx ihy =>
    intro lc hc st R' p' a' w' ex st' h he Q hQ
    cases lc <;> first | exact hc.elim | skip
    · rename_i lx ly
      simp only[ev] at he
      refine wp_seq ?_
      cases hx:ev E k lx st with
      | none=>simp[hx,qcJ] at he
      | some r =>
        obtain ⟨e1,st1⟩:=r
        refine ihx lx hc.1 st R' p' a' w' e1 st1 h hx _ ?_
        intro R'' p'' a'' w'' h1
        rw[hx] at he
        cases e1 with
        | normal=>exact ihy ly hc.2 st1 R'' p'' a'' w'' ex st' h1 he Q hQ
        | exit i =>
          simp only[qcJ,Option.some.injEq,za] at he
          obtain ⟨rfl,rfl⟩:=he
          exact hQ _ _ _ _ h1
        | ret =>
          simp only[qcJ,Option.some.injEq,za] at he
          obtain ⟨rfl,rfl⟩:=he
          exact hQ _ _ _ _ h1
    · rename_i lx s ly
      simp only[ev] at he
      refine wp_seq ?_
      cases hx:ev E k lx st with
      | none=>simp[hx,qcJ] at he
      | some r =>
        obtain ⟨e1,st1⟩:=r
        refine ihx lx hc.1 st R' p' a' w' e1 st1 h hx _ ?_
        intro R'' p'' a'' w'' h1
        rw[hx] at he
        cases e1 with
        | normal =>
          obtain ⟨Rz,hz⟩:=h1.fz s
          exact ihy ly hc.2 _ Rz p'' a'' w'' ex st' hz he Q hQ
        | exit i =>
          simp only[qcJ,Option.some.injEq,za] at he
          obtain ⟨rfl,rfl⟩:=he
          exact hQ _ _ _ _ h1
        | ret =>
          simp only[qcJ,Option.some.injEq,za] at he
          obtain ⟨rfl,rfl⟩:=he
          exact hQ _ _ _ _ h1
  | cond c x y ihx ihy =>
    intro lc hc st R' p' a' w' ex st' h he Q hQ
    cases lc <;> first | exact hc.elim | skip
    rename_i lc' lx ly
    obtain ⟨rfl,h1,h2⟩:=hc
    have hg':qdr E.gl R':=fun g xs hx=>by obtain ⟨cs,c1,c2⟩:=hg g xs hx; exact ⟨cs,h.ext.imm _ _ c1,c2⟩
    simp only[ev] at he
    split at he
    · rename_i t ht
      have hv:=evX_rep hg' h.rep c
      rw[ht] at hv
      have hv:a'.eval c = .bool t:=by
        generalize a'.eval c=y at hv
        cases hv; rfl
      cases t with
      | true=>exact wp_cond_true hv (ihx lx h1 st R' p' a' w' ex st' h (by simpa using he) Q hQ)
      | false=>exact wp_cond_false hv (ihy ly h2 st R' p' a' w' ex st' h (by simpa using he) Q hQ)
    · cases he
  | block id c ih =>
    intro lc hc st R' p' a' w' ex st' h he Q hQ
    cases lc <;> first | exact hc.elim | skip
    rename_i id' lx
    obtain ⟨rfl,h1⟩:=hc
    refine wp_block ?_
    simp only[ev] at he
    cases hx:ev E k lx st with
    | none=>simp[hx,qd3] at he
    | some r =>
      obtain ⟨e1,st1⟩:=r
      refine ih lx h1 st R' p' a' w' e1 st1 h hx _ ?_
      intro R'' p'' a'' w'' h2
      rw[hx] at he
      cases e1 with
      | normal =>
        simp only[qd3,Option.some.injEq,za] at he
        obtain ⟨rfl,rfl⟩:=he
        exact hQ _ _ _ _ h2
      | exit i =>
        simp only[qd3] at he
        simp only[exOf,Exit.inBlock]
        split at he
        · rename_i e
          obtain ⟨rfl,rfl⟩:=Prod.mk.inj (Option.some.inj he)
          rw[if_pos e]
          exact hQ _ _ _ _ h2
        · rename_i e
          obtain ⟨rfl,rfl⟩:=Prod.mk.inj (Option.some.inj he)
          rw[if_neg e]
          exact hQ _ _ _ _ h2
      | ret =>
        simp only[qd3,Option.some.injEq,za] at he
        obtain ⟨rfl,rfl⟩:=he
        exact hQ _ _ _ _ h2
  | loop c ih =>
    intro lc hc st R' p' a' w' ex st' h he Q hQ
    cases lc <;> first | exact hc.elim | skip
    rename_i keep lx
    simp only[ev] at he
    have qe8:∀ (n:Nat) (st:St) (R':Imm) (p':qa0) (a':Act) (w':World),CAft R p H w a st R' p' a' w'→qa1 keep (ev E k lx) n st=some (ex,st')→Code.rounds P c Q n a' w':=by
      intro n
      induction n with
      | zero=>intro st R' p' a' w' _ h; cases h
      | succ n ihn =>
        intro st R' p' a' w' h he
        rw[rounds_succ]
        obtain ⟨p2,h2⟩:=h.canon keep
        simp only[qa1] at he
        cases hx:ev E k lx (LE.qa8 keep st) with
        | none=>simp[hx] at he
        | some r =>
          obtain ⟨e1,st1⟩:=r
          refine ih lx hc _ R' p2 a' w' e1 st1 h2 hx _ ?_
          intro R'' p'' a'' w'' h3
          rw[hx] at he
          cases e1 with
          | normal=>exact ihn st1 R'' p'' a'' w'' h3 he
          | exit i =>
            simp only[Option.some.injEq,za] at he
            obtain ⟨rfl,rfl⟩:=he
            exact hQ _ _ _ _ h3
          | ret =>
            simp only[Option.some.injEq,za] at he
            obtain ⟨rfl,rfl⟩:=he
            exact hQ _ _ _ _ h3
    exact wp_loop_rounds k (qe8 k st R' p' a' w' h he)
  | exit i =>
    intro lc hc st R' p' a' w' ex st' h he Q hQ
    cases lc <;> first | exact hc.elim | skip
    simp only[CRel] at hc
    subst hc
    simp only[ev,Option.some.injEq,za] at he
    obtain ⟨rfl,rfl⟩:=he
    exact wp_exit (hQ _ _ _ _ h)
  | ret =>
    intro lc hc st R' p' a' w' ex st' h he Q hQ
    cases lc <;> first | exact hc.elim | skip
    simp only[ev,Option.some.injEq,za] at he
    obtain ⟨rfl,rfl⟩:=he
    exact wp_ret (hQ _ _ _ _ h)
  | _ =>
    intro lc hc
    cases lc <;> exact hc.elim
def RRel (P:Program):List ResultVar→List LRes→Prop
  | [],[]=>True
  | .tmp t::rs,.tmp t'::xs=>t=t'∧RRel P rs xs
  | .cell a t::rs,.one a'::xs=>a=a'∧qb7 P t=some false∧RRel P rs xs
  | .cell a t::rs,.agg a' n::xs=>a=a'∧qb7 P t=some true∧szOf P t=some n∧RRel P rs xs
  | _,_=>False
theorem compRes_rel:∀ (rs:List ResultVar) (xs:List LRes),qdu P rs=some xs→RRel P rs xs:=by
  intro rs
  induction rs with
  | nil=>intro xs h; simp[qdu] at h; subst h; trivial
  | cons r rs ih =>
    intro xs h
    cases r with
    | tmp t =>
      simp only[qdu,zJ] at h
      obtain ⟨ys,h,rfl⟩:=h
      exact ⟨rfl,ih _ h⟩
    | cell a t =>
      simp only[qdu] at h
      split at h
      · rename_i n ys h1 h2 h3
        obtain rfl:=Option.some.inj h
        exact ⟨rfl,h1,h2,ih _ h3⟩
      · rename_i ys h1 h3
        obtain rfl:=Option.some.inj h
        exact ⟨rfl,h1,ih _ h3⟩
      · cases h
def qek (tmps:Array Value):ResultVar→Sem Value
  | .tmp t=>pure (tmps.getD t undef)
  | .cell a t=>do loadVar t (←asAddr (tmps.getD a undef))
theorem getD_rep {tm:List LV} {tmps:Array Value} (h:Rep R p tm tmps.toList) (t:Nat):Rep1 R p (tm.getD t .undef) (tmps.getD t undef):=by
  cases hq:tm[t]? with
  | none =>
    have:(tm.getD t .undef) = .undef:=by simp[List.getD,hq]
    rw[this]; exact .undef .nil
  | some x =>
    obtain ⟨y,h1,h2⟩:=h.get hq
    have h1:tmps[t]? = some y:=by simpa using h1
    have e1:tm.getD t .undef=x:=by simp[List.getD,hq]
    have e2:tmps.getD t undef=y:=by rw[Array.getD_eq_getD_getElem?,h1]; rfl
    rw[e1,e2]; exact h2
theorem resOf_run {st:St} {tmps:Array Value} (hr:Rep R p st.tm tmps.toList) (hs:Sim R p st.H w):∀ (rs:List ResultVar) (xs:List LRes) (vs:List LV),RRel P rs xs →
    seqO (xs.map (qev st))=some vs→∃ us,(rs.mapM (qek tmps)).run P w = .ok us w∧Rep R p vs us:=by
  intro rs
  induction rs with
  | nil =>
    intro xs vs h hv
    cases xs with
    | nil=>simp[seqO] at hv; subst hv; exact ⟨[],rfl,.nil⟩
    | cons x xs=>exact h.elim
  | cons r rs ih =>
    intro xs vs h hv
    cases xs with
    | nil=>cases r <;> exact h.elim
    | cons x xs =>
      have hv':∃ v vs',qev st x=some v∧seqO (xs.map (qev st))=some vs'∧vs=v::vs':=by
        rw[zB] at hv
        cases h1:qev st x with
        | none=>rw[h1] at hv; cases hv
        | some v =>
          rw[h1] at hv
          simp only[seqO,zJ] at hv
          obtain ⟨vs',h2,rfl⟩:=hv
          exact ⟨v,vs',rfl,h2,rfl⟩
      obtain ⟨v,vs',h1,h2,rfl⟩:=hv'
      · skip
        have step:∀ u,(qek tmps r).run P w = .ok u w→Rep1 R p v u→RRel P rs xs→∃ us,((r::rs).mapM (qek tmps)).run P w = .ok us w∧Rep R p (v::vs') us:=by
          intro u hu hru hrel
          obtain ⟨us,q1,q2⟩:=ih xs vs' hrel h2
          refine ⟨u::us,?_,Rep.cons hru q2⟩
          rw[List.mapM_cons]
          simp only[Sem.run_bind,hu,Result.andThen_ok,q1,Sem.run_pure]
        cases r with
        | tmp t =>
          cases x with
          | tmp t' =>
            obtain ⟨rfl,h⟩:=h
            simp only[qev,Option.some.injEq] at h1
            subst h1
            exact step _ rfl (getD_rep hr _) h
          | _=>exact h.elim
        | cell a t =>
          cases x with
          | tmp t'=>exact h.elim
          | one a' =>
            obtain ⟨rfl,hagg,h⟩:=h
            simp only[qev] at h1
            split at h1
            · rename_i y hy
              obtain rfl:=Option.some.inj h1
              obtain ⟨b,o,vs2,T,fz,e,c1,c2,c3⟩:=qfh hs (getD_rep hr a) hy
              rcases c2 with c2 | c2
              · omega
              · have hv2 : vs2[o]? = some vs2[o] := Array.getElem?_eq_getElem (by omega)
                have e2:(vs2.toList.drop o).take 1=[vs2[o]]:=by
                  rw[List.drop_eq_getElem_cons (by simp; omega)]; simp
                rw[e2] at c3
                refine step vs2[o] ?_ c3 h
                simp only[qek,e,asAddr,loadVar,Sem.run_bind,Sem.run_pure,Result.andThen_ok,qei hagg,zP,zM,run_load,cell_of c1,hv2]
            · cases h1
          | agg a' n =>
            obtain ⟨rfl,hagg,hsz,h⟩:=h
            simp only[qev,zJ] at h1
            obtain ⟨ys,hy,rfl⟩:=h1
            obtain ⟨b,o,vs2,T,fz,e,c1,c2,c3⟩:=qfh hs (getD_rep hr a) hy
            refine step (.agg ((vs2.toList.drop o).take n).toArray) ?_ (.agg c3 .nil) h
            simp only[qek,e,asAddr,loadVar,Sem.run_bind,Sem.run_pure,Result.andThen_ok,qei hagg,zG,qcb hsz,qeS c1 c2]
theorem results_run {fn:Func} {st:St} {tmps:Array Value} {xs:List LRes} {ret:LV} (hr:Rep R p st.tm tmps.toList) (hs:Sim R p st.H w) (hc:qdu P fn.results.toList=some xs)
    (hv:qcO st xs=some ret):∃ v,(results fn tmps).run P w = .ok v w∧Rep1 R p ret v:=by
  have hrun:∀ us,(fn.results.toList.mapM (qek tmps)).run P w = .ok us w→(results fn tmps).run P w = .ok (if h:us.toArray.size=1 then us.toArray[0] else .tuple us.toArray) w:=by
    intro us h
    have e:fn.results.mapM (qek tmps)=List.toArray <$> fn.results.toList.mapM (qek tmps):=Array.mapM_eq_mapM_toList
    have:results fn tmps=(do let vs ←fn.results.mapM (qek tmps); pure (if h:vs.size=1 then vs[0] else .tuple vs)):=by
      unfold results
      congr 1
    rw[this,e]
    simp only[map_eq_pure_bind,bind_assoc,pure_bind,Sem.run_bind,h,Result.andThen_ok,Sem.run_pure]
  unfold qcO at hv
  cases hq:seqO (xs.map (qev st)) with
  | none=>simp[hq] at hv
  | some ys =>
    obtain ⟨us,h1,h2⟩:=resOf_run hr hs _ _ _ (compRes_rel _ _ hc) hq
    refine ⟨_,hrun us h1,?_⟩
    have hl:=h2.length
    rw[hq] at hv
    split at hv
    · rename_i x heq
      obtain rfl:=Option.some.inj heq
      obtain rfl:=Option.some.inj hv
      obtain ⟨u,rfl,h3⟩:=h2.single
      exact h3
    · rename_i xs' hne heq
      obtain rfl:=Option.some.inj heq
      obtain rfl:=Option.some.inj hv
      have:¬ us.toArray.size=1:=by
        intro e
        match ys,hl,hne with
        | [],hl,_=>simp at hl e; omega
        | [x],_,hne=>exact hne x rfl
        | _::_::_,hl,_=>simp at hl e; omega
      rw[dif_neg this]
      exact .tup (by simpa using h2) .nil
    · rename_i heq
      cases heq
theorem compF_spec {f:FuncId} {lf:LFun} (h:qaU P f=some lf):Plain P f∧∃ fn c,P.funcs[f]? = some fn∧fn.body=some c∧lf.ntmps=fn.ntmps∧qdu P fn.results.toList=some lf.results∧CRel P c lf.body:=by
  unfold qaU at h
  split at h
  · cases h
  · rename_i fn hfn
    split at h
    · cases h
    · rename_i hname
      split at h
      · cases h
      · rename_i c hb
        split at h
        · rename_i lc rs h1 h2
          obtain rfl:=Option.some.inj h
          exact ⟨⟨fn,hfn,by simpa using hname,by simp[hb]⟩,fn,c,hfn,hb,rfl,h2,annot_rel _ _ _ _ (comp_rel _ _ h1)⟩
        · cases h
def IsCode (P:Program) (f:FuncId) (lf:LFun):Prop:=Plain P f∧∃ fn c,P.funcs[f]? = some fn∧fn.body=some c∧lf.ntmps=fn.ntmps∧qdu P fn.results.toList=some lf.results∧CRel P c lf.body
theorem start_rep {args:List LV} {vals:List Value} (hr:Rep R p args vals) {n m:Nat} (hn:n=m) :
    Rep R p (args++List.replicate (n - args.length) (.v (.tuple #[]))) (vals.toArray++Array.replicate (m - vals.toArray.size) undef).toList:=by
  have e1:(vals.toArray++Array.replicate (m - vals.toArray.size) undef).toList=vals++List.replicate (n - args.length) undef:=by
    rw[hn,hr.length]; simp
  rw[e1]
  refine hr.append ?_
  have e2:List.replicate (n - args.length) (LV.v (.tuple #[]))=(List.replicate (n - args.length) undef).map .v:=by rw[List.map_replicate]; rfl
  rw[e2]
  exact Rep.plain _
theorem fun_end {fn:Func} {rs:List LRes} (hres:qdu P fn.results.toList=some rs) {objs:List qal} {a a':Act} {st:St} {R':Imm} {p':qa0} {w':World}
    (ha:CAft R p (qaY objs) w a st R' p' a' w') {ret:LV} (h2:qcO st rs=some ret) :
    ∃ v, (results fn a'.tmps).run P w' = .ok v w' ∧ ∃ v' R' p', Ending.returned v = .returned v' ∧ Rep1 R' p' (qbY objs.length st ret).1 v' ∧
      Sim R' p' (qcK (qbY objs.length st ret).2.1 (qbY objs.length st ret).2.2) w' ∧
      Ext R p (qaY objs) w R' p' (qcK (qbY objs.length st ret).2.1 (qbY objs.length st ret).2.2) w'∧(∀ k,p' (0,k)=p (0,k)):=by
  obtain ⟨v,hv1,hv2⟩:=results_run ha.rep ha.sim hres h2
  refine ⟨v,hv1,v,R',qcL (qbE st.H objs.length [ret]) p',rfl,?_,?_⟩
  · exact hv2.ren (qfX _ _) D
  · obtain ⟨c1, c2⟩ := qfO st.H objs.length [ret]
    obtain ⟨f1,f2⟩:=qgM st.H (qbE st.H objs.length [ret]) (fun n hn=>(c2 n hn).2)
    obtain ⟨s1,s2⟩:=ha.sim.renamed (H':=qcK (qbY objs.length st ret).2.1 (qbY objs.length st ret).2.2) c1 (fun n hn=>(c2 n hn).1) (by
      intro n cs h
      unfold qcK at h
      split at h
      · rename_i h0
        left
        refine ⟨h0,?_⟩
        obtain ⟨n1,n2⟩:=n
        simp only at h0 h
        subst h0
        simp only[qbY,List.getElem?_map] at h
        by_cases hlt:n2 < objs.length
        · rw [List.getElem?_range hlt] at h
          simp only[zC,Option.join_some,zJ] at h
          obtain ⟨ds,h,rfl⟩:=h
          exact ⟨ds,h,rfl⟩
        · rw [List.getElem?_eq_none (by simp; omega)] at h
          cases h
      · split at h
        · rename_i h0
          right
          refine ⟨h0,?_⟩
          simp only[qbY,List.getElem?_map,zJ] at h
          obtain ⟨ds,h,rfl⟩:=h
          rw[f2] at h
          simp only[Option.bind_eq_some_iff] at h
          obtain ⟨m,h3,h4⟩:=h
          exact ⟨m,ds,h3,h4,rfl⟩
        · cases h)
    refine ⟨s1,ha.ext.trans s2,fun k => ?_⟩
    simp only[qcL,zG]
    exact ha.zero k
theorem fun_soundC (hE:CalOk P E) {k:Nat} {f:FuncId} {lf:LFun} (hc:IsCode P f lf) {args:List LV} {objs:List qal} {res:qcg} (he:qf7 E k lf args objs=some res) :
    Plain P f∧FTri P E.gl f args objs res:=by
  obtain ⟨hp,fn,c,hfn,hb,hn,hres,hrel⟩:=hc
  refine ⟨hp,?_⟩
  intro R p w vals hg hr hs hfresh
  have hend : ∃ ex st ret, ev E k lf.body { tm := args ++ List.replicate (lf.ntmps - args.length) (.v (.tuple #[])), H := qaY objs, nx := 2, np := objs.length } = some (ex, st) ∧
      (ex = .normal∨ex = .ret)∧qcO st lf.results=some ret∧res=qbY objs.length st ret:=by
    unfold qf7 at he
    split at he
    · rename_i st h1
      simp only[zJ] at he
      obtain ⟨ret,h2,h3⟩:=he
      exact ⟨_,st,ret,h1,.inl rfl,h2,h3.symm⟩
    · rename_i st h1
      simp only[zJ] at he
      obtain ⟨ret,h2,h3⟩:=he
      exact ⟨_,st,ret,h1,.inr rfl,h2,h3.symm⟩
    · cases he
  obtain ⟨ex,st,ret,h1,hex,h2,rfl⟩:=hend
  refine ⟨by simp[qbY],?_⟩
  refine calls_of_wp hfn hb ?_
  have hrep:=start_rep hr hn
  refine ev_sound hE hg k c lf.body hrel _ R p _ w ex st (a := { tmps := vals.toArray ++ Array.replicate (fn.ntmps - vals.toArray.size) undef, defers := [] }) (p := p) (H := qaY objs) (w := w)
    ⟨hrep,hs,Ext.refl _ _ _ _,fun n hn=>hfresh n (by simp at hn; omega),fun _=>rfl,Nat.le_refl _,rfl⟩ h1 _ ?_
  intro R' p' a' w' ha
  have hpost:=fun_end hres ha h2
  rcases hex with rfl | rfl
  · exact ⟨ha.defers,hpost⟩
  · exact ⟨ha.defers,hpost⟩
theorem F_soundC {C:Ctx} (hC:∀ f lf,C.fns f=some lf→IsCode P f lf)
    (hX:∀ f args objs res,C.ext f args objs=some res→Plain P f∧FTri P C.gl f args objs res:=by intro f args objs res h; have h':(none:Option _)=some res:=h; cases h') :
    ∀ k,CalOk P { gl:=C.gl,cal:=F C k,borrow:=C.borrow,trim:=C.trim }:=by
  intro k
  induction k with
  | zero=>intro f args objs res h; cases h
  | succ k ih =>
    intro f args objs res h
    simp only[F] at h
    split at h
    · exact hX f args objs res h
    · rename_i lf hlf
      exact fun_soundC ih (hC f lf hlf) h
end Go.LE
namespace Go.LE
open Go.RowKit
variable {P:Program} {w:World}
def allImm (w:World):Imm:=fun b=>match w.heap[b]? with
  | some (.cells vs _ _)=>some vs.toList
  | _=>none
def noPlaces:qa0:=fun _=>none
theorem sim_all (w:World):Sim (allImm w) noPlaces (qaY []) w:=by
  refine ⟨?_,?_,?_⟩
  · intro n cs h; simp[qaY] at h
  · intro n m cs ds b o s o' s' h; simp[qaY] at h
  · intro b cs h
    unfold allImm at h
    split at h
    · rename_i vs T fz hb
      obtain rfl:=Option.some.inj h
      exact ⟨vs,T,fz,hb,rfl⟩
    · cases h
theorem calls_of_FC {C:Ctx} (hC:∀ f lf,C.fns f=some lf→IsCode P f lf) {k:Nat} {f:FuncId} {args:List LV} {res:qcg} (h:F C k f args []=some res) {vals:List Value}
    (hg:qdr C.gl (allImm w)) (hr:Rep (allImm w) noPlaces args vals)
    (hX:∀ f args objs res,C.ext f args objs=some res→Plain P f∧FTri P C.gl f args objs res:=by intro f args objs res h; have h':(none:Option _)=some res:=h; cases h') :
    Calls P f vals.toArray w fun e w'=>∃ v R' p',e = .returned v∧Rep1 R' p' res.1 v∧Sim R' p' (qcK res.2.1 res.2.2) w'∧Ext (allImm w) noPlaces (qaY []) w R' p' (qcK res.2.1 res.2.2) w'∧Below w.heap.size w w':=by
  obtain ⟨_,h2⟩:=(F_soundC hC hX k f args [] res h).2 (allImm w) noPlaces w vals hg hr (sim_all w) (fun _ _=>rfl)
  refine h2.mono ?_
  rintro e w' ⟨v,R',p',he,hv,hs,hx,_⟩
  refine ⟨v,R',p',he,hv,hs,hx,⟨hx.io.1,hx.io.2.2,hx.io.2.1,hx.size,fun b hb=>hx.kept b hb ?_⟩⟩
  rintro ⟨n,cs,o,s,h,_⟩
  simp[qaY] at h
theorem calls_plainC {C:Ctx} (hC:∀ f lf,C.fns f=some lf→IsCode P f lf) {k:Nat} {f:FuncId} {args:List LV} {x:Value} {passed:List (Option qal)} {news:List qal}
    (h:F C k f args []=some (.v x,passed,news)) {vals:List Value} (hg:qdr C.gl (allImm w)) (hr:Rep (allImm w) noPlaces args vals)
    (hX:∀ f args objs res,C.ext f args objs=some res→Plain P f∧FTri P C.gl f args objs res:=by intro f args objs res h; have h':(none:Option _)=some res:=h; cases h') :
    Calls P f vals.toArray w fun e w'=>e = .returned x∧Below w.heap.size w w':=by
  refine (calls_of_FC hC h hg hr hX).mono ?_
  rintro e w' ⟨v,R',p',he,hv,_,_,hb⟩
  cases hv
  exact ⟨he,hb⟩
theorem calls_plain {C:Ctx} (hC:∀ f lf,C.fns f=some lf→qaU P f=some lf) {k:Nat} {f:FuncId} {args:List LV} {x:Value} {passed:List (Option qal)} {news:List qal}
    (h:F C k f args []=some (.v x,passed,news)) {vals:List Value} (hg:qdr C.gl (allImm w)) (hr:Rep (allImm w) noPlaces args vals)
    (hX:∀ f args objs res,C.ext f args objs=some res→Plain P f∧FTri P C.gl f args objs res:=by intro f args objs res h; have h':(none:Option _)=some res:=h; cases h') :
    Calls P f vals.toArray w fun e w'=>e = .returned x∧Below w.heap.size w w':=calls_plainC (fun f lf h=>compF_spec (hC f lf h)) h hg hr hX
def look:List (Nat × LFun)→Nat→Option LFun
  | [],_=>none
  | (i,l)::t,f=>match Nat.beq f i with
    | true=>some l
    | false=>look t f
theorem look_ok {P:Program}:∀ (t:List (Nat × LFun)),(∀ e ∈ t,qaU P e.1=some e.2)→∀ f lf,look t f=some lf→qaU P f=some lf:=by
  intro t
  induction t with
  | nil=>intro _ f lf h; cases h
  | cons e t ih =>
    intro h f lf hl
    obtain ⟨i,l⟩:=e
    simp only[look] at hl
    split at hl
    · rename_i hb
      obtain rfl:=Option.some.inj hl
      rw[Nat.eq_of_beq_eq_true hb]
      exact h (i,l) (by simp)
    · exact ih (fun e he=>h e (by simp[he])) f lf hl
end Go.LE
namespace Go.LE
theorem nf {A:Sort _} {a b:A} (h:a=b):a=b:=h
def U (k:IntKind) {n:Nat} (x:BitVec n):LV := .v (.int k x.toNat)
def B8 (x:BitVec 8):LV := .v (.int .u8 x.toNat)
def B32 (x:BitVec 32):LV := .v (.int .u32 x.toNat)
def B64 (x:BitVec 64):LV := .v (.int .u64 x.toNat)
def I (n:Int):LV := .v (.int .i64 n)
def Bo (b:Bool):LV := .v (.bool b)
def Un:LV := .v (.tuple #[])
section
variable {k:IntKind} {n:Nat}
theorem qdi (hk:k.bits=n) (hs:k.signed=false) (m:Nat):k.wrap (m:Int)=((BitVec.ofNat n m).toNat:Int):=by
  unfold IntKind.wrap
  simp only[hs,Bool.false_and,zP,zM,hk,BitVec.toNat_ofNat]
  norm_cast
theorem qhj (hk:k.bits=n) (hs:k.signed=false) (m:Int):k.wrap m=((BitVec.ofInt n m).toNat:Int):=by
  unfold IntKind.wrap
  simp only[hs,Bool.false_and,zP,zM,hk,BitVec.toNat_ofInt]
  rw[Int.toNat_of_nonneg]
  · norm_cast
  · exact Int.emod_nonneg _ (by have:(0:Int) < 2 ^ n:=Int.pow_pos (by decide); norm_cast; exact Nat.ne_of_gt (Nat.two_pow_pos n))
theorem qd4 (x:BitVec n):BitVec.ofInt n (x.toNat:Int)=x:=by
  rw[BitVec.ofInt_natCast]; simp
variable (hk:k.bits=n) (hs:k.signed=false) (e:EqT) (x y:BitVec n)
include hk hs
theorem U_add:binV .add e (U k x) (U k y)=some (U k (x+y)):=by
  simp only[binV,U,binI,zG,zC]
  rw[show (x.toNat:Int)+(y.toNat:Int)=((x.toNat+y.toNat:Nat):Int) by push_cast; rfl,qdi hk hs,BitVec.ofNat_add,BitVec.ofNat_toNat,BitVec.ofNat_toNat]
  simp
theorem U_mul:binV .mul e (U k x) (U k y)=some (U k (x*y)):=by
  simp only[binV,U,binI,zG,zC]
  rw[show (x.toNat:Int)*(y.toNat:Int)=((x.toNat*y.toNat:Nat):Int) by push_cast; rfl,qdi hk hs,BitVec.ofNat_mul,BitVec.ofNat_toNat,BitVec.ofNat_toNat]
  simp
theorem U_sub:binV .sub e (U k x) (U k y)=some (U k (x - y)):=by
  simp only[binV,U,binI,zG,zC]
  rw[qhj hk hs]
  congr 5
  rw[Int.sub_eq_add_neg,BitVec.ofInt_add,BitVec.ofInt_neg,qd4,qd4,←BitVec.sub_eq_add_neg]
theorem U_and:binV .and e (U k x) (U k y)=some (U k (x &&& y)):=by
  subst hk
  simp only[binV,U,binI,zG,bitI,zC,qd4]
  rw[qdi rfl hs,BitVec.ofNat_toNat,BitVec.setWidth_eq]
theorem U_or:binV .or e (U k x) (U k y)=some (U k (x ||| y)):=by
  subst hk
  simp only[binV,U,binI,zG,bitI,zC,qd4]
  rw[qdi rfl hs,BitVec.ofNat_toNat,BitVec.setWidth_eq]
theorem U_xor:binV .xor e (U k x) (U k y)=some (U k (x ^^^ y)):=by
  subst hk
  simp only[binV,U,binI,zG,bitI,zC,qd4]
  rw[qdi rfl hs,BitVec.ofNat_toNat,BitVec.setWidth_eq]
theorem U_shl (k':IntKind) (m:Nat):binV .shl e (U k x) (.v (.int k' m))=some (U k (x <<< m)):=by
  subst hk
  simp only[binV,U,binI]
  rw[if_neg (by omega)]
  simp only[zC,Int.toNat_natCast]
  rw[show (x.toNat:Int)*2 ^ min m k.bits=((x.toNat*2 ^ min m k.bits:Nat):Int) by push_cast; rfl,qdi rfl hs]
  congr 3
  rw[Int.ofNat_inj]
  rw[BitVec.toNat_ofNat,BitVec.toNat_shiftLeft,Nat.shiftLeft_eq]
  by_cases h:m≤k.bits
  · rw[Nat.min_eq_left h]
  · rw[Nat.min_eq_right (by omega),Nat.mul_mod_left,show m=k.bits+(m - k.bits) by omega,Nat.pow_add,Nat.mul_comm (2 ^ k.bits),←Nat.mul_assoc,Nat.mul_mod_left]
omit hs in
theorem U_shr (k':IntKind) (m:Nat):binV .shr e (U k x) (.v (.int k' m))=some (U k (x >>> m)):=by
  subst hk
  simp only[binV,U,binI]
  rw[if_neg (by omega)]
  simp only[zC,Int.toNat_natCast]
  rw[Int.fdiv_eq_ediv_of_nonneg _ (Int.le_of_lt (Int.pow_pos (by decide)))]
  rw[show (x.toNat:Int) / 2 ^ min m k.bits=((x.toNat / 2 ^ min m k.bits:Nat):Int) by push_cast; rfl]
  congr 4
  rw[BitVec.toNat_ushiftRight,Nat.shiftRight_eq_div_pow]
  by_cases h:m≤k.bits
  · rw[Nat.min_eq_left h]
  · rw [Nat.min_eq_right (by omega), Nat.div_eq_of_lt x.isLt, Nat.div_eq_of_lt]
    exact Nat.lt_of_lt_of_le x.isLt (Nat.pow_le_pow_right (by decide) (by omega))
omit hk hs
theorem U_eql:binV .eql e (U k x) (U k y)=some (Bo (x == y)):=by
  simp only[binV,U,binI,zG,cmpI,zC,Bo]
  congr 3
  rw[Bool.eq_iff_iff]
  simp[BitVec.toNat_inj,Int.ofNat_inj]
theorem U_neq:binV .neq e (U k x) (U k y)=some (Bo (x != y)):=by
  simp only[binV,U,binI,zG,cmpI,zC,Bo]
  congr 3
  rw[Bool.eq_iff_iff]
  simp[BitVec.toNat_inj,Int.ofNat_inj]
theorem U_lss:binV .lss e (U k x) (U k y)=some (Bo (decide (x < y))):=by
  simp only[binV,U,binI,zG,cmpI,zC,Bo,BitVec.lt_def,Int.ofNat_lt]
theorem U_gtr:binV .gtr e (U k x) (U k y)=some (Bo (decide (y < x))):=by
  simp only[binV,U,binI,zG,cmpI,zC,Bo,BitVec.lt_def,gt_iff_lt,Int.ofNat_lt]
theorem U_geq:binV .geq e (U k x) (U k y)=some (Bo (decide (y≤x))):=by
  simp only[binV,U,binI,zG,cmpI,zC,Bo,BitVec.le_def,ge_iff_le,Int.ofNat_le]
include hk hs
theorem U_not:unV .xor (U k x)=some (U k (~~~x)):=by
  subst hk
  simp only[unV,U,hs,zP,zM,bitI,zC,qd4]
  rw[qdi rfl hs,BitVec.ofNat_toNat,BitVec.setWidth_eq]
  have:BitVec.ofInt k.bits k.max=BitVec.allOnes k.bits:=by
    cases k <;> first | (exfalso; revert hs; decide) | (simp [IntKind.bits,IntKind.max,IntKind.signed])
  rw[this,BitVec.allOnes_xor]
end
section
variable (e:EqT) (x y:BitVec 8)
theorem B8_and:binV .and e (B8 x) (B8 y)=some (B8 (x &&& y)):=U_and (k := .u8) rfl rfl e x y
theorem B8_or:binV .or e (B8 x) (B8 y)=some (B8 (x ||| y)):=U_or (k := .u8) rfl rfl e x y
theorem B8_xor:binV .xor e (B8 x) (B8 y)=some (B8 (x ^^^ y)):=U_xor (k := .u8) rfl rfl e x y
theorem B8_eql:binV .eql e (B8 x) (B8 y)=some (Bo (x == y)):=U_eql (k := .u8) e x y
theorem B8_gtr:binV .gtr e (B8 x) (B8 y)=some (Bo (decide (y < x))):=U_gtr (k := .u8) e x y
theorem B8_geq:binV .geq e (B8 x) (B8 y)=some (Bo (decide (y≤x))):=U_geq (k := .u8) e x y
theorem B8_shl64 (z:BitVec 64):binV .shl e (B8 x) (B64 z)=some (B8 (x <<< z.toNat)):=U_shl (k := .u8) rfl rfl e x _ _
theorem B8_shr64 (z:BitVec 64):binV .shr e (B8 x) (B64 z)=some (B8 (x >>> z.toNat)):=U_shr (k := .u8) rfl e x _ _
theorem B8_nat:qco (B8 x)=some x.toNat:=by simp[qco,LE.intOf,B8]
end
section
variable (e:EqT) (x y:BitVec 32)
theorem B32_add:binV .add e (B32 x) (B32 y)=some (B32 (x+y)):=U_add (k := .u32) rfl rfl e x y
theorem B32_and:binV .and e (B32 x) (B32 y)=some (B32 (x &&& y)):=U_and (k := .u32) rfl rfl e x y
theorem B32_or:binV .or e (B32 x) (B32 y)=some (B32 (x ||| y)):=U_or (k := .u32) rfl rfl e x y
theorem B32_xor:binV .xor e (B32 x) (B32 y)=some (B32 (x ^^^ y)):=U_xor (k := .u32) rfl rfl e x y
theorem B32_shl64 (z:BitVec 64):binV .shl e (B32 x) (B64 z)=some (B32 (x <<< z.toNat)):=U_shl (k := .u32) rfl rfl e x _ _
theorem B32_shr64 (z:BitVec 64):binV .shr e (B32 x) (B64 z)=some (B32 (x >>> z.toNat)):=U_shr (k := .u32) rfl e x _ _
theorem B32_shlI (z:Int) (h:0≤z):binV .shl e (B32 x) (I z)=some (B32 (x <<< z.toNat)):=by
  obtain ⟨m,rfl⟩:=Int.eq_ofNat_of_zero_le h
  exact U_shl (k := .u32) rfl rfl e x _ _
theorem B32_shrI (z:Int) (h:0≤z):binV .shr e (B32 x) (I z)=some (B32 (x >>> z.toNat)):=by
  obtain ⟨m,rfl⟩:=Int.eq_ofNat_of_zero_le h
  exact U_shr (k := .u32) rfl e x _ _
theorem B32_not:unV .xor (B32 x)=some (B32 (~~~x)):=U_not (k := .u32) rfl rfl x
end
section
variable (e:EqT) (x y:BitVec 64)
theorem B64_mul:binV .mul e (B64 x) (B64 y)=some (B64 (x*y)):=U_mul (k := .u64) rfl rfl e x y
theorem B64_sub:binV .sub e (B64 x) (B64 y)=some (B64 (x - y)):=U_sub (k := .u64) rfl rfl e x y
theorem B64_and:binV .and e (B64 x) (B64 y)=some (B64 (x &&& y)):=U_and (k := .u64) rfl rfl e x y
theorem B64_or:binV .or e (B64 x) (B64 y)=some (B64 (x ||| y)):=U_or (k := .u64) rfl rfl e x y
theorem B64_xor:binV .xor e (B64 x) (B64 y)=some (B64 (x ^^^ y)):=U_xor (k := .u64) rfl rfl e x y
theorem B64_eql:binV .eql e (B64 x) (B64 y)=some (Bo (x == y)):=U_eql (k := .u64) e x y
theorem B64_neq:binV .neq e (B64 x) (B64 y)=some (Bo (x != y)):=U_neq (k := .u64) e x y
theorem B64_lss:binV .lss e (B64 x) (B64 y)=some (Bo (decide (x < y))):=U_lss (k := .u64) e x y
theorem B64_shl64 (z:BitVec 64):binV .shl e (B64 x) (B64 z)=some (B64 (x <<< z.toNat)):=U_shl (k := .u64) rfl rfl e x _ _
theorem B64_shr64 (z:BitVec 64):binV .shr e (B64 x) (B64 z)=some (B64 (x >>> z.toNat)):=U_shr (k := .u64) rfl e x _ _
theorem B64_shlI (z:Int) (h:0≤z):binV .shl e (B64 x) (I z)=some (B64 (x <<< z.toNat)):=by
  obtain ⟨m,rfl⟩:=Int.eq_ofNat_of_zero_le h
  exact U_shl (k := .u64) rfl rfl e x _ _
theorem B64_shrI (z:Int) (h:0≤z):binV .shr e (B64 x) (I z)=some (B64 (x >>> z.toNat)):=by
  obtain ⟨m,rfl⟩:=Int.eq_ofNat_of_zero_le h
  exact U_shr (k := .u64) rfl e x _ _
end
def cvtV (k:IntKind):LV→Option LV
  | .v (.int _ n)=>some (.v (.int k (k.wrap n)))
  | _=>none
theorem cvt_U {k k':IntKind} {n m:Nat} (hk:k'.bits=m) (hs:k'.signed=false) (x:BitVec n):cvtV k' (U k x)=some (U k' (x.setWidth m)):=by
  simp only[cvtV,U]
  rw[qdi hk hs,BitVec.ofNat_toNat]
theorem cvt_UI {k':IntKind} {m:Nat} (hk:k'.bits=m) (hs:k'.signed=false) (z:Int):cvtV k' (I z)=some (U k' (BitVec.ofInt m z)):=by
  simp only[cvtV,U,I]
  rw[qhj hk hs]
theorem w64 (z:Int) (h : -9223372036854775808≤z∧z < 9223372036854775808):IntKind.i64.wrap z=z:=by
  simp[IntKind.wrap,IntKind.bits,IntKind.signed]
  omega
theorem cvt_IU {k:IntKind} {n:Nat} (x:BitVec n) (h:n < 64):cvtV .i64 (U k x)=some (I x.toNat):=by
  simp only[cvtV,U,I]
  rw[w64]
  have:=x.isLt
  have:2 ^ n≤2 ^ 63:=Nat.pow_le_pow_right (by decide) (by omega)
  omega
theorem cvt_I64 (x:BitVec 64):cvtV .i64 (B64 x)=some (I x.toInt):=by
  simp only[cvtV,B64,I]
  congr 3
  simp only[IntKind.wrap,IntKind.bits,IntKind.signed,Bool.true_and,BitVec.toInt_eq_toNat_cond]
  have:=x.isLt
  simp
  omega
theorem cvt_8_32 (x:BitVec 8):cvtV .u32 (B8 x)=some (B32 (x.setWidth 32)):=cvt_U (k := .u8) (k' := .u32) rfl rfl x
theorem cvt_8_64 (x:BitVec 8):cvtV .u64 (B8 x)=some (B64 (x.setWidth 64)):=cvt_U (k := .u8) (k' := .u64) rfl rfl x
theorem cvt_32_8 (x:BitVec 32):cvtV .u8 (B32 x)=some (B8 (x.setWidth 8)):=cvt_U (k := .u32) (k' := .u8) rfl rfl x
theorem cvt_64_8 (x:BitVec 64):cvtV .u8 (B64 x)=some (B8 (x.setWidth 8)):=cvt_U (k := .u64) (k' := .u8) rfl rfl x
theorem cvt_I_8 (z:Int):cvtV .u8 (I z)=some (B8 (BitVec.ofInt 8 z)):=cvt_UI (k' := .u8) rfl rfl z
theorem cvt_I_64 (z:Int):cvtV .u64 (I z)=some (B64 (BitVec.ofInt 64 z)):=cvt_UI (k' := .u64) rfl rfl z
theorem cvt_8_I (x:BitVec 8):cvtV .i64 (B8 x)=some (I x.toNat):=cvt_IU (k := .u8) x (by decide)
section
variable (e:EqT) (a b:Int)
theorem I_add (h : -9223372036854775808≤a+b∧a+b < 9223372036854775808):binV .add e (I a) (I b)=some (I (a+b)):=by simp only[binV,I,binI,zG,zC,w64 _ h]
theorem I_sub (h : -9223372036854775808≤a - b∧a - b < 9223372036854775808):binV .sub e (I a) (I b)=some (I (a - b)):=by simp only[binV,I,binI,zG,zC,w64 _ h]
theorem I_mul (h : -9223372036854775808≤a*b∧a*b < 9223372036854775808):binV .mul e (I a) (I b)=some (I (a*b)):=by simp only[binV,I,binI,zG,zC,w64 _ h]
theorem I_quo (hb:b≠0) (h : -9223372036854775808≤a.tdiv b∧a.tdiv b < 9223372036854775808):binV .quo e (I a) (I b)=some (I (a.tdiv b)):=by simp only[binV,I,binI,zG,zC,w64 _ h,if_neg hb]
theorem I_rem (hb:b≠0):binV .rem e (I a) (I b)=some (I (a.tmod b)):=by simp only[binV,I,binI,zG,zC,if_neg hb]
theorem I_eql:binV .eql e (I a) (I b)=some (Bo (a == b)):=by simp only[binV,I,binI,zG,cmpI,zC,Bo]
theorem I_neq:binV .neq e (I a) (I b)=some (Bo (a != b)):=by simp only[binV,I,binI,zG,cmpI,zC,Bo]
theorem qc1:binV .lss e (I a) (I b)=some (Bo (decide (a < b))):=by simp only[binV,I,binI,zG,cmpI,zC,Bo]
theorem I_leq:binV .leq e (I a) (I b)=some (Bo (decide (a≤b))):=by simp only[binV,I,binI,zG,cmpI,zC,Bo]
theorem I_gtr:binV .gtr e (I a) (I b)=some (Bo (decide (b < a))):=by simp only[binV,I,binI,zG,cmpI,zC,Bo,gt_iff_lt]
theorem I_geq:binV .geq e (I a) (I b)=some (Bo (decide (b≤a))):=by simp only[binV,I,binI,zG,cmpI,zC,Bo,ge_iff_le]
theorem I_nat (h:0≤a):qco (I a)=some a.toNat:=by simp[qco,LE.intOf,I,h]
end
theorem Bo_not (a:Bool):unV .not (Bo a)=some (Bo (!a)):=nf rfl
end Go.LE
namespace Go.LE
variable {E:Env}
def envC (C:Ctx) (k:Nat):Env:={ gl:=C.gl,cal:=F C k,borrow:=C.borrow,trim:=C.trim }
theorem qbT (C:Ctx) (k:Nat):(envC C k).cal=F C k:=nf rfl
theorem envC_trim (C:Ctx) (k:Nat):(envC C k).trim=C.trim:=nf rfl
theorem qbF (C:Ctx) (k:Nat):(envC C k).borrow=C.borrow:=nf rfl
theorem qaH {C:Ctx} {k:Nat} {f:FuncId} {args:List LV} {objs:List qal} {lf:LFun} (h:C.fns f=some lf) :
    F C (k+1) f args objs=qf7 (envC C k) k lf args objs:=by
  simp only[F,h,envC]
theorem ev_skip (k:Nat) (st:St):ev E k .skip st=some (.normal,st):=nf rfl
theorem ev_ret (k:Nat) (st:St):ev E k .ret st=some (.ret,st):=nf rfl
theorem ev_exit (k:Nat) (i:Nat) (st:St):ev E k (.exit i) st=some (.exit i,st):=nf rfl
theorem ev_seq (k:Nat) (a b:LCode) (st:St):ev E k (.seq a b) st=qcJ (ev E k b) (ev E k a st):=nf rfl
theorem ev_block (k i:Nat) (a:LCode) (st:St):ev E k (.block i a) st=qd3 i (ev E k a st):=nf rfl
theorem ev_loop (k:Nat) (keep:List Bool) (a:LCode) (st:St):ev E k (.loop keep a) st=qa1 keep (ev E k a) k st:=nf rfl
theorem qhS (f:St→Option (Ex × St)) (st:St):qcJ f (some (.normal,st))=f st:=nf rfl
theorem andThen_ret (f:St→Option (Ex × St)) (st:St):qcJ f (some (.ret,st))=some (.ret,st):=nf rfl
theorem andThen_exit (f:St→Option (Ex × St)) (i:Nat) (st:St):qcJ f (some (.exit i,st))=some (.exit i,st):=nf rfl
theorem qhT (i:Nat) (st:St):qd3 i (some (.normal,st))=some (.normal,st):=nf rfl
theorem inBlock_ret (i:Nat) (st:St):qd3 i (some (.ret,st))=some (.ret,st):=nf rfl
theorem inBlock_exit (i j:Nat) (st:St):qd3 i (some (.exit j,st))=if j=i then some (.normal,st) else some (.exit j,st):=nf rfl
def condK (f g:St→Option (Ex × St)) (st:St):LV→Option (Ex × St)
  | .v (.bool t)=>if t=true then f st else g st
  | _=>none
theorem ev_cond (k:Nat) (x:LX) (a b:LCode) (tm:List LV) (H:Heap) (nx np:Nat) :
    ev E k (.cond x a b) ⟨tm,H,nx,np⟩=condK (ev E k a) (ev E k b) ⟨tm,H,nx,np⟩ (evX E.gl tm x):=nf rfl
theorem condK_true (f g:St→Option (Ex × St)) (st:St):condK f g st (Bo true)=f st:=nf rfl
theorem condK_false (f g:St→Option (Ex × St)) (st:St):condK f g st (Bo false)=g st:=nf rfl
def regK (nx n:Nat):Option St→Option (Ex × St)
  | some st=>some (.normal,⟨st.tm,st.H,nx+n,st.np⟩)
  | none=>none
theorem ev_region (k:Nat) (ops:List LOper) (tm:List LV) (H:Heap) (nx np:Nat) :
    ev E k (.region ops) ⟨tm,H,nx,np⟩=regK nx ops.length (qbw E nx 0 ops [] ⟨tm,H,nx,np⟩):=by
  simp only[ev,evRegion,Option.map_map]
  cases qbw E nx 0 ops [] ⟨tm,H,nx,np⟩ <;> rfl
theorem regK_some (nx n:Nat) (tm:List LV) (H:Heap) (nx' np:Nat):regK nx n (some ⟨tm,H,nx',np⟩)=some (.normal,⟨tm,H,nx+n,np⟩):=nf rfl
theorem evOpers_nil (b i:Nat) (log:List Done) (st:St):qbw E b i [] log st=some st:=nf rfl
def qdK (E:Env) (b i:Nat) (os:List LOper) (log:List Done) (d:Option Nat) (tm:List LV) (H:Heap) (nx np:Nat):Option Out→Option St
  | some r=>qbw E b (i+1) os log ⟨put tm d r.val,qbv (b+i) r H,nx,np⟩
  | none=>none
def qfD (E:Env) (b i:Nat) (os:List LOper) (log:List Done) (d:Option Nat) (op:LOp) (tm:List LV) (H:Heap) (nx np:Nat) (w:Bool):LV→Option St
  | .v (.bool t)=>if t=w then qdK E b i os log d tm H nx np (qa4 E tm H (b+i) op) else qbw E b (i+1) os log ⟨put tm d Un,H,nx,np⟩
  | .v _=>qbw E b (i+1) os log ⟨put tm d Un,H,nx,np⟩
  | _=>none
theorem evOpers_cons (b i:Nat) (d:Option Nat) (op:LOp) (os:List LOper) (log:List Done) (tm:List LV) (H:Heap) (nx np:Nat) :
    qbw E b i ({ dst:=d,op:=op,guard:=none,ord:=none }::os) log ⟨tm,H,nx,np⟩=qdK E b i os log d tm H nx np (qa4 E tm H (b+i) op):=by
  rw[qbw,qe4]
  simp only[qc5]
  cases qa4 E tm H (b+i) op <;> rfl
theorem qhU (b i:Nat) (d:Option Nat) (op:LOp) (t:Nat) (w:Bool) (os:List LOper) (log:List Done) (tm:List LV) (H:Heap) (nx np:Nat) :
    qbw E b i ({ dst:=d,op:=op,guard:=some (t,w),ord:=none }::os) log ⟨tm,H,nx,np⟩=qfD E b i os log d op tm H nx np w (tm.getD t .undef):=by
  rw[qbw,qe4]
  simp only[qc5]
  generalize tm.getD t .undef=x
  cases x with
  | v y =>
    cases y with
    | bool t =>
      simp only[qfD]
      cases hw:t == w with
      | true =>
        have:t=w:=by simpa using hw
        simp only[this,zG]
        cases qa4 E tm H (b+i) op <;> rfl
      | false =>
        have:¬ t=w:=by simpa using hw
        simp only[this,zM]
        rfl
    | _=>rfl
  | _=>rfl
theorem stepK_pure (b i:Nat) (os:List LOper) (log:List Done) (d:Option Nat) (tm:List LV) (H:Heap) (nx np:Nat) (x:LV) :
    qdK E b i os log d tm H nx np (some ⟨x,[],[]⟩)=qbw E b (i+1) os log ⟨put tm d x,H,nx,np⟩:=by
  simp only[qdK,qbW]
  rfl
theorem guardK_true (b i:Nat) (os:List LOper) (log:List Done) (d:Option Nat) (op:LOp) (tm:List LV) (H:Heap) (nx np:Nat) :
    qfD E b i os log d op tm H nx np true (Bo true)=qdK E b i os log d tm H nx np (qa4 E tm H (b+i) op):=nf rfl
theorem guardK_false (b i:Nat) (os:List LOper) (log:List Done) (d:Option Nat) (op:LOp) (tm:List LV) (H:Heap) (nx np:Nat) :
    qfD E b i os log d op tm H nx np true (Bo false)=qbw E b (i+1) os log ⟨put tm d Un,H,nx,np⟩:=nf rfl
theorem guardK_true' (b i:Nat) (os:List LOper) (log:List Done) (d:Option Nat) (op:LOp) (tm:List LV) (H:Heap) (nx np:Nat) :
    qfD E b i os log d op tm H nx np false (Bo false)=qdK E b i os log d tm H nx np (qa4 E tm H (b+i) op):=nf rfl
theorem guardK_false' (b i:Nat) (os:List LOper) (log:List Done) (d:Option Nat) (op:LOp) (tm:List LV) (H:Heap) (nx np:Nat) :
    qfD E b i os log d op tm H nx np false (Bo true)=qbw E b (i+1) os log ⟨put tm d Un,H,nx,np⟩:=nf rfl
theorem guardK_un (b i:Nat) (os:List LOper) (log:List Done) (d:Option Nat) (op:LOp) (tm:List LV) (H:Heap) (nx np:Nat) (w:Bool) :
    qfD E b i os log d op tm H nx np w Un=qbw E b (i+1) os log ⟨put tm d Un,H,nx,np⟩:=nf rfl
theorem put_some (tm:List LV) (d:Nat) (x:LV):put tm (some d) x=tm.set d x:=nf rfl
theorem put_none (tm:List LV) (x:LV):put tm none x=tm:=nf rfl
theorem evX_t (gl:Nat→Option qal) (tm:List LV) (n:Nat):evX gl tm (.t n)=tm.getD n .undef:=nf rfl
theorem evX_c (gl:Nat→Option qal) (tm:List LV) (x:LV):evX gl tm (.c x)=x:=nf rfl
def outR:Option LV→Option Out
  | some x=>some ⟨x,[],[]⟩
  | none=>none
theorem outR_some (x:LV):outR (some x)=some ⟨x,[],[]⟩:=nf rfl
def pickV (x y:LV):LV→Option LV
  | .v (.bool t)=>some (if t=true then x else y)
  | _=>none
theorem pickV_true (x y:LV):pickV x y (Bo true)=some x:=nf rfl
theorem pickV_false (x y:LV):pickV x y (Bo false)=some y:=nf rfl
variable (tm:List LV) (H:Heap) (b:Nat)
theorem op_mv (x:LX):qa4 E tm H b (.mv x)=some ⟨evX E.gl tm x,[],[]⟩:=nf rfl
theorem op_pick (c x y:LX):qa4 E tm H b (.pick c x y)=outR (pickV (evX E.gl tm x) (evX E.gl tm y) (evX E.gl tm c)):=by
  simp only[qa4,qa2,qbz,pickV]; split <;> (split <;> simp_all [outR])
theorem op_bin (op:BinOp) (e:EqT) (x y:LX):qa4 E tm H b (.bin op e x y)=outR (binV op e (evX E.gl tm x) (evX E.gl tm y)):=by
  simp only[qa4,qa2,qbz]; cases binV op e (evX E.gl tm x) (evX E.gl tm y) <;> rfl
theorem op_un (op:UnOp) (x:LX):qa4 E tm H b (.un op x)=outR (unV op (evX E.gl tm x)):=by
  simp only[qa4,qa2,qbz]; cases unV op (evX E.gl tm x) <;> rfl
theorem op_cvt (k:IntKind) (x:LX):qa4 E tm H b (.cvt k x)=outR (cvtV k (evX E.gl tm x)):=by
  simp only[qa4,qa2,qbz,cvtV]; split <;> (split <;> simp_all [outR])
def callV (E:Env) (H:Heap) (b:Nat) (args:List LV):LV→Option Out
  | .fn (.func g) x y=>qar E H b g (x++args++y)
  | _=>none
theorem op_call (f:LX) (as:List LX):qa4 E tm H b (.call f as)=callV E H b (as.map (evX E.gl tm)) (evX E.gl tm f):=by
  simp only[qa4,qa2,qbz]
  generalize evX E.gl tm f=x
  cases x with
  | fn g _ _=>cases g <;> rfl
  | _=>rfl
theorem callV_fn (g:FuncId) (args:List LV):callV E H b args (.fn (.func g) [] [])=qar E H b g args:=by simp[callV]
theorem qdC (args:List LV):∀ i,lend H (fun _=>false) i args=some (args,[]):=by
  induction args with
  | nil=>intro i; rfl
  | cons x xs ih=>intro i; simp[lend,ih]
def calK (b:Nat):Option qcg→Option Out
  | some res=>some (qcG [] b res)
  | none=>none
theorem callOp_sc {g:FuncId} {args:List LV} (hb:E.borrow g=fun _=>false) (hn:args.flatMap (nms D)=[]) (hr:args.map (ren D (qaK []))=args) :
    qar E H b g args=calK b (E.cal g args []):=by
  unfold qar
  rw[hb,qdC]
  simp only[hn]
  have:qa7 H FUEL [] []=[]:=nf rfl
  simp only[this,List.any_nil,zP,zM,hr,zQ,zA,List.isEmpty_nil,Bool.true_or,zG]
  cases E.cal g args [] <;> rfl
theorem qdD {r:LV} (hr:∀ π,ren D π r=r):calK b (some (r,[],[]))=some ⟨r,[],[]⟩:=by
  simp only[calK,qcG,zA,List.zipWith_nil_left,hr]
def retK (np:Nat) (rs:List LRes):Option (Ex × St)→Option qcg
  | some (.normal,st)=>(qcO st rs).map (qbY np st)
  | some (.ret,st)=>(qcO st rs).map (qbY np st)
  | _=>none
theorem funSem_eq (k n:Nat) (rs:List LRes) (body:LCode) (args:List LV) (objs:List qal) :
    qf7 E k { ntmps:=n,results:=rs,body:=body } args objs=retK objs.length rs (ev E k body ⟨args++List.replicate (n - args.length) Un,qaY objs,2,objs.length⟩):=by
  unfold qf7 retK
  rfl
theorem retK_ret (np:Nat) (rs:List LRes) (st:St):retK np rs (some (.ret,st))=(qcO st rs).map (qbY np st):=nf rfl
theorem retK_normal (np:Nat) (rs:List LRes) (st:St):retK np rs (some (.normal,st))=(qcO st rs).map (qbY np st):=nf rfl
theorem resVal_tmp (t:Nat) (tm:List LV) (H:Heap) (nx np:Nat):qcO ⟨tm,H,nx,np⟩ [.tmp t]=some (tm.getD t .undef):=nf rfl
theorem resVal_none (st:St):qcO st []=some (.tup []):=nf rfl
theorem qbB {st:St} {r:LV} (hn:nms D r=[]) (hr:∀ π,ren D π r=r):qbY 0 st r=(r,[],[]):=by
  simp only[qbY,qbE,List.range_zero,zA,zK,zN,hn,zD]
  have:qa7 st.H FUEL [] []=[]:=nf rfl
  simp[this,hr]
theorem nms_B8 (x:BitVec 8):nms D (B8 x)=[]:=nf rfl
theorem nms_B32 (x:BitVec 32):nms D (B32 x)=[]:=nf rfl
theorem qgd (x:BitVec 64):nms D (B64 x)=[]:=nf rfl
theorem nms_I (x:Int):nms D (I x)=[]:=nf rfl
theorem nms_Bo (x:Bool):nms D (Bo x)=[]:=nf rfl
theorem nms_Un:nms D Un=[]:=nf rfl
theorem ren_B8 (π:Nm→Option Nm) (x:BitVec 8):ren D π (B8 x)=B8 x:=nf rfl
theorem ren_B32 (π:Nm→Option Nm) (x:BitVec 32):ren D π (B32 x)=B32 x:=nf rfl
theorem qdb (π:Nm→Option Nm) (x:BitVec 64):ren D π (B64 x)=B64 x:=nf rfl
theorem ren_I (π:Nm→Option Nm) (x:Int):ren D π (I x)=I x:=nf rfl
theorem qeK (π:Nm→Option Nm) (x:Bool):ren D π (Bo x)=Bo x:=nf rfl
theorem calK_B8 (b:Nat) (x:BitVec 8):calK b (some (B8 x,[],[]))=some ⟨B8 x,[],[]⟩:=qdD b fun _=>rfl
theorem outOf_B8 (st:St) (x:BitVec 8):qbY 0 st (B8 x)=(B8 x,[],[]):=qbB rfl fun _=>rfl
theorem calK_B32 (b:Nat) (x:BitVec 32):calK b (some (B32 x,[],[]))=some ⟨B32 x,[],[]⟩:=qdD b fun _=>rfl
theorem outOf_B32 (st:St) (x:BitVec 32):qbY 0 st (B32 x)=(B32 x,[],[]):=qbB rfl fun _=>rfl
theorem outOf_I (st:St) (x:Int):qbY 0 st (I x)=(I x,[],[]):=qbB rfl fun _=>rfl
theorem calK_Bo (b:Nat) (x:Bool):calK b (some (Bo x,[],[]))=some ⟨Bo x,[],[]⟩:=qdD b fun _=>rfl
theorem outOf_Bo (st:St) (x:Bool):qbY 0 st (Bo x)=(Bo x,[],[]):=qbB rfl fun _=>rfl
theorem qgw {keep:List Bool} {f:St→Option (Ex × St)} {k:Nat} {st st1 st':St} (hc:qa8 keep st=st1) (h:f st1=some (.normal,st')):qa1 keep f (k+1) st=qa1 keep f k st':=by
  simp only[qa1,hc,h]
theorem qgx {keep:List Bool} {f:St→Option (Ex × St)} {k:Nat} {st st1 st':St} {i:Nat} (hc:qa8 keep st=st1) (h:f st1=some (.exit i,st')):qa1 keep f (k+1) st=some (.exit i,st'):=by
  simp only[qa1,hc,h]
theorem loopN_ret {keep:List Bool} {f:St→Option (Ex × St)} {k:Nat} {st st1 st':St} (hc:qa8 keep st=st1) (h:f st1=some (.ret,st')):qa1 keep f (k+1) st=some (.ret,st'):=by
  simp only[qa1,hc,h]
def cH (H:Heap):Heap:=fun n=>if n.1=0 then (H n).map (fun cs=>cs.map (ren D (qbm []))) else none
theorem qfY {keep:List Bool} {tm tm':List LV} {H:Heap} {nx:Nat} (h0:mask keep tm=tm') (h1:tm'.flatMap (nms D)=[]) (h2:tm'.map (ren D (qbm []))=tm') :
    qa8 keep ⟨tm,H,nx,0⟩=⟨tm',cH H,2,0⟩:=by
  have e:qbE H 0 tm'=[]:=by
    simp only[qbE,List.range_zero,zA,zI,h1]
    rfl
  simp only[qa8,h0,e,h2]
  congr 1
  funext n
  simp only[cH]
  by_cases h:n.1=0
  · simp only[h,zG]
  · simp only [h, zM]
    by_cases h':n.1=1
    · simp only[h',zG,List.getElem?_nil]
    · simp only[h',zM]
theorem qdn (xs:List Bool):mask xs []=[]:=by cases xs <;> rfl
theorem qc7 (b:List Bool) (x:LV) (xs:List LV):mask (true::b) (x::xs)=x::mask b xs:=nf rfl
theorem qcP (b:List Bool) (x:LV) (xs:List LV):mask (false::b) (x::xs) = .undef::mask b xs:=nf rfl
theorem nms_undef:nms D .undef=[]:=nf rfl
theorem qdj (π:Nm→Option Nm):ren D π .undef = .undef:=nf rfl
end Go.LE
namespace Go.LE
theorem wf_u8 {a:Int} (h:(Lit.int .u8 a).wf=true):∃ x:BitVec 8,a=x.toNat:=by
  simp[Lit.wf,IntKind.min,IntKind.max,IntKind.signed,IntKind.bits] at h
  exact ⟨BitVec.ofNat 8 a.toNat,by simp; omega⟩
theorem wf_u64 {a:Int} (h:(Lit.int .u64 a).wf=true):∃ x:BitVec 64,a=x.toNat:=by
  simp[Lit.wf,IntKind.min,IntKind.max,IntKind.signed,IntKind.bits] at h
  exact ⟨BitVec.ofNat 64 a.toNat,by simp; omega⟩
end Go.LE
namespace Go.LE
variable {E:Env}
theorem qby (H:Heap) (n:Nm) (x:Option qal) (m:Nm):upd H n x m=if m=n then x else H m:=nf rfl
theorem stepK_new (b i:Nat) (os:List LOper) (log:List Done) (d:Option Nat) (tm:List LV) (H:Heap) (nx np:Nat) (v:LV) (z:qal) :
    qdK E b i os log d tm H nx np (some ⟨v,[z],[]⟩)=qbw E b (i+1) os log ⟨put tm d v,upd H (b+i,0) (some z),nx,np⟩:=by
  simp only[qdK,qeb]
  rfl
theorem stepK_mod (b i:Nat) (os:List LOper) (log:List Done) (d:Option Nat) (tm:List LV) (H:Heap) (nx np:Nat) (v:LV) (n:Nm) (z:Option qal) :
    qdK E b i os log d tm H nx np (some ⟨v,[],[(n,z)]⟩)=qbw E b (i+1) os log ⟨put tm d v,upd H n z,nx,np⟩:=by
  simp only[qdK,qbW]
  rfl
theorem qfZ (xs:qal):qbe (.agg xs)=some xs:=nf rfl
theorem cellsOf_B8 (x:BitVec 8):qbe (B8 x)=some [B8 x]:=nf rfl
theorem cellsOf_B32 (x:BitVec 32):qbe (B32 x)=some [B32 x]:=nf rfl
theorem cellsOf_B64 (x:BitVec 64):qbe (B64 x)=some [B64 x]:=nf rfl
theorem cellsOf_I (x:Int):qbe (I x)=some [I x]:=nf rfl
theorem cellsOf_Bo (x:Bool):qbe (Bo x)=some [Bo x]:=nf rfl
theorem isCell_B8 (x:BitVec 8):qaB (B8 x)=true:=nf rfl
theorem isCell_B64 (x:BitVec 64):qaB (B64 x)=true:=nf rfl
theorem isCell_I (x:Int):qaB (I x)=true:=nf rfl
theorem isCell_Bo (x:Bool):qaB (Bo x)=true:=nf rfl
def qaS (off n:Nat):Option qal→Option qal
  | some cs=>if off+n≤cs.length then some ((cs.drop off).take n) else none
  | none=>none
theorem cellAt_ptr (H:Heap) (n:Nat) (m:Nm) (off:Nat):qb6 H n (.ptr m off)=qaS off n (H m):=nf rfl
theorem qbH (off n:Nat) (cs:qal):qaS off n (some cs)=if off+n≤cs.length then some ((cs.drop off).take n) else none:=nf rfl
def ld1K:Option qal→Option Out
  | some [y]=>some ⟨y,[],[]⟩
  | _=>none
theorem ld1K_some (y:LV):ld1K (some [y])=some ⟨y,[],[]⟩:=nf rfl
def ldK:Option qal→Option Out
  | some ys=>some ⟨.agg ys,[],[]⟩
  | none=>none
theorem ldK_some (ys:qal):ldK (some ys)=some ⟨.agg ys,[],[]⟩:=nf rfl
variable (tm:List LV) (H:Heap) (b:Nat)
theorem op_ld1 (x:LX):qa4 E tm H b (.ld1 x)=ld1K (qb6 H 1 (evX E.gl tm x)):=nf rfl
theorem op_ld (n:Nat) (x:LX):qa4 E tm H b (.ld n x)=ldK (qb6 H n (evX E.gl tm x)):=nf rfl
theorem op_new (z:qal):qa4 E tm H b (.new z)=some ⟨.ptr (b,0) 0,[z],[]⟩:=nf rfl
def boxK (b:Nat):Option qal→Option Out
  | some ys=>some ⟨.ptr (b,0) 0,[ys],[]⟩
  | none=>none
theorem op_box (x:LX):qa4 E tm H b (.box x)=boxK b (qbe (evX E.gl tm x)):=nf rfl
theorem boxK_some (ys:qal):boxK b (some ys)=some ⟨.ptr (b,0) 0,[ys],[]⟩:=nf rfl
def stK (n off:Nat) (m:Nm):Option qal→Option qal→Option Out
  | some ys,some cs=>if ys.length=n∧off+n≤cs.length∧ys.all qaB=true then some ⟨Un,[],[(m,some (qbh cs off ys))]⟩ else none
  | _,_=>none
def stV (H:Heap) (n:Nat) (ys:Option qal):LV→Option Out
  | .ptr m off=>stK n off m ys (H m)
  | _=>none
theorem op_st (n:Nat) (x y:LX):qa4 E tm H b (.st n x y)=stV H n (qbe (evX E.gl tm y)) (evX E.gl tm x):=by
  simp only[qa4,qa2,qbz]
  generalize evX E.gl tm x=p
  generalize qbe (evX E.gl tm y)=q
  cases p <;> cases q <;> simp only[stV,stK]
  rename_i m off ys
  cases H m <;> rfl
theorem stV_ptr (n:Nat) (ys:Option qal) (m:Nm) (off:Nat):stV H n ys (.ptr m off)=stK n off m ys (H m):=nf rfl
theorem qcw (n off:Nat) (m:Nm) (ys cs:qal) :
    stK n off m (some ys) (some cs)=if ys.length=n∧off+n≤cs.length∧ys.all qaB=true then some ⟨Un,[],[(m,some (qbh cs off ys))]⟩ else none:=nf rfl
def faV (k:Nat):LV→Option LV
  | .ptr n off=>some (.ptr n (off+k))
  | .ipt xs=>some (.ipt (xs.drop k))
  | _=>none
theorem op_fa (k:Nat) (x:LX):qa4 E tm H b (.fa k x)=outR (faV k (evX E.gl tm x)):=by
  simp only[qa4,qa2,qbz,faV]
  generalize evX E.gl tm x=p
  cases p <;> rfl
theorem faV_ptr (k:Nat) (n:Nm) (off:Nat):faV k (.ptr n off)=some (.ptr n (off+k)):=nf rfl
def iaV (n size:Nat) (x:LV):Option Nat→Option LV
  | some j=>if j < n then (match x with
      | .ptr nm off=>some (.ptr nm (off+j*size))
      | .ipt xs=>some (.ipt (xs.drop (j*size)))
      | _=>none) else none
  | none=>none
theorem op_iaA (n size:Nat) (x i:LX):qa4 E tm H b (.iaA n size x i)=outR (iaV n size (evX E.gl tm x) (qco (evX E.gl tm i))):=by
  simp only[qa4,qa2,qbz,iaV]
  generalize qco (evX E.gl tm i)=j
  generalize evX E.gl tm x=p
  cases j with
  | none=>rfl
  | some j =>
    by_cases h:j < n
    · cases p <;> simp[h,outR]
    · simp[h,outR]
theorem iaV_ptr (n size:Nat) (nm:Nm) (off j:Nat):iaV n size (.ptr nm off) (some j)=if j < n then some (.ptr nm (off+j*size)) else none:=nf rfl
def ix1V (len size:Nat):LV→Option Nat→Option LV
  | .agg xs,some j=>if j < len then xs[j*size]? else none
  | _,_=>none
theorem op_ix1 (len size:Nat) (x i:LX):qa4 E tm H b (.ix1 len size x i)=outR (ix1V len size (evX E.gl tm x) (qco (evX E.gl tm i))):=by
  simp only[qa4,qa2,qbz]
  generalize qco (evX E.gl tm i)=j
  generalize evX E.gl tm x=p
  cases j with
  | none=>cases p <;> rfl
  | some j =>
    cases p with
    | agg xs =>
      simp only[ix1V]
      by_cases h:j < len
      · simp only[h,zG]; cases xs[j*size]? <;> rfl
      · simp only[h,zM]; rfl
    | _=>rfl
theorem ix1V_agg (len size:Nat) (xs:qal) (j:Nat):ix1V len size (.agg xs) (some j)=if j < len then xs[j*size]? else none:=nf rfl
def fillK (cells:qal) (off n:Nat) (rest:List (Nat × Nat × LV)):Option qal→Option qal
  | some ys=>if ys.length=n∧off+n≤cells.length then fill (qbh cells off ys) rest else none
  | none=>none
theorem fill_nil (cells:qal):fill cells []=some cells:=nf rfl
theorem qab (cells:qal) (off n:Nat) (x:LV) (rest:List (Nat × Nat × LV)):fill cells ((off,n,x)::rest)=fillK cells off n rest (qbe x):=by
  simp only[fill]
  cases qbe x <;> rfl
theorem fillK_some (cells:qal) (off n:Nat) (rest:List (Nat × Nat × LV)) (ys:qal) :
    fillK cells off n rest (some ys)=if ys.length=n∧off+n≤cells.length then fill (qbh cells off ys) rest else none:=nf rfl
def aggR:Option qal→Option Out
  | some xs=>some ⟨.agg xs,[],[]⟩
  | none=>none
theorem aggR_some (xs:qal):aggR (some xs)=some ⟨.agg xs,[],[]⟩:=nf rfl
theorem op_build (z:qal) (ps:List (Nat × Nat × LX)):qa4 E tm H b (.build z ps)=aggR (fill z (ps.map fun p=>(p.1,p.2.1,evX E.gl tm p.2.2))):=by
  simp only[qa4,qa2,qbz]
  cases fill z (ps.map fun p=>(p.1,p.2.1,evX E.gl tm p.2.2)) <;> rfl
def aggV:Option qal→Option LV
  | some ys=>some (.agg ys)
  | none=>none
theorem aggV_some (ys:qal):aggV (some ys)=some (.agg ys):=nf rfl
theorem resVal_agg (t n nx np:Nat):qcO ⟨tm,H,nx,np⟩ [.agg t n]=aggV (qb6 H n (tm.getD t .undef)):=by
  simp only[qcO,zB,zA,qev]
  cases qb6 H n (tm.getD t .undef) <;> rfl
theorem resVal_tt (t u nx np:Nat):qcO ⟨tm,H,nx,np⟩ [.tmp t,.tmp u]=some (.tup [tm.getD t .undef,tm.getD u .undef]):=nf rfl
def Hf (lo hi:BitVec 64):LV := .agg [B64 lo,B64 hi]
theorem agg_Hf (lo hi:BitVec 64):LV.agg [B64 lo,B64 hi]=Hf lo hi:=nf rfl
theorem cellsOf_Hf (lo hi:BitVec 64):qbe (Hf lo hi)=some [B64 lo,B64 hi]:=nf rfl
theorem qfE (lo hi:BitVec 64):nms D (Hf lo hi)=[]:=nf rfl
theorem qfF (π:Nm→Option Nm) (lo hi:BitVec 64):ren D π (Hf lo hi)=Hf lo hi:=nf rfl
theorem calK_Hf (b:Nat) (lo hi:BitVec 64):calK b (some (Hf lo hi,[],[]))=some ⟨Hf lo hi,[],[]⟩:=qdD b fun _=>rfl
theorem outOf_Hf (st:St) (lo hi:BitVec 64):qbY 0 st (Hf lo hi)=(Hf lo hi,[],[]):=qbB rfl fun _=>rfl
def reachK (H:Heap) (f:Nat) (seen:List Nm) (n:Nm) (todo:List Nm):Option qal→List Nm
  | none=>qa7 H f seen todo
  | some cs=>qa7 H f (seen++[n]) (cs.flatMap (nms D)++todo)
theorem qah (f:Nat) (seen:List Nm) (n:Nm) (todo:List Nm):qa7 H (f+1) seen (n::todo)=if seen.contains n=true then qa7 H f seen todo else reachK H f seen n todo (H n):=by
  simp only[qa7]
  by_cases h:seen.contains n=true
  · rw[if_pos h,if_pos h]
  · rw [if_neg h, if_neg h]
    cases H n <;> rfl
theorem qcc (f:Nat) (seen:List Nm) (n:Nm) (todo:List Nm) (cs:qal):reachK H f seen n todo (some cs)=qa7 H f (seen++[n]) (cs.flatMap (nms D)++todo):=nf rfl
theorem qba (f:Nat) (seen:List Nm):qa7 H (f+1) seen []=seen:=nf rfl
def cN (names:List Nm) (H:Heap):Heap:=fun n =>
  if n.1=0 then (H n).map (fun cs=>cs.map (ren D (qbm names)))
  else if n.1=1 then (match names[n.2]? with | some m=>(H m).map (fun cs=>cs.map (ren D (qbm names))) | none=>none) else none
theorem canon_mem {keep:List Bool} {tm tm' tm'':List LV} {H:Heap} {nx np:Nat} {names:List Nm} (h0:mask keep tm=tm') (hn:qbE H np tm'=names) (h2:tm'.map (ren D (qbm names))=tm'') :
    qa8 keep ⟨tm,H,nx,np⟩=⟨tm'',cN names H,2,np⟩:=by
  simp only[qa8,h0,hn,h2]
  rfl
theorem qcQ (names:List Nm) (H:Heap) (i:Nat) (m:Nm) (cs:qal) (h:names[i]? = some m) (hm:H m=some cs):cN names H (1,i)=some (cs.map (ren D (qbm names))):=by
  simp[cN,h,hm]
theorem qaj {names:List Nm} {H:Heap} {i:Nat} {cs:qal} (m:Nm) (h:names[i]? = some m) (hm:H m=some cs) (hr:cs.map (ren D (qbm names))=cs):cN names H (1,i)=some cs:=by
  rw[qcQ names H i m cs h hm,hr]
theorem qcp (n:Nm) (off:Nat):nms D (.ptr n off)=[n]:=nf rfl
theorem qa3 (n:Nm) (a b:Nat) (c:Option Nat) (d:Nat):nms D (.sl n a b c d)=[n]:=nf rfl
end Go.LE
namespace Go.LE
variable {E:Env}
def ordOk (X W:List Nm) (log:List Done) (base0 before:Nat):Bool :=
  W.all (fun n=>X.contains n) && X.all (fun n=>decide (n.1 < base0) || before.testBit (n.1 - base0)) && log.all (fun d=>before.testBit d.i || (qdy d.wrote X && qdy W d.saw))
def ordK (E:Env) (b i:Nat) (os:List LOper) (log:List Done) (d:Option Nat) (bf:Nat) (X:List Nm) (tm:List LV) (H:Heap) (nx np:Nat):Option Out→Option St
  | some r=>if ordOk X (r.mods.map (·.1)) log b bf=true then qbw E b (i+1) os (⟨i,X,r.mods.map (·.1)⟩::log) ⟨put tm d r.val,qbv (b+i) r H,nx,np⟩ else none
  | none=>none
def stepO (E:Env) (b i:Nat) (os:List LOper) (log:List Done) (d:Option Nat) (op:LOp) (bf:Nat) (tm:List LV) (H:Heap) (nx np:Nat) (X:List Nm):Option St :=
  ordK E b i os log d bf X tm H nx np (qdp (E.trim && qdz op) (only X H) (qa4 E tm (only X H) (b+i) op))
def guardO (E:Env) (b i:Nat) (os:List LOper) (log:List Done) (d:Option Nat) (op:LOp) (bf:Nat) (tm:List LV) (H:Heap) (nx np:Nat) (w:Bool):LV→Option St
  | .v (.bool t)=>if t=w then stepO E b i os log d op bf tm H nx np (qcj E.gl tm H op) else qbw E b (i+1) os log ⟨put tm d Un,H,nx,np⟩
  | .v _=>qbw E b (i+1) os log ⟨put tm d Un,H,nx,np⟩
  | _=>none
theorem ord_aux (b i:Nat) (d:Option Nat) (op:LOp) (bf:Nat) (os:List LOper) (log:List Done) (tm:List LV) (H:Heap) (nx np:Nat) :
    (match (match qdp (E.trim && qdz op) (only (qcj E.gl tm H op) H) (qa4 E tm (only (qcj E.gl tm H op) H) (b+i) op) with
      | none=>none
      | some r =>
        if ((r.mods.map (·.1)).all (fun n => (qcj E.gl tm H op).contains n) && (qcj E.gl tm H op).all (fun n => decide (n.1 < b) || bf.testBit (n.1 - b)) &&
            log.all (fun d=>bf.testBit d.i || (qdy d.wrote (qcj E.gl tm H op) && qdy (r.mods.map (·.1)) d.saw)))=true then
          some ((⟨put tm d r.val,qbv (b+i) r H,nx,np⟩:St),(⟨i,qcj E.gl tm H op,r.mods.map (·.1)⟩:Done)::log)
        else none:Option (St × List Done)) with
      | some (st',log')=>qbw E b (i+1) os log' st'
      | none=>none)=stepO E b i os log d op bf tm H nx np (qcj E.gl tm H op):=by
  unfold stepO ordK
  cases qdp (E.trim && qdz op) (only (qcj E.gl tm H op) H) (qa4 E tm (only (qcj E.gl tm H op) H) (b+i) op) with
  | none=>rfl
  | some r =>
    simp only
    split
    · rename_i st' log' h
      split at h
      · rename_i hc
        obtain ⟨rfl,rfl⟩:=Prod.mk.inj (Option.some.inj h)
        have:ordOk (qcj E.gl tm H op) (r.mods.map (·.1)) log b bf=true:=hc
        rw[if_pos this]
      · cases h
    · rename_i h
      split at h
      · cases h
      · rename_i hc
        have:¬ ordOk (qcj E.gl tm H op) (r.mods.map (·.1)) log b bf=true:=hc
        rw[if_neg this]
theorem evOpers_ord (b i:Nat) (d:Option Nat) (op:LOp) (bf:Nat) (os:List LOper) (log:List Done) (tm:List LV) (H:Heap) (nx np:Nat) :
    qbw E b i ({ dst:=d,op:=op,guard:=none,ord:=some bf }::os) log ⟨tm,H,nx,np⟩=stepO E b i os log d op bf tm H nx np (qcj E.gl tm H op):=by
  rw[←ord_aux,qbw,qe4]
  rfl
theorem evOpers_ord_g (b i:Nat) (d:Option Nat) (op:LOp) (bf t:Nat) (w:Bool) (os:List LOper) (log:List Done) (tm:List LV) (H:Heap) (nx np:Nat) :
    qbw E b i ({ dst:=d,op:=op,guard:=some (t,w),ord:=some bf }::os) log ⟨tm,H,nx,np⟩=guardO E b i os log d op bf tm H nx np w (tm.getD t .undef):=by
  unfold guardO
  rw[qbw,qe4]
  simp only[qc5]
  generalize tm.getD t .undef=x
  cases x with
  | v y =>
    cases y with
    | bool t =>
      simp only
      cases hw:t == w with
      | true =>
        have:t=w:=by simpa using hw
        simp only[this,zG]
        rw[←ord_aux]
        rfl
      | false =>
        have:¬ t=w:=by simpa using hw
        simp only[this,zM]
        rfl
    | _=>rfl
  | _=>rfl
theorem guardO_true (b i:Nat) (os:List LOper) (log:List Done) (d:Option Nat) (op:LOp) (bf:Nat) (tm:List LV) (H:Heap) (nx np:Nat) :
    guardO E b i os log d op bf tm H nx np true (Bo true)=stepO E b i os log d op bf tm H nx np (qcj E.gl tm H op):=nf rfl
theorem stepO_eq (b i:Nat) (os:List LOper) (log:List Done) (d:Option Nat) (op:LOp) (bf:Nat) (tm:List LV) (H:Heap) (nx np:Nat) (X:List Nm) :
    stepO E b i os log d op bf tm H nx np X=ordK E b i os log d bf X tm H nx np (qdp (E.trim && qdz op) (only X H) (qa4 E tm (only X H) (b+i) op)):=nf rfl
theorem trimO_f (H:Heap) (r:Option Out):qdp false H r=r:=nf rfl
theorem trimO_pure (t:Bool) (H:Heap) (v:LV) (news:List qal):qdp t H (some ⟨v,news,[]⟩)=some ⟨v,news,[]⟩:=by cases t <;> rfl
theorem qeL (H:Heap) (v:LV) (news:List qal) (ms:List (Nm × Option qal)) (h:∀ m ∈ ms,qcY (H m.1) m.2=true):qdp true H (some ⟨v,news,ms⟩)=some ⟨v,news,[]⟩:=by
  have h':(ms.all fun m=>qcY (H m.1) m.2)=true:=List.all_eq_true.2 h
  show some (if (ms.all fun m=>qcY (H m.1) m.2)=true then _ else _)=_
  rw[if_pos h']
theorem isCall_ld1 (x:LX):qdz (.ld1 x)=false:=nf rfl
theorem isCall_ld (n:Nat) (x:LX):qdz (.ld n x)=false:=nf rfl
theorem isCall_st (n:Nat) (x y:LX):qdz (.st n x y)=false:=nf rfl
theorem isCall_b2s (x:LX):qdz (.b2s x)=false:=nf rfl
theorem isCall_cvs (x:LX):qdz (.cvs x)=false:=nf rfl
theorem isCall_copy (n:Nat) (x y:LX):qdz (.copy n x y)=false:=nf rfl
theorem isCall_append (n m:Nat) (z:Bool) (x y:LX):qdz (.append n m z x y)=false:=nf rfl
theorem isCall_call (f:LX) (as:List LX):qdz (.call f as)=true:=nf rfl
theorem ordK_pure (b i:Nat) (os:List LOper) (log:List Done) (d:Option Nat) (bf:Nat) (X:List Nm) (tm:List LV) (H:Heap) (nx np:Nat) (v:LV) :
    ordK E b i os log d bf X tm H nx np (some ⟨v,[],[]⟩)=if ordOk X [] log b bf=true then qbw E b (i+1) os (⟨i,X,[]⟩::log) ⟨put tm d v,H,nx,np⟩ else none:=by
  simp only[ordK,zA,qbW]
  rfl
theorem ordK_mod (b i:Nat) (os:List LOper) (log:List Done) (d:Option Nat) (bf:Nat) (X:List Nm) (tm:List LV) (H:Heap) (nx np:Nat) (v:LV) (n:Nm) (z:Option qal) :
    ordK E b i os log d bf X tm H nx np (some ⟨v,[],[(n,z)]⟩)=if ordOk X [n] log b bf=true then qbw E b (i+1) os (⟨i,X,[n]⟩::log) ⟨put tm d v,upd H n z,nx,np⟩ else none:=by
  simp only[ordK,zA,zB,qbW]
  rfl
theorem only_at (X:List Nm) (H:Heap) (n:Nm):only X H n=if X.contains n=true then H n else none:=by
  simp only[only]
variable (gl:Nat→Option qal) (tm:List LV) (H:Heap)
theorem touch_ld1 (x:LX):qcj gl tm H (.ld1 x)=nms D (evX gl tm x):=by simp[qcj,deep,qd6]
theorem touch_ld (n:Nat) (x:LX):qcj gl tm H (.ld n x)=nms D (evX gl tm x):=by simp[qcj,deep,qd6]
theorem touch_st (n:Nat) (x y:LX):qcj gl tm H (.st n x y)=nms D (evX gl tm x)++nms D (evX gl tm y):=by simp[qcj,deep,qd6]
theorem touch_call (f:LX) (as:List LX):qcj gl tm H (.call f as)=qa7 H FUEL [] ((evX gl tm f::as.map (evX gl tm)).flatMap (nms D)):=by simp only[qcj,deep,qd6,zG]
theorem touch_b2s (x:LX):qcj gl tm H (.b2s x)=nms D (evX gl tm x):=by simp[qcj,deep,qd6]
theorem touch_cvs (x:LX):qcj gl tm H (.cvs x)=nms D (evX gl tm x):=by simp[qcj,deep,qd6]
theorem touch_copy (n:Nat) (x y:LX):qcj gl tm H (.copy n x y)=nms D (evX gl tm x)++nms D (evX gl tm y):=by simp[qcj,deep,qd6]
theorem reach_none:qa7 H FUEL [] []=[]:=nf rfl
theorem nms_fn (g:FuncId):nms D (.fn (.func g) [] [])=[]:=nf rfl
end Go.LE
