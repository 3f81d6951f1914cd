/- Soundness of a call: what is handed in takes the callee's names, and what comes back the caller's. -/
import Derived.Test.YtpkifhjlmkbdpaaDoorLeOpsAll
set_option linter.unusedVariables false
set_option linter.unusedSimpArgs false
namespace Go.LE
variable {P : Program} {R : Imm} {p : Places} {gl : Nat → Option Cells} {H : Heap} {w : World} {E : Env}

def outHeap (passed : List (Option Cells)) (news : List Cells) : Heap := fun n =>
  if n.1 = 0 then (passed[n.2]?).join else if n.1 = 1 then news[n.2]? else none

/-- what is claimed of a function at some arguments: whatever they stand for, it is called and answers what the result stands for -/
def FTri (P : Program) (gl : Nat → Option Cells) (f : FuncId) (args : List LV) (objs : List Cells) (res : CallRes) : Prop :=
  ∀ (R : Imm) (p : Places) (w : World) (vals : List Value), Globs gl R → Rep R p args vals → Sim R p (inHeap objs) w → (∀ n, 1 ≤ n.1 → p n = none) →
    res.2.1.length = objs.length ∧
    Calls P f vals.toArray w fun e w' => ∃ v R' p', e = .returned v ∧ Rep1 R' p' res.1 v ∧ Sim R' p' (outHeap res.2.1 res.2.2) w' ∧
      Ext R p (inHeap objs) w R' p' (outHeap res.2.1 res.2.2) w' ∧ (∀ k, p' (0, k) = p (0, k))

/-- a function that is called as any other -/
def Plain (P : Program) (f : FuncId) : Prop := ∃ fn, P.funcs[f]? = some fn ∧ (fn.name == "runtime.NumGoroutine") = false ∧ fn.body.isNone = false

def CalOk (P : Program) (E : Env) : Prop := ∀ f args objs res, E.cal f args objs = some res → Plain P f ∧ FTri P E.gl f args objs res

/-! ### the objects that are reached -/

theorem reach_spec (H : Heap) : ∀ f seen todo, (seen.Nodup → (reach H f seen todo).Nodup) ∧ ∀ n ∈ reach H f seen todo, n ∈ seen ∨ ∃ cs, H n = some cs := by
  intro f
  induction f with
  | zero => intro seen todo; exact ⟨id, fun n h => .inl h⟩
  | succ f ih =>
    intro seen todo
    cases todo with
    | nil => exact ⟨id, fun n h => .inl h⟩
    | cons n todo =>
      simp only [reach]
      split
      · exact ih seen todo
      · rename_i hn
        split
        · exact ih seen todo
        · rename_i cs hcs
          obtain ⟨h1, h2⟩ := ih (seen ++ [n]) (cs.flatMap (nms D) ++ todo)
          refine ⟨fun hs => h1 ?_, fun m hm => ?_⟩
          · rw [List.nodup_append]
            refine ⟨hs, by simp, ?_⟩
            intro a ha b hb
            simp at hb
            subst hb
            intro e
            subst e
            simp at hn
            exact hn ha
          · rcases h2 m hm with h | h
            · rcases List.mem_append.1 h with h | h
              · exact .inl h
              · simp at h; subst h; exact .inr ⟨cs, hcs⟩
            · exact .inr h

theorem nodup_inj {l : List Nm} (h : l.Nodup) {i j : Nat} (hi : i < l.length) (hj : j < l.length) (e : l[i] = l[j]) : i = j := by
  rcases Nat.lt_trichotomy i j with h1 | h1 | h1
  · exact absurd e (List.pairwise_iff_getElem.1 h i j hi hj h1)
  · exact h1
  · exact absurd e.symm (List.pairwise_iff_getElem.1 h j i hj hi h1)

theorem idx_spec (n : Nm) : ∀ (l : List Nm) (k i : Nat), idx n l k = some i → k ≤ i ∧ l[i - k]? = some n := by
  intro l
  induction l with
  | nil => intro k i h; simp [idx] at h
  | cons m l ih =>
    intro k i h
    simp only [idx] at h
    split at h
    · simp at h; subst h; rename_i e; simp [e]
    · obtain ⟨h1, h2⟩ := ih (k + 1) i h
      refine ⟨by omega, ?_⟩
      rw [show i - k = (i - (k + 1)) + 1 by omega]
      simpa using h2

theorem filterMap_all (H : Heap) : ∀ (l : List Nm), (∀ n ∈ l, ∃ cs, H n = some cs) → (l.filterMap H).length = l.length ∧ ∀ i : Nat, (l.filterMap H)[i]? = (l[i]?).bind H := by
  intro l
  induction l with
  | nil => intro _; simp
  | cons n l ih =>
    intro h
    obtain ⟨cs, hcs⟩ := h n (by simp)
    obtain ⟨h1, h2⟩ := ih (fun m hm => h m (by simp [hm]))
    simp only [List.filterMap_cons, hcs]
    refine ⟨by simp [h1], fun i => ?_⟩
    cases i with
    | zero => simp [hcs]
    | succ i => simpa using h2 i

/-! ### what is lent -/

/-- blocks of objects that are lent -/
def LentAt (p : Places) (H : Heap) (L : List Nm) (b : Nat) : Prop := ∃ n ∈ L, ∃ cs o s, H n = some cs ∧ p n = some (.at b o s)

open Classical in
noncomputable def lentImm (R : Imm) (p : Places) (H : Heap) (L : List Nm) (w : World) : Imm := fun b =>
  if LentAt p H L b then (match w.heap[b]? with | some (.cells vs _ _) => some vs.toList | _ => none) else R b

theorem lentImm_lent {L : List Nm} {b : Nat} {vs : Array Value} {T : TypeId} {fz : Nat × Nat} (h : LentAt p H L b) (hw : w.heap[b]? = some (.cells vs T fz)) : lentImm R p H L w b = some vs.toList := by
  unfold lentImm; rw [if_pos h, hw]

theorem lentImm_other {L : List Nm} {b : Nat} (h : ¬ LentAt p H L b) : lentImm R p H L w b = R b := by
  unfold lentImm; rw [if_neg h]

theorem lentImm_mono (hs : Sim R p H w) {L : List Nm} : ∀ b cs, R b = some cs → lentImm R p H L w b = some cs := by
  intro b cs hb
  rw [lentImm_other]
  · exact hb
  · rintro ⟨n, _, ds, o, s, h1, h2⟩
    obtain ⟨vs, T, fz, l⟩ := hs.at h1 h2
    rw [l.imm] at hb; cases hb

/-- the heap without what is lent -/
def unlent (L : List Nm) (H : Heap) : Heap := fun n => if L.contains n then none else H n

theorem unlent_sub {L : List Nm} : ∀ n cs, unlent L H n = some cs → H n = some cs ∧ ¬ n ∈ L := by
  intro n cs h
  unfold unlent at h
  split at h
  · cases h
  · rename_i hn; exact ⟨h, by simpa using hn⟩

theorem Sim.lend (hs : Sim R p H w) (L : List Nm) : Sim (lentImm R p H L w) p (unlent L H) w := by
  have hR := lentImm_mono hs (L := L)
  refine ⟨?_, ?_, ?_⟩
  · intro n cs hn
    obtain ⟨h1, h2⟩ := unlent_sub n cs hn
    rcases hs.obj n cs h1 with ⟨a, c⟩ | ⟨b, o, s, vs, T, fz, a, l⟩
    · exact .inl ⟨a, c⟩
    · refine .inr ⟨b, o, s, vs, T, fz, a, l.mono hR (fun _ _ h => h) rfl ?_⟩
      rw [lentImm_other]
      · exact l.imm
      · rintro ⟨m, hm, ds, o', s', h3, h4⟩
        have := hs.inj n m cs ds b o s o' s' h1 h3 a h4
        subst this
        exact h2 hm
  · intro n m cs ds b o s o' s' h1 h2 h3 h4
    exact hs.inj n m cs ds b o s o' s' (unlent_sub _ _ h1).1 (unlent_sub _ _ h2).1 h3 h4
  · intro b cs hb
    by_cases h : LentAt p H L b
    · obtain ⟨n, hn, ds, o, s, h1, h2⟩ := h
      obtain ⟨vs, T, fz, l⟩ := hs.at h1 h2
      rw [lentImm_lent ⟨n, hn, ds, o, s, h1, h2⟩ l.heap] at hb
      exact ⟨vs, T, fz, l.heap, Option.some.inj hb⟩
    · rw [lentImm_other h] at hb
      exact hs.imm b cs hb

theorem snapL_rep {f : LV → Option (LV × List Nm)} {L : List Nm} {R' : Imm} (hf : ∀ x y a v, f x = some (y, a) → (∀ n ∈ a, n ∈ L) → Rep1 R p x v → Rep1 R' p y v) :
    ∀ (xs ys : List LV) (a : List Nm) (vs : List Value), snapL f xs = some (ys, a) → (∀ n ∈ a, n ∈ L) → Rep R p xs vs → Rep R' p ys vs := by
  intro xs
  induction xs with
  | nil => intro ys a vs h _ hr; simp [snapL] at h; obtain ⟨rfl, rfl⟩ := h; cases hr; exact .nil
  | cons x xs ih =>
    intro ys a vs h ha hr
    obtain ⟨v, vs, rfl, h1, h2⟩ := hr.uncons
    simp only [snapL] at h
    split at h
    · rename_i y a1 ys' a2 e1 e2
      obtain ⟨rfl, rfl⟩ := Prod.mk.inj (Option.some.inj h)
      exact Rep.cons (hf x y a1 v e1 (fun n hn => ha n (by simp [hn])) h1) (ih ys' a2 vs e2 (fun n hn => ha n (by simp [hn])) h2)
    · cases h

theorem snapL_len {f : LV → Option (LV × List Nm)} : ∀ (xs ys : List LV) (a : List Nm), snapL f xs = some (ys, a) → ys.length = xs.length := by
  intro xs
  induction xs with
  | nil => intro ys a h; simp [snapL] at h; rw [h.1]
  | cons x xs ih =>
    intro ys a h
    simp only [snapL] at h
    split at h
    · rename_i y a1 ys' a2 e1 e2
      obtain ⟨rfl, rfl⟩ := Prod.mk.inj (Option.some.inj h)
      simp [ih ys' a2 e2]
    · cases h

theorem snap_rep (hs : Sim R p H w) (L : List Nm) : ∀ (d : Nat) (x y : LV) (a : List Nm) (v : Value), snap H d x = some (y, a) → (∀ n ∈ a, n ∈ L) → Rep1 R p x v → Rep1 (lentImm R p H L w) p y v := by
  have hR := lentImm_mono hs (L := L)
  intro d
  induction d with
  | zero => intro x y a v h; simp [snap] at h
  | succ d ih =>
    intro x y a v h ha hr
    cases x <;> try (simp [snap] at h; done)
    case v u => simp [snap] at h; obtain ⟨rfl, rfl⟩ := h; exact hr.mono hR (fun _ _ h => h)
    case ipt u => simp [snap] at h; obtain ⟨rfl, rfl⟩ := h; exact hr.mono hR (fun _ _ h => h)
    case isl u n => simp [snap] at h; obtain ⟨rfl, rfl⟩ := h; exact hr.mono hR (fun _ _ h => h)
    case sl n off len cap es =>
      simp only [snap] at h
      split at h
      · rename_i h0
        obtain ⟨rfl, rfl⟩ := Prod.mk.inj (Option.some.inj h)
        subst h0
        cases hr <;> exact .isl0 .nil
      · rename_i h0
        split at h
        · rename_i cs hn
          simp only [Option.map_eq_some_iff] at h
          obtain ⟨⟨ys, b'⟩, h1, h2⟩ := h
          simp at h2
          obtain ⟨rfl, rfl⟩ := h2
          cases hr with
          | sl0 _ _ => exact absurd rfl h0
          | @sl _ _ _ _ _ b o s c _ _ hp hl hk hsz _ =>
            obtain ⟨vs, T, fz, l⟩ := hs.at hn hp
            have hL : n ∈ L := ha n (by simp)
            have hb := lentImm_lent (R := R) ⟨n, hL, cs, o, s, hn, hp⟩ l.heap
            have hlen := snapL_len _ _ _ h1
            have hrep := snapL_rep (R' := lentImm R p H L w) (L := L) (fun x y a v h1 h2 h3 => ih x y a v h1 h2 h3) _ _ _ _ h1 (fun m hm => ha m (by simp [hm])) ((l.rep.drop off).take (len * es))
            rw [List.drop_take, List.drop_drop, List.take_take] at hrep
            refine .isl hb ?_ hl .nil
            have e3 : ys.length = min (len * es) (cs.length - off) := by rw [hlen]; simp
            rw [e3]
            exact hrep
        · cases h

theorem lend_rep (hs : Sim R p H w) (L : List Nm) {b : Nat → Bool} : ∀ (xs ys : List LV) (i : Nat) (a : List Nm) (vs : List Value), lend H b i xs = some (ys, a) → (∀ n ∈ a, n ∈ L) → Rep R p xs vs →
    Rep (lentImm R p H L w) p ys vs := by
  have hR := lentImm_mono hs (L := L)
  intro xs
  induction xs with
  | nil => intro ys i a vs h _ hr; simp [lend] at h; obtain ⟨rfl, rfl⟩ := h; cases hr; exact .nil
  | cons x xs ih =>
    intro ys i a vs h ha hr
    obtain ⟨v, vs, rfl, h1, h2⟩ := hr.uncons
    simp only [lend] at h
    split at h
    · rename_i y a1 ys' a2 e1 e2
      obtain ⟨rfl, rfl⟩ := Prod.mk.inj (Option.some.inj h)
      refine Rep.cons ?_ (ih ys' (i + 1) a2 vs e2 (fun n hn => ha n (by simp [hn])) h2)
      split at e1
      · exact snap_rep hs L D x y a1 v e1 (fun n hn => ha n (by simp [hn])) h1
      · obtain ⟨rfl, rfl⟩ := Prod.mk.inj (Option.some.inj e1); exact h1.mono hR (fun _ _ h => h)
    · cases h


/-- a call's continuation: what is shown of any operation, for the regions -/
def OpOk (P : Program) (R : Imm) (p : Places) (H : Heap) (w : World) (base : Nat) (o : Oper) (a : Act) (r : Out) : Prop :=
  ∀ (K : Act → World → Prop) (Q : Exit → Act → World → Prop),
    (∀ v w' R' p', Rep1 R' p' r.val v → Sim R' p' (applyOut base r H) w' → Ext R p H w R' p' (applyOut base r H) w' → (∀ n x, p n = some x → p' n = some x) →
      (∀ n x, p' n = some x → p n = some x ∨ n.1 = base) → K (a.put o.dst v) w') → o.wp P a w K Q

theorem Runs.ok {base : Nat} {o : Oper} {a : Act} {r : Out} (h : Runs P R p H w base (execOp a.eval o) r) : OpOk P R p H w base o a r := by
  intro K Q hK
  obtain ⟨nx, w', R', p', h1, h2, h3, h4, h5, h6⟩ := h.out
  unfold Oper.wp
  rw [h1]
  rcases h2 with ⟨v, rfl, hv⟩ | ⟨rfl, hv⟩
  · rw [Oper.upon_value]
    exact hK v w' R' p' hv h3 h4 h5 h6
  · rw [Oper.upon_skip]
    exact hK undef w' R' p' (by rw [hv]; exact .v .nil) h3 h4 h5 h6

theorem modsAt_zip {names : List Nm} (hnd : names.Nodup) (H : Heap) (f : Option Cells → Option Cells) : ∀ (passed : List (Option Cells)), passed.length = names.length →
    (∀ (i : Nat) (n : Nm) (x : Option Cells), names[i]? = some n → passed[i]? = some x → modsAt H (List.zipWith (fun n x => (n, f x)) names passed) n = f x) ∧
    (∀ n, n ∉ names → modsAt H (List.zipWith (fun n x => (n, f x)) names passed) n = H n) := by
  induction names with
  | nil => intro passed _; simp [modsAt]
  | cons m names ih =>
    intro passed hl
    cases passed with
    | nil => simp at hl
    | cons y passed =>
      obtain ⟨hm, hnd'⟩ := List.nodup_cons.1 hnd
      obtain ⟨h1, h2⟩ := ih hnd' passed (by simpa using hl)
      simp only [List.zipWith_cons_cons, modsAt_cons]
      refine ⟨fun i n x hn hx => ?_, fun n hn => ?_⟩
      · cases i with
        | zero => simp at hn hx; subst hn hx; simp [upd]
        | succ i =>
          simp at hn hx
          have : n ≠ m := fun e => by subst e; exact hm (List.mem_of_getElem? hn)
          unfold upd
          rw [if_neg this]
          exact h1 i n x hn hx
      · simp at hn
        unfold upd
        rw [if_neg hn.1]
        exact h2 n hn.2

theorem call_ok (hE : CalOk P E) (hg : Globs E.gl R) (hs : Sim R p H w) {base : Nat} (hn : ∀ k, p (base, k) = none) {g : FuncId} {args : List LV} {vals : List Value} (hr : Rep R p args vals) {r : Out}
    (hc : callOp E H base g args = some r) {K : Value → World → Prop}
    (hK : ∀ v w' R' p', Rep1 R' p' r.val v → Sim R' p' (applyOut base r H) w' → Ext R p H w R' p' (applyOut base r H) w' → (∀ n x, p n = some x → p' n = some x) →
      (∀ n x, p' n = some x → p n = some x ∨ n.1 = base) → K v w') :
    Calls P g vals.toArray w fun e w' => ∃ v, e = .returned v ∧ K v w' := by
  unfold callOp at hc
  split at hc
  · cases hc
  · rename_i args' lent hl
    simp only at hc
    split at hc
    · cases hc
    · rename_i hdis
      split at hc
      · cases hc
      · rename_i res hcal
        split at hc
        · rename_i hplain
          obtain rfl := Option.some.inj hc
          -- the objects that are handed in
          generalize hnames : reach H FUEL [] (args'.flatMap (nms D)) = names at *
          have hspec := reach_spec H FUEL [] (args'.flatMap (nms D))
          rw [hnames] at hspec
          have hnd : names.Nodup := hspec.1 List.nodup_nil
          have hex : ∀ n ∈ names, ∃ cs, H n = some cs := fun n hm => (hspec.2 n hm).resolve_left (by simp)
          obtain ⟨hol, hoi⟩ := filterMap_all H names hex
          have hdisj : ∀ n ∈ names, n ∉ lent := by
            intro n hm hl'
            apply hdis
            rw [List.any_eq_true]
            exact ⟨n, hl', by simpa using hm⟩
          -- what the callee sees
          let Rc := lentImm R p H lent w
          let pc : Places := fun n => if n.1 = 0 then (names[n.2]?).bind p else none
          have hRc : ∀ b cs, R b = some cs → Rc b = some cs := lentImm_mono hs
          have hπ : ∀ n m x, toCallee names n = some m → p n = some x → pc m = some x := by
            intro n m x h1 h2
            simp only [toCallee, Option.map_eq_some_iff] at h1
            obtain ⟨i, h1, rfl⟩ := h1
            have := (idx_spec n names 0 i h1).2
            simp at this
            simp [pc, this, h2]
          have hargs : Rep Rc pc (args'.map (ren D (toCallee names))) vals := (lend_rep hs lent _ _ _ _ _ hl (fun n h => h) hr).ren hπ D
          have sl := hs.lend lent
          have inObj : ∀ n cs, inHeap ((names.filterMap H).map fun cs => cs.map (ren D (toCallee names))) n = some cs →
              n.1 = 0 ∧ ∃ m ds, names[n.2]? = some m ∧ H m = some ds ∧ unlent lent H m = some ds ∧ cs = ds.map (ren D (toCallee names)) := by
            intro n cs h
            unfold inHeap at h
            split at h
            · rename_i h0
              simp only [List.getElem?_map, Option.map_eq_some_iff] at h
              obtain ⟨ds, h1, rfl⟩ := h
              rw [hoi] at h1
              simp only [Option.bind_eq_some_iff] at h1
              obtain ⟨m, h1, h2⟩ := h1
              refine ⟨h0, m, ds, h1, h2, ?_, rfl⟩
              unfold unlent
              rw [if_neg (by simpa using hdisj m (List.mem_of_getElem? h1))]
              exact h2
            · cases h
          have hsc : Sim Rc pc (inHeap ((names.filterMap H).map fun cs => cs.map (ren D (toCallee names)))) w := by
            refine ⟨?_, ?_, sl.imm⟩
            · intro n cs h
              obtain ⟨h0, m, ds, h1, h2, h3, rfl⟩ := inObj n cs h
              have hp : pc n = p m := by simp [pc, h0, h1]
              rcases sl.obj m ds h3 with ⟨a, c⟩ | ⟨b, o, s, vs, T, fz, a, l⟩
              · exact .inl ⟨by rw [hp]; exact a, by rw [c]; rfl⟩
              · exact .inr ⟨b, o, s, vs, T, fz, by rw [hp]; exact a, l.heap, l.imm, l.free, l.size, by rw [List.length_map]; exact l.fits, by rw [List.length_map]; exact l.rep.ren hπ D⟩
            · intro n m cs ds b o s o' s' h1 h2 h3 h4
              obtain ⟨e0, k1, d1, e1, e2, e3, _⟩ := inObj n cs h1
              obtain ⟨f0, k2, d2, f1, f2, f3, _⟩ := inObj m ds h2
              simp only [pc, e0, if_true, e1, Option.bind_some] at h3
              simp only [pc, f0, if_true, f1, Option.bind_some] at h4
              have hk := hs.inj k1 k2 d1 d2 b o s o' s' e2 f2 h3 h4
              subst hk
              obtain ⟨n1, n2⟩ := n
              obtain ⟨m1, m2⟩ := m
              simp at e0 f0 e1 f1
              subst e0 f0
              have : n2 = m2 := by
                obtain ⟨q1, q2⟩ := List.getElem?_eq_some_iff.1 e1
                obtain ⟨q3, q4⟩ := List.getElem?_eq_some_iff.1 f1
                exact nodup_inj hnd q1 q3 (q2.trans q4.symm)
              rw [this]
          have hgc : Globs E.gl Rc := fun g xs h => by obtain ⟨cs, h1, h2⟩ := hg g xs h; exact ⟨cs, hRc _ _ h1, h2⟩
          have hpc1 : ∀ n : Nm, 1 ≤ n.1 → pc n = none := fun n h => by simp only [pc]; rw [if_neg (by omega)]
          obtain ⟨hplen, hcalls⟩ := (hE g _ _ res hcal).2 Rc pc w vals hgc hargs hsc hpc1
          refine hcalls.mono ?_
          rintro e w' ⟨v, R', p', rfl, hv, hsim, hext, hkeep⟩
          refine ⟨v, rfl, ?_⟩
          obtain ⟨ret, passed, news⟩ := res
          simp only at hplen hv hsim hext hplain ⊢
          rw [List.length_map, hol] at hplen
          -- back to the caller's names
          let pf : Places := fun n => if n.1 = base then (if n.2 < news.length then p' (1, n.2) else none) else p n
          have hpf : ∀ n x, p n = some x → pf n = some x := by
            intro n x h
            have : n.1 ≠ base := fun e => by
              obtain ⟨n1, n2⟩ := n
              simp at e
              subst e
              rw [hn] at h; cases h
            simp [pf, this, h]
          have hpf' : ∀ n x, pf n = some x → p n = some x ∨ n.1 = base := by
            intro n x h
            by_cases e : n.1 = base
            · exact .inr e
            · simp only [pf, e, if_false] at h; exact .inl h
          have hσ : ∀ n m x, toCaller names base news.length n = some m → p' n = some x → pf m = some x := by
            intro n m x h1 h2
            unfold toCaller at h1
            split at h1
            · rename_i h0
              obtain ⟨n1, n2⟩ := n
              simp at h0 h1
              subst h0
              rw [hkeep] at h2
              simp only [pc, if_true, h1, Option.bind_some] at h2
              exact hpf _ _ h2
            · rename_i h0
              split at h1
              · rename_i h3
                obtain ⟨n1, n2⟩ := n
                simp at h3 h1
                obtain ⟨rfl, h3⟩ := h3
                subst h1
                simp [pf, h3, h2]
              · cases h1
          -- what is never written, without what was lent
          have hRf : ∃ Rf : Imm, (∀ b, (∃ n ∈ lent, ∃ cs o s, H n = some cs ∧ p n = some (.at b o s)) → Rf b = none) ∧
              (∀ b, ¬ (∃ n ∈ lent, ∃ cs o s, H n = some cs ∧ p n = some (.at b o s)) → Rf b = R' b) ∧
              (∀ xs ys, (xs = [ret] ∨ some xs ∈ passed ∨ xs ∈ news) → Rep R' p' xs ys → Rep Rf p' xs ys) := by
            by_cases hle : lent = []
            · refine ⟨R', ?_, fun _ _ => rfl, fun _ _ _ h => h⟩
              rintro b ⟨n, hn', _⟩
              rw [hle] at hn'; cases hn'
            · classical
              refine ⟨fun b => if LentAt p H lent b then none else R' b, fun b h => if_pos h, fun b h => if_neg h, ?_⟩
              intro xs ys hx hrep
              have hpl : plainRes (ret, passed, news) = true := by
                have : lent.isEmpty = false := by simpa using hle
                simpa [this] using hplain
              simp only [plainRes, Bool.and_eq_true, List.all_eq_true] at hpl
              apply hrep.noImm_all D
              rcases hx with rfl | hx | hx
              · simp [hpl.1.1]
              · have := hpl.1.2 _ hx; simpa using this
              · have := hpl.2 _ hx; simpa using this
          obtain ⟨Rf, hRf1, hRf2, hRf3⟩ := hRf
          have ownIn : ∀ b, Owned pc (inHeap ((names.filterMap H).map fun cs => cs.map (ren D (toCallee names)))) b → ∃ m ds o s, m ∈ names ∧ H m = some ds ∧ p m = some (.at b o s) := by
            rintro b ⟨n, cs, o, s, h1, h2⟩
            obtain ⟨h0, m, ds, h3, h4, h5, _⟩ := inObj n cs h1
            simp only [pc, h0, if_true, h3, Option.bind_some] at h2
            exact ⟨m, ds, o, s, List.mem_of_getElem? h3, h4, h2⟩
          -- an object that was not handed in
          have rest : ∀ n cs b o s vs T fz, n ∉ names → H n = some cs → p n = some (.at b o s) → Lies R p w cs b o s vs T fz → Lies Rf pf w' cs b o s vs T fz := by
            intro n cs b o s vs T fz hnn hH hp l
            have hno : ¬ Owned pc (inHeap ((names.filterMap H).map fun cs => cs.map (ren D (toCallee names)))) b := by
              intro ho
              obtain ⟨m, ds, o', s', h1, h2, h3⟩ := ownIn b ho
              have := hs.inj n m cs ds b o s o' s' hH h2 hp h3
              subst this
              exact hnn h1
            have hheap := hext.kept b l.lt hno
            have hRnone : Rf b = none := by
              by_cases hlb : ∃ n ∈ lent, ∃ cs o s, H n = some cs ∧ p n = some (.at b o s)
              · exact hRf1 b hlb
              · rw [hRf2 b hlb]
                cases hb : R' b with
                | none => rfl
                | some ds =>
                  rcases hext.newImm b ds hb with h1 | h1 | h1
                  · have : Rc b = R b := lentImm_other hlb
                    rw [this, l.imm] at h1; cases h1
                  · exact absurd l.lt (by omega)
                  · exact absurd h1 hno
            refine ⟨hheap.trans l.heap, hRnone, l.free, l.size, l.fits, l.rep.mono ?_ hpf⟩
            intro b' cs' hb'
            have hlb : ¬ ∃ n ∈ lent, ∃ cs o s, H n = some cs ∧ p n = some (.at b' o s) := by
              rintro ⟨m, _, ds, o', s', h1, h2⟩
              obtain ⟨_, _, _, l'⟩ := hs.at h1 h2
              rw [l'.imm] at hb'; cases hb'
            rw [hRf2 b' hlb]
            exact hext.imm _ _ (hRc _ _ hb')
          -- an object of the callee's, in the caller's names
          have back : ∀ n cs m, outHeap passed news n = some cs → toCaller names base news.length n = some m → (cs = [] ∧ pf m = some .nowhere) ∨
              ∃ b o s vs T fz, p' n = some (.at b o s) ∧ pf m = some (.at b o s) ∧ Lies Rf pf w' (cs.map (ren D (toCaller names base news.length))) b o s vs T fz := by
            intro n cs m h1 h2
            have hmem : cs = [ret] ∨ some cs ∈ passed ∨ cs ∈ news := by
              unfold outHeap at h1
              split at h1
              · cases hq : passed[n.2]? with
                | none => simp [hq] at h1
                | some q => simp [hq] at h1; subst h1; exact .inr (.inl (List.mem_of_getElem? hq))
              · split at h1
                · exact .inr (.inr (List.mem_of_getElem? h1))
                · cases h1
            rcases hsim.obj n cs h1 with ⟨a, c⟩ | ⟨b, o, s, vs, T, fz, a, l⟩
            · exact .inl ⟨c, hσ _ _ _ h2 a⟩
            · refine .inr ⟨b, o, s, vs, T, fz, a, hσ _ _ _ h2 a, l.heap, ?_, l.free, l.size, by rw [List.length_map]; exact l.fits, ?_⟩
              · by_cases hlb : ∃ n ∈ lent, ∃ cs o s, H n = some cs ∧ p n = some (.at b o s)
                · exact hRf1 b hlb
                · rw [hRf2 b hlb]; exact l.imm
              · rw [List.length_map]
                exact (hRf3 _ _ hmem l.rep).ren hσ D
          obtain ⟨z1, z2⟩ := modsAt_zip hnd H (fun p : Option Cells => p.map fun cs => cs.map (ren D (toCaller names base news.length))) passed hplen
          -- the caller's heap
          have cases_ : ∀ n cs, applyOut base (backTo names base (ret, passed, news)) H n = some cs →
              (∃ m ds, outHeap passed news m = some ds ∧ toCaller names base news.length m = some n ∧ cs = ds.map (ren D (toCaller names base news.length))) ∨ (n ∉ names ∧ n.1 ≠ base ∧ H n = some cs) := by
            intro n cs h
            unfold applyOut at h
            split at h
            · rename_i h0
              obtain ⟨n1, n2⟩ := n
              simp only [backTo, List.length_map, List.getElem?_map, Option.map_eq_some_iff] at h0 h
              obtain ⟨rfl, h0⟩ := h0
              obtain ⟨ds, h1, rfl⟩ := h
              exact .inl ⟨(1, n2), ds, by simpa [outHeap] using h1, by simp [toCaller, h0], rfl⟩
            · rename_i h0
              by_cases hm : n ∈ names
              · obtain ⟨i, hi⟩ := List.getElem?_of_mem hm
                obtain ⟨hlt, _⟩ := List.getElem?_eq_some_iff.1 hi
                have hpi : passed[i]? = some passed[i] := List.getElem?_eq_getElem (by omega)
                have e : modsAt H (backTo names base (ret, passed, news)).mods n = _ := z1 i n passed[i] hi hpi
                rw [e] at h
                simp only [Option.map_eq_some_iff] at h
                obtain ⟨ds, h1, rfl⟩ := h
                exact .inl ⟨(0, i), ds, by simp [outHeap, hpi, h1], by simpa [toCaller] using hi, rfl⟩
              · have e : modsAt H (backTo names base (ret, passed, news)).mods n = _ := z2 n hm
                rw [e] at h
                refine .inr ⟨hm, fun eb => ?_, h⟩
                have hd := hs.dom (n := n) (by obtain ⟨n1, n2⟩ := n; simp at eb; subst eb; exact hn n2)
                rw [hd] at h; cases h
          have injOut : ∀ m m' n, toCaller names base news.length m = some n → toCaller names base news.length m' = some n → (∃ x, outHeap passed news m = some x) → (∃ x, outHeap passed news m' = some x) → m = m' := by
            intro m m' n h1 h2 hx hx'
            obtain ⟨m1, m2⟩ := m
            obtain ⟨k1, k2⟩ := m'
            unfold toCaller at h1 h2
            have inNames : ∀ i : Nat, names[i]? = some n → n.1 ≠ base := by
              intro i hi eb
              obtain ⟨cs, hcs⟩ := hex n (List.mem_of_getElem? hi)
              have hd := hs.dom (n := n) (by obtain ⟨n1, n2⟩ := n; simp at eb; subst eb; exact hn n2)
              rw [hd] at hcs; cases hcs
            split at h1 <;> split at h2
            · rename_i a b
              simp at a b h1 h2
              subst a b
              obtain ⟨q1, q2⟩ := List.getElem?_eq_some_iff.1 h1
              obtain ⟨q3, q4⟩ := List.getElem?_eq_some_iff.1 h2
              have := nodup_inj hnd q1 q3 (q2.trans q4.symm)
              rw [this]
            · split at h2
              · simp at h2; subst h2; exact absurd rfl (inNames _ h1)
              · cases h2
            · split at h1
              · simp at h1; subst h1; exact absurd rfl (inNames _ h2)
              · cases h1
            · split at h1
              · split at h2
                · rename_i a b
                  simp at a b h1 h2
                  obtain ⟨rfl, _⟩ := a
                  obtain ⟨rfl, _⟩ := b
                  subst h1
                  simp at h2
                  rw [h2]
                · cases h2
              · cases h1
          have hSim : Sim Rf pf (applyOut base (backTo names base (ret, passed, news)) H) w' := by
            refine ⟨?_, ?_, ?_⟩
            · intro n cs h
              rcases cases_ n cs h with ⟨m, ds, h1, h2, rfl⟩ | ⟨h1, h2, h3⟩
              · rcases back m ds n h1 h2 with ⟨rfl, a⟩ | ⟨b, o, s, vs, T, fz, _, a, l⟩
                · exact .inl ⟨a, rfl⟩
                · exact .inr ⟨b, o, s, vs, T, fz, a, l⟩
              · rcases hs.obj n cs h3 with ⟨a, c⟩ | ⟨b, o, s, vs, T, fz, a, l⟩
                · exact .inl ⟨hpf _ _ a, c⟩
                · exact .inr ⟨b, o, s, vs, T, fz, hpf _ _ a, rest n cs b o s vs T fz h1 h3 a l⟩
            · intro n m cs ds b o s o' s' h1 h2 h3 h4
              have far : ∀ n cs k ds b o s o' s', (n ∉ names ∧ n.1 ≠ base ∧ H n = some cs) → outHeap passed news k = some ds → pf n = some (.at b o s) → p' k = some (.at b o' s') → False := by
                intro n cs k ds b o s o' s' ⟨q1, q2, q3⟩ q4 q5 q6
                have q7 : p n = some (.at b o s) := by simpa [pf, q2] using q5
                obtain ⟨vs, T, fz, l⟩ := hs.at q3 q7
                rcases hext.own b ⟨k, ds, o', s', q4, q6⟩ with h | h
                · obtain ⟨m', d', o2, s2, g1, g2, g3⟩ := ownIn b h
                  have := hs.inj n m' cs d' b o s o2 s2 q3 g2 q7 g3
                  subst this
                  exact q1 g1
                · exact absurd l.lt (by omega)
              have get : ∀ k dk n b o s, outHeap passed news k = some dk → toCaller names base news.length k = some n → pf n = some (.at b o s) → p' k = some (.at b o s) := by
                intro k dk n b o s g1 g2 g3
                rcases back k dk n g1 g2 with ⟨_, a⟩ | ⟨b', o2, s2, vs, T, fz, a1, a2, _⟩
                · rw [a] at g3; cases g3
                · rw [a2] at g3; cases g3; exact a1
              rcases cases_ n cs h1 with ⟨k, dk, e1, e2, _⟩ | e <;> rcases cases_ m ds h2 with ⟨k', dk', f1, f2, _⟩ | f
              · have p1 := get k dk n b o s e1 e2 h3
                have p2 := get k' dk' m b o' s' f1 f2 h4
                have := hsim.inj k k' dk dk' b o s o' s' e1 f1 p1 p2
                subst this
                rw [e2] at f2
                exact Option.some.inj f2
              · exact (far m ds k dk b o' s' o s f e1 h4 (get k dk n b o s e1 e2 h3)).elim
              · exact (far n cs k' dk' b o s o' s' e f1 h3 (get k' dk' m b o' s' f1 f2 h4)).elim
              · have p1 : p n = some (.at b o s) := by simpa [pf, e.2.1] using h3
                have p2 : p m = some (.at b o' s') := by simpa [pf, f.2.1] using h4
                exact hs.inj n m cs ds b o s o' s' e.2.2 f.2.2 p1 p2
            · intro b cs hb
              by_cases hlb : ∃ n ∈ lent, ∃ cs o s, H n = some cs ∧ p n = some (.at b o s)
              · rw [hRf1 b hlb] at hb; cases hb
              · rw [hRf2 b hlb] at hb; exact hsim.imm b cs hb
          refine hK v w' Rf pf ((hRf3 [ret] [v] (.inl rfl) hv).ren hσ D) hSim ?_ hpf hpf'
          refine ⟨?_, hext.size, ?_, ?_, ?_, hext.io⟩
          · intro b cs hb
            have hlb : ¬ ∃ n ∈ lent, ∃ cs o s, H n = some cs ∧ p n = some (.at b o s) := by
              rintro ⟨m, _, ds, o', s', h1, h2⟩
              obtain ⟨_, _, _, l'⟩ := hs.at h1 h2
              rw [l'.imm] at hb; cases hb
            rw [hRf2 b hlb]
            exact hext.imm _ _ (hRc _ _ hb)
          · intro b hb hno
            apply hext.kept b hb
            intro ho
            obtain ⟨m, ds, o, s, _, h2, h3⟩ := ownIn b ho
            exact hno ⟨m, ds, o, s, h2, h3⟩
          · intro b cs hb
            by_cases hlb : ∃ n ∈ lent, ∃ cs o s, H n = some cs ∧ p n = some (.at b o s)
            · rw [hRf1 b hlb] at hb; cases hb
            · rw [hRf2 b hlb] at hb
              rcases hext.newImm b cs hb with h1 | h1 | h1
              · have : Rc b = R b := lentImm_other hlb
                rw [this] at h1; exact .inl h1
              · exact .inr (.inl h1)
              · obtain ⟨m, ds, o, s, _, h2, h3⟩ := ownIn b h1
                exact .inr (.inr ⟨m, ds, o, s, h2, h3⟩)
          · rintro b ⟨n, cs, o, s, h1, h2⟩
            rcases cases_ n cs h1 with ⟨k, dk, e1, e2, _⟩ | e
            · rcases back k dk n e1 e2 with ⟨_, a⟩ | ⟨b', o2, s2, vs, T, fz, a1, a2, _⟩
              · rw [a] at h2; cases h2
              · rw [a2] at h2; cases h2
                rcases hext.own b ⟨k, dk, o, s, e1, a1⟩ with h | h
                · obtain ⟨m, ds, o', s', _, g2, g3⟩ := ownIn b h
                  exact .inl ⟨m, ds, o', s', g2, g3⟩
                · exact .inr h
            · have p1 : p n = some (.at b o s) := by simpa [pf, e.2.1] using h2
              exact .inl ⟨n, cs, o, s, e.2.2, p1⟩
        · cases hc

end Go.LE
