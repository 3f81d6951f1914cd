/- A region whose order is drawn: whatever order the edges allow, it comes out as the text's. -/
import Derived.Test.YtpkifhjlmkbdpaaDoorLeOrder
set_option linter.unusedVariables false
set_option linter.unusedSimpArgs false
namespace Go.LE
variable {P : Program} {R : Imm} {p : Places} {w : World} {E : Env}

/-- what became of an operation in the text's order -/
structure Ent where
  i : Nat
  dst : Option Nat
  res : Option Out
  saw : List Nm
  heap : Bool

def Ent.wrote (e : Ent) : List Nm := match e.res with | some r => r.mods.map (·.1) | none => []

abbrev S2 := List LV × Heap

def applyEnt (base0 : Nat) (e : Ent) (s : S2) : S2 :=
  match e.res with
  | none => (put s.1 e.dst (.v (.tuple #[])), s.2)
  | some r => (put s.1 e.dst r.val, applyOut (base0 + e.i) r s.2)

/-- those of them whose numbers are in S, in the text's order -/
def runS (base0 : Nat) (S : Nat → Bool) : List Ent → S2 → S2
  | [], s => s
  | e :: es, s => runS base0 S es (if S e.i then applyEnt base0 e s else s)

def EntOk (E : Env) (base0 : Nat) (s : S2) (lo : LOper) (e : Ent) : Prop :=
  e.dst = lo.dst ∧
  ((wanted lo.guard s.1 = some false ∧ e.res = none ∧ e.heap = false) ∨
   (wanted lo.guard s.1 = some true ∧ ∃ r, e.res = some r ∧
     ((lo.ord = none ∧ e.heap = false ∧ opRes E s.1 s.2 (base0 + e.i) lo.op = some r) ∨
      (∃ b, lo.ord = some b ∧ e.heap = true ∧ opRes E s.1 (only e.saw s.2) (base0 + e.i) lo.op = some r ∧ (∀ q ∈ r.mods, q.1 ∈ e.saw) ∧ ∀ n ∈ e.saw, n.1 < base0 ∨ b.testBit (n.1 - base0) = true))))

def Free (i : Nat) (saw wrote : List Nm) (e : Ent) (b : Nat) : Prop := b.testBit i = true ∨ ((∀ n ∈ wrote, n ∉ e.saw) ∧ ∀ n ∈ e.wrote, n ∉ saw)

theorem runS_none (base0 : Nat) {S : Nat → Bool} : ∀ (es : List Ent) (s : S2), (∀ e ∈ es, S e.i = false) → runS base0 S es s = s
  | [], _, _ => rfl
  | e :: es, s, h => by
    simp only [runS, h e (by simp), Bool.false_eq_true, if_false]
    exact runS_none base0 es s fun e he => h e (by simp [he])

theorem runS_congr (base0 : Nat) {S S' : Nat → Bool} : ∀ (es : List Ent) (s : S2), (∀ e ∈ es, S e.i = S' e.i) → runS base0 S es s = runS base0 S' es s
  | [], _, _ => rfl
  | e :: es, s, h => by
    simp only [runS, h e (by simp)]
    exact runS_congr base0 es _ fun e he => h e (by simp [he])

theorem apart_of {a b : List Nm} (h : apartFrom a b = true) : ∀ n ∈ a, n ∉ b := by
  intro n hn hb
  simp only [apartFrom, List.all_eq_true] at h
  have := h n hn
  simp at this
  exact this hb

theorem trace (base0 : Nat) : ∀ (los : List LOper) (i : Nat) (log : List Done) (st st' : St), evOpers E base0 i los log st = some st' →
    ∃ es : List Ent, es.length = los.length ∧ (∀ (k : Nat) (e : Ent), es[k]? = some e → e.i = i + k) ∧
      (∀ (k : Nat) (e : Ent) (lo : LOper), es[k]? = some e → los[k]? = some lo → EntOk E base0 (runS base0 (fun j => decide (j < i + k)) es (st.tm, st.H)) lo e) ∧
      (∀ (k : Nat) (e : Ent) (lo : LOper) (b : Nat), es[k]? = some e → los[k]? = some lo → lo.ord = some b → e.heap = true → ∀ d ∈ log, Free d.i d.saw d.wrote e b) ∧
      (∀ (k k' : Nat) (e e' : Ent) (lo : LOper) (b : Nat), k < k' → es[k]? = some e → es[k']? = some e' → los[k']? = some lo → lo.ord = some b → e.heap = true → e'.heap = true → Free e.i e.saw e.wrote e' b) ∧
      (st'.tm, st'.H) = runS base0 (fun _ => true) es (st.tm, st.H) := by
  intro los
  induction los with
  | nil =>
    intro i log st st' h
    simp [evOpers] at h
    subst h
    exact ⟨[], rfl, by simp, by simp, by simp, by simp, rfl⟩
  | cons lo los ih =>
    intro i log st st' h
    simp only [evOpers] at h
    split at h
    · rename_i st1 log1 he
      obtain ⟨es, q1, q2, q3, q4, q5, q6⟩ := ih (i + 1) log1 st1 st' h
      -- the first one
      have first : ∃ e : Ent, e.i = i ∧ EntOk E base0 (st.tm, st.H) lo e ∧ (st1.tm, st1.H) = applyEnt base0 e (st.tm, st.H) ∧
          (∀ b, lo.ord = some b → e.heap = true → ∀ d ∈ log, Free d.i d.saw d.wrote e b) ∧ (∀ d ∈ log, d ∈ log1) ∧ (e.heap = true → (⟨e.i, e.saw, e.wrote⟩ : Done) ∈ log1) := by
        unfold evOper at he
        split at he
        · cases he
        · rename_i hw
          obtain ⟨rfl, rfl⟩ := Prod.mk.inj (Option.some.inj he)
          exact ⟨⟨i, lo.dst, none, [], false⟩, rfl, ⟨rfl, .inl ⟨hw, rfl, rfl⟩⟩, rfl, by simp, fun _ h => h, by simp⟩
        · rename_i hw
          split at he
          · rename_i hord
            split at he
            · cases he
            · rename_i r hr
              obtain ⟨rfl, rfl⟩ := Prod.mk.inj (Option.some.inj he)
              exact ⟨⟨i, lo.dst, some r, [], false⟩, rfl, ⟨rfl, .inr ⟨hw, r, rfl, .inl ⟨hord, rfl, hr⟩⟩⟩, rfl, by simp, fun _ h => h, by simp⟩
          · rename_i b hord
            simp only at he
            split at he
            · cases he
            · rename_i r hr
              split at he
              · rename_i hc
                obtain ⟨rfl, rfl⟩ := Prod.mk.inj (Option.some.inj he)
                simp only [Bool.and_eq_true, List.all_eq_true] at hc
                obtain ⟨⟨c1, c2⟩, c3⟩ := hc
                refine ⟨⟨i, lo.dst, some r, touch E.gl st.tm st.H lo.op, true⟩, rfl, ⟨rfl, .inr ⟨hw, r, rfl, .inr ⟨b, hord, rfl, hr, ?_, ?_⟩⟩⟩, rfl, ?_, ?_, ?_⟩
                · intro q hq
                  have := c1 q.1 (List.mem_map.2 ⟨q, hq, rfl⟩)
                  simpa using this
                · intro n hn
                  have := c2 n hn
                  simp only [Bool.or_eq_true, decide_eq_true_eq] at this
                  exact this
                · intro b' hb' _ d hd
                  rw [hord] at hb'
                  obtain rfl := Option.some.inj hb'
                  have := c3 d hd
                  simp only [Bool.or_eq_true, Bool.and_eq_true] at this
                  rcases this with h | ⟨h1, h2⟩
                  · exact .inl h
                  · exact .inr ⟨apart_of h1, apart_of h2⟩
                · intro d hd; simp [hd]
                · intro _; simp [Ent.wrote]
              · cases he
      obtain ⟨e, f1, f2, f3, f4, f5, f6⟩ := first
      have hbig : ∀ e' ∈ es, i < e'.i := by
        intro e' he'
        obtain ⟨k, hk⟩ := List.getElem?_of_mem he'
        have := q2 k e' hk
        omega
      refine ⟨e :: es, by simp [q1], ?_, ?_, ?_, ?_, ?_⟩
      · intro k e' hk
        cases k with
        | zero => simp at hk; subst hk; simpa using f1
        | succ k => simp at hk; have := q2 k e' hk; omega
      · intro k e' lo' hk hl
        cases k with
        | zero =>
          simp at hk hl
          subst hk hl
          simp only [runS, f1, Nat.add_zero, Nat.lt_irrefl, decide_false, Bool.false_eq_true, if_false]
          rw [runS_none]
          · exact f2
          · intro e' he'; have := hbig e' he'; simp; omega
        | succ k =>
          simp at hk hl
          have := q3 k e' lo' hk hl
          simp only [runS, f1]
          rw [if_pos (by simp), ← f3]
          rw [show (fun j => decide (j < i + (k + 1))) = (fun j => decide (j < i + 1 + k)) by funext j; congr 1; rw [Nat.add_assoc, Nat.add_comm 1 k]]
          exact this
      · intro k e' lo' b hk hl hb hh d hd
        cases k with
        | zero => simp at hk hl; subst hk hl; exact f4 b hb hh d hd
        | succ k => simp at hk hl; exact q4 k e' lo' b hk hl hb hh d (f5 d hd)
      · intro k k' e1 e2 lo' b hkk hk hk' hl hb h1 h2
        cases k' with
        | zero => omega
        | succ k' =>
          simp at hk' hl
          cases k with
          | zero =>
            simp at hk
            subst hk
            exact q4 k' e2 lo' b hk' hl hb h2 _ (f6 h1)
          | succ k => simp at hk; exact q5 k k' e1 e2 lo' b (by omega) hk hk' hl hb h1 h2
      · rw [q6, f3]
        simp [runS]
    · cases h

/-! ### what hangs on which operations -/

theorem put_get {tm : List LV} {dst : Option Nat} {x : LV} {t : Nat} : (put tm dst x)[t]? = if dst = some t ∧ t < tm.length then some x else tm[t]? := by
  cases dst with
  | none => simp [put]
  | some d =>
    simp only [put, List.getElem?_set, Option.some.injEq]
    by_cases h : d = t
    · subst h
      by_cases h2 : d < tm.length
      · simp [h2]
      · simp [h2]
    · simp [h]

theorem put_len {tm : List LV} {dst : Option Nat} {x : LV} : (put tm dst x).length = tm.length := by cases dst <;> simp [put]

theorem applyEnt_len (base0 : Nat) (e : Ent) (s : S2) : (applyEnt base0 e s).1.length = s.1.length := by
  unfold applyEnt; split <;> simp [put_len]

theorem runS_len (base0 : Nat) (S : Nat → Bool) : ∀ (es : List Ent) (s : S2), (runS base0 S es s).1.length = s.1.length
  | [], _ => rfl
  | e :: es, s => by
    simp only [runS]
    rw [runS_len base0 S es]
    split
    · exact applyEnt_len _ _ _
    · rfl

theorem runS_slot (base0 : Nat) {S S' : Nat → Bool} {t : Nat} : ∀ (es : List Ent) (s s' : S2), (∀ e ∈ es, e.dst = some t → S e.i = S' e.i) → s.1[t]? = s'.1[t]? → s.1.length = s'.1.length →
    (runS base0 S es s).1[t]? = (runS base0 S' es s').1[t]?
  | [], _, _, _, h, _ => h
  | e :: es, s, s', h, h1, h2 => by
    simp only [runS]
    refine runS_slot base0 es _ _ (fun e he => h e (by simp [he])) ?_ ?_
    · have step : ∀ s : S2, e.dst ≠ some t → (applyEnt base0 e s).1[t]? = s.1[t]? := by
        intro s hd
        unfold applyEnt
        split <;> (rw [put_get]; simp [hd])
      by_cases hd : e.dst = some t
      · have := h e (by simp) hd
        rw [this]
        cases S' e.i
        · simpa using h1
        · simp only [if_true]
          unfold applyEnt
          split <;> (simp only [put_get, h1, h2])
      · cases S e.i <;> cases S' e.i <;> simp only [Bool.false_eq_true, if_false, if_true, step _ hd, h1]
    · split <;> split <;> simp [applyEnt_len, h2]

def Aff (base0 : Nat) (e : Ent) (n : Nm) : Prop := ∃ r, e.res = some r ∧ (n.1 = base0 + e.i ∨ n ∈ r.mods.map (·.1))

theorem modsAt_congr {H H' : Heap} {n : Nm} : ∀ ms : List (Nm × Option Cells), H n = H' n → modsAt H ms n = modsAt H' ms n
  | [], h => h
  | (m, v) :: ms, h => by
    simp only [modsAt_cons]
    unfold upd
    split
    · rfl
    · exact modsAt_congr ms h

theorem modsAt_off {H : Heap} {n : Nm} : ∀ ms : List (Nm × Option Cells), n ∉ ms.map (·.1) → modsAt H ms n = H n
  | [], _ => rfl
  | (m, v) :: ms, h => by
    simp only [List.map_cons, List.mem_cons, not_or] at h
    simp only [modsAt_cons]
    unfold upd
    rw [if_neg h.1]
    exact modsAt_off ms h.2

theorem modsAt_on {H H' : Heap} {n : Nm} : ∀ ms : List (Nm × Option Cells), n ∈ ms.map (·.1) → modsAt H ms n = modsAt H' ms n
  | [], h => by simp at h
  | (m, v) :: ms, h => by
    simp only [modsAt_cons]
    unfold upd
    split
    · rfl
    · rename_i hn
      simp only [List.map_cons, List.mem_cons] at h
      exact modsAt_on ms (h.resolve_left hn)

theorem applyOut_congr {base : Nat} {r : Out} {H H' : Heap} {n : Nm} (h : H n = H' n) : applyOut base r H n = applyOut base r H' n := by
  unfold applyOut
  split
  · rfl
  · exact modsAt_congr _ h

theorem applyEnt_off {base0 : Nat} {e : Ent} {s : S2} {n : Nm} (h : ¬ Aff base0 e n) : (applyEnt base0 e s).2 n = s.2 n := by
  unfold applyEnt
  split
  · rfl
  · rename_i r hr
    simp only [Aff, not_exists, not_and, not_or] at h
    obtain ⟨h1, h2⟩ := h r hr
    show applyOut (base0 + e.i) r s.2 n = s.2 n
    unfold applyOut
    rw [if_neg (fun q => h1 q.1)]
    exact modsAt_off _ h2

theorem runS_heap (base0 : Nat) {S S' : Nat → Bool} {n : Nm} : ∀ (es : List Ent) (s s' : S2), (∀ e ∈ es, Aff base0 e n → S e.i = S' e.i) → s.2 n = s'.2 n → (runS base0 S es s).2 n = (runS base0 S' es s').2 n
  | [], _, _, _, h => h
  | e :: es, s, s', h, h1 => by
    simp only [runS]
    refine runS_heap base0 es _ _ (fun e he => h e (by simp [he])) ?_
    by_cases ha : Aff base0 e n
    · rw [h e (by simp) ha]
      cases S' e.i
      · simpa using h1
      · simp only [if_true]
        unfold applyEnt
        split
        · exact h1
        · exact applyOut_congr h1
    · cases S e.i <;> cases S' e.i <;> simp only [Bool.false_eq_true, if_false, if_true, applyEnt_off ha, h1]

theorem put_comm {tm : List LV} {d d' : Option Nat} {x y : LV} (h : ∀ t, d = some t → d' ≠ some t) : put (put tm d x) d' y = put (put tm d' y) d x := by
  cases d <;> cases d' <;> simp only [put]
  rename_i a b
  rw [List.set_comm _ _ (fun e => h a rfl (by rw [e]))]

theorem applyEnt_comm (base0 : Nat) {e e' : Ent} {s : S2} (hd : ∀ t, e.dst = some t → e'.dst ≠ some t) (ha : ∀ n, ¬ (Aff base0 e n ∧ Aff base0 e' n)) :
    applyEnt base0 e' (applyEnt base0 e s) = applyEnt base0 e (applyEnt base0 e' s) := by
  apply Prod.ext
  · unfold applyEnt
    cases e.res <;> cases e'.res <;> simp only <;> exact put_comm hd
  · funext n
    by_cases h1 : Aff base0 e n
    · have h2 : ¬ Aff base0 e' n := fun h => ha n ⟨h1, h⟩
      rw [applyEnt_off h2]
      unfold applyEnt
      cases hr : e.res with
      | none => simp only; cases hr' : e'.res <;> simp only [hr']; have := applyEnt_off (s := s) h2; unfold applyEnt at this; simp only [hr'] at this; exact this.symm
      | some r =>
        simp only
        apply applyOut_congr
        have := applyEnt_off (s := s) h2
        unfold applyEnt at this
        exact this.symm
    · rw [applyEnt_off (s := applyEnt base0 e' s) h1]
      by_cases h2 : Aff base0 e' n
      · unfold applyEnt
        cases hr' : e'.res with
        | none => simp only; have := applyEnt_off (s := s) h1; unfold applyEnt at this; exact this
        | some r =>
          simp only
          apply applyOut_congr
          have := applyEnt_off (s := s) h1
          unfold applyEnt at this
          exact this
      · rw [applyEnt_off h2, applyEnt_off h1, applyEnt_off h2]

theorem runS_push (base0 : Nat) {S : Nat → Bool} {e : Ent} : ∀ (es : List Ent) (s : S2), (∀ e' ∈ es, S e'.i = true → (∀ t, e.dst = some t → e'.dst ≠ some t) ∧ ∀ n, ¬ (Aff base0 e n ∧ Aff base0 e' n)) →
    runS base0 S es (applyEnt base0 e s) = applyEnt base0 e (runS base0 S es s)
  | [], _, _ => rfl
  | e' :: es, s, h => by
    simp only [runS]
    cases hS : S e'.i
    · simp only [Bool.false_eq_true, if_false]
      exact runS_push base0 es s fun x hx => h x (by simp [hx])
    · simp only [if_true]
      obtain ⟨h1, h2⟩ := h e' (by simp) hS
      rw [applyEnt_comm base0 h1 h2]
      exact runS_push base0 es _ fun x hx => h x (by simp [hx])


/-! ### the region -/

theorem compOpers_get {ops : Array Oper} {draw : Bool} {as : List Nat} : ∀ (os : List Oper) (i : Nat) (los : List LOper), compOpers P ops draw as i os = some los →
    los.length = os.length ∧ ∀ (k : Nat) (o : Oper), os[k]? = some o → ∃ lo, los[k]? = some lo ∧ compOper P ops draw as (i + k) o = some lo := by
  intro os
  induction os with
  | nil => intro i los h; simp [compOpers] at h; subst h; simp
  | cons o os ih =>
    intro i los h
    simp only [compOpers] at h
    split at h
    · rename_i lo los' h1 h2
      obtain rfl := Option.some.inj h
      obtain ⟨e1, e2⟩ := ih (i + 1) los' h2
      refine ⟨by simp [e1], fun k o' hk => ?_⟩
      cases k with
      | zero => simp at hk; subst hk; exact ⟨lo, rfl, h1⟩
      | succ k =>
        simp at hk
        obtain ⟨lo', h3, h4⟩ := e2 k o' hk
        exact ⟨lo', by simpa using h3, by rw [show i + (k + 1) = i + 1 + k by omega]; exact h4⟩
    · cases h

theorem wanted_congr {g : Option (Nat × Bool)} {tm tm' : List LV} (h : ∀ t b, g = some (t, b) → tm[t]? = tm'[t]?) : wanted g tm = wanted g tm' := by
  cases g with
  | none => rfl
  | some q => obtain ⟨t, b⟩ := q; simp only [wanted, List.getD]; rw [h t b rfl]

theorem looksAt_atoms {ops : Array Oper} {o : Oper} {lo : LOp} (hc : compOp P o.op = some lo) {tm tm' : List LV} (h : ∀ t ∈ o.looksAt ops, tm[t]? = tm'[t]?) :
    ∀ x ∈ atoms lo, evX E.gl tm x = evX E.gl tm' x := by
  intro x hx
  obtain ⟨y, hy, rfl⟩ := atoms_sub hc x hx
  cases y with
  | tmp t =>
    simp only [compX, evX, List.getD]
    rw [h t]
    simp only [Oper.looksAt, List.mem_append, List.mem_filterMap]
    exact .inl ⟨.tmp t, hy, rfl⟩
  | _ => rfl

theorem looksAt_guard {ops : Array Oper} {o : Oper} {g : Option (Nat × Bool)} (hg : guardSlot ops o = some g) {t : Nat} {b : Bool} (h : g = some (t, b)) : t ∈ o.looksAt ops := by
  subst h
  unfold guardSlot at hg
  split at hg
  · cases hg
  · rename_i j want hj
    split at hg
    · rename_i t' ht
      obtain ⟨rfl, rfl⟩ := Prod.mk.inj (Option.some.inj (Option.some.inj hg))
      simp [Oper.looksAt, hj, ht]
    · cases hg

theorem only_sub {X : List Nm} {H : Heap} : ∀ n cs, only X H n = some cs → H n = some cs := by
  intro n cs h
  unfold only at h
  split at h
  · exact h
  · cases h

theorem only_eq {X : List Nm} {H H' : Heap} (h : ∀ n ∈ X, H n = H' n) : only X H = only X H' := by
  funext n
  unfold only
  split
  · rename_i hn; exact h n (by simpa using hn)
  · rfl

/-- an operation over a part of the heap, over the whole -/
theorem OpOk.frame {H H₁ : Heap} {base : Nat} {o : Oper} {a : Act} {r : Out} (hs : Sim R p H w) (hsub : ∀ n cs, H₁ n = some cs → H n = some cs) (h : OpOk P R p H₁ w base o a r)
    (hfree : ∀ k, p (base, k) = none) : OpOk P R p H w base o a r := by
  intro K Q hK
  refine h K Q ?_
  intro v w' R' p' q1 q2 q3 q4 q5
  obtain ⟨f1, f2⟩ := hs.frame hsub q2 q3 q4 (applyOut base r H) (by
    intro n cs hn
    by_cases e : H₁ n = H n
    · left; rw [applyOut_congr e]; exact hn
    · cases h1 : H₁ n with
      | some ds => rw [hsub n ds h1] at e; exact absurd h1 e
      | none =>
        by_cases h2 : (n.1 = base ∧ n.2 < r.news.length) ∨ n ∈ r.mods.map (·.1)
        · left
          rw [← hn]
          unfold applyOut
          split
          · rfl
          · rename_i h3
            exact modsAt_on _ (h2.resolve_left h3)
        · right
          refine ⟨rfl, ?_⟩
          simp only [not_or] at h2
          unfold applyOut at hn
          rw [if_neg h2.1, modsAt_off _ h2.2] at hn
          exact hn)
  exact hK v w' R' p' q1 f1 f2 q4 q5

theorem region_any (hE : CalOk P E) {ops : Array Oper} {los : List LOper} {st st' : St} {a : Act} (hg : Globs E.gl R) (hord : orderOk ops (aheads ops.toList) = true)
    (hc : compOpers P ops true (aheads ops.toList) 0 ops.toList = some los) (he : evOpers E st.nx 0 los [] st = some st') (hr : Rep R p st.tm a.tmps.toList) (hs : Sim R p st.H w)
    (hf : ∀ n, st.nx ≤ n.1 → p n = none) {Q : Exit → Act → World → Prop}
    (hQ : ∀ R' p' a' w', Aft R p st.H w a st.nx st'.tm st'.H R' p' a' w' → (∀ n, st.nx + ops.size ≤ n.1 → p' n = none) → Q .normal a' w') :
    wpAny P .any ops Q ops.size (Array.replicate ops.size false) a w := by
  obtain ⟨es, q1, q2, q3, _, q5, q6⟩ := trace st.nx los 0 [] st st' he
  obtain ⟨hlen, hget⟩ := compOpers_get _ _ _ hc
  have hesn : es.length = ops.size := by rw [q1, hlen]; simp
  simp only [orderOk, Bool.and_eq_true, List.all_eq_true] at hord
  obtain ⟨hlow0, hpair0⟩ := hord
  have hlow : ∀ (k : Nat) (o : Oper), ops.toList[k]? = some o → ∀ e ∈ o.after, Region.binds .any e = true → e.on < k := by
    intro k o hk e hea hb
    have := hlow0 (o, k) (List.mem_zipIdx_iff_getElem?.2 hk)
    simp only [Array.all_eq_true_iff_forall_mem] at this
    have := this e hea
    simp only [hb, Bool.not_true, Bool.false_or, decide_eq_true_eq] at this
    exact this
  have hpair : ∀ (i j : Nat) (oi oj : Oper), i < j → ops.toList[i]? = some oi → ops.toList[j]? = some oj → ((aheads ops.toList).getD j 0).testBit i = true ∨ oi.apart ops oj = true := by
    intro i j oi oj hij hi hj
    have := hpair0 (oj, j) (List.mem_zipIdx_iff_getElem?.2 hj) (oi, i) (List.mem_zipIdx_iff_getElem?.2 hi)
    simp only [hij, decide_true, Bool.not_true, Bool.false_or, pairOk, Bool.or_eq_true] at this
    exact this
  -- the entries, with what they came of
  have hent : ∀ (k : Nat) (o : Oper), ops.toList[k]? = some o → ∃ e lo, es[k]? = some e ∧ los[k]? = some lo ∧ e.i = k ∧ compOper P ops true (aheads ops.toList) k o = some lo ∧
      EntOk E st.nx (runS st.nx (fun j => decide (j < k)) es (st.tm, st.H)) lo e := by
    intro k o hk
    obtain ⟨lo, h1, h2⟩ := hget k o hk
    have hlt : k < es.length := by rw [hesn]; have := (List.getElem?_eq_some_iff.1 hk).1; simpa using this
    have h3 := List.getElem?_eq_getElem hlt
    refine ⟨es[k], lo, h3, h1, by simpa using q2 k _ h3, by simpa using h2, ?_⟩
    have := q3 k _ lo h3 h1
    simpa using this
  have hmem : ∀ e ∈ es, ∃ (o : Oper), ops.toList[e.i]? = some o ∧ es[e.i]? = some e := by
    intro e hee
    obtain ⟨k, hk⟩ := List.getElem?_of_mem hee
    have h1 := q2 k e hk
    simp at h1
    have hlt := (List.getElem?_eq_some_iff.1 hk).1
    subst h1
    exact ⟨ops.toList[e.i]'(by simp; omega), List.getElem?_eq_getElem (by simp; omega), hk⟩
  -- whatever order
  have main : ∀ (fuel : Nat) (listed : Array Bool) (rem : List Nat) (a' : Act) (w' : World) (R' : Imm) (p' : Places), listed.size = ops.size → rem.length ≤ fuel →
      (∀ k, k < ops.size → listed.getD k true = false → k ∈ rem) → (∀ k ∈ rem, listed.getD k true = false) →
      (∀ k o, ops.toList[k]? = some o → listed.getD k false = true → ∀ m, ((aheads ops.toList).getD k 0).testBit m = true → listed.getD m false = true) →
      Aft R p st.H w a st.nx (runS st.nx (fun k => listed.getD k false) es (st.tm, st.H)).1 (runS st.nx (fun k => listed.getD k false) es (st.tm, st.H)).2 R' p' a' w' →
      (∀ n x, p' n = some x → n.1 < st.nx ∨ ∃ k, k < ops.size ∧ n.1 = st.nx + k ∧ listed.getD k false = true) → wpAny P .any ops Q fuel listed a' w' := by
    have fin : ∀ (listed : Array Bool) (a' : Act) (w' : World) (R' : Imm) (p' : Places), listed.size = ops.size → (∀ k, k < ops.size → listed.getD k false = true) →
        Aft R p st.H w a st.nx (runS st.nx (fun k => listed.getD k false) es (st.tm, st.H)).1 (runS st.nx (fun k => listed.getD k false) es (st.tm, st.H)).2 R' p' a' w' →
        (∀ n x, p' n = some x → n.1 < st.nx ∨ ∃ k, k < ops.size ∧ n.1 = st.nx + k ∧ listed.getD k false = true) → Q .normal a' w' := by
      intro listed a' w' R' p' hsz hall haft hpl
      have e1 : runS st.nx (fun k => listed.getD k false) es (st.tm, st.H) = (st'.tm, st'.H) := by
        rw [q6]
        apply runS_congr
        intro e hee
        obtain ⟨o, ho, _⟩ := hmem e hee
        have := (List.getElem?_eq_some_iff.1 ho).1
        exact hall e.i (by simpa using this)
      rw [e1] at haft
      refine hQ R' p' a' w' haft ?_
      intro n hn
      cases hp : p' n with
      | none => rfl
      | some x =>
        rcases hpl n x hp with h | ⟨k, hk, h, _⟩ <;> omega
    have flip : ∀ (listed : Array Bool) (k : Nat), k < listed.size → (listed.getD k true = false ↔ listed.getD k false = false) := by
      intro listed k hk
      simp [Array.getD_eq_getD_getElem?, hk]
    have allOf : ∀ (listed : Array Bool), listed.size = ops.size → Region.ready .any ops listed = [] → ∀ k, k < ops.size → listed.getD k false = true := by
      intro listed hsz hr k
      induction k using Nat.strongRecOn with
      | _ k ih =>
        intro hk
        cases hl : listed.getD k false with
        | true => rfl
        | false =>
          exfalso
          have hin : k ∈ Region.ready .any ops listed := by
            rw [mem_ready]
            refine ⟨(flip listed k (by omega)).2 hl, ops[k], Array.getElem?_eq_getElem hk, fun e hea hb => ?_⟩
            have hlt := hlow k ops[k] (by simp [hk]) e hea hb
            exact ih e.on hlt (by omega)
          rw [hr] at hin; cases hin
    intro fuel
    induction fuel with
    | zero =>
      intro listed rem a' w' R' p' hsz hrem h1 h2 hcl haft hpl
      have hrem0 : rem = [] := List.eq_nil_of_length_eq_zero (by omega)
      subst hrem0
      have hall : ∀ k, k < ops.size → listed.getD k false = true := by
        intro k hk
        cases hl : listed.getD k false with
        | true => rfl
        | false => exact absurd (h1 k hk ((flip listed k (by omega)).2 hl)) (by simp)
      refine ⟨?_, fin listed a' w' R' p' hsz hall haft hpl⟩
      cases hr' : Region.ready .any ops listed with
      | nil => rfl
      | cons k l =>
        exfalso
        have hin : k ∈ Region.ready .any ops listed := by rw [hr']; simp
        obtain ⟨h3, o, ho, _⟩ := mem_ready.1 hin
        have hk := (Array.getElem?_eq_some_iff.1 ho).1
        rw [flip listed k (by omega), hall k hk] at h3
        cases h3
    | succ fuel ih =>
      intro listed rem a' w' R' p' hsz hrem h1 h2 hcl haft hpl
      refine ⟨fun hr' => fin listed a' w' R' p' hsz (allOf listed hsz hr') haft hpl, ?_⟩
      intro i hi
      obtain ⟨hi1, o, ho, hi2⟩ := mem_ready.1 hi
      have hilt := (Array.getElem?_eq_some_iff.1 ho).1
      have hi1' : listed.getD i false = false := (flip listed i (by omega)).1 hi1
      have hol : ops.toList[i]? = some o := by simpa using ho
      obtain ⟨e, lo, he1, hl1, hei, hcomp, hok⟩ := hent i o hol
      obtain ⟨c1, c2, c3, c4, c5⟩ := compOper_spec hcomp
      -- whoever stands ahead of i is done
      have ahead : ∀ m, ((aheads ops.toList).getD i 0).testBit m = true → listed.getD m false = true := by
        intro m hm
        obtain ⟨ed, hed, hb, hm'⟩ := aheads_bit hlow hol hm
        have hon := hi2 ed hed hb
        have hlt := hlow i o hol ed hed hb
        rcases hm' with rfl | hm'
        · exact hon
        · exact hcl ed.on ops[ed.on] (by simp) hon m hm'
      -- whoever is done does not stand behind i
      have behind : ∀ k ok, ops.toList[k]? = some ok → listed.getD k false = true → ((aheads ops.toList).getD k 0).testBit i = false := by
        intro k ok hk hl
        cases hb : ((aheads ops.toList).getD k 0).testBit i with
        | false => rfl
        | true => rw [hcl k ok hk hl i hb] at hi1'; cases hi1'
      -- slots
      have slots : ∀ t ∈ o.looksAt ops, (runS st.nx (fun k => listed.getD k false) es (st.tm, st.H)).1[t]? = (runS st.nx (fun k => decide (k < i)) es (st.tm, st.H)).1[t]? := by
        intro t ht
        apply runS_slot st.nx es _ _ _ rfl rfl
        intro e' he' hd
        obtain ⟨o', ho', hx'⟩ := hmem e' he'
        obtain ⟨e2, lo2, g1, g2, g3, g4, g5⟩ := hent e'.i o' ho'
        rw [hx'] at g1
        obtain rfl := Option.some.inj g1
        have hdst : o'.dst = some t := by rw [← (compOper_spec g4).2.2.1, ← g5.1]; exact hd
        rcases Nat.lt_trichotomy e'.i i with h | h | h
        · rw [decide_eq_true h]
          rcases hpair e'.i i o' o h ho' hol with hb | hb
          · exact ahead _ hb
          · exact absurd ht ((Oper.apart_spec hb).1 t hdst)
        · rw [h, hi1', decide_eq_false (Nat.lt_irrefl i)]
        · rw [decide_eq_false (by omega)]
          rcases hpair i e'.i o o' h hol ho' with hb | hb
          · cases hl : listed.getD e'.i false with
            | false => rfl
            | true => rw [behind e'.i o' ho' hl] at hb; cases hb
          · exact absurd ht ((Oper.apart_spec hb).2.2 t hdst)
      -- who writes what, among those that were carried out
      have affInfo : ∀ (e' : Ent), e' ∈ es → ∀ n, Aff st.nx e' n → n.1 = st.nx + e'.i ∨ (e'.heap = true ∧ n ∈ e'.wrote ∧ n ∈ e'.saw ∧ ∃ lo', los[e'.i]? = some lo' ∧ lo'.ord = some ((aheads ops.toList).getD e'.i 0)) := by
        intro e' he' n ha
        obtain ⟨o', ho', hx'⟩ := hmem e' he'
        obtain ⟨e2, lo2, g1, g2, g3, g4, g5⟩ := hent e'.i o' ho'
        rw [hx'] at g1
        obtain rfl := Option.some.inj g1
        obtain ⟨r, hr1, hr2⟩ := ha
        rcases hr2 with hr2 | hr2
        · exact .inl hr2
        · right
          obtain ⟨d1, d2, d3, d4, d5⟩ := compOper_spec g4
          rcases g5.2 with ⟨_, z, _⟩ | ⟨_, r', z1, z2⟩
          · rw [hr1] at z; cases z
          · rw [hr1] at z1
            obtain rfl := Option.some.inj z1
            rcases z2 with ⟨y1, y2, y3⟩ | ⟨b, y1, y2, y3, y4, y5⟩
            · have hl := mods_light ((d5 y1).resolve_left (by simp)) y3
              rw [hl] at hr2; simp at hr2
            · refine ⟨y2, by simp only [Ent.wrote, hr1]; exact hr2, ?_, lo2, g2, ?_⟩
              · obtain ⟨q, hq, rfl⟩ := List.mem_map.1 hr2
                exact y4 q hq
              · rcases d4 with d4 | ⟨_, _, d4⟩
                · rw [d4] at y1; cases y1
                · exact d4
      have sawInfo : ∀ (e' : Ent), e' ∈ es → e'.heap = true → ∀ n ∈ e'.saw, n.1 < st.nx ∨ ((aheads ops.toList).getD e'.i 0).testBit (n.1 - st.nx) = true := by
        intro e' he' hh n hn
        obtain ⟨o', ho', hx'⟩ := hmem e' he'
        obtain ⟨e2, lo2, g1, g2, g3, g4, g5⟩ := hent e'.i o' ho'
        rw [hx'] at g1
        obtain rfl := Option.some.inj g1
        obtain ⟨d1, d2, d3, d4, d5⟩ := compOper_spec g4
        rcases g5.2 with ⟨_, _, z⟩ | ⟨_, r', z1, z2⟩
        · rw [hh] at z; cases z
        · rcases z2 with ⟨y1, y2, y3⟩ | ⟨b, y1, y2, y3, y4, y5⟩
          · rw [hh] at y2; cases y2
          · rcases d4 with d4 | ⟨_, _, d4⟩
            · rw [d4] at y1; cases y1
            · rw [d4] at y1
              obtain rfl := Option.some.inj y1
              exact y5 n hn
      have free : ∀ (e1 e2 : Ent), e1 ∈ es → e2 ∈ es → e1.i < e2.i → e1.heap = true → e2.heap = true → Free e1.i e1.saw e1.wrote e2 ((aheads ops.toList).getD e2.i 0) := by
        intro e1 e2 m1 m2 hlt h1 h2
        obtain ⟨o1, ho1, hx1⟩ := hmem e1 m1
        obtain ⟨o2, ho2, hx2⟩ := hmem e2 m2
        obtain ⟨e3, lo3, g1, g2, g3, g4, g5⟩ := hent e2.i o2 ho2
        rw [hx2] at g1
        obtain rfl := Option.some.inj g1
        obtain ⟨d1, d2, d3, d4, d5⟩ := compOper_spec g4
        have hord : lo3.ord = some ((aheads ops.toList).getD e2.i 0) := by
          rcases d4 with d4 | ⟨_, _, d4⟩
          · exfalso
            rcases g5.2 with ⟨_, _, z⟩ | ⟨_, r', z1, z2⟩
            · rw [h2] at z; cases z
            · rcases z2 with ⟨_, y2, _⟩ | ⟨b, y1, _⟩
              · rw [h2] at y2; cases y2
              · rw [d4] at y1; cases y1
          · exact d4
        exact q5 e1.i e2.i e1 e2 lo3 _ hlt hx1 hx2 g2 hord h1 h2
      have emem : e ∈ es := List.mem_of_getElem? he1
      have aheadLt : ∀ k ok, ops.toList[k]? = some ok → ∀ m, ((aheads ops.toList).getD k 0).testBit m = true → m < k := fun k ok hk m hm => aheads_lt hlow k m ok hk hm
      -- objects that i sees
      have sees : e.heap = true → ∀ n ∈ e.saw, (runS st.nx (fun k => listed.getD k false) es (st.tm, st.H)).2 n = (runS st.nx (fun k => decide (k < i)) es (st.tm, st.H)).2 n := by
        intro hh n hn
        apply runS_heap st.nx es _ _ _ rfl
        intro e' he' ha
        obtain ⟨o', ho', hx'⟩ := hmem e' he'
        have hsaw := sawInfo e emem hh n hn
        rw [hei] at hsaw
        rcases affInfo e' he' n ha with h | ⟨k1, k2, k3, _⟩
        · -- what is new in e'
          have hb : ((aheads ops.toList).getD i 0).testBit e'.i = true := by
            rcases hsaw with h' | h'
            · omega
            · rw [h, Nat.add_sub_cancel_left] at h'; exact h'
          have hlt := aheadLt i o hol _ hb
          rw [ahead _ hb, decide_eq_true hlt]
        · rcases Nat.lt_trichotomy e'.i i with h | h | h
          · rw [decide_eq_true h]
            rcases free e' e he' emem (by omega) k1 hh with hb | ⟨hb, _⟩
            · rw [hei] at hb; exact ahead _ hb
            · exact absurd hn (hb n k2)
          · rw [h, hi1', decide_eq_false (Nat.lt_irrefl i)]
          · rw [decide_eq_false (by omega)]
            rcases free e e' emem he' (by omega) hh k1 with hb | ⟨_, hb⟩
            · rw [hei] at hb
              cases hl : listed.getD e'.i false with
              | false => rfl
              | true => rw [behind e'.i o' ho' hl] at hb; cases hb
            · exact absurd hn (hb n k2)
      -- i goes last among those that are done
      have push : runS st.nx (fun k => (listed.setIfInBounds i true).getD k false) es (st.tm, st.H) = applyEnt st.nx e (runS st.nx (fun k => listed.getD k false) es (st.tm, st.H)) := by
        have hsplit : es = es.take i ++ e :: es.drop (i + 1) := by
          obtain ⟨hlt, heq⟩ := List.getElem?_eq_some_iff.1 he1
          rw [← heq, List.getElem_cons_drop, List.take_append_drop]
        have app : ∀ (S : Nat → Bool) (xs ys : List Ent) (s : S2), runS st.nx S (xs ++ ys) s = runS st.nx S ys (runS st.nx S xs s) := by
          intro S xs
          induction xs with
          | nil => intro ys s; rfl
          | cons x xs ihx => intro ys s; simp only [List.cons_append, runS]; exact ihx ys _
        have hset : ∀ k, k ≠ i → (listed.setIfInBounds i true).getD k false = listed.getD k false := fun k hk => getD_set_ne false (fun e => hk e.symm)
        have hseti : (listed.setIfInBounds i true).getD i false = true := by simp [Array.getD_eq_getD_getElem?, hsz, hilt]
        have ne1 : ∀ x ∈ es.take i, x.i ≠ i := by
          intro x hx
          obtain ⟨k, hk⟩ := List.getElem?_of_mem hx
          rw [List.getElem?_take] at hk
          split at hk
          · have := q2 k x hk; omega
          · cases hk
        have ne2 : ∀ x ∈ es.drop (i + 1), i < x.i := by
          intro x hx
          obtain ⟨k, hk⟩ := List.getElem?_of_mem hx
          rw [List.getElem?_drop] at hk
          have := q2 _ x hk; omega
        conv => lhs; rw [hsplit]
        conv => rhs; rw [hsplit]
        rw [app, app]
        simp only [runS, hei, hseti, hi1', if_true, Bool.false_eq_true, if_false]
        rw [runS_congr (S' := fun k => listed.getD k false) st.nx (es.take i) _ (fun x hx => hset x.i (ne1 x hx)), runS_congr (S' := fun k => listed.getD k false) st.nx (es.drop (i + 1)) _ (fun x hx => hset x.i (by have := ne2 x hx; omega))]
        apply runS_push
        intro e' he' hS
        have hgt := ne2 e' he'
        have he'm : e' ∈ es := List.mem_of_mem_drop he'
        obtain ⟨o', ho', hx'⟩ := hmem e' he'm
        have hnb := behind e'.i o' ho' hS
        obtain ⟨e2, lo2, g1, g2, g3, g4, g5⟩ := hent e'.i o' ho'
        rw [hx'] at g1
        obtain rfl := Option.some.inj g1
        refine ⟨?_, ?_⟩
        · intro t ht hd
          rcases hpair i e'.i o o' hgt hol ho' with hb | hb
          · rw [hnb] at hb; cases hb
          · have h1 : o.dst = some t := by rw [← c3, ← hok.1]; exact ht
            have h2 : o'.dst = some t := by rw [← (compOper_spec g4).2.2.1, ← g5.1]; exact hd
            exact (Oper.apart_spec hb).2.1 t h1 h2
        · rintro n ⟨ha1, ha2⟩
          rcases affInfo e emem n ha1 with h1 | ⟨k1, k2, k3, _⟩ <;> rcases affInfo e' he'm n ha2 with h2 | ⟨m1, m2, m3, _⟩
          · omega
          · rcases sawInfo e' he'm m1 n m3 with h' | h'
            · omega
            · rw [h1, hei, Nat.add_sub_cancel_left, hnb] at h'; cases h'
          · rcases sawInfo e emem k1 n k3 with h' | h'
            · omega
            · rw [h2, hei, Nat.add_sub_cancel_left] at h'
              have := aheadLt i o hol _ h'
              omega
          · rcases free e e' emem he'm (by omega) k1 m1 with hb | ⟨hb, _⟩
            · rw [hei, hnb] at hb; cases hb
            · exact hb n k2 m3
      -- the rest goes on
      have cont : ∀ (a'' : Act) (w'' : World) (R'' : Imm) (p'' : Places), Aft R p st.H w a st.nx (applyEnt st.nx e (runS st.nx (fun k => listed.getD k false) es (st.tm, st.H))).1
            (applyEnt st.nx e (runS st.nx (fun k => listed.getD k false) es (st.tm, st.H))).2 R'' p'' a'' w'' →
          (∀ n x, p'' n = some x → p' n = some x ∨ n.1 = st.nx + i) → wpAny P .any ops Q fuel (listed.setIfInBounds i true) a'' w'' := by
        intro a'' w'' R'' p'' haft' hpl'
        have hgi : ∀ k, (listed.setIfInBounds i true).getD k true = (if k = i then true else listed.getD k true) := by
          intro k
          by_cases hk : k = i
          · subst hk; simp [Array.getD_eq_getD_getElem?, hsz, hilt]
          · rw [if_neg hk]; exact getD_set_ne true (fun e => hk e.symm)
        have hgf : ∀ k, (listed.setIfInBounds i true).getD k false = (if k = i then true else listed.getD k false) := by
          intro k
          by_cases hk : k = i
          · subst hk; simp [Array.getD_eq_getD_getElem?, hsz, hilt]
          · rw [if_neg hk]; exact getD_set_ne false (fun e => hk e.symm)
        have himem : i ∈ rem := h1 i hilt hi1
        refine ih (listed.setIfInBounds i true) (rem.filter (· != i)) a'' w'' R'' p'' (by simp [hsz]) ?_ ?_ ?_ ?_ (by rw [push]; exact haft') ?_
        · have hlt : (rem.filter (· != i)).length < rem.length := by
            rcases Nat.lt_or_ge (rem.filter (· != i)).length rem.length with h | h
            · exact h
            · have hle := List.length_filter_le (· != i) rem
              have := List.length_filter_eq_length_iff.1 (Nat.le_antisymm hle h) i himem
              simp at this
          omega
        · intro k hk hl
          rw [hgi] at hl
          split at hl
          · cases hl
          · rename_i hki
            exact List.mem_filter.2 ⟨h1 k hk hl, by simpa using hki⟩
        · intro k hk
          obtain ⟨hk1, hk2⟩ := List.mem_filter.1 hk
          rw [hgi, if_neg (by simpa using hk2)]
          exact h2 k hk1
        · intro k ok hk hl m hm
          rw [hgf] at hl ⊢
          split
          · rfl
          · split at hl
            · rename_i hki
              subst hki
              exact ahead m hm
            · exact hcl k ok hk hl m hm
        · intro n x hx
          rcases hpl' n x hx with h | h
          · rcases hpl n x h with h' | ⟨k, k1, k2, k3⟩
            · exact .inl h'
            · refine .inr ⟨k, k1, k2, ?_⟩
              rw [hgf]; split
              · rfl
              · exact k3
          · exact .inr ⟨i, hilt, h, by rw [hgf, if_pos rfl]⟩
      -- the operation itself
      have hfresh : ∀ k, p' (st.nx + i, k) = none := by
        intro k
        cases hp : p' (st.nx + i, k) with
        | none => rfl
        | some x =>
          rcases hpl _ x hp with h | ⟨k', _, h, h'⟩
          · exact absurd h (by show ¬ (st.nx + i < st.nx); omega)
          · have h2 : st.nx + i = st.nx + k' := h
            obtain rfl : k' = i := by omega
            rw [hi1'] at h'; cases h'
      have hg' : Globs E.gl R' := fun g xs hx => by obtain ⟨cs, d1, d2⟩ := hg g xs hx; exact ⟨cs, haft.ext.imm _ _ d1, d2⟩
      unfold wpOp
      simp only [ho]
      rcases hok.2 with ⟨hw, hres, _⟩ | ⟨hw, r, hres, hcase⟩
      · -- it is passed over
        have hw' : wanted lo.guard (runS st.nx (fun k => listed.getD k false) es (st.tm, st.H)).1 = some false := by
          rw [← hw]; exact wanted_congr fun t b h => slots t (looksAt_guard c2 h)
        have hwant := wanted_rep haft.rep c2 hw'
        simp only [hwant, Bool.false_eq_true, if_false]
        refine cont _ _ R' p' ?_ (fun n x h => .inl h)
        have := aft_put haft (dst := o.dst)
        unfold applyEnt
        rw [hres]
        simp only
        rw [hok.1, c3]
        exact this
      · have hw' : wanted lo.guard (runS st.nx (fun k => listed.getD k false) es (st.tm, st.H)).1 = some true := by
          rw [← hw]; exact wanted_congr fun t b h => slots t (looksAt_guard c2 h)
        have hwant := wanted_rep haft.rep c2 hw'
        simp only [hwant, if_true]
        left
        have hat : ∀ x ∈ atoms lo.op, evX E.gl (runS st.nx (fun k => decide (k < i)) es (st.tm, st.H)).1 x = evX E.gl (runS st.nx (fun k => listed.getD k false) es (st.tm, st.H)).1 x :=
          fun x hx => (looksAt_atoms (E := E) c1 slots x hx).symm
        have hop : OpOk P R' p' (runS st.nx (fun k => listed.getD k false) es (st.tm, st.H)).2 w' (st.nx + i) o a' r := by
          rcases hcase with ⟨y1, y2, y3⟩ | ⟨b, y1, y2, y3, y4, y5⟩
          · rw [opRes_congr hat, hei] at y3
            have hl := (c5 y1).resolve_left (by simp)
            rw [opRes_light (H' := fun _ => none) hl] at y3
            exact OpOk.frame haft.sim (fun n cs h => by cases h) (op_ok hE hg' (haft.sim.sub fun n cs h => by cases h) hfresh haft.rep c1 y3) hfresh
          · rw [opRes_congr hat, hei, only_eq (H' := (runS st.nx (fun k => listed.getD k false) es (st.tm, st.H)).2) (fun n hn => (sees y2 n hn).symm)] at y3
            exact OpOk.frame haft.sim only_sub (op_ok hE hg' (haft.sim.sub only_sub) hfresh haft.rep c1 y3) hfresh
        refine hop _ Q ?_
        intro v w'' R'' p'' z1 z2 z3 z4 z5
        refine cont _ _ R'' p'' ?_ z5
        unfold applyEnt
        rw [hres]
        simp only
        rw [hok.1, c3, hei]
        refine ⟨put_rep (haft.rep.mono z3.imm z4) z1, z2, haft.ext.trans z3, fun n x hx => z4 _ _ (haft.mono _ _ hx), ?_, by rw [put_defers]; exact haft.defers⟩
        intro n x hx
        rcases z5 n x hx with h | h
        · exact haft.fresh n x h
        · exact .inr (by omega)
  have hrep0 : ∀ k, (Array.replicate ops.size false).getD k false = false := by intro k; by_cases hk : k < ops.size <;> simp [Array.getD_eq_getD_getElem?, hk]
  have hrun0 : runS st.nx (fun k => (Array.replicate ops.size false).getD k false) es (st.tm, st.H) = (st.tm, st.H) := runS_none _ _ _ fun e _ => hrep0 e.i
  refine main ops.size (Array.replicate ops.size false) (List.range ops.size) a w R p (by simp) (by simp) (fun k hk _ => by simpa using hk) ?_ ?_ ?_ ?_
  · intro k hk
    have : k < ops.size := by simpa using hk
    simp [Array.getD_eq_getD_getElem?, this]
  · intro k o _ hl; rw [hrep0] at hl; cases hl
  · rw [hrun0]
    exact ⟨hr, hs, Ext.refl _ _ _ _, fun _ _ h => h, fun _ _ h => .inl h, rfl⟩
  · intro n x hx
    left
    rcases Nat.lt_or_ge n.1 st.nx with h | h
    · exact h
    · rw [hf n h] at hx; cases hx

end Go.LE
