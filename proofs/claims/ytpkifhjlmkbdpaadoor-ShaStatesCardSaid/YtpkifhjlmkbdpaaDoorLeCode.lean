/- Soundness of code and of functions. -/
import Derived.Test.YtpkifhjlmkbdpaaDoorLeAnyOrder
import Derived.LoopN
set_option linter.unusedVariables false
set_option linter.unusedSimpArgs false
namespace Go.LE
variable {P : Program} {R : Imm} {p : Places} {w : World} {E : Env}

/-! ### the reckoner's code and the model's -/

def CRel (P : Program) : Code → LCode → Prop
  | .skip, .skip => True
  | .region _ ops draw, .region los => compRegion P ops draw = some los
  | .seq a b, .seq x y => CRel P a x ∧ CRel P b y
  | .cond c a b, .cond c' x y => c' = compX c ∧ CRel P a x ∧ CRel P b y
  | .block id c, .block id' x => id = id' ∧ CRel P c x
  | .loop c, .loop _ x => CRel P c x
  | .exit i, .exit j => i = j
  | .ret, .ret => True
  | _, _ => False

theorem comp_rel : ∀ (c : Code) (lc : LCode), comp P c = some lc → CRel P c lc := by
  intro c
  induction c with
  | skip => intro lc h; simp [comp] at h; subst h; trivial
  | region id ops draw => intro lc h; simp only [comp, Option.map_eq_some_iff] at h; obtain ⟨los, h, rfl⟩ := h; exact h
  | seq a b iha ihb =>
    intro lc h
    simp only [comp] at h
    split at h
    · rename_i x y h1 h2; obtain rfl := Option.some.inj h; exact ⟨iha x h1, ihb y h2⟩
    · cases h
  | cond c a b iha ihb =>
    intro lc h
    simp only [comp] at h
    split at h
    · rename_i x y h1 h2; obtain rfl := Option.some.inj h; exact ⟨rfl, iha x h1, ihb y h2⟩
    · cases h
  | block id c ih => intro lc h; simp only [comp, Option.map_eq_some_iff] at h; obtain ⟨x, h, rfl⟩ := h; exact ⟨rfl, ih x h⟩
  | loop c ih => intro lc h; simp only [comp, Option.map_eq_some_iff] at h; obtain ⟨x, h, rfl⟩ := h; exact ih x h
  | exit i => intro lc h; simp [comp] at h; subst h; rfl
  | ret => intro lc h; simp [comp] at h; subst h; trivial
  | _ => intro lc h; simp [comp] at h

theorem annot_rel {n ret : Nat} : ∀ (lc : LCode) (c : Code) (out : Nat) (es : List (Nat × Nat)), CRel P c lc → CRel P c (annot n ret lc out es).1 := by
  intro lc
  induction lc with
  | skip => intro c out es h; exact h
  | region ops => intro c out es h; exact h
  | seq a b iha ihb => intro c out es h; cases c <;> try exact h.elim
                       exact ⟨iha _ _ _ h.1, ihb _ _ _ h.2⟩
  | cond x a b iha ihb => intro c out es h; cases c <;> try exact h.elim
                          exact ⟨h.1, iha _ _ _ h.2.1, ihb _ _ _ h.2.2⟩
  | block id x ih => intro c out es h; cases c <;> try exact h.elim
                     exact ⟨h.1, ih _ _ _ h.2⟩
  | loop keep x ih => intro c out es h; cases c <;> try exact h.elim
                      exact ih _ _ _ h
  | exit i => intro c out es h; exact h
  | ret => intro c out es h; exact h

/-! ### worlds of one heap -/

theorem Sim.of_heap {H : Heap} {w' : World} (h : Sim R p H w) (e : w'.heap = w.heap) : Sim R p H w' := by
  refine ⟨fun n cs hn => ?_, h.inj, fun b cs hb => by rw [e]; exact h.imm b cs hb⟩
  rcases h.obj n cs hn with h1 | ⟨b, o, s, vs, T, fz, a, l⟩
  · exact .inl h1
  · exact .inr ⟨b, o, s, vs, T, fz, a, by rw [e]; exact l.heap, l.imm, l.free, l.size, l.fits, l.rep⟩

theorem Ext.of_heap {H : Heap} {w' : World} (e : w'.heap = w.heap) (hio : w'.os = w.os ∧ w'.output = w.output ∧ w'.tape = w.tape := by exact ⟨rfl, rfl, rfl⟩) : Ext R p H w R p H w' :=
  ⟨fun _ _ h => h, by rw [e]; exact Nat.le_refl _, fun b _ _ => by rw [e], fun _ _ h => .inl h, fun _ h => .inl h, hio⟩

/-! ### names made new -/

theorem mask_rep : ∀ (keep : List Bool) (tm : List LV) (ys : List Value), Rep R p tm ys → Rep R p (mask keep tm) ys := by
  intro keep tm
  induction tm generalizing keep with
  | nil => intro ys h; cases keep <;> exact h
  | cons x xs ih =>
    intro ys h
    obtain ⟨y, ys, rfl, h1, h2⟩ := h.uncons
    cases keep with
    | nil => exact .undef (ih [] ys h2)
    | cons b bs =>
      simp only [mask]
      cases b
      · exact .undef (ih bs ys h2)
      · exact Rep.cons h1 (ih bs ys h2)

theorem canonNames_spec (H : Heap) (np : Nat) (tm : List LV) : (canonNames H np tm).Nodup ∧ ∀ n ∈ canonNames H np tm, n.1 ≠ 0 ∧ ∃ cs, H n = some cs := by
  unfold canonNames
  obtain ⟨h1, h2⟩ := reach_spec H FUEL [] ((List.range np).map (fun i => (0, i)) ++ tm.flatMap (nms D))
  refine ⟨(h1 List.nodup_nil).filter _, fun n hn => ?_⟩
  obtain ⟨h3, h4⟩ := List.mem_filter.1 hn
  exact ⟨by simpa using h4, (h2 n h3).resolve_left (by simp)⟩

def newPlaces (names : List Nm) (p : Places) : Places := fun n => if n.1 = 0 then p n else if n.1 = 1 then (names[n.2]?).bind p else none

theorem canonMap_ok (names : List Nm) (p : Places) : ∀ n m x, canonMap names n = some m → p n = some x → newPlaces names p m = some x := by
  intro n m x h1 h2
  unfold canonMap at h1
  split at h1
  · rename_i h0
    obtain rfl := Option.some.inj h1
    simp [newPlaces, h0, h2]
  · simp only [Option.map_eq_some_iff] at h1
    obtain ⟨i, h1, rfl⟩ := h1
    have := (idx_spec n names 0 i h1).2
    simp at this
    simp [newPlaces, this, h2]

/-- a heap whose objects are some of another one's, under new names -/
theorem Sim.renamed {H H' : Heap} (hs : Sim R p H w) {names : List Nm} (hnd : names.Nodup) (h0 : ∀ n ∈ names, n.1 ≠ 0)
    (hH : ∀ n cs, H' n = some cs → (n.1 = 0 ∧ ∃ ds, H n = some ds ∧ cs = ds.map (LE.ren D (canonMap names))) ∨ (n.1 = 1 ∧ ∃ m ds, names[n.2]? = some m ∧ H m = some ds ∧ cs = ds.map (LE.ren D (canonMap names)))) :
    Sim R (newPlaces names p) H' w ∧ Ext R p H w R (newPlaces names p) H' w := by
  have hπ := canonMap_ok names p
  have src : ∀ n cs, H' n = some cs → ∃ m ds, H m = some ds ∧ cs = ds.map (LE.ren D (canonMap names)) ∧ newPlaces names p n = p m ∧ ((n.1 = 0 ∧ m = n) ∨ (n.1 = 1 ∧ names[n.2]? = some m)) := by
    intro n cs h
    rcases hH n cs h with ⟨e, ds, h1, h2⟩ | ⟨e, m, ds, h1, h2, h3⟩
    · exact ⟨n, ds, h1, h2, by simp [newPlaces, e], .inl ⟨e, rfl⟩⟩
    · exact ⟨m, ds, h2, h3, by simp [newPlaces, e, h1], .inr ⟨e, h1⟩⟩
  refine ⟨⟨?_, ?_, hs.imm⟩, ⟨fun _ _ h => h, Nat.le_refl _, fun _ _ _ => rfl, fun _ _ h => .inl h, ?_, rfl, rfl, rfl⟩⟩
  · intro n cs h
    obtain ⟨m, ds, h1, rfl, h3, _⟩ := src n cs h
    rcases hs.obj m ds h1 with ⟨a, c⟩ | ⟨b, o, s, vs, T, fz, a, l⟩
    · exact .inl ⟨by rw [h3]; exact a, by rw [c]; rfl⟩
    · exact .inr ⟨b, o, s, vs, T, fz, by rw [h3]; exact a, l.heap, l.imm, l.free, l.size, by rw [List.length_map]; exact l.fits, by rw [List.length_map]; exact l.rep.ren hπ D⟩
  · intro n n' cs ds b o s o' s' h1 h2 h3 h4
    obtain ⟨m, d1, e1, _, e3, e4⟩ := src n cs h1
    obtain ⟨m', d2, f1, _, f3, f4⟩ := src n' ds h2
    rw [e3] at h3
    rw [f3] at h4
    have hm := hs.inj m m' d1 d2 b o s o' s' e1 f1 h3 h4
    subst hm
    obtain ⟨n1, n2⟩ := n
    obtain ⟨k1, k2⟩ := n'
    rcases e4 with ⟨g1, rfl⟩ | ⟨g1, g2⟩ <;> rcases f4 with ⟨i1, i2⟩ | ⟨i1, i2⟩
    · rw [i2]
    · exact absurd g1 (h0 _ (List.mem_of_getElem? i2))
    · subst i2; exact absurd i1 (h0 _ (List.mem_of_getElem? g2))
    · simp at g1 i1 g2 i2
      subst g1 i1
      obtain ⟨q1, q2⟩ := List.getElem?_eq_some_iff.1 g2
      obtain ⟨q3, q4⟩ := List.getElem?_eq_some_iff.1 i2
      rw [nodup_inj hnd q1 q3 (q2.trans q4.symm)]
  · rintro b ⟨n, cs, o, s, h1, h2⟩
    obtain ⟨m, ds, e1, _, e3, _⟩ := src n cs h1
    rw [e3] at h2
    exact .inl ⟨m, ds, o, s, e1, h2⟩

/-- what is known of a state, since a beginning -/
structure CAft (R : Imm) (p : Places) (H : Heap) (w : World) (a : Act) (st : St) (R' : Imm) (p' : Places) (a' : Act) (w' : World) : Prop where
  rep : Rep R' p' st.tm a'.tmps.toList
  sim : Sim R' p' st.H w'
  ext : Ext R p H w R' p' st.H w'
  fresh : ∀ n, st.nx ≤ n.1 → p' n = none
  zero : ∀ k, p' (0, k) = p (0, k)
  two : 2 ≤ st.nx
  defers : a'.defers = a.defers

theorem CAft.canon {H : Heap} {a : Act} {st : St} {R' : Imm} {p' : Places} {a' : Act} {w' : World} (h : CAft R p H w a st R' p' a' w') (keep : List Bool) :
    ∃ p'', CAft R p H w a (canon keep st) R' p'' a' w' := by
  obtain ⟨h1, h2⟩ := canonNames_spec st.H st.np (mask keep st.tm)
  obtain ⟨s1, s2⟩ := h.sim.renamed (H' := (LE.canon keep st).H) h1 (fun n hn => (h2 n hn).1) (by
    intro n cs hn
    simp only [LE.canon] at hn
    split at hn
    · rename_i h0
      simp only [Option.map_eq_some_iff] at hn
      obtain ⟨ds, h3, rfl⟩ := hn
      exact .inl ⟨h0, ds, h3, rfl⟩
    · split at hn
      · rename_i h0
        split at hn
        · rename_i m hm
          simp only [Option.map_eq_some_iff] at hn
          obtain ⟨ds, h3, rfl⟩ := hn
          exact .inr ⟨h0, m, ds, hm, h3, rfl⟩
        · cases hn
      · cases hn)
  refine ⟨newPlaces (canonNames st.H st.np (mask keep st.tm)) p', ?_, s1, h.ext.trans s2, ?_, ?_, Nat.le_refl _, h.defers⟩
  · exact (mask_rep keep _ _ h.rep).ren (canonMap_ok _ _) D
  · intro n hn
    have : 2 ≤ n.1 := hn
    simp only [newPlaces]
    rw [if_neg (by omega), if_neg (by omega)]
  · intro k
    simp only [newPlaces, if_true]
    exact h.zero k

/-! ### code -/

def exOf : Ex → Exit
  | .normal => .normal
  | .exit i => .exit i
  | .ret => .ret

theorem CAft.of_aft {H : Heap} {a : Act} {st st' : St} {R₁ R' : Imm} {p₁ p' : Places} {a₁ a' : Act} {w₁ w' : World} (h : CAft R p H w a st R₁ p₁ a₁ w₁) {n : Nat}
    (h' : Aft R₁ p₁ st.H w₁ a₁ st.nx st'.tm st'.H R' p' a' w') (hf : ∀ m, st.nx + n ≤ m.1 → p' m = none) : CAft R p H w a { st' with nx := st.nx + n } R' p' a' w' := by
  refine ⟨h'.rep, h'.sim, h.ext.trans h'.ext, hf, fun k => ?_, Nat.le_trans h.two (Nat.le_add_right _ _), h'.defers.trans h.defers⟩
  rw [← h.zero k]
  cases hp : p₁ (0, k) with
  | some x => exact h'.mono _ _ hp
  | none =>
    cases hp' : p' (0, k) with
    | none => rfl
    | some x =>
      rcases h'.fresh _ _ hp' with e | e
      · rw [hp] at e; cases e
      · have := h.two; simp at e; omega

theorem compOpers_len {ops : Array Oper} {draw : Bool} {as : List Nat} : ∀ (os : List Oper) (i : Nat) (los : List LOper), compOpers P ops draw as i os = some los → los.length = os.length := by
  intro os
  induction os with
  | nil => intro i los h; simp [compOpers] at h; subst h; rfl
  | cons o os ih =>
    intro i los h
    simp only [compOpers] at h
    split at h
    · rename_i x xs h1 h2
      obtain rfl := Option.some.inj h
      simp [ih _ _ h2]
    · cases h

theorem ev_sound (hE : CalOk P E) {R : Imm} {p : Places} {H : Heap} {w : World} {a : Act} (hg : Globs E.gl R) (k : Nat) : ∀ (c : Code) (lc : LCode), CRel P c lc →
    ∀ (st : St) (R' : Imm) (p' : Places) (a' : Act) (w' : World) (ex : Ex) (st' : St), CAft R p H w a st R' p' a' w' → ev E k lc st = some (ex, st') →
    ∀ Q : Exit → Act → World → Prop, (∀ R'' p'' a'' w'', CAft R p H w a st' R'' p'' a'' w'' → Q (exOf ex) a'' w'') → c.wp P Q a' w' := by
  intro c
  induction c with
  | skip =>
    intro lc hc st R' p' a' w' ex st' h he Q hQ
    cases lc <;> first | exact hc.elim | skip
    simp only [ev, Option.some.injEq, Prod.mk.injEq] at he
    obtain ⟨rfl, rfl⟩ := he
    exact wp_skip (hQ _ _ _ _ h)
  | region id ops draw =>
    intro lc hc st R' p' a' w' ex st' h he Q hQ
    cases lc <;> first | exact hc.elim | skip
    rename_i los
    simp only [CRel, compRegion] at hc
    simp only [ev, evRegion, Option.map_eq_some_iff, Prod.mk.injEq] at he
    obtain ⟨st2, ⟨st1, he, rfl⟩, rfl, rfl⟩ := he
    have hg' : Globs E.gl R' := fun g xs hx => by obtain ⟨cs, c1, c2⟩ := hg g xs hx; exact ⟨cs, h.ext.imm _ _ c1, c2⟩
    cases draw with
    | false =>
      have hc : compOpers P ops false [] 0 ops.toList = some los := by simpa using hc
      have hlen : los.length = ops.size := by simpa using compOpers_len _ _ _ hc
      rw [hlen] at hQ
      refine wp_region ?_
      have := opers_seq hE (ops := ops) (base0 := st.nx) (lim := st.nx) (a := a') (w := w') (p := p') (H := st.H) hg' (Nat.le_refl _) (Q := Q) ops.toList 0 los [] st st1 R' p' a' w' rfl hc he
        ⟨h.rep, h.sim, Ext.refl _ _ _ _, fun _ _ h => h, fun _ _ h => .inl h, rfl⟩ h.fresh (fun R'' p'' a'' w'' q1 q2 => hQ _ _ _ _ (h.of_aft q1 (by simpa using q2)))
      rw [List.range_eq_range']
      simpa using this
    | true =>
      have hc' : (P.follows .mixedOrders = true ∧ orderOk ops (aheads ops.toList) = true) ∧ compOpers P ops true (aheads ops.toList) 0 ops.toList = some los := by
        simp only [Bool.not_true, Bool.false_or, if_true] at hc
        split at hc
        · rename_i hd
          exact ⟨by simpa using hd, hc⟩
        · cases hc
      obtain ⟨hd, hc⟩ := hc'
      have hlen : los.length = ops.size := by simpa using compOpers_len _ _ _ hc
      rw [hlen] at hQ
      refine wp_region_any hd.1 ?_
      refine region_any (w := { w' with drawn := w'.drawn + 1 }) hE hg' hd.2 hc he h.rep (h.sim.of_heap rfl) h.fresh ?_
      intro R'' p'' a'' w'' q1 q2
      refine hQ _ _ _ _ (h.of_aft ⟨q1.rep, q1.sim, ?_, q1.mono, q1.fresh, q1.defers⟩ q2)
      exact (Ext.of_heap (w := w') (w' := { w' with drawn := w'.drawn + 1 }) rfl).trans q1.ext
  | seq x y ihx ihy =>
    intro lc hc st R' p' a' w' ex st' h he Q hQ
    cases lc <;> first | exact hc.elim | skip
    rename_i lx ly
    simp only [ev] at he
    refine wp_seq ?_
    cases hx : ev E k lx st with
    | none => simp [hx, andThen] at he
    | some r =>
      obtain ⟨e1, st1⟩ := r
      refine ihx lx hc.1 st R' p' a' w' e1 st1 h hx _ ?_
      intro R'' p'' a'' w'' h1
      rw [hx] at he
      cases e1 with
      | normal => exact ihy ly hc.2 st1 R'' p'' a'' w'' ex st' h1 he Q hQ
      | exit i =>
        simp only [andThen, Option.some.injEq, Prod.mk.injEq] at he
        obtain ⟨rfl, rfl⟩ := he
        exact hQ _ _ _ _ h1
      | ret =>
        simp only [andThen, Option.some.injEq, Prod.mk.injEq] at he
        obtain ⟨rfl, rfl⟩ := he
        exact hQ _ _ _ _ h1
  | cond c x y ihx ihy =>
    intro lc hc st R' p' a' w' ex st' h he Q hQ
    cases lc <;> first | exact hc.elim | skip
    rename_i lc' lx ly
    obtain ⟨rfl, h1, h2⟩ := hc
    have hg' : Globs E.gl R' := fun g xs hx => by obtain ⟨cs, c1, c2⟩ := hg g xs hx; exact ⟨cs, h.ext.imm _ _ c1, c2⟩
    simp only [ev] at he
    split at he
    · rename_i t ht
      have hv := evX_rep hg' h.rep c
      rw [ht] at hv
      have hv : a'.eval c = .bool t := by
        generalize a'.eval c = y at hv
        cases hv; rfl
      cases t with
      | true => exact wp_cond_true hv (ihx lx h1 st R' p' a' w' ex st' h (by simpa using he) Q hQ)
      | false => exact wp_cond_false hv (ihy ly h2 st R' p' a' w' ex st' h (by simpa using he) Q hQ)
    · cases he
  | block id c ih =>
    intro lc hc st R' p' a' w' ex st' h he Q hQ
    cases lc <;> first | exact hc.elim | skip
    rename_i id' lx
    obtain ⟨rfl, h1⟩ := hc
    refine wp_block ?_
    simp only [ev] at he
    cases hx : ev E k lx st with
    | none => simp [hx, inBlock] at he
    | some r =>
      obtain ⟨e1, st1⟩ := r
      refine ih lx h1 st R' p' a' w' e1 st1 h hx _ ?_
      intro R'' p'' a'' w'' h2
      rw [hx] at he
      cases e1 with
      | normal =>
        simp only [inBlock, Option.some.injEq, Prod.mk.injEq] at he
        obtain ⟨rfl, rfl⟩ := he
        exact hQ _ _ _ _ h2
      | exit i =>
        simp only [inBlock] at he
        simp only [exOf, Exit.inBlock]
        split at he
        · rename_i e
          obtain ⟨rfl, rfl⟩ := Prod.mk.inj (Option.some.inj he)
          rw [if_pos e]
          exact hQ _ _ _ _ h2
        · rename_i e
          obtain ⟨rfl, rfl⟩ := Prod.mk.inj (Option.some.inj he)
          rw [if_neg e]
          exact hQ _ _ _ _ h2
      | ret =>
        simp only [inBlock, Option.some.injEq, Prod.mk.injEq] at he
        obtain ⟨rfl, rfl⟩ := he
        exact hQ _ _ _ _ h2
  | loop c ih =>
    intro lc hc st R' p' a' w' ex st' h he Q hQ
    cases lc <;> first | exact hc.elim | skip
    rename_i keep lx
    simp only [ev] at he
    have rounds : ∀ (n : Nat) (st : St) (R' : Imm) (p' : Places) (a' : Act) (w' : World), CAft R p H w a st R' p' a' w' → loopN keep (ev E k lx) n st = some (ex, st') → Code.rounds P c Q n a' w' := by
      intro n
      induction n with
      | zero => intro st R' p' a' w' _ h; cases h
      | succ n ihn =>
        intro st R' p' a' w' h he
        rw [rounds_succ]
        obtain ⟨p2, h2⟩ := h.canon keep
        simp only [loopN] at he
        cases hx : ev E k lx (LE.canon keep st) with
        | none => simp [hx] at he
        | some r =>
          obtain ⟨e1, st1⟩ := r
          refine ih lx hc _ R' p2 a' w' e1 st1 h2 hx _ ?_
          intro R'' p'' a'' w'' h3
          rw [hx] at he
          cases e1 with
          | normal => exact ihn st1 R'' p'' a'' w'' h3 he
          | exit i =>
            simp only [Option.some.injEq, Prod.mk.injEq] at he
            obtain ⟨rfl, rfl⟩ := he
            exact hQ _ _ _ _ h3
          | ret =>
            simp only [Option.some.injEq, Prod.mk.injEq] at he
            obtain ⟨rfl, rfl⟩ := he
            exact hQ _ _ _ _ h3
    exact wp_loop_rounds k (rounds k st R' p' a' w' h he)
  | exit i =>
    intro lc hc st R' p' a' w' ex st' h he Q hQ
    cases lc <;> first | exact hc.elim | skip
    simp only [CRel] at hc
    subst hc
    simp only [ev, Option.some.injEq, Prod.mk.injEq] at he
    obtain ⟨rfl, rfl⟩ := he
    exact wp_exit (hQ _ _ _ _ h)
  | ret =>
    intro lc hc st R' p' a' w' ex st' h he Q hQ
    cases lc <;> first | exact hc.elim | skip
    simp only [ev, Option.some.injEq, Prod.mk.injEq] at he
    obtain ⟨rfl, rfl⟩ := he
    exact wp_ret (hQ _ _ _ _ h)
  | _ =>
    intro lc hc
    cases lc <;> exact hc.elim

/-! ### results, and functions -/

def RRel (P : Program) : List ResultVar → List LRes → Prop
  | [], [] => True
  | .tmp t :: rs, .tmp t' :: xs => t = t' ∧ RRel P rs xs
  | .cell a t :: rs, .one a' :: xs => a = a' ∧ isAggT P t = some false ∧ RRel P rs xs
  | .cell a t :: rs, .agg a' n :: xs => a = a' ∧ isAggT P t = some true ∧ szOf P t = some n ∧ RRel P rs xs
  | _, _ => False

theorem compRes_rel : ∀ (rs : List ResultVar) (xs : List LRes), compRes P rs = some xs → RRel P rs xs := by
  intro rs
  induction rs with
  | nil => intro xs h; simp [compRes] at h; subst h; trivial
  | cons r rs ih =>
    intro xs h
    cases r with
    | tmp t =>
      simp only [compRes, Option.map_eq_some_iff] at h
      obtain ⟨ys, h, rfl⟩ := h
      exact ⟨rfl, ih _ h⟩
    | cell a t =>
      simp only [compRes] at h
      split at h
      · rename_i n ys h1 h2 h3
        obtain rfl := Option.some.inj h
        exact ⟨rfl, h1, h2, ih _ h3⟩
      · rename_i ys h1 h3
        obtain rfl := Option.some.inj h
        exact ⟨rfl, h1, ih _ h3⟩
      · cases h

/-- one result, as the machine reads it -/
def readRes (tmps : Array Value) : ResultVar → Sem Value
  | .tmp t => pure (tmps.getD t undef)
  | .cell a t => do loadVar t (← asAddr (tmps.getD a undef))

theorem getD_rep {tm : List LV} {tmps : Array Value} (h : Rep R p tm tmps.toList) (t : Nat) : Rep1 R p (tm.getD t .undef) (tmps.getD t undef) := by
  cases hq : tm[t]? with
  | none =>
    have : (tm.getD t .undef) = .undef := by simp [List.getD, hq]
    rw [this]; exact .undef .nil
  | some x =>
    obtain ⟨y, h1, h2⟩ := h.get hq
    have h1 : tmps[t]? = some y := by simpa using h1
    have e1 : tm.getD t .undef = x := by simp [List.getD, hq]
    have e2 : tmps.getD t undef = y := by rw [Array.getD_eq_getD_getElem?, h1]; rfl
    rw [e1, e2]; exact h2

theorem resOf_run {st : St} {tmps : Array Value} (hr : Rep R p st.tm tmps.toList) (hs : Sim R p st.H w) : ∀ (rs : List ResultVar) (xs : List LRes) (vs : List LV), RRel P rs xs →
    seqO (xs.map (resOf st)) = some vs → ∃ us, (rs.mapM (readRes tmps)).run P w = .ok us w ∧ Rep R p vs us := by
  intro rs
  induction rs with
  | nil =>
    intro xs vs h hv
    cases xs with
    | nil => simp [seqO] at hv; subst hv; exact ⟨[], rfl, .nil⟩
    | cons x xs => exact h.elim
  | cons r rs ih =>
    intro xs vs h hv
    cases xs with
    | nil => cases r <;> exact h.elim
    | cons x xs =>
      have hv' : ∃ v vs', resOf st x = some v ∧ seqO (xs.map (resOf st)) = some vs' ∧ vs = v :: vs' := by
        rw [List.map_cons] at hv
        cases h1 : resOf st x with
        | none => rw [h1] at hv; cases hv
        | some v =>
          rw [h1] at hv
          simp only [seqO, Option.map_eq_some_iff] at hv
          obtain ⟨vs', h2, rfl⟩ := hv
          exact ⟨v, vs', rfl, h2, rfl⟩
      obtain ⟨v, vs', h1, h2, rfl⟩ := hv'
      · skip
        have step : ∀ u, (readRes tmps r).run P w = .ok u w → Rep1 R p v u → RRel P rs xs → ∃ us, ((r :: rs).mapM (readRes tmps)).run P w = .ok us w ∧ Rep R p (v :: vs') us := by
          intro u hu hru hrel
          obtain ⟨us, q1, q2⟩ := ih xs vs' hrel h2
          refine ⟨u :: us, ?_, Rep.cons hru q2⟩
          rw [List.mapM_cons]
          simp only [Sem.run_bind, hu, Result.andThen_ok, q1, Sem.run_pure]
        cases r with
        | tmp t =>
          cases x with
          | tmp t' =>
            obtain ⟨rfl, h⟩ := h
            simp only [resOf, Option.some.injEq] at h1
            subst h1
            exact step _ rfl (getD_rep hr _) h
          | _ => exact h.elim
        | cell a t =>
          cases x with
          | tmp t' => exact h.elim
          | one a' =>
            obtain ⟨rfl, hagg, h⟩ := h
            simp only [resOf] at h1
            split at h1
            · rename_i y hy
              obtain rfl := Option.some.inj h1
              obtain ⟨b, o, vs2, T, fz, e, c1, c2, c3⟩ := cellAt_rep hs (getD_rep hr a) hy
              rcases c2 with c2 | c2
              · omega
              · have hv2 : vs2[o]? = some vs2[o] := Array.getElem?_eq_getElem (by omega)
                have e2 : (vs2.toList.drop o).take 1 = [vs2[o]] := by
                  rw [List.drop_eq_getElem_cons (by simp; omega)]; simp
                rw [e2] at c3
                refine step vs2[o] ?_ c3 h
                simp only [readRes, e, asAddr, loadVar, Sem.run_bind, Sem.run_pure, Result.andThen_ok, run_isAggT hagg, Bool.false_eq_true, if_false, run_load, cell_of c1, hv2]
            · cases h1
          | agg a' n =>
            obtain ⟨rfl, hagg, hsz, h⟩ := h
            simp only [resOf, Option.map_eq_some_iff] at h1
            obtain ⟨ys, hy, rfl⟩ := h1
            obtain ⟨b, o, vs2, T, fz, e, c1, c2, c3⟩ := cellAt_rep hs (getD_rep hr a) hy
            refine step (.agg ((vs2.toList.drop o).take n).toArray) ?_ (.agg c3 .nil) h
            simp only [readRes, e, asAddr, loadVar, Sem.run_bind, Sem.run_pure, Result.andThen_ok, run_isAggT hagg, if_true, run_szOf hsz, run_loadCells' c1 c2]

theorem results_run {fn : Func} {st : St} {tmps : Array Value} {xs : List LRes} {ret : LV} (hr : Rep R p st.tm tmps.toList) (hs : Sim R p st.H w) (hc : compRes P fn.results.toList = some xs)
    (hv : resVal st xs = some ret) : ∃ v, (results fn tmps).run P w = .ok v w ∧ Rep1 R p ret v := by
  have hrun : ∀ us, (fn.results.toList.mapM (readRes tmps)).run P w = .ok us w → (results fn tmps).run P w = .ok (if h : us.toArray.size = 1 then us.toArray[0] else .tuple us.toArray) w := by
    intro us h
    have e : fn.results.mapM (readRes tmps) = List.toArray <$> fn.results.toList.mapM (readRes tmps) := Array.mapM_eq_mapM_toList
    have : results fn tmps = (do let vs ← fn.results.mapM (readRes tmps); pure (if h : vs.size = 1 then vs[0] else .tuple vs)) := by
      unfold results
      congr 1
    rw [this, e]
    simp only [map_eq_pure_bind, bind_assoc, pure_bind, Sem.run_bind, h, Result.andThen_ok, Sem.run_pure]
  unfold resVal at hv
  cases hq : seqO (xs.map (resOf st)) with
  | none => simp [hq] at hv
  | some ys =>
    obtain ⟨us, h1, h2⟩ := resOf_run hr hs _ _ _ (compRes_rel _ _ hc) hq
    refine ⟨_, hrun us h1, ?_⟩
    have hl := h2.length
    rw [hq] at hv
    split at hv
    · rename_i x heq
      obtain rfl := Option.some.inj heq
      obtain rfl := Option.some.inj hv
      obtain ⟨u, rfl, h3⟩ := h2.single
      exact h3
    · rename_i xs' hne heq
      obtain rfl := Option.some.inj heq
      obtain rfl := Option.some.inj hv
      have : ¬ us.toArray.size = 1 := by
        intro e
        match ys, hl, hne with
        | [], hl, _ => simp at hl e; omega
        | [x], _, hne => exact hne x rfl
        | _ :: _ :: _, hl, _ => simp at hl e; omega
      rw [dif_neg this]
      exact .tup (by simpa using h2) .nil
    · rename_i heq
      cases heq

theorem compF_spec {f : FuncId} {lf : LFun} (h : compF P f = some lf) : Plain P f ∧ ∃ fn c, P.funcs[f]? = some fn ∧ fn.body = some c ∧ lf.ntmps = fn.ntmps ∧ compRes P fn.results.toList = some lf.results ∧ CRel P c lf.body := by
  unfold compF at h
  split at h
  · cases h
  · rename_i fn hfn
    split at h
    · cases h
    · rename_i hname
      split at h
      · cases h
      · rename_i c hb
        split at h
        · rename_i lc rs h1 h2
          obtain rfl := Option.some.inj h
          exact ⟨⟨fn, hfn, by simpa using hname, by simp [hb]⟩, fn, c, hfn, hb, rfl, h2, annot_rel _ _ _ _ (comp_rel _ _ h1)⟩
        · cases h

/-- a function's code, behind its evaluation -/
theorem fun_sound (hE : CalOk P E) {k : Nat} {f : FuncId} {lf : LFun} (hc : compF P f = some lf) {args : List LV} {objs : List Cells} {res : CallRes} (he : funSem E k lf args objs = some res) :
    Plain P f ∧ FTri P E.gl f args objs res := by
  obtain ⟨hp, fn, c, hfn, hb, hn, hres, hrel⟩ := compF_spec hc
  refine ⟨hp, ?_⟩
  intro R p w vals hg hr hs hfresh
  -- what it ends with
  have hend : ∃ ex st ret, ev E k lf.body { tm := args ++ List.replicate (lf.ntmps - args.length) (.v (.tuple #[])), H := inHeap objs, nx := 2, np := objs.length } = some (ex, st) ∧
      (ex = .normal ∨ ex = .ret) ∧ resVal st lf.results = some ret ∧ res = outOf objs.length st ret := by
    unfold funSem at he
    split at he
    · rename_i st h1
      simp only [Option.map_eq_some_iff] at he
      obtain ⟨ret, h2, h3⟩ := he
      exact ⟨_, st, ret, h1, .inl rfl, h2, h3.symm⟩
    · rename_i st h1
      simp only [Option.map_eq_some_iff] at he
      obtain ⟨ret, h2, h3⟩ := he
      exact ⟨_, st, ret, h1, .inr rfl, h2, h3.symm⟩
    · cases he
  obtain ⟨ex, st, ret, h1, hex, h2, rfl⟩ := hend
  refine ⟨by simp [outOf], ?_⟩
  refine calls_of_wp hfn hb ?_
  have hrep : Rep R p (args ++ List.replicate (lf.ntmps - args.length) (.v (.tuple #[]))) (vals.toArray ++ Array.replicate (fn.ntmps - vals.toArray.size) undef).toList := by
    have e1 : (vals.toArray ++ Array.replicate (fn.ntmps - vals.toArray.size) undef).toList = vals ++ List.replicate (lf.ntmps - args.length) undef := by
      rw [hn, hr.length]; simp
    rw [e1]
    refine hr.append ?_
    have e2 : List.replicate (lf.ntmps - args.length) (LV.v (.tuple #[])) = (List.replicate (lf.ntmps - args.length) undef).map .v := by rw [List.map_replicate]; rfl
    rw [e2]
    exact Rep.plain _
  refine ev_sound hE hg k c lf.body hrel _ R p _ w ex st (a := { tmps := vals.toArray ++ Array.replicate (fn.ntmps - vals.toArray.size) undef, defers := [] }) (p := p) (H := inHeap objs) (w := w)
    ⟨hrep, hs, Ext.refl _ _ _ _, fun n hn => hfresh n (by simp at hn; omega), fun _ => rfl, Nat.le_refl _, rfl⟩ h1 _ ?_
  intro R' p' a' w' ha
  obtain ⟨v, hv1, hv2⟩ := results_run ha.rep ha.sim hres h2
  have hpost : a'.defers = [] ∧ ∃ v, (results fn a'.tmps).run P w' = .ok v w' ∧ ∃ v' R' p', Ending.returned v = .returned v' ∧ Rep1 R' p' (outOf objs.length st ret).1 v' ∧
      Sim R' p' (outHeap (outOf objs.length st ret).2.1 (outOf objs.length st ret).2.2) w' ∧
      Ext R p (inHeap objs) w R' p' (outHeap (outOf objs.length st ret).2.1 (outOf objs.length st ret).2.2) w' ∧ (∀ k, p' (0, k) = p (0, k)) := by
    refine ⟨ha.defers, v, hv1, v, R', newPlaces (canonNames st.H objs.length [ret]) p', rfl, ?_, ?_⟩
    · exact hv2.ren (canonMap_ok _ _) D
    · obtain ⟨c1, c2⟩ := canonNames_spec st.H objs.length [ret]
      obtain ⟨f1, f2⟩ := filterMap_all st.H (canonNames st.H objs.length [ret]) (fun n hn => (c2 n hn).2)
      obtain ⟨s1, s2⟩ := ha.sim.renamed (H' := outHeap (outOf objs.length st ret).2.1 (outOf objs.length st ret).2.2) c1 (fun n hn => (c2 n hn).1) (by
        intro n cs h
        unfold outHeap at h
        split at h
        · rename_i h0
          left
          refine ⟨h0, ?_⟩
          obtain ⟨n1, n2⟩ := n
          simp only at h0 h
          subst h0
          simp only [outOf, List.getElem?_map] at h
          by_cases hlt : n2 < objs.length
          · rw [List.getElem?_range hlt] at h
            simp only [Option.map_some, Option.join_some, Option.map_eq_some_iff] at h
            obtain ⟨ds, h, rfl⟩ := h
            exact ⟨ds, h, rfl⟩
          · rw [List.getElem?_eq_none (by simp; omega)] at h
            cases h
        · split at h
          · rename_i h0
            right
            refine ⟨h0, ?_⟩
            simp only [outOf, List.getElem?_map, Option.map_eq_some_iff] at h
            obtain ⟨ds, h, rfl⟩ := h
            rw [f2] at h
            simp only [Option.bind_eq_some_iff] at h
            obtain ⟨m, h3, h4⟩ := h
            exact ⟨m, ds, h3, h4, rfl⟩
          · cases h)
      refine ⟨s1, ha.ext.trans s2, fun k => ?_⟩
      simp only [newPlaces, if_true]
      exact ha.zero k
  rcases hex with rfl | rfl
  · exact hpost
  · exact hpost

/-- THE RECKONER IS RIGHT -/
theorem F_sound {C : Ctx} (hC : ∀ f lf, C.fns f = some lf → compF P f = some lf) : ∀ k, CalOk P { gl := C.gl, cal := F C k, borrow := C.borrow } := by
  intro k
  induction k with
  | zero => intro f args objs res h; cases h
  | succ k ih =>
    intro f args objs res h
    simp only [F] at h
    split at h
    · cases h
    · rename_i lf hlf
      exact fun_sound ih (hC f lf hlf) h

end Go.LE
