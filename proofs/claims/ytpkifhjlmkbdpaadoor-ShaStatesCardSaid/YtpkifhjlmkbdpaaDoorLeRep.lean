/- What the reckoner's values and memory stand for: 'Rep' (values), 'Sim' (memory), 'Ext' (how memory goes on). -/
import Derived.Test.YtpkifhjlmkbdpaaDoorLeDefs
set_option linter.unusedVariables false
set_option linter.unusedSimpArgs false
namespace Go.LE

/-- where an object lies: nowhere (it has no cells), or from a cell of a block on (so many cells to the block's end) -/
inductive Base where
  | nowhere
  | at (b o s : Nat)

abbrev Imm := Nat → Option (List Value)
abbrev Places := Nm → Option Base

/-- Rep R p xs ys: the reckoner's values xs stand for the machine's ys; R: the blocks that are never written; p: where objects lie -/
inductive Rep (R : Imm) (p : Places) : List LV → List Value → Prop where
  | nil : Rep R p [] []
  | undef {y xs ys} : Rep R p xs ys → Rep R p (.undef :: xs) (y :: ys)
  | v {y xs ys} : Rep R p xs ys → Rep R p (.v y :: xs) (y :: ys)
  | agg {as cs xs ys} : Rep R p as cs → Rep R p xs ys → Rep R p (.agg as :: xs) (.agg cs.toArray :: ys)
  | ptr {n off b o s xs ys} : p n = some (.at b o s) → Rep R p xs ys → Rep R p (.ptr n off :: xs) (.pointer (some ⟨b, o + off, none⟩) :: ys)
  | sl0 {n off cap es a xs ys} : (∀ k, cap = some k → k = 0) → Rep R p xs ys → Rep R p (.sl n off 0 cap es :: xs) (.slice (some a) 0 0 :: ys)
  | sl {n off len cap es b o s c xs ys} : p n = some (.at b o s) → len ≤ c → (∀ k, cap = some k → k = c) → (cap = none → off + c * es ≤ s) →
      Rep R p xs ys → Rep R p (.sl n off len cap es :: xs) (.slice (some ⟨b, o + off, none⟩) len c :: ys)
  | ipt {as b o cs xs ys} : R b = some cs → Rep R p as ((cs.drop o).take as.length) → Rep R p xs ys → Rep R p (.ipt as :: xs) (.pointer (some ⟨b, o, none⟩) :: ys)
  | isl0 {as a c xs ys} : Rep R p xs ys → Rep R p (.isl as 0 :: xs) (.slice a 0 c :: ys)
  | isl {as len b o c cs xs ys} : R b = some cs → Rep R p as ((cs.drop o).take as.length) → len ≤ c → Rep R p xs ys →
      Rep R p (.isl as len :: xs) (.slice (some ⟨b, o, none⟩) len c :: ys)
  | fn {f as as' bs bs' xs ys} : Rep R p as as' → Rep R p bs bs' → Rep R p xs ys → Rep R p (.fn f as bs :: xs) (.func f as'.toArray bs'.toArray :: ys)
  | tup {as cs xs ys} : Rep R p as cs → Rep R p xs ys → Rep R p (.tup as :: xs) (.tuple cs.toArray :: ys)

abbrev Rep1 (R : Imm) (p : Places) (x : LV) (y : Value) : Prop := Rep R p [x] [y]

variable {R R' : Imm} {p p' : Places}

theorem Rep.length {xs : List LV} {ys : List Value} (h : Rep R p xs ys) : xs.length = ys.length := by
  induction h <;> first | rfl | (simp only [List.length_cons]; omega)

theorem Rep.cons {x : LV} {y : Value} {xs : List LV} {ys : List Value} (h1 : Rep1 R p x y) (h : Rep R p xs ys) : Rep R p (x :: xs) (y :: ys) := by
  cases h1 with
  | undef _ => exact .undef h
  | v _ => exact .v h
  | agg a _ => exact .agg a h
  | ptr a _ => exact .ptr a h
  | sl0 a _ => exact .sl0 a h
  | sl a b c d _ => exact .sl a b c d h
  | ipt a b _ => exact .ipt a b h
  | isl0 _ => exact .isl0 h
  | isl a b c _ => exact .isl a b c h
  | fn a b _ => exact .fn a b h
  | tup a _ => exact .tup a h

theorem Rep.head {x : LV} {y : Value} {xs : List LV} {ys : List Value} (h : Rep R p (x :: xs) (y :: ys)) : Rep1 R p x y := by
  cases h with
  | undef _ => exact .undef .nil
  | v _ => exact .v .nil
  | agg a _ => exact .agg a .nil
  | ptr a _ => exact .ptr a .nil
  | sl0 a _ => exact .sl0 a .nil
  | sl a b c d _ => exact .sl a b c d .nil
  | ipt a b _ => exact .ipt a b .nil
  | isl0 _ => exact .isl0 .nil
  | isl a b c _ => exact .isl a b c .nil
  | fn a b _ => exact .fn a b .nil
  | tup a _ => exact .tup a .nil

theorem Rep.tail {x : LV} {y : Value} {xs : List LV} {ys : List Value} (h : Rep R p (x :: xs) (y :: ys)) : Rep R p xs ys := by
  cases h <;> assumption

theorem Rep.uncons {x : LV} {xs : List LV} {zs : List Value} (h : Rep R p (x :: xs) zs) : ∃ y ys, zs = y :: ys ∧ Rep1 R p x y ∧ Rep R p xs ys := by
  cases zs with
  | nil => cases h
  | cons y ys => exact ⟨y, ys, rfl, h.head, h.tail⟩

theorem Rep.append {xs xs' : List LV} {ys ys' : List Value} (h : Rep R p xs ys) (h' : Rep R p xs' ys') : Rep R p (xs ++ xs') (ys ++ ys') := by
  induction xs generalizing ys with
  | nil => cases ys with
    | nil => exact h'
    | cons _ _ => cases h
  | cons x xs ih =>
    obtain ⟨y, ys, rfl, h1, h2⟩ := h.uncons
    exact Rep.cons h1 (ih h2)

theorem Rep.drop {xs : List LV} {ys : List Value} (h : Rep R p xs ys) (n : Nat) : Rep R p (xs.drop n) (ys.drop n) := by
  induction n generalizing xs ys with
  | zero => exact h
  | succ n ih =>
    cases xs with
    | nil => cases ys with
      | nil => exact h
      | cons _ _ => cases h
    | cons x xs =>
      obtain ⟨y, ys, rfl, h1, h2⟩ := h.uncons
      exact ih h2

theorem Rep.take {xs : List LV} {ys : List Value} (h : Rep R p xs ys) (n : Nat) : Rep R p (xs.take n) (ys.take n) := by
  induction n generalizing xs ys with
  | zero => simpa using Rep.nil
  | succ n ih =>
    cases xs with
    | nil => cases ys with
      | nil => exact h
      | cons _ _ => cases h
    | cons x xs =>
      obtain ⟨y, ys, rfl, h1, h2⟩ := h.uncons
      exact Rep.cons h1 (ih h2)

theorem Rep.get {xs : List LV} {ys : List Value} (h : Rep R p xs ys) {i : Nat} {x : LV} (hx : xs[i]? = some x) : ∃ y, ys[i]? = some y ∧ Rep1 R p x y := by
  induction i generalizing xs ys with
  | zero =>
    cases xs with
    | nil => simp at hx
    | cons z xs =>
      obtain ⟨y, ys, rfl, h1, h2⟩ := h.uncons
      simp at hx
      subst hx
      exact ⟨y, rfl, h1⟩
  | succ i ih =>
    cases xs with
    | nil => simp at hx
    | cons z xs =>
      obtain ⟨y, ys, rfl, h1, h2⟩ := h.uncons
      simp at hx
      obtain ⟨y', hy, hr⟩ := ih h2 hx
      exact ⟨y', by simpa using hy, hr⟩

theorem Rep.set {xs : List LV} {ys : List Value} (h : Rep R p xs ys) (i : Nat) {x : LV} {y : Value} (h1 : Rep1 R p x y) : Rep R p (xs.set i x) (ys.set i y) := by
  induction i generalizing xs ys with
  | zero =>
    cases xs with
    | nil => cases ys with
      | nil => exact h
      | cons _ _ => cases h
    | cons z xs =>
      obtain ⟨y', ys, rfl, _, h2⟩ := h.uncons
      exact Rep.cons h1 h2
  | succ i ih =>
    cases xs with
    | nil => cases ys with
      | nil => exact h
      | cons _ _ => cases h
    | cons z xs =>
      obtain ⟨y', ys, rfl, h0, h2⟩ := h.uncons
      exact Rep.cons h0 (ih h2)

theorem Rep.plain (ys : List Value) : Rep R p (ys.map .v) ys := by
  induction ys with
  | nil => exact .nil
  | cons y ys ih => exact .v ih

theorem Rep.mono {xs : List LV} {ys : List Value} (hR : ∀ b cs, R b = some cs → R' b = some cs) (hp : ∀ n x, p n = some x → p' n = some x)
    (h : Rep R p xs ys) : Rep R' p' xs ys := by
  induction h with
  | nil => exact .nil
  | undef _ ih => exact .undef ih
  | v _ ih => exact .v ih
  | agg _ _ ih1 ih2 => exact .agg ih1 ih2
  | ptr a _ ih => exact .ptr (hp _ _ a) ih
  | sl0 a _ ih => exact .sl0 a ih
  | sl a b c d _ ih => exact .sl (hp _ _ a) b c d ih
  | ipt a _ _ ih1 ih2 => exact .ipt (hR _ _ a) ih1 ih2
  | isl0 _ ih => exact .isl0 ih
  | isl a _ c _ ih1 ih2 => exact .isl (hR _ _ a) ih1 c ih2
  | fn _ _ _ ih1 ih2 ih3 => exact .fn ih1 ih2 ih3
  | tup _ _ ih1 ih2 => exact .tup ih1 ih2

/-- renaming: whatever π names otherwise lies where it lay -/
theorem Rep.ren {π : Nm → Option Nm} (hπ : ∀ n m x, π n = some m → p n = some x → p' m = some x) {xs : List LV} {ys : List Value} (h : Rep R p xs ys) :
    ∀ d, Rep R p' (xs.map (LE.ren d π)) ys := by
  induction h with
  | nil => exact fun _ => .nil
  | undef _ ih => intro d; cases d <;> exact .undef (ih _)
  | v _ ih => intro d; cases d with
    | zero => exact .undef (ih 0)
    | succ d => exact .v (ih (d + 1))
  | agg _ _ ih1 ih2 => intro d; cases d with
    | zero => exact .undef (ih2 0)
    | succ d => exact .agg (ih1 d) (ih2 (d + 1))
  | @ptr n off b o s xs ys a _ ih => intro d; cases d with
    | zero => exact .undef (ih 0)
    | succ d =>
      have := ih (d + 1)
      simp only [List.map_cons, LE.ren]
      cases hn : π n with
      | none => exact .undef this
      | some m => exact .ptr (hπ _ _ _ hn a) this
  | @sl0 n off cap es a xs ys h0 _ ih => intro d; cases d with
    | zero => exact .undef (ih 0)
    | succ d =>
      have := ih (d + 1)
      simp only [List.map_cons, LE.ren]
      cases hn : π n with
      | none => exact .undef this
      | some m => exact .sl0 h0 this
  | @sl n off len cap es b o s c xs ys a h1 h2 h3 _ ih => intro d; cases d with
    | zero => exact .undef (ih 0)
    | succ d =>
      have := ih (d + 1)
      simp only [List.map_cons, LE.ren]
      cases hn : π n with
      | none => exact .undef this
      | some m => exact .sl (hπ _ _ _ hn a) h1 h2 h3 this
  | ipt a _ _ ih1 ih2 => intro d; cases d with
    | zero => exact .undef (ih2 0)
    | succ d => exact .ipt a (by simpa using ih1 d) (ih2 (d + 1))
  | isl0 _ ih => intro d; cases d with
    | zero => exact .undef (ih 0)
    | succ d => exact .isl0 (ih (d + 1))
  | isl a _ c _ ih1 ih2 => intro d; cases d with
    | zero => exact .undef (ih2 0)
    | succ d => exact .isl a (by simpa using ih1 d) c (ih2 (d + 1))
  | fn _ _ _ ih1 ih2 ih3 => intro d; cases d with
    | zero => exact .undef (ih3 0)
    | succ d => exact .fn (ih1 d) (ih2 d) (ih3 (d + 1))
  | tup _ _ ih1 ih2 => intro d; cases d with
    | zero => exact .undef (ih2 0)
    | succ d => exact .tup (ih1 d) (ih2 (d + 1))

/-- where nothing of R is looked at, other blocks may be taken as never written -/
theorem Rep.noImm_all {xs : List LV} {ys : List Value} (h : Rep R p xs ys) : ∀ d, xs.all (LE.noImm d) = true → Rep R' p xs ys := by
  induction h with
  | nil => exact fun _ _ => .nil
  | undef _ ih => intro d hd; simp at hd; exact .undef (ih d (by simpa using hd.2))
  | v _ ih => intro d hd; simp at hd; exact .v (ih d (by simpa using hd.2))
  | agg _ _ ih1 ih2 => intro d hd; cases d with
    | zero => simp [LE.noImm] at hd
    | succ d => rw [List.all_cons, Bool.and_eq_true] at hd; exact .agg (ih1 d hd.1) (ih2 _ hd.2)
  | ptr a _ ih => intro d hd; simp at hd; exact .ptr a (ih d (by simpa using hd.2))
  | sl0 a _ ih => intro d hd; simp at hd; exact .sl0 a (ih d (by simpa using hd.2))
  | sl a b c e _ ih => intro d hd; simp at hd; exact .sl a b c e (ih d (by simpa using hd.2))
  | ipt a _ _ ih1 ih2 => intro d hd; cases d <;> simp [LE.noImm] at hd
  | isl0 _ ih => intro d hd; cases d <;> simp [LE.noImm] at hd
  | isl a _ c _ ih1 ih2 => intro d hd; cases d <;> simp [LE.noImm] at hd
  | fn _ _ _ ih1 ih2 ih3 => intro d hd; cases d with
    | zero => simp [LE.noImm] at hd
    | succ d =>
      rw [List.all_cons, Bool.and_eq_true] at hd
      simp only [LE.noImm, Bool.and_eq_true] at hd
      exact .fn (ih1 d hd.1.1) (ih2 d hd.1.2) (ih3 _ hd.2)
  | tup _ _ ih1 ih2 => intro d hd; cases d with
    | zero => simp [LE.noImm] at hd
    | succ d => rw [List.all_cons, Bool.and_eq_true] at hd; exact .tup (ih1 d hd.1) (ih2 _ hd.2)

theorem Rep.single {x : LV} {zs : List Value} (h : Rep R p [x] zs) : ∃ y, zs = [y] ∧ Rep1 R p x y := by
  obtain ⟨y, ys, rfl, h1, h2⟩ := h.uncons
  cases h2
  exact ⟨y, rfl, h1⟩

/-! ### memory -/

/-- an object's cells as they lie in a block -/
structure Lies (R : Imm) (p : Places) (w : World) (cs : Cells) (b o s : Nat) (vs : Array Value) (T : TypeId) (fz : Nat × Nat) : Prop where
  heap : w.heap[b]? = some (.cells vs T fz)
  imm : R b = none
  free : fz.1 = fz.2 ∨ vs.size ≤ fz.1
  size : o + s = vs.size
  fits : cs.length ≤ s
  rep : Rep R p cs ((vs.toList.drop o).take cs.length)

structure Sim (R : Imm) (p : Places) (H : Heap) (w : World) : Prop where
  obj : ∀ n cs, H n = some cs → (p n = some .nowhere ∧ cs = []) ∨ ∃ b o s vs T fz, p n = some (.at b o s) ∧ Lies R p w cs b o s vs T fz
  inj : ∀ n m cs ds b o s o' s', H n = some cs → H m = some ds → p n = some (.at b o s) → p m = some (.at b o' s') → n = m
  imm : ∀ b cs, R b = some cs → ∃ vs T fz, w.heap[b]? = some (.cells vs T fz) ∧ vs.toList = cs

/-- the blocks of a heap's objects -/
def Owned (p : Places) (H : Heap) (b : Nat) : Prop := ∃ n cs o s, H n = some cs ∧ p n = some (.at b o s)

/-- how memory goes on: what is never written stays; other blocks are written only where they are the heap's own; what is new lies in new blocks, or in its own -/
structure Ext (R : Imm) (p : Places) (H : Heap) (w : World) (R' : Imm) (p' : Places) (H' : Heap) (w' : World) : Prop where
  imm : ∀ b cs, R b = some cs → R' b = some cs
  size : w.heap.size ≤ w'.heap.size
  kept : ∀ b, b < w.heap.size → ¬ Owned p H b → w'.heap[b]? = w.heap[b]?
  newImm : ∀ b cs, R' b = some cs → R b = some cs ∨ w.heap.size ≤ b ∨ Owned p H b
  own : ∀ b, Owned p' H' b → Owned p H b ∨ w.heap.size ≤ b
  io : w'.os = w.os ∧ w'.output = w.output ∧ w'.tape = w.tape

theorem Ext.refl (R : Imm) (p : Places) (H : Heap) (w : World) : Ext R p H w R p H w :=
  ⟨fun _ _ h => h, Nat.le_refl _, fun _ _ _ => rfl, fun _ _ h => .inl h, fun _ h => .inl h, rfl, rfl, rfl⟩

theorem Ext.trans {R₁ R₂ R₃ : Imm} {p₁ p₂ p₃ : Places} {H₁ H₂ H₃ : Heap} {w₁ w₂ w₃ : World} (h : Ext R₁ p₁ H₁ w₁ R₂ p₂ H₂ w₂) (h' : Ext R₂ p₂ H₂ w₂ R₃ p₃ H₃ w₃) :
    Ext R₁ p₁ H₁ w₁ R₃ p₃ H₃ w₃ where
  imm b cs e := h'.imm b cs (h.imm b cs e)
  size := Nat.le_trans h.size h'.size
  kept b hb hn := by
    rw [h'.kept b (Nat.lt_of_lt_of_le hb h.size) (fun ho => (h.own b ho).elim hn (fun hs => absurd hb (by omega)))]
    exact h.kept b hb hn
  newImm b cs e := by
    rcases h'.newImm b cs e with h1 | h1 | h1
    · exact h.newImm b cs h1
    · exact .inr (.inl (Nat.le_trans h.size h1))
    · rcases h.own b h1 with h2 | h2
      · exact .inr (.inr h2)
      · exact .inr (.inl h2)
  own b ho := by
    rcases h'.own b ho with h1 | h1
    · exact h.own b h1
    · exact .inr (Nat.le_trans h.size h1)
  io := ⟨h'.io.1.trans h.io.1, h'.io.2.1.trans h.io.2.1, h'.io.2.2.trans h.io.2.2⟩

theorem Sim.sub {H H' : Heap} {w : World} (h : Sim R p H w) (hs : ∀ n cs, H' n = some cs → H n = some cs) : Sim R p H' w :=
  ⟨fun n cs e => h.obj n cs (hs n cs e), fun n m cs ds b o s o' s' e1 e2 => h.inj n m cs ds b o s o' s' (hs _ _ e1) (hs _ _ e2), h.imm⟩

theorem Lies.mono {w : World} {cs : Cells} {b o s : Nat} {vs : Array Value} {T : TypeId} {fz : Nat × Nat} (h : Lies R p w cs b o s vs T fz) {w' : World}
    (hR : ∀ b cs, R b = some cs → R' b = some cs) (hp : ∀ n x, p n = some x → p' n = some x) (hw : w'.heap[b]? = w.heap[b]?) (hi : R' b = none) : Lies R' p' w' cs b o s vs T fz :=
  ⟨hw.trans h.heap, hi, h.free, h.size, h.fits, h.rep.mono hR hp⟩

theorem Lies.lt {w : World} {cs : Cells} {b o s : Nat} {vs : Array Value} {T : TypeId} {fz : Nat × Nat} (h : Lies R p w cs b o s vs T fz) : b < w.heap.size := by
  have := h.heap
  rcases Nat.lt_or_ge b w.heap.size with h1 | h1
  · exact h1
  · rw [Array.getElem?_eq_none h1] at this; cases this

/-- THE FRAME: what goes on over a part of the heap goes on over the whole -/
theorem Sim.frame {H H₁ H₁' : Heap} {w w' : World} (h : Sim R p H w) (hs : ∀ n cs, H₁ n = some cs → H n = some cs)
    (h' : Sim R' p' H₁' w') (he : Ext R p H₁ w R' p' H₁' w') (hp : ∀ n x, p n = some x → p' n = some x)
    (H' : Heap) (hH : ∀ n cs, H' n = some cs → H₁' n = some cs ∨ (H₁ n = none ∧ H n = some cs)) : Sim R' p' H' w' ∧ Ext R p H w R' p' H' w' := by
  have ownSub : ∀ b, Owned p H₁ b → Owned p H b := fun b ⟨n, cs, o, s, e1, e2⟩ => ⟨n, cs, o, s, hs _ _ e1, e2⟩
  have apart : ∀ n cs b o s, H₁ n = none → H n = some cs → p n = some (.at b o s) → ¬ Owned p H₁ b := by
    rintro n cs b o s e1 e2 e3 ⟨m, ds, o', s', e4, e5⟩
    have := h.inj n m cs ds b o s o' s' e2 (hs _ _ e4) e3 e5
    subst this
    rw [e1] at e4; cases e4
  refine ⟨⟨?_, ?_, h'.imm⟩, ?_⟩
  · intro n cs e
    rcases hH n cs e with e1 | ⟨e1, e2⟩
    · exact h'.obj n cs e1
    · rcases h.obj n cs e2 with ⟨a, c⟩ | ⟨b, o, s, vs, T, fz, a, l⟩
      · exact .inl ⟨hp _ _ a, c⟩
      · refine .inr ⟨b, o, s, vs, T, fz, hp _ _ a, l.mono he.imm hp (he.kept b l.lt (apart n cs b o s e1 e2 a)) ?_⟩
        cases hb : R' b with
        | none => rfl
        | some ds =>
          rcases he.newImm b ds hb with h1 | h1 | h1
          · rw [l.imm] at h1; cases h1
          · exact absurd l.lt (by omega)
          · exact absurd h1 (apart n cs b o s e1 e2 a)
  · intro n m cs ds b o s o' s' e1 e2 e3 e4
    rcases hH n cs e1 with f1 | ⟨f1, f2⟩ <;> rcases hH m ds e2 with g1 | ⟨g1, g2⟩
    · exact h'.inj n m cs ds b o s o' s' f1 g1 e3 e4
    · exfalso
      rcases h.obj m ds g2 with ⟨a, c⟩ | ⟨b', o₂, s₂, vs, T, fz, a, l⟩
      · rw [hp _ _ a] at e4; cases e4
      · rw [hp _ _ a] at e4; cases e4
        rcases he.own b ⟨n, cs, o, s, f1, e3⟩ with h1 | h1
        · exact apart m ds b _ _ g1 g2 a h1
        · exact absurd l.lt (by omega)
    · exfalso
      rcases h.obj n cs f2 with ⟨a, c⟩ | ⟨b', o₂, s₂, vs, T, fz, a, l⟩
      · rw [hp _ _ a] at e3; cases e3
      · rw [hp _ _ a] at e3; cases e3
        rcases he.own b ⟨m, ds, o', s', g1, e4⟩ with h1 | h1
        · exact apart n cs b _ _ f1 f2 a h1
        · exact absurd l.lt (by omega)
    · rcases h.obj n cs f2 with ⟨a, c⟩ | ⟨b', o₂, s₂, vs, T, fz, a, l⟩
      · rw [hp _ _ a] at e3; cases e3
      · rcases h.obj m ds g2 with ⟨a', c'⟩ | ⟨b'', o₃, s₃, vs', T', fz', a', l'⟩
        · rw [hp _ _ a'] at e4; cases e4
        · rw [hp _ _ a] at e3; cases e3
          rw [hp _ _ a'] at e4; cases e4
          exact h.inj n m cs ds _ _ _ _ _ f2 g2 a a'
  · refine ⟨he.imm, he.size, fun b hb hn => he.kept b hb (fun ho => hn (ownSub b ho)), fun b cs e => ?_, ?_, he.io⟩
    · rcases he.newImm b cs e with h1 | h1 | h1
      · exact .inl h1
      · exact .inr (.inl h1)
      · exact .inr (.inr (ownSub b h1))
    · rintro b ⟨n, cs, o, s, e1, e2⟩
      rcases hH n cs e1 with f1 | ⟨f1, f2⟩
      · rcases he.own b ⟨n, cs, o, s, f1, e2⟩ with h1 | h1
        · exact .inl (ownSub b h1)
        · exact .inr h1
      · rcases h.obj n cs f2 with ⟨a, c⟩ | ⟨b', o₂, s₂, vs, T, fz, a, l⟩
        · rw [hp _ _ a] at e2; cases e2
        · rw [hp _ _ a] at e2; cases e2
          exact .inl ⟨n, cs, _, _, f2, a⟩

end Go.LE
