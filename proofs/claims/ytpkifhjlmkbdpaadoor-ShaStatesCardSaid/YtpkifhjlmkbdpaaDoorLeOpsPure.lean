/- Soundness of the operations that look at no memory. -/
import Derived.Test.YtpkifhjlmkbdpaaDoorLeOpsBin
import Derived.Laws.Pointers
import Derived.Laws.Cover3
set_option linter.unusedVariables false
set_option linter.unusedSimpArgs false
namespace Go.LE
variable {P : Program} {R : Imm} {p : Places} {gl : Nat → Option Cells}

def Globs (gl : Nat → Option Cells) (R : Imm) : Prop := ∀ g xs, gl g = some xs → ∃ cs, R g = some cs ∧ xs = cs.map .v

theorem litV_rep (x : Value) : Rep1 R p (litV x) x := by
  cases x with
  | agg cs => simpa [litV] using (Rep.agg (R := R) (p := p) (Rep.plain cs.toList) .nil)
  | _ => exact .v .nil

theorem evX_rep {a : Act} {tm : List LV} (hg : Globs gl R) (ht : Rep R p tm a.tmps.toList) (x : Operand) : Rep1 R p (evX gl tm (compX x)) (a.eval x) := by
  cases x with
  | tmp t =>
    simp only [compX, evX, Act.eval]
    cases h : tm[t]? with
    | none => simp [List.getD, h]; exact .undef .nil
    | some x =>
      obtain ⟨y, hy, hr⟩ := ht.get h
      simp at hy
      simpa [List.getD, h, Array.getD_eq_getD_getElem?, hy] using hr
  | const v => exact litV_rep v
  | global g =>
    simp only [compX, evX, Act.eval]
    cases h : gl g with
    | none => exact .undef .nil
    | some xs =>
      obtain ⟨cs, h1, rfl⟩ := hg g xs h
      exact .ipt h1 (by simpa using Rep.plain cs) .nil
  | func f => exact .fn .nil .nil .nil

theorem evXs_rep {a : Act} {tm : List LV} (hg : Globs gl R) (ht : Rep R p tm a.tmps.toList) (l : List Operand) : Rep R p (l.map fun x => evX gl tm (compX x)) (l.map a.eval) := by
  induction l with
  | nil => exact .nil
  | cons x l ih => exact Rep.cons (evX_rep hg ht x) ih

theorem bitI_run {op : BinOp} {k : IntKind} {a b c : Int} {w : World} (h : bitI op k a b = some c) : (Op.intBits op k a b).run P w = .ok (.int k c) w := by
  cases op <;> simp only [bitI, reduceCtorEq] at h <;> first | (injection h with h; subst h; rfl) | cases h

theorem binI_run {op : BinOp} {t : TypeId} {k k' : IntKind} {a b : Int} {z : Value} {w : World} (h : binI op k a k' b = some z) : (binOp op t (.int k a) (.int k' b)).run P w = .ok z w := by
  cases op <;> simp only [binI] at h
  case shl => split at h <;> simp at h; rename_i hb; subst h; rw [binOp_shl]; simp [Op.shift, hb]
  case shr => split at h <;> simp at h; rename_i hb; subst h; rw [binOp_shr]; simp [Op.shift, hb]
  case add => split at h <;> simp at h; subst_vars; rw [binOp_add]; rfl
  case sub => split at h <;> simp at h; subst_vars; rw [binOp_sub]; rfl
  case mul => split at h <;> simp at h; subst_vars; rw [binOp_mul]; rfl
  case quo => split at h <;> simp at h; obtain ⟨h0, rfl⟩ := h; subst_vars; rw [binOp_quo]; simp [Op.intDiv, h0]
  case rem => split at h <;> simp at h; obtain ⟨h0, rfl⟩ := h; subst_vars; rw [binOp_rem]; simp [Op.intDiv, h0]
  case and => split at h <;> simp at h; obtain ⟨c, h0, rfl⟩ := h; subst_vars; rw [binOp_and]; exact bitI_run h0
  case or => split at h <;> simp at h; obtain ⟨c, h0, rfl⟩ := h; subst_vars; rw [binOp_or]; exact bitI_run h0
  case xor => split at h <;> simp at h; obtain ⟨c, h0, rfl⟩ := h; subst_vars; rw [binOp_xor]; exact bitI_run h0
  case andNot => split at h <;> simp at h; obtain ⟨c, h0, rfl⟩ := h; subst_vars; rw [binOp_andNot]; exact bitI_run h0
  all_goals
    split at h <;> simp [cmpI] at h
    try (subst_vars; simp [binOp, Op.intCmp])

theorem strOp_run {op : BinOp} {t : TypeId} {a b : ByteArray} {z : Value} {w : World} (h : strOp op a b = some z) : (binOp op t (.string a) (.string b)).run P w = .ok z w := by
  cases op <;> simp [strOp] at h
  case add =>
    obtain ⟨h0, rfl⟩ := h
    have : ¬ ((a.size + b.size : Nat) : Int) > IntKind.i64.max := by rw [IntKind.max_i64]; omega
    simp only [binOp, Op.stringOp]
    rw [if_neg this]
    rfl
  case eql => subst h; simp [binOp, Op.stringOp]
  case neq => subst h; simp [binOp, Op.stringOp]

theorem aggOf_rep {x : LV} {y : Value} {xs : Cells} (h : Rep1 R p x y) (hx : aggOf x = some xs) : ∃ cs, y = .agg cs ∧ Rep R p xs cs.toList := by
  cases h <;> simp [aggOf] at hx
  case v =>
    cases y <;> simp at hx
    subst hx
    exact ⟨_, rfl, Rep.plain _⟩
  case agg a _ => subst hx; exact ⟨_, rfl, by simpa using a⟩

theorem binOp_eq (t : TypeId) {u v : Value} (h : (∃ cs, u = .agg cs) ∨ (∃ c, u = .bool c) ∨ (∃ a, u = .pointer a) ∨ (∃ a n c, u = .slice a n c) ∨ u = .nilFunc ∨ (∃ f a c, u = .func f a c)) :
    binOp .eql t u v = (do pure (.bool (← Op.equal t u v))) ∧ binOp .neq t u v = (do pure (.bool (!(← Op.equal t u v)))) := by
  rcases h with ⟨_, rfl⟩ | ⟨_, rfl⟩ | ⟨_, rfl⟩ | ⟨_, _, _, rfl⟩ | rfl | ⟨_, _, _, rfl⟩ <;> constructor <;> cases v <;> rfl

/-- what is asked of two values of a type: they are held against each other without a look at memory -/
def Held (P : Program) (t : TypeId) (u v : Value) (b : Bool) : Prop :=
  (∀ op ox oy (w : World), (eqGuard op t ox oy u v).run P w = .ok () w) ∧ (∀ w : World, (Op.equal t u v).run P w = .ok b w) ∧
    ((∃ cs, u = .agg cs) ∨ (∃ c, u = .bool c) ∨ (∃ a, u = .pointer a) ∨ (∃ a n c, u = .slice a n c) ∨ u = .nilFunc ∨ (∃ f a c, u = .func f a c))

theorem Held.run {t : TypeId} {u v : Value} {b : Bool} {w : World} (h : Held P t u v b) (ox oy : Operand) :
    ((do eqGuard .eql t ox oy u v; binOp .eql t u v : Sem Value)).run P w = .ok (.bool b) w ∧ ((do eqGuard .neq t ox oy u v; binOp .neq t u v : Sem Value)).run P w = .ok (.bool !b) w := by
  obtain ⟨h1, h2, h3⟩ := h
  obtain ⟨e1, e2⟩ := binOp_eq t (v := v) h3
  constructor
  · rw [e1]; simp only [Sem.run_bind, h1, Result.andThen_ok, h2, Sem.run_pure]
  · rw [e2]; simp only [Sem.run_bind, h1, Result.andThen_ok, h2, Sem.run_pure]

theorem nilP_rep {x : LV} {y : Value} {b : Bool} (hx : Rep1 R p x y) (h : nilP x = some b) : ∃ a, y = .pointer a ∧ b = a.isNone := by
  cases hx <;> simp [nilP] at h
  case v =>
    cases y <;> try (simp at h; done)
    rename_i a
    cases a <;> simp at h
    exact ⟨_, rfl, by simp [← h]⟩
  all_goals exact ⟨_, rfl, by simp [← h]⟩

theorem nilS_rep {x : LV} {y : Value} {b : Bool} (hx : Rep1 R p x y) (h : nilS x = some b) : ∃ a n c, y = .slice a n c ∧ b = a.isNone := by
  cases hx <;> simp [nilS] at h
  case v =>
    cases y <;> try (simp at h; done)
    rename_i a _ _
    cases a <;> simp at h
    exact ⟨_, _, _, rfl, by simp [← h]⟩
  case sl0 => exact ⟨_, _, _, rfl, h⟩
  case sl => exact ⟨_, _, _, rfl, h⟩
  all_goals exact ⟨_, _, _, rfl, by simp [← h.2]⟩

theorem nilF_rep {x : LV} {y : Value} {b : Bool} (hx : Rep1 R p x y) (h : nilF x = some b) : (y = .nilFunc ∧ b = true) ∨ (∃ f a c, y = .func f a c ∧ b = false) := by
  cases hx <;> simp [nilF] at h
  case v =>
    cases y <;> simp at h
    exact .inl ⟨rfl, h⟩
  case fn => exact .inr ⟨_, _, _, rfl, h⟩

theorem nilCP_rep {x : LV} {y : Value} (hx : Rep1 R p x y) (h : nilCP x = true) : y = .pointer none := by
  cases hx <;> simp [nilCP] at h
  cases y <;> try (simp at h; done)
  rename_i a
  cases a <;> simp at h
  rfl

theorem nilCS_rep {x : LV} {y : Value} (hx : Rep1 R p x y) (h : nilCS x = true) : y = .slice none 0 0 := by
  cases hx <;> simp [nilCS] at h
  cases y <;> try (simp at h; done)
  rename_i a n c
  cases a <;> try (simp at h; done)
  cases n <;> try (simp at h; done)
  cases c <;> try (simp at h; done)
  rfl

theorem nilCF_rep {x : LV} {y : Value} (hx : Rep1 R p x y) (h : nilCF x = true) : y = .nilFunc := by
  cases hx <;> simp [nilCF] at h
  cases y <;> simp at h
  rfl

theorem equalIn_pointer_nil (d : Nat) (t e : TypeId) (a : Option Addr) (hu : P.underlying t = some (.pointer e)) (w : World) : (Op.equalIn (d + 1) t (.pointer a) (.pointer none)).run P w = .ok a.isNone w := by
  cases a <;> simp [Op.equalIn, run_underlying hu]

theorem equalIn_nil_pointer (d : Nat) (t e : TypeId) (a : Option Addr) (hu : P.underlying t = some (.pointer e)) (w : World) : (Op.equalIn (d + 1) t (.pointer none) (.pointer a)).run P w = .ok a.isNone w := by
  cases a <;> simp [Op.equalIn, run_underlying hu]

theorem equalIn_slice_nil (d : Nat) (t e : TypeId) (a : Option Addr) (n c : Nat) (hu : P.underlying t = some (.slice e)) (w : World) : (Op.equalIn (d + 1) t (.slice a n c) (.slice none 0 0)).run P w = .ok a.isNone w := by
  cases a <;> simp [Op.equalIn, run_underlying hu]

theorem equalIn_nilFunc (d : Nat) (t : TypeId) (x y : Array TypeId) (z : Bool) (hu : P.underlying t = some (.func x y z)) (w : World) : (Op.equalIn (d + 1) t .nilFunc .nilFunc).run P w = .ok true w := by
  simp [Op.equalIn, run_underlying hu]

theorem equalIn_func_nil (d : Nat) (t : TypeId) (x y : Array TypeId) (z : Bool) (f : Fn) (a c : Array Value) (hu : P.underlying t = some (.func x y z)) (w : World) : (Op.equalIn (d + 1) t (.func f a c) .nilFunc).run P w = .ok false w := by
  simp [Op.equalIn, run_underlying hu]

theorem eqV_held {x y : LV} {u v : Value} {b : Bool} {t : TypeId} (hx : Rep1 R p x u) (hy : Rep1 R p y v) (h : eqV (eqType P t) x y = some b) : Held P t u v b := by
  unfold eqType at h
  cases hu : P.underlying t with
  | none => simp [hu, eqV] at h
  | some d =>
    have flat : ∀ rs, eqV (.flat rs) x y = some b → P.eqGuardType P.depth t = false → (∃ ls, flatT P 8 t = some ls ∧ rs = runsOf ls) → isAggT P t = some true → Held P t u v b := by
      rintro rs he hg ⟨ls, hl, rfl⟩ hagg
      simp only [eqV] at he
      cases h1 : aggOf x with
      | none => simp [h1] at he
      | some xs => cases h2 : aggOf y with
        | none => simp [h1, h2] at he
        | some ys =>
          simp only [h1, h2] at he
          obtain ⟨cs, rfl, r1⟩ := aggOf_rep hx h1
          obtain ⟨ds, rfl, r2⟩ := aggOf_rep hy h2
          have e := eqR_rep _ _ _ _ _ _ r1 r2 he
          rw [expand_runsOf] at e
          exact ⟨fun op ox oy w => run_eqGuard_agg w op t ox oy cs ds hg, fun w => (flat_ok 8 9992 t ls hl).1 hagg cs ds b w e, .inl ⟨_, rfl⟩⟩
    cases d with
    | bool =>
      simp only [hu] at h
      cases x <;> try (simp [eqV] at h; done)
      rename_i x
      cases y <;> try (simp [eqV] at h; done)
      rename_i y
      cases x <;> try (simp [eqV] at h; done)
      cases y <;> try (simp [eqV] at h; done)
      simp [eqV] at h
      cases hx; cases hy
      subst h
      exact ⟨fun op ox oy w => by rw [eqGuard_at_bool]; rfl, fun w => run_equalIn_bool' w 9999 t _ _ hu, .inr (.inl ⟨_, rfl⟩)⟩
    | pointer e =>
      simp only [hu, eqV] at h
      split at h
      · rename_i hc
        obtain ⟨a, rfl, rfl⟩ := nilP_rep hx h
        obtain rfl := nilCP_rep hy hc
        exact ⟨fun op ox oy w => by rw [eqGuard_at_pointer]; rfl, equalIn_pointer_nil 9999 t e a hu, .inr (.inr (.inl ⟨_, rfl⟩))⟩
      · split at h
        · rename_i hc
          obtain ⟨a, rfl, rfl⟩ := nilP_rep hy h
          obtain rfl := nilCP_rep hx hc
          exact ⟨fun op ox oy w => by rw [eqGuard_at_pointer]; rfl, equalIn_nil_pointer 9999 t e a hu, .inr (.inr (.inl ⟨_, rfl⟩))⟩
        · cases h
    | slice e =>
      simp only [hu, eqV] at h
      split at h
      · rename_i hc
        obtain ⟨a, n, c, rfl, rfl⟩ := nilS_rep hx h
        obtain rfl := nilCS_rep hy hc
        exact ⟨fun op ox oy w => by rw [eqGuard_at_slice]; rfl, equalIn_slice_nil 9999 t e a n c hu, .inr (.inr (.inr (.inl ⟨_, _, _, rfl⟩)))⟩
      · cases h
    | func x' y' z' =>
      simp only [hu, eqV] at h
      split at h
      · rename_i hc
        obtain rfl := nilCF_rep hy hc
        rcases nilF_rep hx h with ⟨rfl, rfl⟩ | ⟨f, a, c, rfl, rfl⟩
        · exact ⟨fun op ox oy w => by rw [eqGuard_at_nilFunc]; rfl, equalIn_nilFunc 9999 t _ _ _ hu, .inr (.inr (.inr (.inr (.inl rfl))))⟩
        · exact ⟨fun op ox oy w => by rw [eqGuard_at_func]; rfl, equalIn_func_nil 9999 t _ _ _ f a c hu, .inr (.inr (.inr (.inr (.inr ⟨_, _, _, rfl⟩))))⟩
      · cases h
    | array n e =>
      simp only [hu] at h
      split at h
      · simp [eqV] at h
      · rename_i hg
        split at h
        · rename_i ls hl
          exact flat _ h (by simpa using hg) ⟨ls, hl, rfl⟩ (by simp [isAggT, hu])
        · simp [eqV] at h
    | struct fs =>
      simp only [hu] at h
      split at h
      · simp [eqV] at h
      · rename_i hg
        split at h
        · rename_i ls hl
          exact flat _ h (by simpa using hg) ⟨ls, hl, rfl⟩ (by simp [isAggT, hu])
        · simp [eqV] at h
    | _ => simp [hu, eqV] at h

theorem binV_run {op : BinOp} {x y z : LV} {u v : Value} {t : TypeId} (hx : Rep1 R p x u) (hy : Rep1 R p y v) (h : binV op (eqType P t) x y = some z) (ox oy : Operand) :
    ∃ c, (∀ w : World, ((do eqGuard op t ox oy u v; binOp op t u v : Sem Value)).run P w = .ok c w) ∧ Rep1 R p z c := by
  unfold binV at h
  split at h
  · cases hx; cases hy
    simp at h
    obtain ⟨c, h, rfl⟩ := h
    exact ⟨c, fun w => by rw [eqGuard_at_int]; simpa using binI_run h, .v .nil⟩
  · cases hx; cases hy
    simp at h
    obtain ⟨c, h, rfl⟩ := h
    exact ⟨c, fun w => by rw [eqGuard_at_string]; simpa using strOp_run h, .v .nil⟩
  · split at h
    · obtain ⟨c, h1, rfl⟩ := Option.map_eq_some_iff.1 h
      exact ⟨.bool c, fun w => ((eqV_held hx hy h1).run (w := w) ox oy).1, .v .nil⟩
    · obtain ⟨c, h1, rfl⟩ := Option.map_eq_some_iff.1 h
      exact ⟨.bool !c, fun w => ((eqV_held hx hy h1).run (w := w) ox oy).2, .v .nil⟩
    · cases h

theorem unV_run {op : UnOp} {x z : LV} {u : Value} (hx : Rep1 R p x u) (h : unV op x = some z) : ∃ c, (∀ w : World, (Op.unary op u).run P w = .ok c w) ∧ Rep1 R p z c := by
  unfold unV at h
  split at h
  · cases hx; obtain rfl := Option.some.inj h; exact ⟨_, fun w => rfl, .v .nil⟩
  · cases hx; obtain ⟨c, h1, rfl⟩ := Option.map_eq_some_iff.1 h; exact ⟨_, fun w => bitI_run h1, .v .nil⟩
  · cases hx; obtain rfl := Option.some.inj h; exact ⟨_, fun w => rfl, .v .nil⟩
  · cases h

theorem natOf_rep {x : LV} {y : Value} {n : Nat} (hx : Rep1 R p x y) (h : natOf x = some n) : ∃ k, y = .int k n := by
  unfold natOf at h
  cases hi : intOf x with
  | none => simp [hi] at h
  | some m =>
    simp only [hi] at h
    split at h
    · rename_i h0
      simp at h
      subst h
      cases x <;> try (simp [intOf] at hi; done)
      rename_i v
      cases v <;> try (simp [intOf] at hi; done)
      simp [intOf] at hi
      subst hi
      cases hx
      rename_i k q _
      exact ⟨k, by rw [Int.toNat_of_nonneg h0]⟩
    · cases h

/-! ### parts of what is built -/

theorem foldl_set (off : Nat) : ∀ (l : List Value) (k : Nat) (cs : Array Value), off + k + l.length ≤ cs.size →
    (l.zipIdx k).foldl (fun cs (q : Value × Nat) => cs.setIfInBounds (off + q.2) q.1) cs = spliceV cs (off + k) l := by
  intro l
  induction l with
  | nil => intro k cs _; apply Array.ext'; simp [spliceV]
  | cons v l ih =>
    intro k cs hb
    simp only [List.length_cons] at hb
    simp only [List.zipIdx_cons, List.foldl_cons]
    rw [ih (k + 1) _ (by simp; omega)]
    apply Array.ext'
    simp only [spliceV, Array.toList_setIfInBounds, List.length_cons]
    rw [List.drop_set_of_lt (by omega), show off + (k + 1) = off + k + 1 from rfl, show off + k + 1 + l.length = off + k + (l.length + 1) by omega]
    rw [show List.take (off + k + 1) (cs.toList.set (off + k) v) = List.take (off + k) cs.toList ++ [v] by
      rw [List.take_succ_eq_append_getElem (by simp; omega), List.take_set_of_le (Nat.le_refl _)]
      simp]
    simp

theorem splice_rep {xs zs : Cells} {ys us : List Value} {off : Nat} (h : Rep R p xs ys) (h' : Rep R p zs us) : Rep R p (splice xs off zs) (ys.take off ++ us ++ ys.drop (off + us.length)) := by
  unfold splice
  rw [h'.length]
  exact ((h.take off).append h').append (h.drop _)

theorem fill_run {place : Nat → Option (Nat × Nat)} : ∀ (parts : List (Nat × Value)) (qs : List (Nat × Nat × LV)) (cells : Cells) (cs : Array Value) (out : Cells),
    Rep R p cells cs.toList → qs.length = parts.length →
    (∀ (i : Nat) (x : Nat × Value) (v : Nat × Nat × LV), parts[i]? = some x → qs[i]? = some v → place x.1 = some (v.1, v.2.1) ∧ Rep1 R p v.2.2 x.2) → fill cells qs = some out →
    ∃ ds, Instr.fill place cs parts = some ds ∧ Rep R p out ds.toList := by
  intro parts
  induction parts with
  | nil =>
    intro qs cells cs out h hl _ hf
    cases qs with
    | nil => simp [fill] at hf; subst hf; exact ⟨cs, rfl, h⟩
    | cons _ _ => simp at hl
  | cons x parts ih =>
    intro qs cells cs out h hl hq hf
    cases qs with
    | nil => simp at hl
    | cons q qs =>
      obtain ⟨off, n, X⟩ := q
      obtain ⟨i, v⟩ := x
      obtain ⟨hp, hr⟩ := hq 0 (i, v) (off, n, X) rfl rfl
      simp at hp hr
      simp only [fill] at hf
      cases hc : cellsOf X with
      | none => simp [hc] at hf
      | some ys =>
        simp only [hc] at hf
        split at hf
        · rename_i hn
          obtain ⟨hn1, hn2⟩ := hn
          have hrep := cellsOf_rep hr hc
          have hsz : v.cells.size = n := by have := hrep.length; simp at this; omega
          have hcs : cs.size = cells.length := by have := h.length; simp at this; omega
          simp only [Instr.fill, hp]
          rw [if_neg (by simp [hsz, hcs]; omega)]
          have hfold : (v.cells.zipIdx.foldl (fun cs (q : Value × Nat) => cs.setIfInBounds (off + q.2) q.1) cs) = spliceV cs off v.cells.toList := by
            have := foldl_set off v.cells.toList 0 cs (by simp [hsz, hcs]; omega)
            rw [← Array.foldl_toList, Array.toList_zipIdx]
            simpa using this
          have e : (v.cells.zipIdx.foldl (fun cs (x : Value × Nat) => match x with | (c, j) => cs.setIfInBounds (off + j) c) cs) = spliceV cs off v.cells.toList := hfold
          rw [e]
          refine ih qs _ _ out ?_ (by simpa using hl) (fun i x v h1 h2 => hq (i + 1) x v (by simpa using h1) (by simpa using h2)) hf
          simpa [spliceV] using splice_rep (off := off) h hrep
        · cases hf

/-! ### bounds -/

/-- an operand that may be left out, and the number that it stands for -/
def OptN (x : Option Value) (d n : Nat) : Prop := (x = none ∧ n = d) ∨ ∃ k, x = some (.int k n)

theorem optNat_rep {ρ : Operand → Value} {tm : List LV} (hX : ∀ x, Rep1 R p (evX gl tm (compX x)) (ρ x)) {lo : Option Operand} {d n : Nat} (h : optNat gl tm d (lo.map compX) = some n) :
    OptN (lo.map ρ) d n := by
  cases lo with
  | none => simp [optNat] at h; exact .inl ⟨rfl, h.symm⟩
  | some x =>
    simp only [Option.map_some, optNat] at h
    obtain ⟨k, hk⟩ := natOf_rep (hX x) h
    exact .inr ⟨k, by simp [hk]⟩

theorem run_sliceBound {k : IntKind} {i y : Nat} {c : BoundsCode} {w : World} (h : i ≤ y) : (Instr.sliceBound (.int k i) y c).run P w = .ok i w := by
  simp only [Instr.sliceBound, asIntOf, Sem.run_bind, Sem.run_pure, Result.andThen_ok]
  rw [if_pos ⟨by omega, by omega⟩]
  simp

theorem run_sliceBounds {isSlice : Bool} {len cap : Nat} {lo hi mx : Option Value} {l h m : Nat} {w : World} (hl : OptN lo 0 l) (hh : OptN hi len h) (hm : OptN mx cap m)
    (h1 : l ≤ h) (h2 : h ≤ m) (h3 : m ≤ cap) (h4 : mx.isSome = true → hi.isSome = true) : (Instr.sliceBounds isSlice len cap lo hi mx).run P w = .ok (l, h, m) w := by
  rcases hm with ⟨rfl, rfl⟩ | ⟨km, rfl⟩
  · rcases hh with ⟨rfl, rfl⟩ | ⟨kh, rfl⟩ <;> rcases hl with ⟨rfl, rfl⟩ | ⟨kl, rfl⟩ <;>
      simp only [Instr.sliceBounds, Sem.run_bind, Sem.run_pure, Result.andThen_ok, run_sliceBound h1, run_sliceBound h2]
  · rcases hh with ⟨rfl, rfl⟩ | ⟨kh, rfl⟩
    · simp at h4
    · rcases hl with ⟨rfl, rfl⟩ | ⟨kl, rfl⟩ <;>
        simp only [Instr.sliceBounds, Sem.run_bind, Sem.run_pure, Result.andThen_ok, run_sliceBound h1, run_sliceBound h2, run_sliceBound h3]

theorem v_run {s : Sem Value} {x : Value} {w w' : World} (h : s.run P w = .ok x w') : ((do pure (.value (← s)) : Sem Next)).run P w = .ok (.value x) w' := by
  simp [h]

theorem isl_rep {cs : List Value} {b o : Nat} {as : List LV} (hb : R b = some cs) (h : Rep R p as ((cs.drop o).take as.length)) (j n len c : Nat) (hc : len ≤ c) :
    Rep1 R p (.isl ((as.drop j).take n) len) (.slice (some ⟨b, o + j, none⟩) len c) := by
  refine .isl hb ?_ hc .nil
  have := (h.drop j).take n
  have hl := this.length
  have e : ((cs.drop o).take as.length).drop j = ((cs.drop (o + j)).take (as.length - j)) := by
    rw [List.drop_take, List.drop_drop]
  rw [e, List.take_take] at this
  rw [e, List.take_take] at hl
  have e2 : ((as.drop j).take n).length = min n (as.length - j) := by simp
  rw [e2]
  exact this

theorem ipt_rep {cs : List Value} {b o : Nat} {as : List LV} (hb : R b = some cs) (h : Rep R p as ((cs.drop o).take as.length)) (j : Nat) :
    Rep1 R p (.ipt (as.drop j)) (.pointer (some ⟨b, o + j, none⟩)) := by
  refine .ipt hb ?_ .nil
  have := h.drop j
  rw [List.drop_take, List.drop_drop] at this
  rw [List.length_drop]
  exact this
end Go.LE
