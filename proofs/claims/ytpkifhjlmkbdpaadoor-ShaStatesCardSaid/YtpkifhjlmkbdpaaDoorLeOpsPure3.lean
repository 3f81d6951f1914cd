/- Soundness of the operations that look at no memory, all together. -/
import Derived.Test.YtpkifhjlmkbdpaaDoorLeOpsPure2
set_option linter.unusedVariables false
set_option linter.unusedSimpArgs false
namespace Go.LE
variable {P : Program} {R : Imm} {p : Places} {gl : Nat → Option Cells}

/-- an operation answers a value at every world, and leaves it as it is -/
def PureRun (P : Program) (R : Imm) (p : Places) (m : Sem Next) (z : LV) : Prop := ∃ v, (∀ w : World, m.run P w = .ok (.value v) w) ∧ Rep1 R p z v

theorem PureRun.of {s : Sem Value} {z : LV} (h : ∃ v, (∀ w : World, s.run P w = .ok v w) ∧ Rep1 R p z v) : PureRun P R p (do pure (.value (← s))) z := by
  obtain ⟨v, h1, h2⟩ := h
  exact ⟨v, fun w => v_run (h1 w), h2⟩

theorem run_indexAt_arr {t e : TypeId} {n size j : Nat} {k : IntKind} {a : Addr} {w : World} (hu : P.underlying t = some (.array n e)) (hs : szOf P e = some size) (h : j < n) :
    (Instr.indexAt t (.pointer (some a)) (.int k j)).run P w = .ok (.pointer (some (a.add (j * size)))) w := by
  simp only [Instr.indexAt, asIntOf, Instr.sureAddr, Sem.run_bind, run_underlying hu, Result.andThen_ok, Sem.run_pure]
  rw [if_pos ⟨by omega, by omega⟩]
  simp [run_szOf hs]

theorem run_indexAt_sl {t e : TypeId} {len cap size j : Nat} {k : IntKind} {a : Addr} {w : World} (hu : P.underlying t = some (.slice e)) (hs : szOf P e = some size) (h : j < len) :
    (Instr.indexAt t (.slice (some a) len cap) (.int k j)).run P w = .ok (.pointer (some (a.add (j * size)))) w := by
  simp only [Instr.indexAt, asIntOf, Sem.run_bind, run_underlying hu, Result.andThen_ok, Sem.run_pure]
  rw [if_pos ⟨by omega, by omega⟩]
  simp [run_szOf hs]

theorem compParts_get {f : Nat → Option (Nat × Nat)} : ∀ {l : List (Nat × Operand)} {qs : List (Nat × Nat × LX)}, compParts f l = some qs →
    qs.length = l.length ∧ ∀ (i : Nat) (x : Nat × Operand) (q : Nat × Nat × LX), l[i]? = some x → qs[i]? = some q → f x.1 = some (q.1, q.2.1) ∧ q.2.2 = compX x.2
  | [], qs, h => by simp [compParts] at h; subst h; simp
  | (j, x) :: l, qs, h => by
    simp only [compParts] at h
    split at h
    · rename_i off n ps h1 h2
      obtain rfl := Option.some.inj h
      obtain ⟨e1, e2⟩ := compParts_get h2
      refine ⟨by simp [e1], fun i y q hy hq => ?_⟩
      cases i with
      | zero => simp at hy hq; subst hy hq; exact ⟨h1, rfl⟩
      | succ i => exact e2 i y q (by simpa using hy) (by simpa using hq)
    · cases h

theorem parts_rep {ρ : Operand → Value} {tm : List LV} (hX : ∀ x, Rep1 R p (evX gl tm (compX x)) (ρ x)) {f : Nat → Option (Nat × Nat)} {l : List (Nat × Operand)} {qs : List (Nat × Nat × LX)}
    (h : compParts f l = some qs) {cells out : Cells} {cs : Array Value} (hc : Rep R p cells cs.toList) (hf : fill cells (qs.map fun q => (q.1, q.2.1, evX gl tm q.2.2)) = some out) :
    ∃ ds, Instr.fill f cs (l.map fun q => (q.1, ρ q.2)) = some ds ∧ Rep R p out ds.toList := by
  obtain ⟨e1, e2⟩ := compParts_get h
  refine fill_run (l.map fun q => (q.1, ρ q.2)) (qs.map fun q => (q.1, q.2.1, evX gl tm q.2.2)) cells cs out hc (by simp [e1]) (fun i x v hx hv => ?_) hf
  simp only [List.getElem?_map, Option.map_eq_some_iff] at hx hv
  obtain ⟨x', hx', rfl⟩ := hx
  obtain ⟨v', hv', rfl⟩ := hv
  obtain ⟨a, b⟩ := e2 i x' v' hx' hv'
  exact ⟨a, by simp only [b]; exact hX _⟩

theorem places_run : ∀ {fs : List Field} {ps : List (Nat × Nat)} {w : World}, places P fs = some ps →
    (fs.mapM (fun f => do pure (f.offset, ← sizeOf f.type) : Field → Sem (Nat × Nat))).run P w = .ok ps w
  | [], ps, w, h => by simp [places] at h; subst h; simp
  | f :: fs, ps, w, h => by
    simp only [places] at h
    split at h
    · rename_i n qs h1 h2
      obtain rfl := Option.some.inj h
      have ih := places_run (w := w) h2
      simp only [List.mapM_cons, Sem.run_bind, run_szOf h1, Result.andThen_ok, Sem.run_pure, ih]
    · cases h

theorem fnargs {ρ : Operand → Value} {tm : List LV} (hX : ∀ x, Rep1 R p (evX gl tm (compX x)) (ρ x)) (l : List Operand) : Rep R p ((l.map compX).map (evX gl tm)) (l.map ρ) := by
  induction l with
  | nil => exact .nil
  | cons x l ih => exact Rep.cons (hX x) ih

theorem mnmx_run (max : Bool) : ∀ (xs : List LV) (ys : List Value) (k : IntKind) (a : Int) (z : LV), Rep R p xs ys → LE.mnmx.go max k a xs = some z →
    ∃ v, (∀ w : World, (ys.foldlM (if max then Builtin.max2 else Builtin.min2) (.int k a)).run P w = .ok v w) ∧ Rep1 R p z v := by
  intro xs
  induction xs with
  | nil => intro ys k a z h hz; cases h; simp [LE.mnmx.go] at hz; subst hz; exact ⟨_, fun w => by simp, .v .nil⟩
  | cons x xs ih =>
    intro ys k a z h hz
    obtain ⟨y, ys, rfl, h1, h2⟩ := h.uncons
    cases x <;> try (simp [LE.mnmx.go] at hz; done)
    rename_i v
    cases v <;> try (simp [LE.mnmx.go] at hz; done)
    rename_i k' b
    cases h1
    simp only [LE.mnmx.go] at hz
    obtain ⟨v, e1, e2⟩ := ih ys k (mn2 max a b) z h2 hz
    refine ⟨v, fun w => ?_, e2⟩
    simp only [List.foldlM_cons, Sem.run_bind]
    have : ((if max then Builtin.max2 else Builtin.min2) (.int k a) (.int k' b)).run P w = .ok (.int k (mn2 max a b)) w := by
      cases max <;> rfl
    rw [this]
    exact e1 w

theorem minmax (max : Bool) (type : TypeId) {ρ : Operand → Value} {tm : List LV} (hX : ∀ x, Rep1 R p (evX gl tm (compX x)) (ρ x)) {args : Array Operand} {z : LV}
    (hz : LE.mnmx max ((args.toList.map compX).map (evX gl tm)) = some z) {m : Sem Next} {T : Array TypeId}
    (hm : m = (do pure (.value (← (if max then Builtin.max_ T type (args.map ρ) else Builtin.min_ T type (args.map ρ)))) : Sem Next)) : PureRun P R p m z := by
  subst hm
  apply PureRun.of
  have hl := fnargs hX args.toList
  have e : (args.map ρ).toList = args.toList.map ρ := by simp
  cases h : args.toList with
  | nil => simp [h, LE.mnmx] at hz
  | cons x xs =>
    rw [h] at hl hz e
    simp only [List.map_cons] at hl hz e
    cases hq : evX gl tm (compX x) <;> (rw [hq] at hz) <;> try (simp [LE.mnmx] at hz; done)
    rename_i v
    cases v <;> try (simp [LE.mnmx] at hz; done)
    rename_i k a
    simp only [LE.mnmx] at hz
    have h1 := hl.head
    rw [hq] at h1
    generalize hy : ρ x = y at h1 e
    cases h1
    obtain ⟨v, e1, e2⟩ := mnmx_run (P := P) max _ _ k a z hl.tail hz
    refine ⟨v, fun w => ?_, e2⟩
    cases max
    · show (Builtin.min_ T type (args.map ρ)).run P w = _
      unfold Builtin.min_; rw [e]; exact e1 w
    · show (Builtin.max_ T type (args.map ρ)).run P w = _
      unfold Builtin.max_; rw [e]; exact e1 w

theorem pure_sound {ρ : Operand → Value} {tm : List LV} (hX : ∀ x, Rep1 R p (evX gl tm (compX x)) (ρ x)) {o : Oper} {lo : LOp} {z : LV} (hc : compOp P o.op = some lo)
    (hz : pureOp gl tm lo = some z) : PureRun P R p (execOp ρ o) z := by
  obtain ⟨dst, op, type, pos, after, guard⟩ := o
  simp only at hc
  cases op <;> simp only [compOp] at hc
  case move x => obtain rfl := Option.some.inj hc; obtain rfl := Option.some.inj hz; exact ⟨_, fun w => rfl, hX x⟩
  case assign x => obtain rfl := Option.some.inj hc; obtain rfl := Option.some.inj hz; exact ⟨_, fun w => rfl, hX x⟩
  case pick c a b =>
    obtain rfl := Option.some.inj hc
    simp only [pureOp] at hz
    split at hz
    · rename_i t he
      obtain rfl := Option.some.inj hz
      have h1 := hX c
      rw [he] at h1
      generalize hy : ρ c = y at h1
      cases h1
      refine ⟨if t then ρ a else ρ b, fun w => ?_, ?_⟩
      · simp only [execOp, hy, asBool, Sem.run_bind, Sem.run_pure, Result.andThen_ok]
      · cases t <;> first | exact hX a | exact hX b
    · cases hz
  case alloc t => simp only [Option.map_eq_some_iff] at hc; obtain ⟨_, _, rfl⟩ := hc; simp [pureOp] at hz
  case box t x => obtain rfl := Option.some.inj hc; simp [pureOp] at hz
  case build t parts =>
    split at hc
    · rename_i fs zc hu hzc
      simp only [Option.bind_eq_some_iff, Option.map_eq_some_iff] at hc
      obtain ⟨ps, hps, qs, hqs, rfl⟩ := hc
      simp only [pureOp, Option.map_eq_some_iff] at hz
      obtain ⟨out, hf, rfl⟩ := hz
      obtain ⟨zv, hz1, hz2⟩ := run_zeroOf hzc
      obtain ⟨ds, hd1, hd2⟩ := parts_rep hX hqs (Rep.plain zc.toList) hf
      refine PureRun.of ⟨.agg ds, fun w => ?_, by simpa using Rep.agg hd2 .nil⟩
      simp only [Instr.build, Sem.run_bind, hz1, Result.andThen_ok, run_underlying hu]
      have e : (fs.mapM (fun f => do pure (f.offset, ← sizeOf f.type) : Field → Sem (Nat × Nat))).run P w = .ok ps.toArray w := by
        rw [Array.mapM_eq_mapM_toList]
        simp only [Sem.run_map, places_run hps, Result.andThen_ok]
      rw [e]
      simp only [Result.andThen_ok, hz2]
      have e2 : (parts.map fun (x : Nat × Operand) => match x with | (i, x) => (i, ρ x)).toList = parts.toList.map fun q => (q.1, ρ q.2) := by simp
      rw [e2]
      have e3 : (fun (x : Nat) => ps.toArray[x]?) = (fun (x : Nat) => ps[x]?) := by funext x; simp
      rw [e3, hd1]
      rfl
    · rename_i len e zc hu hzc
      simp only [Option.bind_eq_some_iff, Option.map_eq_some_iff] at hc
      obtain ⟨n, hn, qs, hqs, rfl⟩ := hc
      simp only [pureOp, Option.map_eq_some_iff] at hz
      obtain ⟨out, hf, rfl⟩ := hz
      obtain ⟨zv, hz1, hz2⟩ := run_zeroOf hzc
      obtain ⟨ds, hd1, hd2⟩ := parts_rep hX hqs (Rep.plain zc.toList) hf
      refine PureRun.of ⟨.agg ds, fun w => ?_, by simpa using Rep.agg hd2 .nil⟩
      simp only [Instr.build, Sem.run_bind, hz1, Result.andThen_ok, run_underlying hu, run_szOf hn, hz2]
      have e2 : (parts.map fun (x : Nat × Operand) => match x with | (i, x) => (i, ρ x)).toList = parts.toList.map fun q => (q.1, ρ q.2) := by simp
      rw [e2, hd1]
      rfl
    · cases hc
  case buildSlice t len parts =>
    split at hc
    · split at hc
      · split at hc
        · simp only [Option.map_eq_some_iff] at hc; obtain ⟨_, _, rfl⟩ := hc; simp [pureOp] at hz
        · cases hc
      · cases hc
    · cases hc
  case load t a => split at hc <;> (try cases hc) <;> simp [pureOp] at hz
  case store t a x => simp only [Option.map_eq_some_iff] at hc; obtain ⟨_, _, rfl⟩ := hc; simp [pureOp] at hz
  case nilCheck x =>
    obtain rfl := Option.some.inj hc
    have hx := hX x
    simp only [pureOp] at hz
    split at hz <;> (try cases hz) <;> rename_i he <;> rw [he] at hx <;> generalize hy : ρ x = y at hx <;> cases hx
    · rename_i b o s hp _; exact ⟨_, fun w => by simp only [execOp, hy]; rfl, .ptr hp .nil⟩
    · rename_i b o cs h1 h2 _; exact ⟨_, fun w => by simp only [execOp, hy]; rfl, .ipt h1 h2 .nil⟩
    · rename_i as' bs' h1 h2 _; exact ⟨_, fun w => by simp only [execOp, hy]; rfl, .fn h1 h2 .nil⟩
  case binOp op t x y u =>
    obtain rfl := Option.some.inj hc
    exact PureRun.of (binV_run (hX x) (hX y) hz x y)
  case unOp op t x =>
    obtain rfl := Option.some.inj hc
    exact PureRun.of (unV_run (hX x) hz)
  case convert src dst x =>
    split at hc
    · rename_i d k hu hv
      obtain rfl := Option.some.inj hc
      have hx := hX x
      simp only [pureOp] at hz
      split at hz
      · rename_i k' n he
        obtain rfl := Option.some.inj hz
        rw [he] at hx
        generalize hy : ρ x = y at hx
        cases hx
        refine PureRun.of ⟨.int k (k.wrap n), fun w => ?_, .v .nil⟩
        simp only [hy, convert, Sem.run_bind, run_underlying hu, run_underlying hv, Result.andThen_ok]
        rfl
      · cases hz
    · split at hc <;> (try cases hc); simp [pureOp] at hz
    · split at hc <;> (try cases hc); simp [pureOp] at hz
    · split at hc
      · split at hc <;> (try cases hc); simp [pureOp] at hz
      · cases hc
    · cases hc
  case sliceToArrayPointer t x =>
    split at hc
    · rename_i n e hu
      obtain rfl := Option.some.inj hc
      have hx := hX x
      simp only [pureOp] at hz
      split at hz
      · rename_i m off len cap es he
        split at hz
        · rename_i hb
          obtain rfl := Option.some.inj hz
          rw [he] at hx
          generalize hy : ρ x = y at hx
          cases hx with
          | sl0 _ _ => omega
          | sl hp hl hk hs _ =>
            refine PureRun.of ⟨.pointer _, fun w => ?_, .ptr hp .nil⟩
            simp only [hy, Instr.arrayAt, Sem.run_bind, run_underlying hu, Result.andThen_ok]
            rw [if_neg (by omega)]
            rfl
        · cases hz
      · rename_i xs len he
        split at hz
        · rename_i hb
          obtain rfl := Option.some.inj hz
          rw [he] at hx
          generalize hy : ρ x = y at hx
          cases hx with
          | isl0 _ => omega
          | isl h1 h2 hl _ =>
            refine PureRun.of ⟨.pointer _, fun w => ?_, .ipt h1 h2 .nil⟩
            simp only [hy, Instr.arrayAt, Sem.run_bind, run_underlying hu, Result.andThen_ok]
            rw [if_neg (by omega)]
            rfl
        · cases hz
      · cases hz
    · cases hc
  case makeFunc f a b =>
    obtain rfl := Option.some.inj hc
    obtain rfl := Option.some.inj hz
    refine PureRun.of ⟨.func f (a.map ρ) (b.map ρ), fun w => rfl, ?_⟩
    have := Rep.fn (f := f) (fnargs hX a.toList) (fnargs hX b.toList) Rep.nil
    have e : ∀ a : Array Operand, (a.toList.map ρ).toArray = a.map ρ := fun a => by apply Array.ext'; simp
    rw [e, e] at this
    exact this
  case makeSlice t l c =>
    split at hc
    · split at hc
      · split at hc <;> (try cases hc); simp [pureOp] at hz
      · cases hc
    · cases hc
  case slice t x lo hi mx =>
    have arr : ∀ (n size : Nat), (∀ (a : Addr) (l h m : Nat), OptN (lo.map ρ) 0 l → OptN (hi.map ρ) n h → OptN (mx.map ρ) n m → l ≤ h → h ≤ m → m ≤ n → ((mx.map ρ).isSome = true → (hi.map ρ).isSome = true) →
        ∀ w : World, (Instr.sliceAt t (.pointer (some a)) (lo.map ρ) (hi.map ρ) (mx.map ρ)).run P w = .ok (.slice (some (if m = l then a else a.add (l * size))) (h - l) (m - l)) w) →
        pureOp gl tm (.slcA n size (compX x) (lo.map compX) (hi.map compX) (mx.map compX)) = some z → PureRun P R p (do pure (.value (← Instr.sliceAt t (ρ x) (lo.map ρ) (hi.map ρ) (mx.map ρ)))) z := by
      intro n size hrun hz
      obtain ⟨l, h, m, e1, e2, e3, e4, e5⟩ := pureOp_slcA hz
      obtain ⟨a, hxa, h1, h2, h3, hr⟩ := slcA_rep (hX x) e5
      refine PureRun.of ⟨_, fun w => ?_, hr⟩
      rw [hxa]
      exact hrun a l h m (optNat_rep hX e1) (optNat_rep hX e2) (optNat_rep hX e3) h1 h2 h3 (by simpa using e4) w
    split at hc
    · rename_i n e hu
      simp only [Option.map_eq_some_iff] at hc
      obtain ⟨size, hs, rfl⟩ := hc
      exact arr n size (fun a l h m o1 o2 o3 h1 h2 h3 h4 w => run_sliceAt_array hu hs o1 o2 o3 h1 h2 h3 h4) hz
    · rename_i e hu
      simp only [Option.map_eq_some_iff] at hc
      obtain ⟨size, hs, rfl⟩ := hc
      obtain ⟨a, len, cap, l, h, m, e1, o1, o2, o3, h1, h2, h3, h4, hr⟩ := slcS_rep hX hz
      refine PureRun.of ⟨_, fun w => ?_, hr⟩
      rw [e1]
      exact run_sliceAt_slice hu hs o1 o2 o3 h1 h2 h3 h4
    · rename_i hu
      split at hc
      · rename_i hmx
        obtain rfl := Option.some.inj hc
        have hmx' : mx = none := by cases mx <;> simp at hmx; rfl
        subst hmx'
        have hx := hX x
        simp only [pureOp] at hz
        split at hz
        · rename_i s he
          rw [he] at hx
          generalize hy : ρ x = y at hx
          cases hx
          split at hz
          · rename_i l h e1 e2
            split at hz
            · rename_i hb
              obtain rfl := Option.some.inj hz
              refine PureRun.of ⟨.string (s.extract l h), fun w => ?_, .v .nil⟩
              simp only [hy, Instr.sliceAt, Instr.slice, Sem.run_bind, run_underlying hu, Result.andThen_ok, Option.map_none, Option.isSome_none, Bool.false_eq_true, if_false,
                run_sliceBounds (optNat_rep hX e1) (optNat_rep hX e2) (.inl ⟨rfl, rfl⟩) hb.1 hb.2 (Nat.le_refl _) (by simp), Sem.run_pure]
            · cases hz
          · cases hz
        · cases hz
      · cases hc
    · rename_i arrT hu
      split at hc
      · rename_i n e hv
        simp only [Option.map_eq_some_iff] at hc
        obtain ⟨size, hs, rfl⟩ := hc
        exact arr n size (fun a l h m o1 o2 o3 h1 h2 h3 h4 w => run_sliceAt_ptr hu hv hs o1 o2 o3 h1 h2 h3 h4) hz
      · cases hc
    · cases hc
  case fieldAddr t x i =>
    split at hc
    · rename_i fs hu
      split at hc
      · rename_i f hf
        split at hc
        · rename_i n hn
          split at hc
          · rename_i h0
            obtain rfl := Option.some.inj hc
            have hx := hX x
            have run : ∀ (a : Addr) (w : World), (Instr.fieldAt t (.pointer (some a)) i).run P w = .ok (.pointer (some (a.add f.offset))) w := by
              intro a w
              simp only [Instr.fieldAt, Sem.run_bind, run_underlying hu, Result.andThen_ok, hf, Instr.sureAddr, Sem.run_pure, fieldPlace, run_szOf hn]
              rw [if_neg (by omega)]
              rfl
            simp only [pureOp] at hz
            split at hz <;> (try cases hz) <;> rename_i he <;> rw [he] at hx <;> generalize hy : ρ x = y at hx <;> cases hx
            · rename_i b o s hp _
              refine PureRun.of ⟨_, fun w => by rw [hy]; exact run _ w, ?_⟩
              rw [Addr.add_lit, Nat.add_assoc]
              exact .ptr hp .nil
            · rename_i b o cs h1 h2 _
              refine PureRun.of ⟨_, fun w => by rw [hy]; exact run _ w, ?_⟩
              rw [Addr.add_lit]
              exact ipt_rep h1 h2 _
          · cases hc
        · cases hc
      · cases hc
    · cases hc
  case field t x i =>
    split at hc
    · rename_i fs hu
      split at hc
      · rename_i f hf
        have hx := hX x
        split at hc
        · rename_i n ha hn
          obtain rfl := Option.some.inj hc
          simp only [pureOp] at hz
          split at hz
          · rename_i xs he
            split at hz
            · obtain rfl := Option.some.inj hz
              rw [he] at hx
              generalize hy : ρ x = y at hx
              cases hx with
              | @agg _ cs _ _ h1 _ =>
                refine PureRun.of ⟨_, fun w => ?_, Rep.agg ((h1.drop f.offset).take n) .nil⟩
                simp only [hy, Instr.field, Sem.run_bind, run_underlying hu, Result.andThen_ok, hf, asAgg, Sem.run_pure, run_part_agg ha hn]
                congr 2
                apply Array.ext'
                simp [List.extract_eq_take_drop]
            · cases hz
          · cases hz
        · rename_i q ha
          obtain rfl := Option.some.inj hc
          simp only [pureOp] at hz
          split at hz
          · rename_i xs he
            rw [he] at hx
            generalize hy : ρ x = y at hx
            cases hx with
            | @agg _ cs _ _ h1 _ =>
              obtain ⟨v, hv, hr⟩ := h1.get hz
              refine PureRun.of ⟨v, fun w => ?_, hr⟩
              simp only [hy, Instr.field, Sem.run_bind, run_underlying hu, Result.andThen_ok, hf, asAgg, Sem.run_pure]
              exact run_part_one ha (by simpa using hv)
          · cases hz
        · cases hc
      · cases hc
    · cases hc
  case indexAddr t x i =>
    split at hc
    · rename_i n e hu
      simp only [Option.map_eq_some_iff] at hc
      obtain ⟨size, hs, rfl⟩ := hc
      have hx := hX x
      simp only [pureOp] at hz
      split at hz
      · rename_i j hj
        obtain ⟨k, hk⟩ := natOf_rep (hX i) hj
        split at hz
        · rename_i hlt
          split at hz <;> (try cases hz) <;> rename_i he <;> rw [he] at hx <;> generalize hy : ρ x = y at hx <;> cases hx
          · rename_i b o s hp _
            refine PureRun.of ⟨_, fun w => by rw [hy, hk]; exact run_indexAt_arr hu hs hlt, ?_⟩
            rw [Addr.add_lit, Nat.add_assoc]
            exact .ptr hp .nil
          · rename_i b o cs h1 h2 _
            refine PureRun.of ⟨_, fun w => by rw [hy, hk]; exact run_indexAt_arr hu hs hlt, ?_⟩
            rw [Addr.add_lit]
            exact ipt_rep h1 h2 _
        · cases hz
      · cases hz
    · rename_i e hu
      simp only [Option.map_eq_some_iff] at hc
      obtain ⟨size, hs, rfl⟩ := hc
      have hx := hX x
      simp only [pureOp] at hz
      split at hz
      · rename_i j hj
        obtain ⟨k, hk⟩ := natOf_rep (hX i) hj
        split at hz
        · rename_i nm off len cap es he
          split at hz
          · rename_i hlt
            obtain rfl := Option.some.inj hz
            rw [he] at hx
            generalize hy : ρ x = y at hx
            cases hx with
            | sl0 _ _ => omega
            | sl hp hl hk' hs' _ =>
              refine PureRun.of ⟨_, fun w => by rw [hy, hk]; exact run_indexAt_sl hu hs hlt, ?_⟩
              rw [Addr.add_lit, Nat.add_assoc]
              exact .ptr hp .nil
          · cases hz
        · rename_i xs len he
          split at hz
          · rename_i hlt
            obtain rfl := Option.some.inj hz
            rw [he] at hx
            generalize hy : ρ x = y at hx
            cases hx with
            | isl0 _ => omega
            | isl h1 h2 hl _ =>
              refine PureRun.of ⟨_, fun w => by rw [hy, hk]; exact run_indexAt_sl hu hs hlt, ?_⟩
              rw [Addr.add_lit]
              exact ipt_rep h1 h2 _
          · cases hz
        · cases hz
      · cases hz
    · cases hc
  case index t x i =>
    split at hc
    · rename_i n e hu
      have hx := hX x
      split at hc
      · rename_i s ha hs
        obtain rfl := Option.some.inj hc
        simp only [pureOp] at hz
        split at hz
        · rename_i j xs hj he
          split at hz
          · rename_i hb
            obtain rfl := Option.some.inj hz
            obtain ⟨k, hk⟩ := natOf_rep (hX i) hj
            rw [he] at hx
            generalize hy : ρ x = y at hx
            cases hx with
            | @agg _ cs _ _ h1 _ =>
              refine PureRun.of ⟨_, fun w => ?_, Rep.agg ((h1.drop (j * s)).take s) .nil⟩
              simp only [hy, hk, Instr.index, asIntOf, Sem.run_bind, Sem.run_pure, run_underlying hu, Result.andThen_ok]
              rw [if_pos ⟨by omega, by omega⟩]
              simp only [Sem.run_bind, run_szOf hs, Result.andThen_ok, Int.toNat_natCast, run_part_agg ha hs]
              congr 2
              apply Array.ext'
              simp [List.extract_eq_take_drop]
          · cases hz
        · cases hz
      · rename_i s ha hs
        obtain rfl := Option.some.inj hc
        simp only [pureOp] at hz
        split at hz
        · rename_i j xs hj he
          split at hz
          · rename_i hb
            obtain ⟨k, hk⟩ := natOf_rep (hX i) hj
            rw [he] at hx
            generalize hy : ρ x = y at hx
            cases hx with
            | @agg _ cs _ _ h1 _ =>
              obtain ⟨v, hv, hr⟩ := h1.get hz
              refine PureRun.of ⟨v, fun w => ?_, hr⟩
              simp only [hy, hk, Instr.index, asIntOf, Sem.run_bind, Sem.run_pure, run_underlying hu, Result.andThen_ok]
              rw [if_pos ⟨by omega, by omega⟩]
              simp only [Sem.run_bind, run_szOf hs, Result.andThen_ok, Int.toNat_natCast]
              exact run_part_one ha (by simpa using hv)
          · cases hz
        · cases hz
      · cases hc
    · rename_i hu
      obtain rfl := Option.some.inj hc
      have hx := hX x
      simp only [pureOp] at hz
      split at hz
      · rename_i j s hj he
        obtain ⟨k, hk⟩ := natOf_rep (hX i) hj
        rw [he] at hx
        generalize hy : ρ x = y at hx
        cases hx
        simp only [Option.map_eq_some_iff] at hz
        obtain ⟨b, hb, rfl⟩ := hz
        refine PureRun.of ⟨.int .u8 b.toNat, fun w => ?_, .v .nil⟩
        simp only [hy, hk, Instr.index, asIntOf, Sem.run_bind, Sem.run_pure, run_underlying hu, Result.andThen_ok]
        have : s[((j : Int)).toNat]? = some b := by
          rw [Int.toNat_natCast]
          obtain ⟨h1, h2⟩ := List.getElem?_eq_some_iff.1 hb
          have h3 : j < s.size := h1
          rw [getElem?_pos s j h3]
          exact congrArg some h2
        rw [if_pos (by omega), this]
        rfl
      · cases hz
    · cases hc
  case extract x i =>
    obtain rfl := Option.some.inj hc
    have hx := hX x
    simp only [pureOp] at hz
    split at hz
    · rename_i xs he
      rw [he] at hx
      generalize hy : ρ x = y at hx
      cases hx with
      | @tup _ cs _ _ h1 _ =>
        obtain ⟨v, hv, hr⟩ := h1.get hz
        refine PureRun.of ⟨v, fun w => ?_, hr⟩
        simp only [hy, Instr.extract]
        rw [show cs.toArray[i]? = some v by simpa using hv]
        rfl
    · cases hz
  case call c =>
    obtain ⟨callee, args, argTypes⟩ := c
    simp only [compCall] at hc
    split at hc
    · obtain rfl := Option.some.inj hc; simp [pureOp] at hz
    · cases hc
    · rename_i b
      split at hc
      · -- len
        rename_i x t hargs htypes
        have ha : args = #[x] := by apply Array.ext'; simpa using hargs
        have ht : argTypes = #[t] := by apply Array.ext'; simpa using htypes
        subst ha ht
        have hx := hX x
        have gen : ∀ n : Nat, (∀ w : World, (Builtin.len_ #[t] type #[ρ x]).run P w = .ok (goInt n) w) → z = .v (.int .i64 n) → PureRun P R p (execOp ρ ⟨dst, .call ⟨.builtin .len, #[x], #[t]⟩, type, pos, after, guard⟩) z := by
          rintro n hr rfl
          refine ⟨.int .i64 n, fun w => ?_, .v .nil⟩
          have := hr w
          simp only [execOp, resolve, invoke, builtin, Sem.run_bind, Sem.run_pure, Result.andThen_ok, List.map_toArray, List.map_cons, List.map_nil, this]
          rfl
        split at hc
        · -- a text
          rename_i hu
          obtain rfl := Option.some.inj hc
          simp only [pureOp] at hz
          split at hz
          · rename_i s he
            obtain rfl := Option.some.inj hz
            rw [he] at hx
            generalize hy : ρ x = y at hx gen
            cases hx
            exact gen s.size (fun w => by simp [Builtin.len_, run_underlying hu]) rfl
          · cases hz
        · -- a slice
          rename_i e hu
          obtain rfl := Option.some.inj hc
          simp only [pureOp, Option.map_eq_some_iff] at hz
          obtain ⟨n, hn, rfl⟩ := hz
          refine gen n (fun w => ?_) rfl
          have : ∃ a c, ρ x = .slice a n c := by
            generalize ρ x = y at hx
            generalize evX gl tm (compX x) = X at hx hn
            cases hx <;> simp [lenS] at hn <;> (try subst hn) <;> (try exact ⟨_, _, rfl⟩)
            cases y <;> simp at hn
            subst hn
            exact ⟨_, _, rfl⟩
          obtain ⟨a, c, hy⟩ := this
          rw [hy]
          simp [Builtin.len_, run_underlying hu]
        · rename_i n e hu
          obtain rfl := Option.some.inj hc
          simp only [pureOp] at hz
          obtain rfl := Option.some.inj hz
          exact gen n (fun w => by simp [Builtin.len_, run_underlying hu]) rfl
        · rename_i arr hu
          split at hc
          · rename_i n e hv
            obtain rfl := Option.some.inj hc
            simp only [pureOp] at hz
            obtain rfl := Option.some.inj hz
            exact gen n (fun w => by simp [Builtin.len_, run_underlying hu, run_underlying hv]) rfl
          · cases hc
        · cases hc
      · split at hc <;> (try cases hc)
        split at hc
        · split at hc <;> (try cases hc); simp [pureOp] at hz
        · cases hc
      · split at hc
        · split at hc
          · split at hc <;> (try cases hc); simp [pureOp] at hz
          · cases hc
        · cases hc
      · obtain rfl := Option.some.inj hc
        simp only [pureOp] at hz
        exact minmax (T := argTypes) false type hX hz rfl
      · obtain rfl := Option.some.inj hc
        simp only [pureOp] at hz
        exact minmax (T := argTypes) true type hX hz rfl
      · cases hc
  all_goals cases hc

end Go.LE
