/- Soundness of all operations but calls of functions. -/
import Derived.Test.YtpkifhjlmkbdpaaDoorLeOpsAppend2
set_option linter.unusedVariables false
set_option linter.unusedSimpArgs false
namespace Go.LE
variable {P : Program} {R : Imm} {p : Places} {gl : Nat → Option Cells} {H : Heap} {w : World} {E : Env}

theorem append_runs {base : Nat} (hs : Sim R p H w) (hn : p (base, 0) = none) {tm : List LV} {X Y : LX} {x y : Value} {t u e : TypeId} {d : TypeDesc} {size bytes : Nat} {fz : Bool} {r : Out} {z : Array Value}
    (ty : TypeId) (hx : Rep1 R p (evX E.gl tm X) x) (hy : Rep1 R p (evX E.gl tm Y) y) (hu : P.underlying t = some (.slice e)) (hv : P.underlying u = some d) (hd : ∀ k, d ≠ .int k)
    (hsz : szOf P e = some size) (hb : bytesIn P e = some bytes) (hz : zeroOf P e = some z) (hz' : z.size = size) (h0 : 0 < size) (hb0 : 0 < bytes)
    (hr : heapOp E tm H base (.append size bytes fz X Y) = some r) : Runs P R p H w base (do pure (.value (← Builtin.append_ #[t, u] ty #[x, y]))) r := by
  simp only [heapOp] at hr
  cases hk : lenOf (evX E.gl tm Y) with
  | none => simp [hk] at hr
  | some k =>
    simp only [hk] at hr
    cases hf : front H size k (evX E.gl tm Y) with
    | none => simp [hf] at hr
    | some new0 =>
      simp only [hf] at hr
      obtain ⟨zs, hz1, hz2⟩ := front_rep (P := P) hs hy hf
      have hcount := front_len hf h0
      cases hfz : (if fz then frozenAll H new0 else some (new0, [])) with
      | none => simp [hfz] at hr
      | some nm =>
        obtain ⟨new, ms⟩ := nm
        simp only [hfz] at hr
        split at hr
        · rename_i hc
          obtain ⟨hb20, hcell⟩ := hc
          obtain ⟨R1, r1, r2, r3⟩ : ∃ R1, Rep R1 p new zs.toList ∧ Sim R1 p (modsAt H ms) w ∧ Ext R p H w R1 p (modsAt H ms) w := by
            cases fz with
            | false => simp at hfz; obtain ⟨rfl, rfl⟩ := hfz; exact ⟨R, hz2, hs, Ext.refl _ _ _ _⟩
            | true => simp at hfz; obtain ⟨R1, a, b, c, _⟩ := frozenAll_rep hs _ _ _ _ hfz hz2; exact ⟨R1, a, b, c⟩
          have A : App P R p H w R1 (modsAt H ms) t u e size bytes k y new zs :=
            ⟨hu, ⟨d, hv, hd⟩, hsz, hb, ⟨z, hz, hz'⟩, h0, hb0, hb20, lenOf_rep hy hk, hz1, r1, hcell, by rw [r1.length, ← hz2.length, hcount], r2, r3⟩
          split at hr
          · rename_i m off len c es hX
            rw [hX] at hx
            split at hr
            · rename_i hq
              obtain ⟨rfl, hq1, hq2⟩ := hq
              have hm1 : modsAt H ms m = H m := modsAt_other H hq2
              split at hr
              · rename_i hle
                cases hm : H m with
                | none => simp [hm] at hr
                | some cs =>
                  simp only [hm] at hr
                  split at hr
                  · rename_i hbd
                    obtain rfl := Option.some.inj hr
                    exact A.inPlace ty hx hle (hm1.trans hm) hbd rfl
                  · cases hr
              · rename_i hle
                cases ho : front H es len (.sl m off len (some c) es) with
                | none => simp [ho] at hr
                | some old =>
                  simp only [ho] at hr
                  obtain rfl := Option.some.inj hr
                  obtain ⟨os, ho1, ho2⟩ := front_rep (P := P) hs hx ho
                  have hol := front_len ho h0
                  have hrep := ho2.mono r3.imm (fun _ _ h => h)
                  have hsl : ∃ a, x = .slice a len c := by
                    cases hx with
                    | sl0 hk' _ => have := hk' c rfl; subst this; exact ⟨_, rfl⟩
                    | sl _ _ hk' _ _ => have := hk' c rfl; subst this; exact ⟨_, rfl⟩
                  obtain ⟨a, rfl⟩ := hsl
                  exact A.grows hn ty ho1 hrep hol (by omega) hq1 rfl
            · cases hr
          · rename_i m off len es hX
            rw [hX] at hx
            split at hr
            · rename_i hq
              obtain ⟨rfl, hq1, hq2⟩ := hq
              have hm1 : modsAt H ms m = H m := modsAt_other H hq2
              cases hm : H m with
              | none => simp [hm] at hr
              | some cs =>
                simp only [hm] at hr
                split at hr
                · rename_i hbd
                  obtain rfl := Option.some.inj hr
                  exact A.moves hn ty hx hq1 (hm1.trans hm) hbd rfl
                · cases hr
            · cases hr
          · rename_i hX
            rw [hX] at hx
            cases hx
            split at hr
            · rename_i hk0
              obtain rfl := Option.some.inj hr
              subst hk0
              have hnew : new = [] := List.eq_nil_of_length_eq_zero (by rw [A.count]; simp)
              have run := A.fits (a := none) (len := 0) (c := 0) ty (by omega)
              refine Runs.mk' (nx := .value (.slice none (0 + 0) 0)) (w' := w) (R' := R1) (p' := p) (v_run run) (.inl ⟨_, rfl, .v .nil⟩) ?_ (fun _ _ h => h) (fun _ _ h => .inl h)
              rw [applyOut_none]
              exact ⟨A.sim, A.ext⟩
            · rename_i hk0
              split at hr
              · rename_i hq1
                obtain rfl := Option.some.inj hr
                have ho : ∀ w' : World, w'.heap = w.heap → (Builtin.firstCells size 0 (.slice none 0 0)).run P w' = .ok #[] w' := fun w' _ => by simp [Builtin.firstCells]
                have := A.grows hn (a := none) (len := 0) (c := 0) ty (old := []) (os := #[]) ho .nil (by simp) (by omega) (by simpa using hq1) rfl
                simpa using this
              · cases hr
          · cases hr
        · cases hr

theorem copy_runs {base : Nat} (hs : Sim R p H w) {tm : List LV} {X Y : LX} {x y : Value} {t e : TypeId} {ts : List TypeId} {size : Nat} {r : Out} (ty : TypeId) (hx : Rep1 R p (evX E.gl tm X) x) (hy : Rep1 R p (evX E.gl tm Y) y)
    (hu : P.underlying t = some (.slice e)) (hsz : szOf P e = some size) (h0 : 0 < size) (hr : heapOp E tm H base (.copy size X Y) = some r) :
    Runs P R p H w base (do pure (.value (← Builtin.copy_ (t :: ts).toArray ty #[x, y]))) r := by
  simp only [heapOp] at hr
  have none_runs : ∀ (m : Sem Value) (n : Int), m.run P w = .ok (.int .i64 n) w → r = ⟨.v (.int .i64 n), [], []⟩ → Runs P R p H w base (do pure (.value (← m))) r := by
    rintro m n h rfl
    refine Runs.mk' (R' := R) (p' := p) (v_run h) (.inl ⟨_, rfl, .v .nil⟩) ?_ (fun _ _ h => h) (fun _ _ h => .inl h)
    rw [applyOut_none]; exact ⟨hs, Ext.refl _ _ _ _⟩
  have run : ∀ (a : Option Addr) (len c k : Nat) (zs : Array Value), x = .slice a len c → (∀ w : World, (Builtin.lenOf y).run P w = .ok k w) → (Builtin.firstCells size (min k len) y).run P w = .ok zs w →
      (Builtin.copy_ (t :: ts).toArray ty #[x, y]).run P w = (match a with | some a => (storeCells a zs.toList).run P w | none => .ok () w).andThen fun _ w' => .ok (.int .i64 (min k len : Nat)) w' := by
    intro a len c k zs hx hk hz
    subst hx
    have e : Nat.min k len = min k len := rfl
    simp only [Builtin.copy_, List.getElem?_toArray, List.getElem?_cons_zero, List.getElem?_cons_succ, Sem.run_bind, run_underlying hu, hk, Result.andThen_ok, run_szOf hsz, e, hz]
    cases a <;> simp only [Sem.run_bind, Sem.run_pure, Result.andThen_ok] <;> rfl
  have zero : ∀ (a : Option Addr) (len c k : Nat), x = .slice a len c → (∀ w : World, (Builtin.lenOf y).run P w = .ok k w) → (∃ zs : Array Value, (Builtin.firstCells size 0 y).run P w = .ok zs w ∧ zs.toList = []) → min k len = 0 →
      (Builtin.copy_ (t :: ts).toArray ty #[x, y]).run P w = .ok (.int .i64 0) w := by
    rintro a len c k hx hk ⟨zs, hz1, hz2⟩ h0
    rw [run a len c k zs hx hk (by rw [h0]; exact hz1), hz2, h0]
    cases a <;> rfl
  have first0 : ∀ k, lenOf (evX E.gl tm Y) = some k → ∃ zs : Array Value, (Builtin.firstCells size 0 y).run P w = .ok zs w ∧ zs.toList = [] := by
    intro k hk
    generalize evX E.gl tm Y = Y' at hy hk
    cases hy <;> simp [lenOf] at hk
    case v =>
      cases y <;> try (simp at hk; done)
      · rename_i s; exact ⟨_, rfl, by simp [ByteArray.data_extract]⟩
      · rename_i a n c; cases a <;> simp at hk; exact ⟨#[], rfl, rfl⟩
    all_goals first
      | (refine ⟨#[], ?_, rfl⟩; simp [Builtin.firstCells, loadCells, loadCellsFrom]; done)
      | (rename_i a _ _; refine ⟨#[], ?_, rfl⟩; cases a <;> simp [Builtin.firstCells, loadCells, loadCellsFrom]; done)
      | (rename_i a _ _ _; refine ⟨#[], ?_, rfl⟩; cases a <;> simp [Builtin.firstCells, loadCells, loadCellsFrom]; done)
  split at hr
  · rename_i k m off len cap es hk hX
    rw [hX] at hx
    split at hr
    · rename_i hmin
      obtain rfl := Option.some.inj hr
      have hsl : ∃ a c, x = .slice a len c := by cases hx <;> exact ⟨_, _, rfl⟩
      obtain ⟨a, c, hsl⟩ := hsl
      exact none_runs _ 0 (zero a len c k hsl (lenOf_rep hy hk) (first0 k hk) hmin) rfl
    · rename_i hmin
      split at hr
      · rename_i new cs hf hm
        split at hr
        · rename_i hc
          obtain ⟨rfl, hcell, hbd⟩ := hc
          obtain rfl := Option.some.inj hr
          obtain ⟨zs, hz1, hz2⟩ := front_rep (P := P) hs hy hf
          have hcount := front_len hf h0
          cases hx with
          | sl0 _ _ => omega
          | @sl _ _ _ _ _ b o s c _ _ hp hl hk' hsz' _ =>
            obtain ⟨w', st, f1, f2⟩ := store_runs (P := P) (off := off) hs hm hp (by rw [hcount]; exact hbd) hz2 hcell
            have := run _ len c k zs rfl (lenOf_rep hy hk) (hz1 w rfl)
            refine Runs.mk' (nx := .value (.int .i64 (min k len : Nat))) (w' := w') (R' := R) (p' := p) (v_run (this.trans ?_)) (.inl ⟨_, rfl, .v .nil⟩) ?_ (fun _ _ h => h) (fun _ _ h => .inl h)
            · simp only [st]; rfl
            · rw [applyOut_none]; exact ⟨f1, f2⟩
        · cases hr
      · cases hr
  · rename_i k hk hX
    obtain rfl := Option.some.inj hr
    rw [hX] at hx
    cases hx
    exact none_runs _ 0 (zero none 0 0 k rfl (lenOf_rep hy hk) (first0 k hk) (by omega)) rfl
  · cases hr


theorem compParts_rows {ρ : Operand → Value} {tm : List LV} (hX : ∀ x, Rep1 R p (evX gl tm (compX x)) (ρ x)) {n : Nat} {l : List (Nat × Operand)} {qs : List (Nat × Nat × LX)}
    (h : compParts (fun i => some (i * n, n)) l = some qs) {cells out : Cells} {cs : Array Value} (hc : Rep R p cells cs.toList) (hf : fill cells (qs.map fun q => (q.1, q.2.1, evX gl tm q.2.2)) = some out) :
    ∃ ds, Instr.fill (fun i => some (i * n, n)) cs (l.map fun q => (q.1, ρ q.2)) = some ds ∧ Rep R p out ds.toList := parts_rep hX h hc hf

theorem fill_size : ∀ (parts : List (Nat × Value)) (place : Nat → Option (Nat × Nat)) (cs ds : Array Value), Instr.fill place cs parts = some ds → ds.size = cs.size := by
  intro parts
  induction parts with
  | nil => intro place cs ds h; simp [Instr.fill] at h; rw [h]
  | cons x parts ih =>
    intro place cs ds h
    obtain ⟨i, v⟩ := x
    simp only [Instr.fill] at h
    split at h
    · cases h
    · split at h
      · cases h
      · rename_i off size _ _
        rw [ih place _ ds h]
        have : ∀ (l : List (Value × Nat)) (cs : Array Value), (l.foldl (fun (cs : Array Value) (x : Value × Nat) => match x with | (c, j) => cs.setIfInBounds (off + j) c) cs).size = cs.size := by
          intro l
          induction l with
          | nil => intro cs; rfl
          | cons q l ih => intro cs; rw [List.foldl_cons, ih]; simp
        rw [← Array.foldl_toList]
        exact this _ _

theorem heap_sound {base : Nat} (hs : Sim R p H w) (hn : p (base, 0) = none) {ρ : Operand → Value} {tm : List LV} (hX : ∀ x, Rep1 R p (evX E.gl tm (compX x)) (ρ x)) {o : Oper} {lo : LOp} {r : Out}
    (hc : compOp P o.op = some lo) (hcall : ∀ f as, lo ≠ .call f as) (hr : heapOp E tm H base lo = some r) : Runs P R p H w base (execOp ρ o) r := by
  obtain ⟨dst, op, type, pos, after, guard⟩ := o
  simp only at hc
  have nope : ∀ lo, heapOp E tm H base lo = some r → (∀ E' tm' H' b', heapOp E' tm' H' b' lo = none) → False := fun lo h h' => by rw [h'] at h; cases h
  cases op <;> simp only [compOp] at hc
  case move x => obtain rfl := Option.some.inj hc; exact (nope _ hr fun _ _ _ _ => rfl).elim
  case assign x => obtain rfl := Option.some.inj hc; exact (nope _ hr fun _ _ _ _ => rfl).elim
  case pick c a b => obtain rfl := Option.some.inj hc; exact (nope _ hr fun _ _ _ _ => rfl).elim
  case alloc t =>
    simp only [Option.map_eq_some_iff] at hc
    obtain ⟨z, hz, rfl⟩ := hc
    obtain rfl := Option.some.inj hr
    obtain ⟨zv, hz1, hz2⟩ := run_zeroOf hz
    refine Runs.alloc (T := t) (fz := (0, 0)) (vs := z) (v := .pointer (some ⟨w.heap.size, 0, none⟩)) (w' := { w with heap := w.heap.push (.cells z t (0, 0)) }) hs hn ?_ rfl (.inl rfl) (by simp) ?_ (fun p' hp => ?_)
    · refine v_run (s := Instr.alloc t true (.tuple #[])) ?_
      simp only [Instr.alloc, Sem.run_bind, hz1, Result.andThen_ok, newVar, newRow, run_newObj, Sem.run_pure, hz2]
    · rw [take_all (by simp)]
      exact Rep.plain _
    · have := Rep.ptr (R := R) (off := 0) hp (Rep.nil)
      simpa using this
  case box t x =>
    obtain rfl := Option.some.inj hc
    simp only [heapOp] at hr
    split at hr
    · rename_i ys hys
      obtain rfl := Option.some.inj hr
      have hrep := cellsOf_rep (hX x) hys
      have hl := hrep.length
      refine Runs.alloc (T := t) (fz := (0, 0)) (vs := (ρ x).cells) (v := .pointer (some ⟨w.heap.size, 0, none⟩)) (w' := { w with heap := w.heap.push (.cells (ρ x).cells t (0, 0)) }) hs hn ?_ rfl (.inl rfl)
        (by simpa using Nat.le_of_eq hl) ?_ (fun p' hp => ?_)
      · refine v_run (s := Instr.box t (ρ x)) ?_
        simp only [Instr.box, Sem.run_bind, newVar, newRow, run_newObj, Sem.run_pure, Result.andThen_ok]
      · rw [take_all (by simpa using hl)]
        exact hrep
      · have := Rep.ptr (R := R) (off := 0) hp (Rep.nil)
        simpa using this
    · cases hr
  case build t parts =>
    split at hc
    · simp only [Option.bind_eq_some_iff, Option.map_eq_some_iff] at hc; obtain ⟨_, _, _, _, rfl⟩ := hc; exact (nope _ hr fun _ _ _ _ => rfl).elim
    · simp only [Option.bind_eq_some_iff, Option.map_eq_some_iff] at hc; obtain ⟨_, _, _, _, rfl⟩ := hc; exact (nope _ hr fun _ _ _ _ => rfl).elim
    · cases hc
  case buildSlice t len parts =>
    split at hc
    · rename_i e hu
      split at hc
      · rename_i n z hsz hz
        split at hc
        · rename_i hq
          obtain ⟨hq1, hq2, hq3⟩ := hq
          simp only [Option.map_eq_some_iff] at hc
          obtain ⟨qs, hqs, rfl⟩ := hc
          simp only [heapOp] at hr
          split at hr
          · rename_i cs hf
            obtain rfl := Option.some.inj hr
            obtain ⟨zv, hz1, hz2⟩ := run_zeroOf hz
            let zr : Array Value := (Array.range (len * n)).map fun i => z[i % z.size]!
            have hzr : zr.toList = (List.replicate len z.toList).flatten := by simp only [zr]; rw [← hq3]; exact zeros_eq z len (by omega)
            have hzc : (List.replicate len (z.toList.map LV.v)).flatten = zr.toList.map LV.v := by rw [hzr, List.map_flatten, List.map_replicate]
            obtain ⟨ds, hd1, hd2⟩ := compParts_rows hX hqs (cs := zr) (by rw [hzc]; exact Rep.plain _) hf
            have hds : ds.size = len * n := by rw [fill_size _ _ _ _ hd1]; simp [zr]
            refine Runs.alloc (T := e) (fz := (0, 0)) (vs := ds) (v := .slice (some ⟨w.heap.size, 0, none⟩) len len) (w' := { w with heap := w.heap.push (.cells ds e (0, 0)) }) hs hn ?_ rfl (.inl rfl)
              (by have := hd2.length; simp at this; omega) ?_ (fun p' hp => ?_)
            · refine v_run (s := Instr.buildSlice t len (parts.map fun (x : Nat × Operand) => match x with | (i, x) => (i, ρ x))) ?_
              have e2 : (parts.map fun (x : Nat × Operand) => match x with | (i, x) => (i, ρ x)).toList = parts.toList.map fun q => (q.1, ρ q.2) := by simp
              simp only [Instr.buildSlice, Sem.run_bind, run_underlying hu, Result.andThen_ok, run_szOf hsz]
              rw [if_neg (by omega)]
              by_cases hc0 : len * n = 0
              · rw [if_pos hc0]
                simp only [pure_bind, e2]
                have ez : ((Array.range (len * n)).map fun i => (#[] : Array Value)[i % (#[] : Array Value).size]!) = zr := by
                  apply Array.ext <;> simp [zr, hc0]
                rw [ez, hd1]
                simp only [newRow, Sem.run_bind, run_newObj, Result.andThen_ok, Sem.run_pure]
              · rw [if_neg hc0]
                simp only [Sem.run_bind, hz1, hz2, Sem.run_pure, Result.andThen_ok, e2]
                rw [show ((Array.range (len * n)).map fun i => z[i % z.size]!) = zr from rfl, hd1]
                simp only [newRow, Sem.run_bind, run_newObj, Result.andThen_ok, Sem.run_pure]
            · rw [take_all (by have := hd2.length; simpa using this)]
              exact hd2
            · by_cases hc0 : len = 0
              · subst hc0; exact .sl0 (by simp) .nil
              · exact .sl (b := w.heap.size) (o := 0) (s := ds.size) hp (Nat.le_refl _) (by simp) (by simp) .nil
          · cases hr
        · cases hc
      · cases hc
    · cases hc
  case load t a =>
    split at hc
    · rename_i n ha hn'
      obtain rfl := Option.some.inj hc
      simp only [heapOp] at hr
      split at hr
      · rename_i ys hys
        obtain rfl := Option.some.inj hr
        exact ld_runs hs (hX a) hys ha hn'
      · cases hr
    · rename_i q ha
      obtain rfl := Option.some.inj hc
      simp only [heapOp] at hr
      split at hr
      · rename_i y hys
        obtain rfl := Option.some.inj hr
        exact ld1_runs hs (hX a) hys ha
      · cases hr
    · cases hc
  case store t a x =>
    simp only [Option.map_eq_some_iff] at hc
    obtain ⟨n, hn', rfl⟩ := hc
    simp only [heapOp] at hr
    split at hr
    · rename_i m off ys hX1 hys
      split at hr
      · rename_i cs hm
        split at hr
        · rename_i hq
          obtain rfl := Option.some.inj hr
          have h1 := hX a
          rw [hX1] at h1
          exact st_runs hs h1 (hX x) hys hm hq.1 hq.2.1 hq.2.2 hn'
        · cases hr
      · cases hr
    · cases hr
  case nilCheck x => obtain rfl := Option.some.inj hc; exact (nope _ hr fun _ _ _ _ => rfl).elim
  case binOp op t x y u => obtain rfl := Option.some.inj hc; exact (nope _ hr fun _ _ _ _ => rfl).elim
  case unOp op t x => obtain rfl := Option.some.inj hc; exact (nope _ hr fun _ _ _ _ => rfl).elim
  case convert src dst x =>
    split at hc
    · obtain rfl := Option.some.inj hc; exact (nope _ hr fun _ _ _ _ => rfl).elim
    · rename_i e hu hv
      split at hc
      · rename_i he
        obtain rfl := Option.some.inj hc
        simp only [heapOp] at hr
        split at hr
        · rename_i s hX1
          obtain rfl := Option.some.inj hr
          have h1 := hX x
          rw [hX1] at h1
          show Runs P R p H w base (do pure (.value (← convert src dst (ρ x)))) _
          generalize ρ x = y at h1
          cases h1
          exact s2b_runs hs hn hu hv he
        · cases hr
      · cases hc
    · rename_i e hu hv
      split at hc
      · rename_i he
        obtain rfl := Option.some.inj hc
        simp only [heapOp] at hr
        have h1 := hX x
        cases hk : lenOf (evX E.gl tm (compX x)) with
        | none => simp [hk] at hr
        | some k =>
          simp only [hk] at hr
          show Runs P R p H w base (do pure (.value (← convert src dst (ρ x)))) _
          split at hr
          · cases hr
          · rename_i Y hne
            split at hr
            · rename_i cs hf
              simp only [Option.map_eq_some_iff] at hr
              obtain ⟨bs, hbs, rfl⟩ := hr
              obtain ⟨zs, hz1, hz2⟩ := front_rep (P := P) hs h1 hf
              have hz1 := hz1 w rfl
              have hcount := front_len hf (by omega)
              have hconv : ∀ (a : Option Addr) (l c : Nat), ρ x = .slice a l c → (convert src dst (ρ x)).run P w = (Conv.bytesToString (.slice a l c)).run P w := by
                intro a l c hx'
                rw [hx']
                exact run_convert_bytes_string w src dst e a l c hu he hv
              have fin : (convert src dst (ρ x)).run P w = .ok (.string ⟨bs.toArray⟩) w → Runs P R p H w base (do pure (.value (← convert src dst (ρ x)))) ⟨.v (.string ⟨bs.toArray⟩), [], []⟩ := by
                intro hrun
                refine Runs.mk' (R' := R) (p' := p) (v_run hrun) (.inl ⟨_, rfl, .v .nil⟩) (by rw [applyOut_none]; exact ⟨hs, Ext.refl _ _ _ _⟩) (fun _ _ h => h) (fun _ _ h => .inl h)
              have sl : ∀ (a : Addr) (l c : Nat), ρ x = .slice (some a) l c → k = l → Runs P R p H w base (do pure (.value (← convert src dst (ρ x)))) ⟨.v (.string ⟨bs.toArray⟩), [], []⟩ := by
                rintro a l c hx' rfl
                rw [hx'] at hz1
                refine fin ((hconv _ _ _ hx').trans (bytesToString_run hz2 hbs ?_))
                have : (loadCells a (k * 1)).run P w = .ok zs w := hz1
                rw [Nat.mul_one] at this
                rw [this]
              have sn : ∀ (l c : Nat), ρ x = .slice none l c → k = 0 → Runs P R p H w base (do pure (.value (← convert src dst (ρ x)))) ⟨.v (.string ⟨bs.toArray⟩), [], []⟩ := by
                rintro l c hx' rfl
                refine fin ((hconv _ _ _ hx').trans ?_)
                have : bs = [] := by
                  have h0 : cs = [] := List.eq_nil_of_length_eq_zero (by omega)
                  subst h0; simpa [bytesOf] using hbs.symm
                subst this
                rfl
              generalize hy : ρ x = y at h1
              generalize hYe : evX E.gl tm (compX x) = Y' at h1 hk hne hf
              cases h1 <;> simp [lenOf] at hk
              case v =>
                cases y <;> try (simp at hk; done)
                · rename_i s; exact absurd rfl (hne s)
                · rename_i a n c
                  cases a
                  · simp at hk
                    subst hk
                    simp only [front] at hf
                    split at hf
                    · rename_i h0; subst h0; rw [← hy]; exact sn _ _ hy rfl
                    · cases hf
                  · simp at hk
              case sl0 =>
                subst hk
                rw [← hy]; exact sl _ _ _ hy rfl
              case sl => rw [← hy]; exact sl _ _ _ hy hk.symm
              case isl0 =>
                rename_i a _ _
                subst hk
                cases a
                · rw [← hy]; exact sn _ _ hy rfl
                · rw [← hy]; exact sl _ _ _ hy rfl
              case isl => rw [← hy]; exact sl _ _ _ hy hk.symm
            · cases hr
      · cases hc
    · rename_i e' e hu hv
      split at hc
      · rename_i hsd
        subst hsd
        split at hc
        · rename_i he
          obtain rfl := Option.some.inj hc
          simp only [heapOp] at hr
          have h1 := hX x
          split at hr
          · rename_i m off len c es hX1
            rw [hX1] at h1
            split at hr
            · rename_i h0
              split at hr
              · rename_i cs hm
                obtain rfl := Option.some.inj hr
                exact cvs_runs hs hv he h1 h0 hm
              · cases hr
            · cases hr
          · cases hr
        · cases hc
      · cases hc
    · cases hc
  case sliceToArrayPointer t x => split at hc <;> (try cases hc); exact (nope _ hr fun _ _ _ _ => rfl).elim
  case makeFunc f a b => obtain rfl := Option.some.inj hc; exact (nope _ hr fun _ _ _ _ => rfl).elim
  case makeSlice t l c =>
    split at hc
    · rename_i e hu
      split at hc
      · rename_i n b z hsz hb hz
        split at hc
        · rename_i hq
          obtain rfl := Option.some.inj hc
          simp only [heapOp] at hr
          split at hr
          · rename_i l' c' hl hc'
            split at hr
            · rename_i hq'
              obtain rfl := Option.some.inj hr
              obtain ⟨k1, e1⟩ := natOf_rep (hX l) hl
              obtain ⟨k2, e2⟩ := natOf_rep (hX c) hc'
              show Runs P R p H w base (do pure (.value (← Instr.makeSlice t (ρ l) (ρ c)))) _
              rw [e1, e2]
              exact mkslice_runs hs hn hu hsz hb hz hq.1 hq.2 hq'.1 hq'.2.1 hq'.2.2.1
            · cases hr
          · cases hr
        · cases hc
      · cases hc
    · cases hc
  case slice t x lo hi mx =>
    split at hc
    · simp only [Option.map_eq_some_iff] at hc; obtain ⟨_, _, rfl⟩ := hc; exact (nope _ hr fun _ _ _ _ => rfl).elim
    · simp only [Option.map_eq_some_iff] at hc; obtain ⟨_, _, rfl⟩ := hc; exact (nope _ hr fun _ _ _ _ => rfl).elim
    · split at hc <;> (try cases hc); exact (nope _ hr fun _ _ _ _ => rfl).elim
    · split at hc
      · simp only [Option.map_eq_some_iff] at hc; obtain ⟨_, _, rfl⟩ := hc; exact (nope _ hr fun _ _ _ _ => rfl).elim
      · cases hc
    · cases hc
  case fieldAddr t x i =>
    split at hc
    · split at hc
      · split at hc
        · split at hc <;> (try cases hc); exact (nope _ hr fun _ _ _ _ => rfl).elim
        · cases hc
      · cases hc
    · cases hc
  case field t x i =>
    split at hc
    · split at hc
      · split at hc <;> (try cases hc) <;> exact (nope _ hr fun _ _ _ _ => rfl).elim
      · cases hc
    · cases hc
  case indexAddr t x i =>
    split at hc
    · simp only [Option.map_eq_some_iff] at hc; obtain ⟨_, _, rfl⟩ := hc; exact (nope _ hr fun _ _ _ _ => rfl).elim
    · simp only [Option.map_eq_some_iff] at hc; obtain ⟨_, _, rfl⟩ := hc; exact (nope _ hr fun _ _ _ _ => rfl).elim
    · cases hc
  case index t x i =>
    split at hc
    · split at hc <;> (try cases hc) <;> exact (nope _ hr fun _ _ _ _ => rfl).elim
    · obtain rfl := Option.some.inj hc; exact (nope _ hr fun _ _ _ _ => rfl).elim
    · cases hc
  case extract x i => obtain rfl := Option.some.inj hc; exact (nope _ hr fun _ _ _ _ => rfl).elim
  case call c =>
    obtain ⟨callee, args, argTypes⟩ := c
    simp only [compCall] at hc
    split at hc
    · obtain rfl := Option.some.inj hc; exact absurd rfl (hcall _ _)
    · cases hc
    · split at hc
      · split at hc
        · obtain rfl := Option.some.inj hc; exact (nope _ hr fun _ _ _ _ => rfl).elim
        · obtain rfl := Option.some.inj hc; exact (nope _ hr fun _ _ _ _ => rfl).elim
        · obtain rfl := Option.some.inj hc; exact (nope _ hr fun _ _ _ _ => rfl).elim
        · split at hc <;> (try cases hc); exact (nope _ hr fun _ _ _ _ => rfl).elim
        · cases hc
      · rename_i x y t u hargs htypes
        have ha : args = #[x, y] := by apply Array.ext'; simpa using hargs
        have ht : argTypes = #[t, u] := by apply Array.ext'; simpa using htypes
        subst ha ht
        split at hc
        · cases hc
        · rename_i e d hd hu hv
          split at hc
          · rename_i n b z hsz hb hz
            split at hc
            · rename_i hq
              obtain rfl := Option.some.inj hc
              have := append_runs (P := P) hs hn type (hX x) (hX y) hu hv hd hsz hb hz hq.2.2 hq.1 hq.2.1 hr
              have e : execOp ρ ⟨dst, .call ⟨.builtin .append, #[x, y], #[t, u]⟩, type, pos, after, guard⟩ = (do pure (.value (← Builtin.append_ #[t, u] type #[ρ x, ρ y])) : Sem Next) := by
                simp only [execOp, resolve, invoke, builtin, pure_bind, List.map_toArray, List.map_cons, List.map_nil]
              rw [e]
              exact this
            · cases hc
          · cases hc
        · cases hc
      · rename_i x y t ts hargs htypes
        have ha : args = #[x, y] := by apply Array.ext'; simpa using hargs
        have ht : argTypes = (t :: ts).toArray := by apply Array.ext'; simpa using htypes
        subst ha ht
        split at hc
        · rename_i e hu
          split at hc
          · rename_i n hsz
            split at hc
            · rename_i h0
              obtain rfl := Option.some.inj hc
              have := copy_runs (P := P) (ts := ts) hs type (hX x) (hX y) hu hsz h0 hr
              have e : execOp ρ ⟨dst, .call ⟨.builtin .copy, #[x, y], (t :: ts).toArray⟩, type, pos, after, guard⟩ = (do pure (.value (← Builtin.copy_ (t :: ts).toArray type #[ρ x, ρ y])) : Sem Next) := by
                simp only [execOp, resolve, invoke, builtin, pure_bind, List.map_toArray, List.map_cons, List.map_nil]
              rw [e]
              exact this
            · cases hc
          · cases hc
        · cases hc
      · obtain rfl := Option.some.inj hc; exact (nope _ hr fun _ _ _ _ => rfl).elim
      · obtain rfl := Option.some.inj hc; exact (nope _ hr fun _ _ _ _ => rfl).elim
      · cases hc
  all_goals cases hc

end Go.LE
