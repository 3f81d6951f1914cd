/- Soundness of append and copy, by the reckoner's cases. -/
import Derived.Test.YtpkifhjlmkbdpaaDoorLeOpsAppend
set_option linter.unusedVariables false
set_option linter.unusedSimpArgs false
namespace Go.LE
variable {P : Program} {R : Imm} {p : Places} {gl : Nat → Option Cells} {H : Heap} {w : World} {E : Env}

theorem modsAt_append (H : Heap) (a b : List (Nm × Option Cells)) : modsAt H (a ++ b) = modsAt (modsAt H b) a := by
  induction a with
  | nil => rfl
  | cons x a ih => obtain ⟨n, v⟩ := x; rw [List.cons_append, modsAt_cons, modsAt_cons, ih]

theorem modsAt_other (H : Heap) {ms : List (Nm × Option Cells)} {n : Nm} (h : ms.all (fun q => q.1 != n) = true) : modsAt H ms n = H n := by
  induction ms with
  | nil => rfl
  | cons x ms ih =>
    obtain ⟨m, v⟩ := x
    simp only [List.all_cons, Bool.and_eq_true, bne_iff_ne, ne_eq] at h
    rw [modsAt_cons]
    unfold upd
    rw [if_neg (fun e => h.1 e.symm)]
    exact ih (by simpa using h.2)

/-- elements that are slices of the call's own: from now on never written -/
theorem frozenAll_rep (hs : Sim R p H w) : ∀ (xs ys : List LV) (ms : List (Nm × Option Cells)) (zs : List Value), frozenAll H xs = some (ys, ms) → Rep R p xs zs →
    ∃ R', Rep R' p ys zs ∧ Sim R' p (modsAt H ms) w ∧ Ext R p H w R' p (modsAt H ms) w ∧ (∀ q ∈ ms, q.2 = none) := by
  intro xs
  induction xs with
  | nil => intro ys ms zs h hr; simp [frozenAll] at h; obtain ⟨rfl, rfl⟩ := h; cases hr; exact ⟨R, .nil, hs, Ext.refl _ _ _ _, by simp⟩
  | cons x xs ih =>
    intro ys ms zs h hr
    obtain ⟨z, zs, rfl, h1, h2⟩ := hr.uncons
    simp only [frozenAll] at h
    split at h
    · rename_i y m ys' ms' e1 e2
      split at h
      · rename_i hd
        obtain ⟨rfl, rfl⟩ := Prod.mk.inj (Option.some.inj h)
        obtain ⟨R1, r1, r2, r3, r4⟩ := ih ys' ms' zs e2 h2
        have up : ∀ b cs, R b = some cs → R1 b = some cs := r3.imm
        have plain : ∀ v, Rep1 R p v z → m = [] → v = y → ∃ R', Rep R' p (y :: ys') (z :: zs) ∧ Sim R' p (modsAt H (m ++ ms')) w ∧ Ext R p H w R' p (modsAt H (m ++ ms')) w ∧ (∀ q ∈ m ++ ms', q.2 = none) := by
          rintro v hv rfl rfl
          exact ⟨R1, Rep.cons (hv.mono up (fun _ _ h => h)) r1, r2, r3, r4⟩
        unfold frozenOf at e1
        split at e1
        · rename_i n off len cap es
          split at e1
          · rename_i h0
            obtain ⟨rfl, rfl⟩ := Prod.mk.inj (Option.some.inj e1)
            subst h0
            refine ⟨R1, Rep.cons ?_ r1, r2, r3, r4⟩
            cases h1 <;> exact .isl0 .nil
          · rename_i h0
            split at e1
            · rename_i cs hn
              obtain ⟨rfl, rfl⟩ := Prod.mk.inj (Option.some.inj e1)
              simp only [List.all_cons, List.all_nil, Bool.and_true] at hd
              have hn' : modsAt H ms' n = some cs := by rw [modsAt_other H hd]; exact hn
              cases h1 with
              | sl0 _ _ => exact absurd rfl h0
              | @sl _ _ _ _ _ b o s c _ _ hp hl hk hsz _ =>
                obtain ⟨vs, T, fz, l⟩ := r2.at hn' hp
                obtain ⟨f1, f2⟩ := r2.freeze hn' hp l
                have up2 := f2.imm
                refine ⟨_, Rep.cons ?_ (r1.mono up2 (fun _ _ h => h)), by simpa [modsAt_cons] using f1, by simpa [modsAt_cons] using r3.trans f2, by simpa using r4⟩
                refine .isl (cs := vs.toList) (b := b) (o := o + off) (by simp) ?_ hl .nil
                have h3 := ((l.rep.drop off).take (len * es)).mono up2 (fun _ _ h => h)
                rw [List.drop_take, List.drop_drop, List.take_take] at h3
                have e3 : ((cs.drop off).take (len * es)).length = min (len * es) (cs.length - off) := by simp
                rw [e3]
                exact h3
            · cases e1
        · obtain ⟨rfl, rfl⟩ := Prod.mk.inj (Option.some.inj e1); exact plain _ h1 rfl rfl
        · obtain ⟨rfl, rfl⟩ := Prod.mk.inj (Option.some.inj e1); exact plain _ h1 rfl rfl
        · cases e1
      · cases h
    · cases h

theorem upd_same {H : Heap} {n : Nm} {x : Option Cells} (h : H n = x) : upd H n x = H := by
  funext m
  unfold upd
  by_cases e : m = n
  · rw [if_pos e, e, h]
  · rw [if_neg e]

theorem at1_new {base : Nat} {x : Base} : ∀ n y, at1 p (base, 0) x n = some y → p n = some y ∨ n.1 = base := by
  intro n y h
  unfold at1 at h
  by_cases e : n = (base, 0)
  · exact .inr (by rw [e])
  · rw [if_neg e] at h; exact .inl h

theorem front_zero {size n : Nat} {X : LV} {ys : Cells} (h : front H size n X = some ys) (h0 : n = 0) : ys = [] := by
  subst h0
  unfold front at h
  split at h
  · simp at h; exact h
  · simp at h; exact h
  · simp at h; exact h
  · split at h <;> simp at h; exact h
  · cases h

theorem front_len {size n : Nat} {X : LV} {ys : Cells} (h : front H size n X = some ys) (hs : 0 < size) : ys.length = n * size := by
  unfold front at h
  split at h
  · split at h
    · rename_i h0; simp at h; subst h; simp [h0]
    · split at h
      · split at h
        · split at h
          · obtain rfl := Option.some.inj h; simp; omega
          · cases h
        · cases h
      · cases h
  · split at h
    · rename_i h0; simp at h; subst h; simp [h0]
    · split at h
      · obtain rfl := Option.some.inj h; simp; omega
      · cases h
  · split at h
    · rename_i h0; simp at h; subst h; simp [h0]
    · cases h
  · split at h
    · rename_i s hb; obtain rfl := Option.some.inj h
      have : s.data.toList.length = s.size := by simp
      simp [hb.1]; omega
    · cases h
  · cases h

/-- what is asked of an append: its types, and what is appended -/
structure App (P : Program) (R : Imm) (p : Places) (H : Heap) (w : World) (R1 : Imm) (H1 : Heap) (t u e : TypeId) (size bytes k : Nat) (y : Value) (new : Cells) (zs : Array Value) : Prop where
  sl : P.underlying t = some (.slice e)
  src : ∃ d, P.underlying u = some d ∧ ∀ k, d ≠ .int k
  sz : szOf P e = some size
  by_ : bytesIn P e = some bytes
  zr : ∃ z, zeroOf P e = some z ∧ z.size = size
  pos : 0 < size
  bpos : 0 < bytes
  bmax : bytes ≤ 2 ^ 20
  len : ∀ w : World, (Builtin.lenOf y).run P w = .ok k w
  first : ∀ w' : World, w'.heap = w.heap → (Builtin.firstCells size k y).run P w' = .ok zs w'
  rep : Rep R1 p new zs.toList
  cells : new.all isCell = true
  count : new.length = k * size
  sim : Sim R1 p H1 w
  ext : Ext R p H w R1 p H1 w

variable {R1 : Imm} {H1 : Heap} {t u e : TypeId} {size bytes k : Nat} {y : Value} {new : Cells} {zs : Array Value}

/-- the row has room: it is written in place -/
theorem App.fits (A : App P R p H w R1 H1 t u e size bytes k y new zs) {a : Option Addr} {len c : Nat} (ty : TypeId) (h : len + k ≤ c) :
    (Builtin.append_ #[t, u] ty #[.slice a len c, y]).run P w =
      (match a with | some a => (storeCells (a.add (len * size)) zs.toList).run P w | none => .ok () w).andThen fun _ w' => .ok (.slice a (len + k) c) w' := by
  obtain ⟨d, hd, hd'⟩ := A.src
  exact run_append_fits A.sl hd hd' A.sz A.len (A.first w rfl) h

/-- it has not: a new row -/
theorem App.grows (A : App P R p H w R1 H1 t u e size bytes k y new zs) {base : Nat} (hn : p (base, 0) = none) {a : Option Addr} {len c : Nat} (ty : TypeId) {old : Cells} {os : Array Value}
    (ho : ∀ w' : World, w'.heap = w.heap → (Builtin.firstCells size len (.slice a len c)).run P w' = .ok os w') (hr : Rep R1 p old os.toList) (hol : old.length = len * size)
    (h : c < len + k) (hb : (len + k) * bytes ≤ 2 ^ 44) {ms : List (Nm × Option Cells)} (hH : modsAt H ms = H1) :
    Runs P R p H w base (do pure (.value (← Builtin.append_ #[t, u] ty #[.slice a len c, y]))) ⟨.sl (base, 0) 0 (len + k) none size, [old ++ new], ms⟩ := by
  obtain ⟨d, hd, hd'⟩ := A.src
  obtain ⟨z, hz, hz'⟩ := A.zr
  obtain ⟨c', rest, w', h1, h2, h3, hio, h4⟩ := run_append_grows (ty := ty) A.sl hd hd' A.sz A.by_ hz hz' A.pos A.len A.first ho h hb A.bmax A.bpos
  have hlen : (old ++ new).length = (len + k) * size := by rw [List.length_append, hol, A.count, Nat.add_mul]
  have hvs : (os ++ zs ++ rest).size = c' * size := by
    have e1 := hr.length
    have e2 := A.rep.length
    have e3 : (len + k) * size + (c' - (len + k)) * size = c' * size := by rw [← Nat.add_mul]; congr 1; omega
    rw [List.length_append] at hlen
    simp at e1 e2 ⊢
    omega
  obtain ⟨f1, f2⟩ := A.sim.alloc (n := (base, 0)) hn h3 (.inl rfl) (cs := old ++ new) (by rw [hlen, hvs]; exact Nat.mul_le_mul_right _ h1) (by
    have := hr.append A.rep
    have e : (os ++ zs ++ rest).toList.take (old ++ new).length = os.toList ++ zs.toList := by
      rw [Array.toList_append, Array.toList_append, List.take_append_of_le_length (by have := this.length; simp at this ⊢; omega)]
      exact take_all (by have := this.length; simpa using this)
    rw [e]; exact this) hio
  refine Runs.mk' (R' := R1) (p' := at1 p (base, 0) (.at w.heap.size 0 (os ++ zs ++ rest).size)) (v_run h4) (.inl ⟨_, rfl, ?_⟩) ?_ (at1_mono hn) at1_new
  · exact .sl (b := w.heap.size) (o := 0) (s := (os ++ zs ++ rest).size) (by simp [at1]) h1 (by simp) (fun _ => by rw [hvs]; omega) .nil
  · rw [applyOut_one, hH]
    exact ⟨f1, A.ext.trans f2⟩

/-- a slice whose room is known, with room enough -/
theorem App.inPlace (A : App P R p H w R1 H1 t u e size bytes k y new zs) {base : Nat} {m : Nm} {off len c : Nat} {x : Value} {cs : Cells} (ty : TypeId) (hx : Rep1 R p (.sl m off len (some c) size) x) (h : len + k ≤ c)
    (hm : H1 m = some cs) (hb : off + (len + k) * size ≤ cs.length) {ms : List (Nm × Option Cells)} (hH : modsAt H ms = H1) :
    Runs P R p H w base (do pure (.value (← Builtin.append_ #[t, u] ty #[x, y]))) ⟨.sl m off (len + k) (some c) size, [], (m, some (splice cs (off + len * size) new)) :: ms⟩ := by
  cases hx with
  | @sl0 _ _ _ _ a _ _ hk _ =>
    have := hk c rfl
    subst this
    obtain rfl : k = 0 := by omega
    have hnew : new = [] := List.eq_nil_of_length_eq_zero (by rw [A.count]; simp)
    have hz : zs.toList = [] := by have := A.rep.length; rw [hnew] at this; exact List.eq_nil_of_length_eq_zero this.symm
    have run := A.fits (a := a) (len := 0) (c := 0) ty (by omega)
    refine Runs.mk' (nx := .value (.slice a (0 + 0) 0)) (w' := w) (R' := R1) (p' := p) (v_run (run.trans ?_)) (.inl ⟨_, rfl, .sl0 (by simp) .nil⟩) ?_ (fun _ _ h => h) (fun _ _ h => .inl h)
    · rw [hz]
      cases a <;> rfl
    · rw [applyOut_none, modsAt_cons, hH]
      have : splice cs (off + 0 * size) new = cs := by rw [hnew]; simp [splice]
      rw [this, upd_same hm]
      exact ⟨A.sim, A.ext⟩
  | @sl _ _ _ _ _ b o s c' _ _ hp hl hk hsz _ =>
    have := hk c rfl
    subst this
    have e3 : (len + k) * size = len * size + k * size := Nat.add_mul _ _ _
    obtain ⟨w', run', f1, f2⟩ := store_runs (P := P) (off := off + len * size) A.sim hm hp (by rw [A.count]; omega) A.rep A.cells
    have run := A.fits (a := some ⟨b, o + off, none⟩) (len := len) (c := c) ty h
    refine Runs.mk' (nx := .value _) (w' := w') (R' := R1) (p' := p) (v_run (run.trans ?_)) (.inl ⟨_, rfl, .sl hp h (by simp) (by simp) .nil⟩) ?_ (fun _ _ h => h) (fun _ _ h => .inl h)
    · simp only [Addr.add_lit, Nat.add_assoc] at run' ⊢
      rw [run']
      rfl
    · rw [applyOut_none, modsAt_cons, hH]
      exact ⟨f1, A.ext.trans f2⟩

/-- a slice whose room is not known: it takes a new name, whatever becomes of it -/
theorem App.moves (A : App P R p H w R1 H1 t u e size bytes k y new zs) {base : Nat} (hn : p (base, 0) = none) {m : Nm} {off len : Nat} {x : Value} {cs : Cells} (ty : TypeId)
    (hx : Rep1 R p (.sl m off len none size) x) (hb : (len + k) * bytes ≤ 2 ^ 44) (hm : H1 m = some cs) (hcs : off + len * size ≤ cs.length) {ms : List (Nm × Option Cells)} (hH : modsAt H ms = H1) :
    Runs P R p H w base (do pure (.value (← Builtin.append_ #[t, u] ty #[x, y]))) ⟨.sl (base, 0) 0 (len + k) none size, [(cs.drop off).take (len * size) ++ new], (m, none) :: ms⟩ := by
  have rm := A.sim.remove m
  have A' : App P R p H w R1 (upd H1 m none) t u e size bytes k y new zs := { A with sim := rm.1, ext := A.ext.trans rm.2 }
  have hH' : modsAt H ((m, none) :: ms) = upd H1 m none := by rw [modsAt_cons, hH]
  cases hx with
  | @sl0 _ _ _ _ a _ _ _ _ =>
    by_cases h0 : k = 0
    · subst h0
      have hnew : new = [] := List.eq_nil_of_length_eq_zero (by rw [A.count]; simp)
      have hz : zs.toList = [] := by have := A.rep.length; rw [hnew] at this; exact List.eq_nil_of_length_eq_zero this.symm
      have run := A.fits (a := a) (len := 0) (c := 0) ty (by omega)
      obtain ⟨f1, f2⟩ := A'.sim.nowhere (n := (base, 0)) hn
      refine Runs.mk' (nx := .value (.slice a (0 + 0) 0)) (w' := w) (R' := R1) (p' := at1 p (base, 0) .nowhere) (v_run (run.trans ?_)) (.inl ⟨_, rfl, .sl0 (by simp) .nil⟩) ?_ (at1_mono hn) at1_new
      · rw [hz]
        cases a <;> rfl
      · rw [applyOut_one, hH', hnew]
        simp only [Nat.zero_mul, List.take_zero, List.append_nil]
        exact ⟨f1, A'.ext.trans f2⟩
    · have ho : ∀ w' : World, w'.heap = w.heap → (Builtin.firstCells size 0 (.slice a 0 0)).run P w' = .ok #[] w' := by
        intro w' _
        cases a <;> simp [Builtin.firstCells, loadCells, loadCellsFrom]
      have := A'.grows hn (a := a) (len := 0) (c := 0) ty (old := []) (os := #[]) ho .nil (by simp) (by omega) hb (ms := (m, none) :: ms) hH'
      simpa using this
  | @sl _ _ _ _ _ b o s c _ _ hp hl hk hsz _ =>
    have hroom := hsz rfl
    obtain ⟨vs, T, fz, l⟩ := A.sim.at hm hp
    by_cases hf : len + k ≤ c
    · -- written in place
      have run := A.fits (a := some ⟨b, o + off, none⟩) (len := len) (c := c) ty hf
      have hzl : zs.toList.length = k * size := by have := A.rep.length; rw [A.count] at this; exact this.symm
      have hzs : zs.size = k * size := by simpa using hzl
      have e3 : (len + k) * size = len * size + k * size := Nat.add_mul _ _ _
      have e4 : (len + k) * size ≤ c * size := Nat.mul_le_mul_right _ hf
      have hvs := l.size
      have st := run_storeCells (P := P) zs.toList 0 (o + off + len * size) vs w l.heap (l.free.imp (fun e => by omega) id) (by omega) (oneCell_of A.rep A.cells)
      rw [Nat.add_zero] at st
      have hmid : (spliceV vs (o + off + len * size) zs.toList).toList = vs.toList.take (o + off + len * size) ++ (zs.toList ++ vs.toList.drop (o + off + len * size + zs.toList.length)) := by
        simp [spliceV]
      have hcut : ((cs.take (off + len * size)) ++ new).length = off + len * size + k * size := by rw [List.length_append, List.length_take, A.count]; omega
      have hr1 : Rep R1 p ((cs.take (off + len * size)) ++ new) (((spliceV vs (o + off + len * size) zs.toList).toList.drop o).take ((cs.take (off + len * size)) ++ new).length) := by
        have e5 : ((spliceV vs (o + off + len * size) zs.toList).toList.drop o).take (off + len * size + k * size) = (vs.toList.drop o).take (off + len * size) ++ zs.toList := by
          rw [hmid, List.drop_append_of_le_length (by simp; omega), List.drop_take, show o + off + len * size - o = off + len * size by omega, ← List.append_assoc]
          rw [List.take_append_of_le_length (by simp; omega)]
          exact take_all (by simp; omega)
        rw [hcut, e5]
        refine Rep.append ?_ A.rep
        have := l.rep.take (off + len * size)
        rwa [List.take_take, Nat.min_eq_left hcs] at this
      obtain ⟨f1, f2⟩ := A.sim.write (w' := setBlk w b (.cells (spliceV vs (o + off + len * size) zs.toList) T fz)) hm hp l (spliceV_size (by omega)) (by rw [hcut]; omega) hr1 rfl
      obtain ⟨vs2, T2, fz2, l2⟩ := f1.at (n := m) (cs := (cs.take (off + len * size)) ++ new) (by simp [upd]) hp
      have hdrop : ((cs.take (off + len * size)) ++ new).drop off = (cs.drop off).take (len * size) ++ new := by
        rw [List.drop_append_of_le_length (by simp; omega), List.drop_take, Nat.add_sub_cancel_left]
      obtain ⟨g1, g2⟩ := f1.rename (n := (base, 0)) (off := off) (cs' := (cs.drop off).take (len * size) ++ new) hn (by simp [upd]) hp l2 (by omega) (by rw [← hdrop, List.length_drop, hcut]; omega) (by
        have := l2.rep.drop off
        rw [hdrop, List.drop_take, List.drop_drop] at this
        have e6 : ((cs.drop off).take (len * size) ++ new).length = ((cs.take (off + len * size)) ++ new).length - off := by rw [← hdrop, List.length_drop]
        rw [e6]
        exact this)
      have e7 : upd (upd (upd H1 m (some ((cs.take (off + len * size)) ++ new))) m none) (base, 0) (some ((cs.drop off).take (len * size) ++ new)) =
          upd (upd H1 m none) (base, 0) (some ((cs.drop off).take (len * size) ++ new)) := by
        funext q; unfold upd; by_cases c1 : q = (base, 0) <;> by_cases c2 : q = m <;> simp [c1, c2]
      rw [e7] at g1 g2
      refine Runs.mk' (nx := .value (.slice (some ⟨b, o + off, none⟩) (len + k) c)) (R' := R1) (p' := at1 p (base, 0) (.at b (o + off) (s - off))) (w' := setBlk w b (.cells (spliceV vs (o + off + len * size) zs.toList) T fz)) (v_run (run.trans ?_)) (.inl ⟨_, rfl, ?_⟩) ?_
        (at1_mono hn) at1_new
      · simp only [Addr.add_lit]
        rw [st]
        rfl
      · have := Rep.sl (R := R1) (p := at1 p (base, 0) (.at b (o + off) (s - off))) (n := (base, 0)) (off := 0) (len := len + k) (cap := none) (es := size) (b := b) (o := o + off) (s := s - off) (c := c)
          (by simp [at1]) hf (by simp) (fun _ => by omega) .nil
        simpa using this
      · rw [applyOut_one, hH']
        exact ⟨g1, (A.ext.trans f2).trans g2⟩
    · -- a new row
      have ho : ∀ w' : World, w'.heap = w.heap → (Builtin.firstCells size len (.slice (some ⟨b, o + off, none⟩) len c)).run P w' = .ok ((vs.toList.drop (o + off)).take (len * size)).toArray w' := by
        intro w' hw
        exact run_loadCells (by rw [hw]; exact l.heap) (l.bound hcs)
      exact A'.grows hn ty ho (by simpa using l.seg hcs) (by simp; omega) (by omega) hb hH'

end Go.LE
