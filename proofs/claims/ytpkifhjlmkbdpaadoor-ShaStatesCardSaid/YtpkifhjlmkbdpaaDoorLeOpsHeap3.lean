/- Soundness of loads, stores, and of what is made. -/
import Derived.Test.YtpkifhjlmkbdpaaDoorLeOpsHeap2
set_option linter.unusedVariables false
set_option linter.unusedSimpArgs false
namespace Go.LE
variable {P : Program} {R : Imm} {p : Places} {gl : Nat → Option Cells} {H : Heap} {w : World} {E : Env}

theorem ld1_runs {base : Nat} (hs : Sim R p H w) {X : LV} {x : Value} {y : LV} {t : TypeId} (hx : Rep1 R p X x) (hy : cellAt H 1 X = some [y]) (ha : isAggT P t = some false) :
    Runs P R p H w base (do pure (.value (← Instr.loadAt t x))) ⟨y, [], []⟩ := by
  obtain ⟨b, o, vs, T, fz, rfl, h1, h2, h3⟩ := cellAt_rep hs hx hy
  rcases h2 with h2 | h2
  · omega
  · have hv : vs[o]? = some vs[o] := Array.getElem?_eq_getElem (by omega)
    have e : (vs.toList.drop o).take 1 = [vs[o]] := by
      rw [List.drop_eq_getElem_cons (by simp; omega)]; simp
    rw [e] at h3
    refine Runs.mk' (nx := .value vs[o]) (w' := w) (R' := R) (p' := p) ?_ (.inl ⟨_, rfl, h3⟩) (by rw [applyOut_none]; exact ⟨hs, Ext.refl _ _ _ _⟩) (fun _ _ h => h) (fun _ _ h => .inl h)
    apply v_run
    simp only [Instr.loadAt, Instr.sureAddr, loadVar, Sem.run_bind, Sem.run_pure, Result.andThen_ok, run_isAggT ha, Bool.false_eq_true, if_false, run_load, cell_of h1, hv]

theorem ld_runs {base n : Nat} (hs : Sim R p H w) {X : LV} {x : Value} {ys : Cells} {t : TypeId} (hx : Rep1 R p X x) (hy : cellAt H n X = some ys) (ha : isAggT P t = some true) (hn : szOf P t = some n) :
    Runs P R p H w base (do pure (.value (← Instr.loadAt t x))) ⟨.agg ys, [], []⟩ := by
  obtain ⟨b, o, vs, T, fz, rfl, h1, h2, h3⟩ := cellAt_rep hs hx hy
  refine Runs.mk' (nx := .value (.agg ((vs.toList.drop o).take n).toArray)) (w' := w) (R' := R) (p' := p) ?_ (.inl ⟨_, rfl, .agg h3 .nil⟩) (by rw [applyOut_none]; exact ⟨hs, Ext.refl _ _ _ _⟩)
    (fun _ _ h => h) (fun _ _ h => .inl h)
  apply v_run
  simp only [Instr.loadAt, Instr.sureAddr, loadVar, Sem.run_bind, Sem.run_pure, Result.andThen_ok, run_isAggT ha, if_true, run_szOf hn, run_loadCells' h1 h2]

theorem splice_len {cs ys : Cells} {off : Nat} (h : off + ys.length ≤ cs.length) : (splice cs off ys).length = cs.length := by
  simp [splice]; omega

theorem splice_lies {cs ys : Cells} {us : List Value} {b o s off : Nat} {vs : Array Value} {T : TypeId} {fz : Nat × Nat} (l : Lies R p w cs b o s vs T fz) (h : off + ys.length ≤ cs.length) (hy : Rep R p ys us) :
    Rep R p (splice cs off ys) (((spliceV vs (o + off) us).toList.drop o).take (splice cs off ys).length) := by
  have h1 := splice_rep (off := off) l.rep hy
  rw [splice_len h]
  have hu := hy.length
  have hb := l.size
  have hf := l.fits
  have e : (((spliceV vs (o + off) us).toList.drop o).take cs.length) = ((vs.toList.drop o).take cs.length).take off ++ us ++ ((vs.toList.drop o).take cs.length).drop (off + us.length) := by
    have hA : ((vs.toList.drop o).take off).length = off := by simp; omega
    have hB : ((vs.toList.drop o).take off ++ us).length = off + us.length := by rw [List.length_append, hA]
    have e1 : (spliceV vs (o + off) us).toList.drop o = ((vs.toList.drop o).take off ++ us) ++ (vs.toList.drop o).drop (off + us.length) := by
      simp only [spliceV]
      rw [List.append_assoc, List.drop_append_of_le_length (by simp; omega), List.drop_take, Nat.add_sub_cancel_left, List.drop_drop, List.append_assoc, Nat.add_assoc]
    rw [e1, List.take_append, hB, List.take_of_length_le (by omega), List.take_take, Nat.min_eq_left (by omega), List.drop_take]
  rw [e]
  exact h1

theorem spliceV_size' {vs : Array Value} {o : Nat} {l : List Value} (h : o + l.length ≤ vs.size) : (spliceV vs o l).size = vs.size := spliceV_size h

/-- cells are written into an object -/
theorem store_runs (hs : Sim R p H w) {m : Nm} {cs ys : Cells} {us : List Value} {b o s off : Nat} (hm : H m = some cs) (hp : p m = some (.at b o s)) (hb : off + ys.length ≤ cs.length)
    (hy : Rep R p ys us) (hc : ys.all isCell = true) :
    ∃ w', (storeCells ⟨b, o + off, none⟩ us).run P w = .ok () w' ∧ Sim R p (upd H m (some (splice cs off ys))) w' ∧ Ext R p H w R p (upd H m (some (splice cs off ys))) w' := by
  obtain ⟨vs, T, fz, l⟩ := hs.at hm hp
  have hu := hy.length
  have hbd := l.bound hb
  have run := run_storeCells (P := P) us 0 (o + off) vs w l.heap (l.free.imp (fun e => by omega) id) (by omega) (oneCell_of hy hc)
  rw [Nat.add_zero] at run
  refine ⟨_, run, ?_⟩
  exact hs.write hm hp l (spliceV_size (by omega)) (by rw [splice_len hb]; exact l.fits) (splice_lies l hb hy) rfl

theorem st_runs {base n : Nat} (hs : Sim R p H w) {m : Nm} {off : Nat} {x y : Value} {Y : LV} {ys cs : Cells} {t : TypeId} (hx : Rep1 R p (.ptr m off) x) (hy : Rep1 R p Y y) (hys : cellsOf Y = some ys)
    (hm : H m = some cs) (h1 : ys.length = n) (h2 : off + n ≤ cs.length) (h3 : ys.all isCell = true) (hn : szOf P t = some n) :
    Runs P R p H w base (do Instr.storeAt t x y; pure .skip) ⟨.v (.tuple #[]), [], [(m, some (splice cs off ys))]⟩ := by
  cases hx with
  | ptr hp _ =>
    have hr := cellsOf_rep hy hys
    obtain ⟨w', run, h4, h5⟩ := store_runs (P := P) (off := off) hs hm hp (by omega) hr h3
    refine Runs.mk' (nx := .skip) (w' := w') (R' := R) (p' := p) ?_ (.inr ⟨rfl, rfl⟩) ?_ (fun _ _ h => h) (fun _ _ h => .inl h)
    · have hsz : y.cells.size = n := by have := hr.length; simp at this; omega
      simp only [Instr.storeAt, Instr.sureAddr, storeVar, Sem.run_bind, Sem.run_pure, Result.andThen_ok, run_szOf hn]
      rw [if_neg (by simp [hsz])]
      simp only [run, Result.andThen_ok]
    · rw [applyOut_none]
      exact ⟨h4, h5⟩

theorem s2b_runs {base : Nat} (hs : Sim R p H w) (hn : p (base, 0) = none) {src dst e : TypeId} {s : ByteArray} (hu : P.underlying src = some .string) (hd : P.underlying dst = some (.slice e))
    (he : P.underlying e = some (.int .u8)) :
    Runs P R p H w base (do pure (.value (← convert src dst (.string s)))) ⟨.sl (base, 0) 0 s.size none 1, [s.data.toList.map byteCell], []⟩ := by
  obtain ⟨cap, hcap, hle⟩ : ∃ cap, Question.cut (.appendCap s.size 0 e) (w.tape w.drawn (.appendCap s.size 0 e)) = cap ∧ s.size ≤ cap := ⟨_, rfl, by simp [Question.cut]⟩
  let vs : Array Value := (s.data.map fun b => .int .u8 b.toNat) ++ Array.replicate (cap - s.size) (.int .u8 0)
  have hsz : vs.size = cap := by
    simp only [vs, Array.size_append, Array.size_map, Array.size_replicate]
    have : s.data.size = s.size := rfl
    omega
  have hlen : (s.data.toList.map byteCell).length = s.size := by simp
  refine Runs.alloc (T := e) (fz := (vs.size, vs.size + 1)) (vs := vs) (v := .slice (some ⟨w.heap.size, 0, none⟩) s.size cap)
    (w' := { w with drawn := w.drawn + 1, heap := w.heap.push (.cells vs e (vs.size, vs.size + 1)) }) hs hn ?_ rfl (.inr (Nat.le_refl _)) (by omega) ?_ (fun p' hp => ?_)
  · apply v_run
    simp only [convert, Sem.run_bind, run_underlying hu, run_underlying hd, run_underlying he, Result.andThen_ok, Conv.stringToBytes, run_choose, Question.forced, Bool.false_eq_true, if_false, hcap, newRow,
      run_newObj, Sem.run_pure, markStringish, run_shape, run_freeze]
    have hshape : World.shape? { w with drawn := w.drawn + 1, heap := w.heap.push (.cells vs e (0, 0)) } w.heap.size = some (e, vs.size) := by
      simp [World.shape?]
    simp only [vs] at hshape
    rw [hshape]
    simp only [run_freeze, Result.andThen_ok]
    congr 1
    unfold World.freeze
    simp only [Nat.one_ne_zero, if_false]
    congr 1
    apply Array.ext
    · simp
    · intro i h1 h2
      simp only [Array.getElem_modify, Array.getElem_push]
      by_cases hi : w.heap.size = i
      · subst hi; simp [vs]
      · have : i < w.heap.size := by simp at h2; omega
        simp [hi, this]
  · rw [hlen]
    have e1 : vs.toList.take s.size = (s.data.toList.map fun b => Value.int .u8 b.toNat) := by
      simp only [vs, Array.toList_append, Array.toList_map]
      rw [List.take_append_of_le_length (by simp)]
      exact take_all (by simp)
    rw [e1]
    have := Rep.plain (R := R) (p := p) (s.data.toList.map fun b => Value.int .u8 b.toNat)
    rw [List.map_map] at this
    exact this
  · refine .sl (b := w.heap.size) (o := 0) (s := vs.size) hp (by omega) (by simp) (fun _ => by omega) .nil

/-- a slice of constants that is taken as text's bytes: what lies behind its end is marked -/
theorem cvs_runs {base : Nat} (hs : Sim R p H w) {src e : TypeId} {x : Value} {m : Nm} {off len : Nat} {c : Option Nat} {es : Nat} {cs : Cells} (hu : P.underlying src = some (.slice e)) (he : P.underlying e = some (.int .u8))
    (hx : Rep1 R p (.sl m off len c es) x) (h0 : 0 < len) (hm : H m = some cs) :
    Runs P R p H w base (do pure (.value (← convert src src x))) ⟨.sl m off len c es, [], [(m, some cs)]⟩ := by
  have hx' := hx
  cases hx with
  | sl0 _ _ => omega
  | sl hp h1 h2 h3 _ =>
    rename_i b o s c' _
    obtain ⟨vs, T, fz, l⟩ := hs.at hm hp
    have hshape : World.shape? w b = some (T, vs.size) := by simp [World.shape?, l.heap]
    obtain ⟨fz', hfz'⟩ : ∃ fz', fz' = (if fz.1 == fz.2 then (vs.size, vs.size + 1) else (min fz.1 vs.size, max fz.2 (vs.size + 1))) := ⟨_, rfl⟩
    have hfree : fz'.1 = fz'.2 ∨ vs.size ≤ fz'.1 := by
      rw [hfz']
      by_cases hz : fz.1 = fz.2
      · rw [if_pos (by simpa using hz)]; exact .inr (Nat.le_refl _)
      · rw [if_neg (by simpa using hz)]
        rcases l.free with hz' | hz'
        · exact (hz hz').elim
        · right; simp only; omega
    have hw : (w.freeze ⟨b, vs.size, none⟩ 1).heap = w.heap.setIfInBounds b (.cells vs T fz') := by
      unfold World.freeze
      simp only [Nat.one_ne_zero, if_false]
      apply Array.ext
      · simp
      · intro i h1 h2
        have hi : i < w.heap.size := by simpa using h1
        simp only [Array.getElem_modify, Array.getElem_setIfInBounds hi]
        by_cases hb : b = i
        · subst hb
          have h5 : w.heap[b] = .cells vs T fz := by have := l.heap; rw [Array.getElem?_eq_getElem hi] at this; exact Option.some.inj this
          simp only [h5, if_true, hfz']
        · simp only [hb, if_false]
    have h4 := hs.writeZ (cs' := cs) hfree hm hp l rfl l.fits l.rep hw
    refine Runs.mk' (R' := R) (p' := p) (w' := w.freeze ⟨b, vs.size, none⟩ 1) (nx := .value (.slice (some ⟨b, o + off, none⟩) len c')) ?_ (.inl ⟨_, rfl, hx'⟩) ?_ (fun _ _ h => h) (fun _ _ h => .inl h)
    · apply v_run
      simp only [convert, Sem.run_bind, run_underlying hu, run_underlying he, Result.andThen_ok, beq_self_eq_true, markStringish, run_shape, hshape, run_freeze, Sem.run_pure]
    · rw [applyOut_none]
      exact h4

theorem mkslice_runs {base size bytes : Nat} (hs : Sim R p H w) (hn : p (base, 0) = none) {t e : TypeId} {k k' : IntKind} {l c : Nat} {z : Array Value} (hu : P.underlying t = some (.slice e))
    (h1 : szOf P e = some size) (h2 : bytesIn P e = some bytes) (h3 : zeroOf P e = some z) (h0 : 0 < size) (hz : z.size = size) (hlc : l ≤ c) (hb : c * bytes ≤ 2 ^ 47) (hc : c < 2 ^ 62) :
    Runs P R p H w base (do pure (.value (← Instr.makeSlice t (.int k l) (.int k' c)))) ⟨.sl (base, 0) 0 l (some c) size, [(List.replicate c (z.toList.map LV.v)).flatten], []⟩ := by
  obtain ⟨zv, hz1, hz2⟩ := run_zeroOf h3
  obtain ⟨i, hi1, hi2⟩ := run_bytesIn (w := w) h2
  let vs : Array Value := (Array.range (c * size)).map fun j => z[j % z.size]!
  have hvs : vs.toList = (List.replicate c z.toList).flatten := by
    simp only [vs]; rw [← hz]; exact zeros_eq z c (by omega)
  have hflat : (List.replicate c (z.toList.map LV.v)).flatten = (List.replicate c z.toList).flatten.map LV.v := by
    rw [List.map_flatten, List.map_replicate]
  have hlen : (List.replicate c (z.toList.map LV.v)).flatten.length = vs.size := by
    rw [hflat, List.length_map, ← hvs]; simp
  refine Runs.alloc (T := e) (fz := (0, 0)) (vs := vs) (v := .slice (some ⟨w.heap.size, 0, none⟩) l c) (w' := { w with heap := w.heap.push (.cells vs e (0, 0)) }) hs hn ?_ rfl (.inl rfl) (by omega) ?_ (fun p' hp => ?_)
  · apply v_run
    have w1 : IntKind.i64.wrap (l : Int) = l := by unfold IntKind.wrap; simp [IntKind.bits, IntKind.signed]; omega
    have w2 : IntKind.i64.wrap (c : Int) = c := by unfold IntKind.wrap; simp [IntKind.bits, IntKind.signed]; omega
    have hbn : bytes * c ≤ 2 ^ 47 := by rw [Nat.mul_comm]; exact hb
    have hbi : ((i.bytes : Int)) * (c : Int) ≤ 2 ^ 47 := by rw [hi2]; exact_mod_cast hbn
    simp only [Instr.makeSlice, Sem.run_bind, run_underlying hu, Result.andThen_ok, asInt, asIntOf, Sem.run_pure, hi1, w1, w2]
    rw [if_neg (by simp; omega)]
    simp only [Sem.run_bind, run_askRoom, Result.andThen_ok, run_szOf h1, Int.toNat_natCast]
    by_cases hcz : c * size = 0
    · have hc0 : c = 0 := by rcases Nat.mul_eq_zero.1 hcz with h | h <;> omega
      subst hc0
      simp [newRow, vs]
      congr 2
      apply Array.ext'
      simp
    · rw [if_neg hcz]
      simp only [Sem.run_bind, hz1, Result.andThen_ok, Sem.run_pure, hz2, newRow, run_newObj]
      rfl
  · rw [hlen, hflat]
    have : vs.toList.take vs.size = vs.toList := take_all (by simp)
    rw [this, ← hvs]
    exact Rep.plain _
  · by_cases hc0 : c = 0
    · obtain rfl : l = 0 := by omega
      subst hc0
      exact .sl0 (by simp) .nil
    · exact .sl (b := w.heap.size) (o := 0) (s := vs.size) hp hlc (by simp) (by simp) .nil

end Go.LE
