/- Soundness of the operations on memory: loads, stores, what is made, texts. -/
import Derived.Test.YtpkifhjlmkbdpaaDoorLeOpsHeap
import Derived.Laws.BytesString
set_option linter.unusedVariables false
set_option linter.unusedSimpArgs false
namespace Go.LE
variable {P : Program} {R : Imm} {p : Places} {gl : Nat → Option Cells} {H : Heap} {w : World}

theorem Sim.at (h : Sim R p H w) {n : Nm} {cs : Cells} {b o s : Nat} (hn : H n = some cs) (hp : p n = some (.at b o s)) :
    ∃ vs T fz, Lies R p w cs b o s vs T fz := by
  rcases h.obj n cs hn with ⟨a, _⟩ | ⟨b', o', s', vs, T, fz, a, l⟩
  · rw [hp] at a; cases a
  · rw [hp] at a; cases a; exact ⟨vs, T, fz, l⟩

theorem Lies.seg {cs : Cells} {b o s : Nat} {vs : Array Value} {T : TypeId} {fz : Nat × Nat} (l : Lies R p w cs b o s vs T fz) {off n : Nat} (h : off + n ≤ cs.length) :
    Rep R p ((cs.drop off).take n) ((vs.toList.drop (o + off)).take n) := by
  have := (l.rep.drop off).take n
  rw [List.drop_take, List.drop_drop, List.take_take] at this
  rwa [Nat.min_eq_left (by omega)] at this

theorem Lies.bound {cs : Cells} {b o s : Nat} {vs : Array Value} {T : TypeId} {fz : Nat × Nat} (l : Lies R p w cs b o s vs T fz) {off n : Nat} (h : off + n ≤ cs.length) : o + off + n ≤ vs.size := by
  have := l.size; have := l.fits; omega

theorem imm_bound {cs : List Value} {o n : Nat} {as : List LV} (h : Rep R p as ((cs.drop o).take as.length)) (hn : n ≤ as.length) : n = 0 ∨ o + n ≤ cs.length := by
  have := h.length
  simp at this
  omega

/-- what is read at a place -/
theorem cellAt_rep (hs : Sim R p H w) {n : Nat} {X : LV} {x : Value} {ys : Cells} (hx : Rep1 R p X x) (hy : cellAt H n X = some ys) :
    ∃ b o vs T fz, x = .pointer (some ⟨b, o, none⟩) ∧ w.heap[b]? = some (.cells vs T fz) ∧ (n = 0 ∨ o + n ≤ vs.size) ∧ Rep R p ys ((vs.toList.drop o).take n) := by
  unfold cellAt at hy
  split at hy
  · rename_i m off
    split at hy
    · rename_i cs hm
      split at hy
      · rename_i hb
        obtain rfl := Option.some.inj hy
        cases hx with
        | ptr hp _ =>
          obtain ⟨vs, T, fz, l⟩ := hs.at hm hp
          exact ⟨_, _, vs, T, fz, rfl, l.heap, .inr (l.bound hb), l.seg hb⟩
      · cases hy
    · cases hy
  · split at hy
    · rename_i xs hb
      obtain rfl := Option.some.inj hy
      cases hx with
      | ipt hR hr _ =>
        obtain ⟨vs, T, fz, h1, h2⟩ := hs.imm _ _ hR
        refine ⟨_, _, vs, T, fz, rfl, h1, ?_, ?_⟩
        · have := imm_bound hr hb
          rw [← h2] at this
          simpa using this
        · have := hr.take n
          rw [List.take_take, Nat.min_eq_left hb, ← h2] at this
          exact this
    · cases hy
  · cases hy

theorem run_loadCells' {b o n : Nat} {vs : Array Value} {T : TypeId} {fz : Nat × Nat} (h : w.heap[b]? = some (.cells vs T fz)) (hb : n = 0 ∨ o + n ≤ vs.size) :
    (loadCells ⟨b, o, none⟩ n).run P w = .ok ((vs.toList.drop o).take n).toArray w := by
  rcases hb with rfl | hb
  · simp [loadCells, loadCellsFrom]
  · exact run_loadCells h hb

/-- the first elements of a slice or text -/
theorem front_rep (hs : Sim R p H w) {size n : Nat} {X : LV} {x : Value} {ys : Cells} (hx : Rep1 R p X x) (hy : front H size n X = some ys) :
    ∃ zs : Array Value, (∀ w' : World, w'.heap = w.heap → (Builtin.firstCells size n x).run P w' = .ok zs w') ∧ Rep R p ys zs.toList := by
  have zero : ∀ a : Option Addr, ∀ l c : Nat, n = 0 → ∀ w' : World, w'.heap = w.heap → (Builtin.firstCells size n (.slice a l c)).run P w' = .ok #[] w' := by
    intro a l c h0 w' _
    subst h0
    cases a <;> simp [Builtin.firstCells, loadCells, loadCellsFrom]
  unfold front at hy
  split at hy
  · rename_i m off len cap es
    split at hy
    · rename_i h0
      obtain rfl := Option.some.inj hy
      cases hx <;> exact ⟨#[], zero _ _ _ h0, .nil⟩
    · rename_i h0
      split at hy
      · rename_i hlen
        split at hy
        · rename_i cs hm
          split at hy
          · rename_i hb
            obtain rfl := Option.some.inj hy
            cases hx with
            | sl0 _ _ => omega
            | sl hp hl hk hsz _ =>
              obtain ⟨vs, T, fz, l⟩ := hs.at hm hp
              exact ⟨_, fun w' hw => run_loadCells (by rw [hw]; exact l.heap) (l.bound hb), by simpa using l.seg hb⟩
          · cases hy
        · cases hy
      · cases hy
  · rename_i xs len
    split at hy
    · rename_i h0
      obtain rfl := Option.some.inj hy
      cases hx <;> exact ⟨#[], zero _ _ _ h0, .nil⟩
    · rename_i h0
      split at hy
      · rename_i hb
        obtain rfl := Option.some.inj hy
        cases hx with
        | isl0 _ => omega
        | isl hR hr hl _ =>
          obtain ⟨vs, T, fz, h1, h2⟩ := hs.imm _ _ hR
          have hbd := imm_bound hr hb.2
          rw [← h2] at hbd hr
          have h3 := hr.take (n * size)
          rw [List.take_take, Nat.min_eq_left hb.2] at h3
          exact ⟨_, fun w' hw => run_loadCells' (by rw [hw]; exact h1) (by simpa using hbd), by simpa using h3⟩
      · cases hy
  · split at hy
    · rename_i h0
      obtain rfl := Option.some.inj hy
      cases hx
      exact ⟨#[], zero _ _ _ h0, .nil⟩
    · cases hy
  · rename_i s
    split at hy
    · rename_i hb
      obtain rfl := Option.some.inj hy
      cases hx
      refine ⟨_, fun w' _ => rfl, ?_⟩
      have e : ((s.extract 0 n).data.map fun b => Value.int .u8 b.toNat).toList = (s.data.toList.take n).map fun b => Value.int .u8 b.toNat := by
        simp [ByteArray.data_extract, List.extract_eq_take_drop]
      rw [e]
      have := Rep.plain (R := R) (p := p) ((s.data.toList.take n).map fun b => Value.int .u8 b.toNat)
      rw [List.map_map] at this
      exact this
    · cases hy
  · cases hy

theorem lenOf_rep {X : LV} {x : Value} {k : Nat} (hx : Rep1 R p X x) (hy : lenOf X = some k) : ∀ w : World, (Builtin.lenOf x).run P w = .ok k w := by
  intro w
  cases hx <;> simp [lenOf] at hy <;> (try (subst hy; rfl))
  cases x <;> try (simp at hy; done)
  · simp at hy; subst hy; rfl
  · rename_i a n c
    cases a <;> simp at hy
    subst hy; rfl

theorem bytes_run : ∀ (cs : Cells) (vs : List Value) (bs : List UInt8), Rep R p cs vs → bytesOf cs = some bs → ∃ ns : List Int, vs = ns.map (Value.int .u8) ∧ bs = ns.map fun n => UInt8.ofNat n.toNat := by
  intro cs
  induction cs with
  | nil => intro vs bs h hb; cases h; simp [bytesOf] at hb; exact ⟨[], rfl, by simp [hb]⟩
  | cons c cs ih =>
    intro vs bs h hb
    obtain ⟨v, vs, rfl, h1, h2⟩ := h.uncons
    unfold bytesOf at hb
    split at hb
    · rename_i heq; cases heq
    · rename_i n rest heq
      injection heq with e1 e2
      subst e1 e2
      simp only [Option.map_eq_some_iff] at hb
      obtain ⟨bs', hb, rfl⟩ := hb
      obtain ⟨ns, rfl, rfl⟩ := ih vs bs' h2 hb
      cases h1
      exact ⟨n :: ns, rfl, rfl⟩
    · cases hb

theorem foldl_push : ∀ (ns : List Int) (s : ByteArray), (ns.foldl (fun r n => r.push (UInt8.ofNat n.toNat)) s) = ⟨s.data ++ (ns.map fun n => UInt8.ofNat n.toNat).toArray⟩
  | [], s => by simp
  | n :: ns, s => by
    rw [List.foldl_cons, foldl_push ns]
    simp [ByteArray.push]


theorem bytesToString_run {vs : List Value} {bs : List UInt8} {cs : Cells} {a : Addr} {len cap : Nat} (hr : Rep R p cs vs) (hb : bytesOf cs = some bs)
    (hl : (loadCells a len).run P w = .ok vs.toArray w) : (Conv.bytesToString (.slice (some a) len cap)).run P w = .ok (.string ⟨bs.toArray⟩) w := by
  obtain ⟨ns, rfl, rfl⟩ := bytes_run cs vs bs hr hb
  rw [run_bytesToString w a len cap ns hl, foldl_push]
  simp [ByteArray.empty, ByteArray.emptyWithCapacity]
  rfl

/-- a new row of cells, and what else an operation has turned in the world -/
theorem Runs.alloc {base : Nat} {m : Sem Next} {val : LV} {v : Value} {cs : Cells} {vs : Array Value} {T : TypeId} {fz : Nat × Nat} {w' : World} (hs : Sim R p H w) (hn : p (base, 0) = none)
    (hrun : m.run P w = .ok (.value v) w') (hw : w'.heap = w.heap.push (.cells vs T fz)) (hf : fz.1 = fz.2 ∨ vs.size ≤ fz.1) (hl : cs.length ≤ vs.size) (hr : Rep R p cs (vs.toList.take cs.length))
    (hv : ∀ p' : Places, p' (base, 0) = some (.at w.heap.size 0 vs.size) → Rep1 R p' val v)
    (hio : w'.os = w.os ∧ w'.output = w.output ∧ w'.tape = w.tape := by exact ⟨rfl, rfl, rfl⟩) : Runs P R p H w base m ⟨val, [cs], []⟩ := by
  refine Runs.mk' hrun (.inl ⟨v, rfl, hv (at1 p (base, 0) (.at w.heap.size 0 vs.size)) (by simp [at1])⟩) ?_ (at1_mono hn) (fun n x h => ?_)
  · rw [applyOut_one]
    exact hs.alloc hn hw hf hl hr hio
  · unfold at1 at h
    by_cases e : n = (base, 0)
    · exact .inr (by rw [e])
    · rw [if_neg e] at h; exact .inl h

theorem take_all {α : Type} {l : List α} {n : Nat} (h : n = l.length) : l.take n = l := by subst h; exact List.take_length

theorem zeros_eq (z : Array Value) : ∀ k : Nat, 0 < z.size → ((Array.range (k * z.size)).map fun i => z[i % z.size]!).toList = (List.replicate k z.toList).flatten := by
  intro k hz
  induction k with
  | zero => simp
  | succ k ih =>
    rw [List.replicate_succ', List.flatten_append, ← ih, Nat.succ_mul]
    apply List.ext_getElem
    · simp
    · intro i h1 h2
      simp only [Array.toList_map, Array.toList_range, List.getElem_map, List.getElem_range]
      by_cases hi : i < k * z.size
      · rw [List.getElem_append_left (by simpa using hi)]
        simp
      · have h3 : i < k * z.size + z.size := by simpa using h1
        rw [List.getElem_append_right (by simpa using hi)]
        have h4 : i % z.size = i - k * z.size := by
          obtain ⟨d, hd⟩ : ∃ d, i = k * z.size + d := ⟨i - k * z.size, by omega⟩
          subst hd
          rw [Nat.mul_comm, Nat.mul_add_mod, Nat.mod_eq_of_lt (by omega), Nat.add_sub_cancel_left]
        simp [h4, getElem!_pos z (i - k * z.size) (by omega)]
end Go.LE
