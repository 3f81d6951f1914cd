/- Soundness of the operations on memory: what a new block, a write, a freeze does to what memory stands for. -/
import Derived.Test.YtpkifhjlmkbdpaaDoorLeOpsPure3
set_option linter.unusedVariables false
set_option linter.unusedSimpArgs false
namespace Go.LE
variable {P : Program} {R : Imm} {p : Places} {gl : Nat → Option Cells} {H : Heap} {w : World}

def upd (H : Heap) (n : Nm) (x : Option Cells) : Heap := fun m => if m = n then x else H m

theorem modsAt_cons (H : Heap) (n : Nm) (x : Option Cells) (ms : List (Nm × Option Cells)) : modsAt H ((n, x) :: ms) = upd (modsAt H ms) n x := rfl

theorem applyOut_none (base : Nat) (v : LV) (H : Heap) (ms : List (Nm × Option Cells)) : applyOut base ⟨v, [], ms⟩ H = modsAt H ms := by
  funext m; simp [applyOut]

theorem applyOut_one (base : Nat) (v : LV) (cs : Cells) (H : Heap) (ms : List (Nm × Option Cells)) : applyOut base ⟨v, [cs], ms⟩ H = upd (modsAt H ms) (base, 0) (some cs) := by
  funext m
  simp only [applyOut, upd, List.length_cons, List.length_nil]
  obtain ⟨a, b⟩ := m
  by_cases h : a = base ∧ b < 1
  · obtain ⟨rfl, h⟩ := h
    obtain rfl : b = 0 := by omega
    simp
  · rw [if_neg (by simpa using h), if_neg (by intro e; injection e with e1 e2; subst e1 e2; simp at h)]

/-- what an operation is shown to do -/
structure Runs (P : Program) (R : Imm) (p : Places) (H : Heap) (w : World) (base : Nat) (m : Sem Next) (r : Out) : Prop where
  out : ∃ nx w' R' p', m.run P w = .ok nx w' ∧ ((∃ v, nx = .value v ∧ Rep1 R' p' r.val v) ∨ (nx = .skip ∧ r.val = .v (.tuple #[]))) ∧
    Sim R' p' (applyOut base r H) w' ∧ Ext R p H w R' p' (applyOut base r H) w' ∧ (∀ n x, p n = some x → p' n = some x) ∧ (∀ n x, p' n = some x → p n = some x ∨ n.1 = base)

theorem Runs.mk' {base : Nat} {m : Sem Next} {r : Out} {nx : Next} {w' : World} {R' : Imm} {p' : Places} (h1 : m.run P w = .ok nx w')
    (h2 : (∃ v, nx = .value v ∧ Rep1 R' p' r.val v) ∨ (nx = .skip ∧ r.val = .v (.tuple #[]))) (h3 : Sim R' p' (applyOut base r H) w' ∧ Ext R p H w R' p' (applyOut base r H) w')
    (h5 : ∀ n x, p n = some x → p' n = some x) (h6 : ∀ n x, p' n = some x → p n = some x ∨ n.1 = base) : Runs P R p H w base m r :=
  ⟨⟨nx, w', R', p', h1, h2, h3.1, h3.2, h5, h6⟩⟩

theorem Runs.pure {base : Nat} {m : Sem Next} {z : LV} (hs : Sim R p H w) (h : PureRun P R p m z) : Runs P R p H w base m ⟨z, [], []⟩ := by
  obtain ⟨v, h1, h2⟩ := h
  refine Runs.mk' (h1 w) (.inl ⟨v, rfl, h2⟩) ?_ (fun _ _ h => h) (fun _ _ h => .inl h)
  rw [applyOut_none]
  exact ⟨hs, Ext.refl _ _ _ _⟩

theorem Sim.dom (h : Sim R p H w) {n : Nm} (hn : p n = none) : H n = none := by
  cases hc : H n with
  | none => rfl
  | some cs =>
    rcases h.obj n cs hc with ⟨a, _⟩ | ⟨b, o, s, vs, T, fz, a, _⟩ <;> rw [hn] at a <;> cases a

/-- a place for one name more -/
def at1 (p : Places) (n : Nm) (x : Base) : Places := fun m => if m = n then some x else p m

theorem at1_mono {n : Nm} {x : Base} (hn : p n = none) : ∀ m y, p m = some y → at1 p n x m = some y := by
  intro m y hm
  unfold at1
  by_cases e : m = n
  · subst e; rw [hn] at hm; cases hm
  · rw [if_neg e]; exact hm

/-- a new block -/
theorem Sim.alloc (h : Sim R p H w) {n : Nm} (hn : p n = none) {vs : Array Value} {T : TypeId} {fz : Nat × Nat} {w' : World} (hw : w'.heap = w.heap.push (.cells vs T fz))
    (hf : fz.1 = fz.2 ∨ vs.size ≤ fz.1) {cs : Cells} (hl : cs.length ≤ vs.size) (hr : Rep R p cs (vs.toList.take cs.length))
    (hio : w'.os = w.os ∧ w'.output = w.output ∧ w'.tape = w.tape := by exact ⟨rfl, rfl, rfl⟩) :
    Sim R (at1 p n (.at w.heap.size 0 vs.size)) (upd H n (some cs)) w' ∧ Ext R p H w R (at1 p n (.at w.heap.size 0 vs.size)) (upd H n (some cs)) w' := by
  have hp := at1_mono (x := .at w.heap.size 0 vs.size) hn
  have old : ∀ b, b < w.heap.size → w'.heap[b]? = w.heap[b]? := by
    intro b hb
    rw [hw, Array.getElem?_push_lt hb, Array.getElem?_eq_getElem hb]
  have immLt : ∀ b cs, R b = some cs → b < w.heap.size := by
    intro b cs hb
    obtain ⟨vs, T, fz, h1, _⟩ := h.imm b cs hb
    exact (Array.getElem?_eq_some_iff.1 h1).1
  have newImm : R w.heap.size = none := by
    cases hb : R w.heap.size with
    | none => rfl
    | some cs => exact absurd (immLt _ _ hb) (by omega)
  refine ⟨⟨?_, ?_, ?_⟩, ⟨fun _ _ h => h, by rw [hw]; simp, fun b hb _ => old b hb, fun _ _ h => .inl h, ?_, hio⟩⟩
  · intro m ds hm
    unfold upd at hm
    by_cases e : m = n
    · rw [if_pos e] at hm
      obtain rfl := Option.some.inj hm
      refine .inr ⟨w.heap.size, 0, vs.size, vs, T, fz, by simp [at1, e], ?_, newImm, hf, by simp, hl, ?_⟩
      · rw [hw]; simp
      · simpa using hr.mono (fun _ _ h => h) hp
    · rw [if_neg e] at hm
      rcases h.obj m ds hm with ⟨a, c⟩ | ⟨b, o, s, us, T', fz', a, l⟩
      · exact .inl ⟨hp _ _ a, c⟩
      · exact .inr ⟨b, o, s, us, T', fz', hp _ _ a, l.mono (fun _ _ h => h) hp (old b l.lt) l.imm⟩
  · intro m m' cs1 cs2 b o s o' s' h1 h2 h3 h4
    unfold upd at h1 h2
    unfold at1 at h3 h4
    have lt : ∀ m ds b o s, H m = some ds → p m = some (.at b o s) → b < w.heap.size := by
      intro m ds b o s e1 e2
      rcases h.obj m ds e1 with ⟨a, c⟩ | ⟨b', o', s', us, T', fz', a, l⟩
      · rw [a] at e2; cases e2
      · rw [a] at e2; cases e2; exact l.lt
    by_cases e : m = n <;> by_cases e' : m' = n
    · rw [e, e']
    · rw [if_pos e] at h3; rw [if_neg e'] at h2 h4; cases h3; exact absurd (lt _ _ _ _ _ h2 h4) (by omega)
    · rw [if_neg e] at h1 h3; rw [if_pos e'] at h4; cases h4; exact absurd (lt _ _ _ _ _ h1 h3) (by omega)
    · rw [if_neg e] at h1 h3; rw [if_neg e'] at h2 h4; exact h.inj m m' _ _ _ _ _ _ _ h1 h2 h3 h4
  · intro b cs hb
    obtain ⟨us, T', fz', h1, h2⟩ := h.imm b cs hb
    exact ⟨us, T', fz', by rw [old b (immLt b cs hb)]; exact h1, h2⟩
  · rintro b ⟨m, ds, o, s, h1, h2⟩
    unfold upd at h1
    unfold at1 at h2
    by_cases e : m = n
    · rw [if_pos e] at h2; cases h2; exact .inr (Nat.le_refl _)
    · rw [if_neg e] at h1 h2; exact .inl ⟨m, ds, o, s, h1, h2⟩

/-- an object's cells are written -/
theorem Sim.writeZ (h : Sim R p H w) {m : Nm} {cs cs' : Cells} {b o s : Nat} {vs vs' : Array Value} {T : TypeId} {fz fz' : Nat × Nat} (hfz : fz'.1 = fz'.2 ∨ vs.size ≤ fz'.1) (hm : H m = some cs) (hp : p m = some (.at b o s))
    (hl : Lies R p w cs b o s vs T fz) (hs : vs'.size = vs.size) (hc : cs'.length ≤ s) (hr : Rep R p cs' ((vs'.toList.drop o).take cs'.length)) {w' : World}
    (hw : w'.heap = w.heap.setIfInBounds b (.cells vs' T fz')) (hio : w'.os = w.os ∧ w'.output = w.output ∧ w'.tape = w.tape := by exact ⟨rfl, rfl, rfl⟩) : Sim R p (upd H m (some cs')) w' ∧ Ext R p H w R p (upd H m (some cs')) w' := by
  have old : ∀ c, c ≠ b → w'.heap[c]? = w.heap[c]? := by
    intro c hc
    rw [hw, Array.getElem?_setIfInBounds_ne (Ne.symm hc)]
  have here : w'.heap[b]? = some (.cells vs' T fz') := by rw [hw]; simp [hl.lt]
  refine ⟨⟨?_, ?_, ?_⟩, ⟨fun _ _ h => h, by rw [hw]; simp, ?_, fun _ _ h => .inl h, ?_, hio⟩⟩
  · intro n ds hn
    unfold upd at hn
    by_cases e : n = m
    · rw [if_pos e] at hn
      obtain rfl := Option.some.inj hn
      subst e
      exact .inr ⟨b, o, s, vs', T, fz', hp, here, hl.imm, by rw [hs]; exact hfz, by rw [hs]; exact hl.size, hc, hr⟩
    · rw [if_neg e] at hn
      rcases h.obj n ds hn with ⟨a, c⟩ | ⟨b', o', s', us, T', fz', a, l⟩
      · exact .inl ⟨a, c⟩
      · have hb : b' ≠ b := fun eb => by subst eb; exact e (h.inj n m ds cs _ _ _ _ _ hn hm a hp)
        exact .inr ⟨b', o', s', us, T', fz', a, l.mono (fun _ _ h => h) (fun _ _ h => h) (old b' hb) l.imm⟩
  · intro n n' cs1 cs2 b1 o1 s1 o2 s2 h1 h2 h3 h4
    have get : ∀ n ds, upd H m (some cs') n = some ds → ∃ ds', H n = some ds' := by
      intro n ds e
      unfold upd at e
      by_cases en : n = m
      · subst en; exact ⟨cs, hm⟩
      · rw [if_neg en] at e; exact ⟨ds, e⟩
    obtain ⟨d1, e1⟩ := get _ _ h1
    obtain ⟨d2, e2⟩ := get _ _ h2
    exact h.inj n n' _ _ _ _ _ _ _ e1 e2 h3 h4
  · intro c ds hc
    have hb : c ≠ b := fun e => by subst e; rw [hl.imm] at hc; cases hc
    obtain ⟨us, T', fz', h1, h2⟩ := h.imm c ds hc
    exact ⟨us, T', fz', by rw [old c hb]; exact h1, h2⟩
  · intro c _ hn
    exact old c (fun e => by subst e; exact hn ⟨m, cs, o, s, hm, hp⟩)
  · rintro c ⟨n, ds, o', s', h1, h2⟩
    unfold upd at h1
    by_cases e : n = m
    · subst e; exact .inl ⟨n, cs, o', s', hm, h2⟩
    · rw [if_neg e] at h1; exact .inl ⟨n, ds, o', s', h1, h2⟩

theorem Sim.write (h : Sim R p H w) {m : Nm} {cs cs' : Cells} {b o s : Nat} {vs vs' : Array Value} {T : TypeId} {fz : Nat × Nat} (hm : H m = some cs) (hp : p m = some (.at b o s))
    (hl : Lies R p w cs b o s vs T fz) (hs : vs'.size = vs.size) (hc : cs'.length ≤ s) (hr : Rep R p cs' ((vs'.toList.drop o).take cs'.length)) {w' : World}
    (hw : w'.heap = w.heap.setIfInBounds b (.cells vs' T fz)) (hio : w'.os = w.os ∧ w'.output = w.output ∧ w'.tape = w.tape := by exact ⟨rfl, rfl, rfl⟩) : Sim R p (upd H m (some cs')) w' ∧ Ext R p H w R p (upd H m (some cs')) w' := h.writeZ hl.free hm hp hl hs hc hr hw hio


/-- an object is let go, or is never written from now on -/
theorem Sim.freeze (h : Sim R p H w) {m : Nm} {cs : Cells} {b o s : Nat} {vs : Array Value} {T : TypeId} {fz : Nat × Nat} (hm : H m = some cs) (hp : p m = some (.at b o s))
    (hl : Lies R p w cs b o s vs T fz) : Sim (fun c => if c = b then some vs.toList else R c) p (upd H m none) w ∧
      Ext R p H w (fun c => if c = b then some vs.toList else R c) p (upd H m none) w := by
  have hR : ∀ c ds, R c = some ds → (fun c => if c = b then some vs.toList else R c) c = some ds := by
    intro c ds hc
    have : c ≠ b := fun e => by subst e; rw [hl.imm] at hc; cases hc
    simp [this, hc]
  have sub : ∀ n ds, upd H m none n = some ds → n ≠ m ∧ H n = some ds := by
    intro n ds hn
    unfold upd at hn
    by_cases e : n = m
    · rw [if_pos e] at hn; cases hn
    · rw [if_neg e] at hn; exact ⟨e, hn⟩
  refine ⟨⟨?_, ?_, ?_⟩, ⟨hR, Nat.le_refl _, fun _ _ _ => rfl, ?_, ?_, rfl, rfl, rfl⟩⟩
  · intro n ds hn
    obtain ⟨e, hn⟩ := sub n ds hn
    rcases h.obj n ds hn with ⟨a, c⟩ | ⟨b', o', s', us, T', fz', a, l⟩
    · exact .inl ⟨a, c⟩
    · have hb : b' ≠ b := fun eb => by subst eb; exact e (h.inj n m ds cs _ _ _ _ _ hn hm a hp)
      exact .inr ⟨b', o', s', us, T', fz', a, l.mono hR (fun _ _ h => h) rfl (by simp [hb, l.imm])⟩
  · intro n n' cs1 cs2 b1 o1 s1 o2 s2 h1 h2 h3 h4
    exact h.inj n n' _ _ _ _ _ _ _ (sub _ _ h1).2 (sub _ _ h2).2 h3 h4
  · intro c ds hc
    by_cases e : c = b
    · subst e
      simp at hc
      exact ⟨vs, T, fz, hl.heap, hc⟩
    · simp [e] at hc
      exact h.imm c ds hc
  · intro c ds hc
    by_cases e : c = b
    · subst e; exact .inr (.inr ⟨m, cs, o, s, hm, hp⟩)
    · simp [e] at hc; exact .inl hc
  · rintro c ⟨n, ds, o', s', h1, h2⟩
    exact .inl ⟨n, ds, o', s', (sub _ _ h1).2, h2⟩

theorem Sim.remove (h : Sim R p H w) (m : Nm) : Sim R p (upd H m none) w ∧ Ext R p H w R p (upd H m none) w := by
  have sub : ∀ n ds, upd H m none n = some ds → H n = some ds := by
    intro n ds hn
    unfold upd at hn
    by_cases e : n = m
    · rw [if_pos e] at hn; cases hn
    · rw [if_neg e] at hn; exact hn
  refine ⟨h.sub sub, ⟨fun _ _ h => h, Nat.le_refl _, fun _ _ _ => rfl, fun _ _ h => .inl h, ?_, rfl, rfl, rfl⟩⟩
  rintro c ⟨n, ds, o', s', h1, h2⟩
  exact .inl ⟨n, ds, o', s', sub _ _ h1, h2⟩

/-- an object takes another name, and its room from a later cell on; what it stood for goes -/
theorem Sim.rename (h : Sim R p H w) {m n : Nm} (hn : p n = none) {cs cs' : Cells} {b o s off : Nat} {vs : Array Value} {T : TypeId} {fz : Nat × Nat} (hm : H m = some cs) (hp : p m = some (.at b o s))
    (hl : Lies R p w cs b o s vs T fz) (ho : off ≤ s) (hc : cs'.length + off ≤ s) (hr : Rep R p cs' ((vs.toList.drop (o + off)).take cs'.length)) :
    Sim R (at1 p n (.at b (o + off) (s - off))) (upd (upd H m none) n (some cs')) w ∧ Ext R p H w R (at1 p n (.at b (o + off) (s - off))) (upd (upd H m none) n (some cs')) w := by
  have hp' := at1_mono (x := .at b (o + off) (s - off)) hn
  have hmn : m ≠ n := fun e => by subst e; rw [hn] at hp; cases hp
  have get : ∀ k ds, upd (upd H m none) n (some cs') k = some ds → (k = n ∧ ds = cs') ∨ (k ≠ n ∧ k ≠ m ∧ H k = some ds) := by
    intro k ds hk
    unfold upd at hk
    by_cases e : k = n
    · rw [if_pos e] at hk; exact .inl ⟨e, (Option.some.inj hk).symm⟩
    · rw [if_neg e] at hk
      by_cases e' : k = m
      · rw [if_pos e'] at hk; cases hk
      · rw [if_neg e'] at hk; exact .inr ⟨e, e', hk⟩
  refine ⟨⟨?_, ?_, h.imm⟩, ⟨fun _ _ h => h, Nat.le_refl _, fun _ _ _ => rfl, fun _ _ h => .inl h, ?_, rfl, rfl, rfl⟩⟩
  · intro k ds hk
    rcases get k ds hk with ⟨rfl, rfl⟩ | ⟨e, e', hk⟩
    · refine .inr ⟨b, o + off, s - off, vs, T, fz, by simp [at1], hl.heap, hl.imm, hl.free, ?_, by omega, hr.mono (fun _ _ h => h) hp'⟩
      have := hl.size; omega
    · rcases h.obj k ds hk with ⟨a, c⟩ | ⟨b', o', s', us, T', fz', a, l⟩
      · exact .inl ⟨hp' _ _ a, c⟩
      · exact .inr ⟨b', o', s', us, T', fz', hp' _ _ a, l.mono (fun _ _ h => h) hp' rfl l.imm⟩
  · intro k k' cs1 cs2 b1 o1 s1 o2 s2 h1 h2 h3 h4
    unfold at1 at h3 h4
    rcases get k _ h1 with ⟨rfl, rfl⟩ | ⟨e, e', hk⟩ <;> rcases get k' _ h2 with ⟨rfl, rfl⟩ | ⟨f, f', hk'⟩
    · rfl
    · rw [if_pos rfl] at h3; rw [if_neg f] at h4; cases h3
      exact absurd (h.inj k' m _ _ _ _ _ _ _ hk' hm h4 hp) f'
    · rw [if_neg e] at h3; rw [if_pos rfl] at h4; cases h4
      exact absurd (h.inj k m _ _ _ _ _ _ _ hk hm h3 hp) e'
    · rw [if_neg e] at h3; rw [if_neg f] at h4
      exact h.inj k k' _ _ _ _ _ _ _ hk hk' h3 h4
  · rintro c ⟨k, ds, o', s', h1, h2⟩
    unfold at1 at h2
    rcases get k _ h1 with ⟨rfl, rfl⟩ | ⟨e, e', hk⟩
    · rw [if_pos rfl] at h2; cases h2; exact .inl ⟨m, cs, o, s, hm, hp⟩
    · rw [if_neg e] at h2; exact .inl ⟨k, ds, o', s', hk, h2⟩

/-- a name for an object that has no cells and lies nowhere -/
theorem Sim.nowhere (h : Sim R p H w) {n : Nm} (hn : p n = none) : Sim R (at1 p n .nowhere) (upd H n (some [])) w ∧ Ext R p H w R (at1 p n .nowhere) (upd H n (some [])) w := by
  have hp' := at1_mono (x := .nowhere) hn
  refine ⟨⟨?_, ?_, h.imm⟩, ⟨fun _ _ h => h, Nat.le_refl _, fun _ _ _ => rfl, fun _ _ h => .inl h, ?_, rfl, rfl, rfl⟩⟩
  · intro k ds hk
    unfold upd at hk
    by_cases e : k = n
    · rw [if_pos e] at hk; exact .inl ⟨by simp [at1, e], (Option.some.inj hk).symm⟩
    · rw [if_neg e] at hk
      rcases h.obj k ds hk with ⟨a, c⟩ | ⟨b', o', s', us, T', fz', a, l⟩
      · exact .inl ⟨hp' _ _ a, c⟩
      · exact .inr ⟨b', o', s', us, T', fz', hp' _ _ a, l.mono (fun _ _ h => h) hp' rfl l.imm⟩
  · intro k k' cs1 cs2 b1 o1 s1 o2 s2 h1 h2 h3 h4
    unfold at1 at h3 h4
    unfold upd at h1 h2
    by_cases e : k = n
    · rw [if_pos e] at h3; cases h3
    · by_cases e' : k' = n
      · rw [if_pos e'] at h4; cases h4
      · rw [if_neg e] at h1 h3; rw [if_neg e'] at h2 h4
        exact h.inj k k' _ _ _ _ _ _ _ h1 h2 h3 h4
  · rintro c ⟨k, ds, o', s', h1, h2⟩
    unfold at1 at h2
    unfold upd at h1
    by_cases e : k = n
    · rw [if_pos e] at h2; cases h2
    · rw [if_neg e] at h1 h2; exact .inl ⟨k, ds, o', s', h1, h2⟩

end Go.LE
