/- The machine's own runs over memory and types, as the reckoner's soundness needs them. -/
import Derived.Test.YtpkifhjlmkbdpaaDoorLeRep
import Derived.Test.YtpkifhjlmkbdpaaDoorLeComp
import Derived.Laws.Sem
import Derived.Laws.World
import Derived.Laws.Entries
set_option linter.unusedVariables false
set_option linter.unusedSimpArgs false
namespace Go.LE
variable {P : Program} {w : World}

theorem run_szOf {t : TypeId} {n : Nat} (h : szOf P t = some n) : (sizeOf t).run P w = .ok n w := by
  unfold szOf at h
  cases hi : P.info? t with
  | none => simp [hi] at h
  | some i => simp [hi] at h; subst h; simp [sizeOf, typeInfo, hi]

theorem run_info {t : TypeId} {i : TypeInfo} (h : P.info? t = some i) : (typeInfo t).run P w = .ok i w := by simp [typeInfo, h]

theorem run_bytesIn {t : TypeId} {n : Nat} (h : bytesIn P t = some n) : ∃ i, (typeInfo t).run P w = .ok i w ∧ i.bytes = n := by
  unfold bytesIn at h
  cases hi : P.info? t with
  | none => simp [hi] at h
  | some i => simp [hi] at h; exact ⟨i, run_info hi, h⟩

theorem run_zeroOf {t : TypeId} {z : Array Value} (h : zeroOf P t = some z) : ∃ v, (∀ w, (zeroValue t).run P w = .ok v w) ∧ v.cells = z := by
  unfold zeroOf at h
  cases hi : P.info? t with
  | none => simp [hi] at h
  | some i =>
    cases hz : i.zero with
    | none => simp [hi, hz] at h
    | some v => simp [hi, hz] at h; exact ⟨v, fun w => by simp [zeroValue, typeInfo, hi, hz], h⟩

theorem run_isAggT {t : TypeId} {b : Bool} (h : isAggT P t = some b) : (isAgg t).run P w = .ok b w := by
  unfold isAggT at h
  cases hu : P.underlying t with
  | none => simp [hu] at h
  | some d => cases d <;> simp [hu] at h <;> subst h <;> simp [isAgg, run_underlying hu]

theorem cell_of {b o : Nat} {vs : Array Value} {T : TypeId} {fz : Nat × Nat} (h : w.heap[b]? = some (.cells vs T fz)) : w.cell? ⟨b, o, none⟩ = vs[o]? := by
  simp [World.cell?, h]

theorem frozen_of {b o : Nat} {vs : Array Value} {T : TypeId} {fz : Nat × Nat} (h : w.heap[b]? = some (.cells vs T fz)) (hf : fz.2 ≤ fz.1 ∨ vs.size ≤ fz.1) (ho : o < vs.size) :
    w.frozen? ⟨b, o, none⟩ = false := by
  obtain ⟨lo, hi⟩ := fz
  simp only [World.frozen?, h]
  simp at hf ⊢
  omega

theorem run_loadCellsFrom {b o : Nat} {vs : Array Value} {T : TypeId} {fz : Nat × Nat} (h : w.heap[b]? = some (.cells vs T fz)) :
    ∀ (n i : Nat) (acc : Array Value), o + i + n ≤ vs.size →
      (loadCellsFrom ⟨b, o, none⟩ i n acc).run P w = .ok (acc ++ ((vs.toList.drop (o + i)).take n).toArray) w := by
  intro n
  induction n with
  | zero => intro i acc _; simp [loadCellsFrom]
  | succ n ih =>
    intro i acc hb
    have hlt : o + i < vs.size := by omega
    have hc : w.cell? (Addr.add ⟨b, o, none⟩ i) = some vs[o + i] := by
      rw [Addr.add_lit, cell_of h, Array.getElem?_eq_getElem hlt]
    simp only [loadCellsFrom, Sem.run_bind, run_load, hc, Result.andThen_ok]
    rw [ih (i + 1) _ (by omega)]
    congr 1
    have e : vs.toList.drop (o + i) = vs[o + i] :: vs.toList.drop (o + (i + 1)) := by
      rw [List.drop_eq_getElem_cons (by simpa using hlt)]
      simp [Nat.add_assoc]
    rw [e, List.take_succ_cons]
    apply Array.ext'
    simp

theorem run_loadCells {b o n : Nat} {vs : Array Value} {T : TypeId} {fz : Nat × Nat} (h : w.heap[b]? = some (.cells vs T fz)) (hb : o + n ≤ vs.size) :
    (loadCells ⟨b, o, none⟩ n).run P w = .ok ((vs.toList.drop o).take n).toArray w := by
  have := run_loadCellsFrom (P := P) h n 0 #[] (by simpa using hb)
  simpa [loadCells] using this

/-- a world with another block -/
def setBlk (w : World) (b : Nat) (o : Obj) : World := { w with heap := w.heap.setIfInBounds b o }

def spliceV (vs : Array Value) (o : Nat) (l : List Value) : Array Value := (vs.toList.take o ++ l ++ vs.toList.drop (o + l.length)).toArray

theorem spliceV_size {vs : Array Value} {o : Nat} {l : List Value} (h : o + l.length ≤ vs.size) : (spliceV vs o l).size = vs.size := by
  simp [spliceV]; omega

theorem setBlk_same {w : World} {b : Nat} {x : Obj} (h : w.heap[b]? = some x) : setBlk w b x = w := by
  obtain ⟨hlt, he⟩ := Array.getElem?_eq_some_iff.1 h
  unfold setBlk
  have : w.heap.setIfInBounds b x = w.heap := by
    apply Array.ext'
    simp only [Array.toList_setIfInBounds]
    rw [← he]
    exact List.set_getElem_self (by simpa using hlt)
  rw [this]

theorem run_storeCells {b : Nat} {T : TypeId} {fz : Nat × Nat} : ∀ (l : List Value) (i o : Nat) (vs : Array Value) (w : World), w.heap[b]? = some (.cells vs T fz) →
    (fz.2 ≤ fz.1 ∨ vs.size ≤ fz.1) → o + i + l.length ≤ vs.size → (∀ v ∈ l, v.oneCell' = true) →
      (storeCells ⟨b, o, none⟩ l i).run P w = .ok () (setBlk w b (.cells (spliceV vs (o + i) l) T fz)) := by
  intro l
  induction l with
  | nil =>
    intro i o vs w h _ _ _
    have : spliceV vs (o + i) [] = vs := by apply Array.ext'; simp [spliceV]
    rw [this, setBlk_same h]
    rfl
  | cons v l ih =>
    intro i o vs w h hf hb hv
    simp only [List.length_cons] at hb
    have hlt : o + i < vs.size := by omega
    have h1 : (store (Addr.add ⟨b, o, none⟩ i) v).run P w = .ok () (setBlk w b (.cells (vs.setIfInBounds (o + i) v) T fz)) := by
      rw [Addr.add_lit]
      rw [run_store P w _ v _ (hv v (by simp))]
      rw [cell_of h, Array.getElem?_eq_getElem hlt]
      simp only [frozen_of h hf hlt]
      simp only [Bool.false_eq_true, if_false]
      congr 1
      unfold setBlk World.setCell
      obtain ⟨hbl, he⟩ := Array.getElem?_eq_some_iff.1 h
      congr 1
      apply Array.ext (by simp)
      intro j hj hj'
      simp only [Array.getElem_modify]
      by_cases hbj : b = j
      · subst hbj; simp [he]
      · simp only [hbj, if_false]
        rw [Array.getElem_setIfInBounds_ne (by simpa using hj') hbj]
    simp only [storeCells, Sem.run_bind, h1, Result.andThen_ok]
    have hbl : b < w.heap.size := (Array.getElem?_eq_some_iff.1 h).1
    rw [ih (i + 1) o (vs.setIfInBounds (o + i) v) _ (by simp [setBlk, hbl]) (by simpa using hf) (by simp; omega) (fun x hx => hv x (by simp [hx]))]
    congr 1
    have e : spliceV (vs.setIfInBounds (o + i) v) (o + (i + 1)) l = spliceV vs (o + i) (v :: l) := by
      apply Array.ext'
      simp only [spliceV, Array.toList_setIfInBounds, List.length_cons]
      rw [List.drop_set_of_lt (by omega), show o + (i + 1) = o + i + 1 from rfl, show o + i + 1 + l.length = o + i + (l.length + 1) by omega]
      rw [show List.take (o + i + 1) (vs.toList.set (o + i) v) = List.take (o + i) vs.toList ++ [v] by
        rw [List.take_succ_eq_append_getElem (by simpa using hlt), List.take_set_of_le (Nat.le_refl _)]
        simp]
      simp
    rw [e]
    unfold setBlk
    simp

theorem oneCell_of {R : Imm} {p : Places} {xs : List LV} {ys : List Value} (h : Rep R p xs ys) (hc : xs.all isCell = true) : ∀ v ∈ ys, v.oneCell' = true := by
  induction xs generalizing ys with
  | nil => cases h; simp
  | cons x xs ih =>
    obtain ⟨y, ys, rfl, h1, h2⟩ := h.uncons
    simp only [List.all_cons, Bool.and_eq_true] at hc
    intro v hv
    rcases List.mem_cons.1 hv with rfl | hv
    · have hx := hc.1
      clear hc ih h h2
      cases h1 <;> first
        | rfl
        | (exfalso; simp [isCell] at hx; done)
        | (cases v <;> first | rfl | (exfalso; simp [isCell] at hx; done))
    · exact ih h2 hc.2 v hv

theorem cellsOf_rep {R : Imm} {p : Places} {x : LV} {y : Value} {xs : Cells} (h : Rep1 R p x y) (hx : cellsOf x = some xs) : Rep R p xs y.cells.toList := by
  cases h with
  | undef _ => simp [cellsOf] at hx
  | v _ => simp [cellsOf] at hx; subst hx; exact Rep.plain _
  | agg a _ => simp [cellsOf] at hx; subst hx; simpa [Value.cells] using a
  | ptr a _ => simp [cellsOf] at hx; subst hx; exact .ptr a .nil
  | sl0 a _ => simp [cellsOf] at hx; subst hx; exact .sl0 a .nil
  | sl a b c d _ => simp [cellsOf] at hx; subst hx; exact .sl a b c d .nil
  | ipt a b _ => simp [cellsOf] at hx; subst hx; exact .ipt a b .nil
  | isl0 _ => simp [cellsOf] at hx; subst hx; exact .isl0 .nil
  | isl a b c _ => simp [cellsOf] at hx; subst hx; exact .isl a b c .nil
  | fn a b _ => simp [cellsOf] at hx; subst hx; exact .fn a b .nil
  | tup a _ => simp [cellsOf] at hx; subst hx; exact .tup a .nil

end Go.LE
