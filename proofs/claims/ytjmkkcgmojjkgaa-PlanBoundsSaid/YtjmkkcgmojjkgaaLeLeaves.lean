/- Values whose cells are all numbers or truth values, as arguments: opened by the type's shape. -/
import Derived.Test.YtjmkkcgmojjkgaaLeArrArg
set_option linter.unusedVariables false
set_option linter.unusedSimpArgs false
namespace Go.LE
open Go.ChangeShapes Go.WideShapes Go.ChangeAt Go.RowKit

inductive LK where
  | int (k : IntKind)
  | bool

/-- the cells of a type, each with its kind -/
def leaves (P : Program) : Nat → TypeId → Option (List (Nat × LK))
  | 0, _ => none
  | d + 1, t => match P.underlying t with
    | some (.int k) => some [(0, .int k)]
    | some .bool => some [(0, .bool)]
    | some (.array n e) => match leaves P d e with
      | some ls => some ((List.range n).flatMap fun i => ls.map fun p => (i * P.cellsOf e + p.1, p.2))
      | none => none
    | some (.struct fs) => match seqO (fs.toList.map fun f => (leaves P d f.type).map fun ls => ls.map fun p => (f.offset + p.1, p.2)) with
      | some lss => some lss.flatten
      | none => none
    | _ => none

def isLeaf : LK → Value → Prop
  | .int k, v => ∃ a, v = .int k a ∧ (Lit.int k a).wf = true
  | .bool, v => ∃ b, v = .bool b

theorem seqO_mem {A : Type} : ∀ (l : List (Option A)) (r : List A), seqO l = some r → ∀ (i : Nat) (y : A), r[i]? = some y → l[i]? = some (some y) := by
  intro l
  induction l with
  | nil => intro r h i y hy; simp only [seqO, Option.some.injEq] at h; subst h; simp at hy
  | cons o l ih =>
    intro r h i y hy
    cases o with
    | none => simp [seqO] at h
    | some z =>
      simp only [seqO, Option.map_eq_some_iff] at h
      obtain ⟨r', h1, rfl⟩ := h
      cases i with
      | zero => simpa using hy
      | succ i => simpa using ih r' h1 i y (by simpa using hy)
theorem seqO_len {A : Type} : ∀ (l : List (Option A)) (r : List A), seqO l = some r → r.length = l.length := by
  intro l
  induction l with
  | nil => intro r h; simp only [seqO, Option.some.injEq] at h; subst h; rfl
  | cons o l ih =>
    intro r h
    cases o with
    | none => simp [seqO] at h
    | some z =>
      simp only [seqO, Option.map_eq_some_iff] at h
      obtain ⟨r', h1, rfl⟩ := h
      simp [ih r' h1]

section
variable {H : Type} {enc : TypeId × Value → H} {P : Program} {W : World} {base b : Nat} {sp : Nat → Bool} {held : Bool}

theorem sub_get {cs : List Value} {o n j : Nat} {c : Value} (h : ((cs.drop o).take n)[j]? = some c) : cs[o + j]? = some c := by
  rw [List.getElem?_take] at h
  split at h
  · rw [List.getElem?_drop] at h; exact h
  · cases h

theorem leaves_ok : ∀ (d : Nat) (t : TypeId) (ls : List (Nat × LK)), leaves P d t = some ls → ∀ (fuel : Nat) (cs : List Value) (x : DataW H × List MemPlace),
    DataW.trod enc P W b sp held fuel t cs = some x → (∀ q ∈ ls, ∃ c, cs[q.1]? = some c ∧ isLeaf q.2 c) ∧ x.2 = [] := by
  intro d
  induction d with
  | zero => intro t ls h; simp [leaves] at h
  | succ d ih =>
    intro t ls h fuel cs x hx
    unfold leaves at h
    split at h
    · rename_i k hu
      cases h
      obtain ⟨a, rfl, rfl, wa⟩ := DataW.trod_int hu hx
      refine ⟨?_, rfl⟩
      intro q hq
      simp only [List.mem_cons, List.not_mem_nil, or_false] at hq
      subst hq
      exact ⟨_, rfl, a, rfl, wa⟩
    · rename_i hu
      cases h
      obtain ⟨a, rfl, rfl⟩ := DataW.trod_bool hu hx
      refine ⟨?_, rfl⟩
      intro q hq
      simp only [List.mem_cons, List.not_mem_nil, or_false] at hq
      subst hq
      exact ⟨_, rfl, a, rfl⟩
    · rename_i n e hu
      split at h
      · rename_i le hle
        cases h
        obtain ⟨xs, m, rfl, rfl, hl, hn, hi⟩ := DataW.trod_array hu hx
        have hin : ∀ i, i < n → ∃ y, xs[i]? = some y := fun i h => ⟨xs[i], List.getElem?_eq_getElem (by omega)⟩
        constructor
        · intro q hq
          simp only [List.mem_flatMap, List.mem_range, List.mem_map] at hq
          obtain ⟨i, h1, p, hp, rfl⟩ := hq
          obtain ⟨y, hy⟩ := hin i h1
          have h2 := hi i h1
          rw [hy] at h2
          obtain ⟨c, hc, hlf⟩ := (ih e le hle m _ y h2).1 p hp
          exact ⟨c, sub_get hc, hlf⟩
        · simp only [List.flatMap_eq_nil_iff]
          intro y hy
          obtain ⟨i, h1, rfl⟩ := List.mem_iff_getElem.1 hy
          have h2 := hi i (by omega)
          rw [List.getElem?_eq_getElem h1] at h2
          exact (ih e le hle m _ _ h2).2
      · cases h
    · rename_i fs hu
      split at h
      · rename_i lss hls
        cases h
        obtain ⟨xs, m, rfl, rfl, hl, hn, hi⟩ := DataW.trod_struct hu hx
        have hlen := seqO_len _ _ hls
        simp only [List.length_map, Array.length_toList] at hlen
        have key : ∀ i, i < fs.size → ∃ (f : Field) (lf : List (Nat × LK)) (y : DataW H × List MemPlace), fs[i]? = some f ∧ lss[i]? = some (lf.map fun p => (f.offset + p.1, p.2)) ∧ leaves P d f.type = some lf ∧
            xs[i]? = some y ∧ DataW.trod enc P W b sp held m f.type ((cs.drop f.offset).take (P.cellsOf f.type)) = some y := by
          intro i h1
          have hf : fs[i]? = some fs[i] := by simp [h1]
          have h3 : lss[i]? = some lss[i] := List.getElem?_eq_getElem (by omega)
          have h4 := seqO_mem _ _ hls i _ h3
          rw [List.getElem?_map, Array.getElem?_toList, hf] at h4
          simp only [Option.map_some, Option.some.injEq] at h4
          rw [Option.map_eq_some_iff] at h4
          obtain ⟨lf, h5, h6⟩ := h4
          have hy : xs[i]? = some xs[i] := List.getElem?_eq_getElem (by omega)
          refine ⟨fs[i], lf, xs[i], hf, by rw [h3, h6], h5, hy, ?_⟩
          rw [hi i _ hf, hy]
        constructor
        · intro q hq
          rw [List.mem_flatten] at hq
          obtain ⟨l, hl1, hl2⟩ := hq
          obtain ⟨i, h1, rfl⟩ := List.mem_iff_getElem.1 hl1
          obtain ⟨f, lf, y, k1, k2, k3, k4, k5⟩ := key i (by omega)
          rw [List.getElem?_eq_getElem h1] at k2
          simp only [Option.some.injEq] at k2
          rw [k2, List.mem_map] at hl2
          obtain ⟨p, hp, rfl⟩ := hl2
          obtain ⟨c, hc, hlf⟩ := (ih f.type lf k3 m _ y k5).1 p hp
          exact ⟨c, sub_get hc, hlf⟩
        · simp only [List.flatMap_eq_nil_iff]
          intro y hy
          obtain ⟨i, h1, rfl⟩ := List.mem_iff_getElem.1 hy
          obtain ⟨f, lf, y', k1, k2, k3, k4, k5⟩ := key i (by omega)
          rw [List.getElem?_eq_getElem h1] at k4
          simp only [Option.some.injEq] at k4
          rw [k4]
          exact (ih f.type lf k3 m _ y' k5).2
      · cases h
    · cases h

/-- an argument of such a struct type -/
theorem open_leaves {t : TypeId} {fs : Array Field} {v : Value} {dd : DataW H} {p : List MemPlace} (d : Nat) {ls : List (Nat × LK)} (hu : P.underlying t = some (.struct fs)) (hl : leaves P d t = some ls)
    (hv : Value.okWide P W .any base t v) (h : DataW.Trod enc P W b sp held t v dd p) :
    ∃ cs : List Value, v = .agg cs.toArray ∧ cs.length = P.cellsOf t ∧ (∀ q ∈ ls, ∃ c, cs[q.1]? = some c ∧ isLeaf q.2 c) ∧ p = [] := by
  obtain ⟨cs, rfl, hsz⟩ := okWide_struct hu hv
  obtain ⟨fuel, hf⟩ := h
  obtain ⟨h1, h2⟩ := leaves_ok d t ls hl fuel _ _ hf
  obtain ⟨cs⟩ := cs
  exact ⟨cs, rfl, by simpa using hsz, by simpa [Value.cells] using h1, h2⟩

theorem leaf_int {cs : List Value} {j : Nat} {k : IntKind} (h : ∃ c, cs[j]? = some c ∧ isLeaf (.int k) c) : ∃ a, cs[j]? = some (.int k a) ∧ (Lit.int k a).wf = true := by
  obtain ⟨_, h1, a, rfl, w⟩ := h
  exact ⟨a, h1, w⟩
theorem leaf_bool {cs : List Value} {j : Nat} (h : ∃ c, cs[j]? = some c ∧ isLeaf .bool c) : ∃ a, cs[j]? = some (.bool a) := by
  obtain ⟨_, h1, a, rfl⟩ := h
  exact ⟨a, h1⟩
/-- a run of bytes to the end -/
theorem leaf_bytes {cs : List Value} (o n : Nat) (hlen : cs.length = o + n) (h : ∀ i, i < n → ∃ c, cs[o + i]? = some c ∧ isLeaf (.int .u8) c) : ∃ g : Nat → BitVec 8, cs.drop o = vB n g := by
  have hex : ∃ f : Nat → Int, ∀ i, i < n → cs[o + i]? = some (.int .u8 (f i)) ∧ (Lit.int .u8 (f i)).wf = true := by
    have key := fun i h1 => leaf_int (h i h1)
    refine ⟨fun i => if h : i < n then (key i h).choose else 0, fun i h => ?_⟩
    simp only [h, dif_pos]
    exact (key i h).choose_spec
  obtain ⟨f, hf⟩ := hex
  have hm : ∀ x ∈ (List.range n).map f, (Lit.int .u8 x).wf = true := by
    intro x hx'
    simp only [List.mem_map, List.mem_range] at hx'
    obtain ⟨i, h1, rfl⟩ := hx'
    exact (hf i h1).2
  obtain ⟨g, hg⟩ := ints8 hm
  simp only [List.length_map, List.length_range] at hg
  refine ⟨g, ?_⟩
  rw [← hg]
  apply List.ext_getElem?
  intro i
  rw [List.getElem?_drop]
  by_cases h1 : i < n
  · rw [(hf i h1).1]; simp [h1]
  · rw [List.getElem?_eq_none (by omega), List.getElem?_eq_none (by simp; omega)]
end
end Go.LE
