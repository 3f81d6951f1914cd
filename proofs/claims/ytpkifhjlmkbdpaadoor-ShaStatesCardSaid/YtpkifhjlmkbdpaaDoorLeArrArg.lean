/- Rows of bytes or of words as arguments: opened. -/
import Derived.Test.YtpkifhjlmkbdpaaDoorLeArgs
import Derived.Test.YtpkifhjlmkbdpaaDoorLeArr
import Derived.ProofKit
import Derived.OpenShut
import Derived.ChangeOld
import Derived.Below
import Derived.SizedLaws
set_option linter.unusedVariables false
set_option linter.unusedSimpArgs false
namespace Go.LE
open Go.ChangeShapes Go.WideShapes Go.ChangeAt Go.RowKit

/-- the cells of a row -/
def vB (n : Nat) (g : Nat → BitVec 8) : List Value := (List.range n).map fun i => .int .u8 ((g i).toNat : Int)
def vW (n : Nat) (g : Nat → BitVec 32) : List Value := (List.range n).map fun i => .int .u32 ((g i).toNat : Int)

theorem rep_vB (R : Imm) (p : Places) (n : Nat) (g : Nat → BitVec 8) : Rep R p (aB n g) (vB n g) := by
  have h : aB n g = (vB n g).map .v := by simp only [aB, arr, vB, List.map_map]; rfl
  rw [h]; exact Rep.plain _
theorem rep_vW (R : Imm) (p : Places) (n : Nat) (g : Nat → BitVec 32) : Rep R p (aW n g) (vW n g) := by
  have h : aW n g = (vW n g).map .v := by simp only [aW, arr, vW, List.map_map]; rfl
  rw [h]; exact Rep.plain _

section
variable {H : Type} {enc : TypeId × Value → H} {P : Program} {W : World} {base b : Nat} {sp : Nat → Bool} {held : Bool} {t e : TypeId} {n : Nat} {v : Value} {d : DataW H} {p : List MemPlace}

theorem open_ints {k : IntKind} (ht : P.underlying t = some (.array n e)) (he : P.underlying e = some (.int k)) (hc : P.cellsOf e = 1) (hct : P.cellsOf t = n)
    (hv : Value.okWide P W .any base t v) (h : DataW.Trod enc P W b sp held t v d p) :
    ∃ cs : List Int, v = .agg (cs.map (Value.int k)).toArray ∧ cs.length = n ∧ (∀ x ∈ cs, (Lit.int k x).wf = true) ∧ p = [] := by
  simp only [Value.okWide, ht] at hv
  obtain ⟨cs, rfl, hsz, _⟩ := hv
  obtain ⟨cs⟩ := cs
  obtain ⟨fuel, hf⟩ := h
  obtain ⟨xs, m, rfl, hx, hl, hn, hi⟩ := DataW.trod_array ht hf
  simp only [Value.cells] at hl hi hsz
  rw [hct] at hl
  have key : ∀ i, i < n → ∃ a : Int, cs[i]? = some (.int k a) ∧ (Lit.int k a).wf = true ∧ ∃ y, xs[i]? = some y ∧ y.2 = [] := by
    intro i h1
    have h2 := hi i h1
    rw [hc, Nat.mul_one] at h2
    have h3 : i < xs.length := by omega
    rw [List.getElem?_eq_getElem h3] at h2
    obtain ⟨a, e0, e1, wa⟩ := DataW.trod_int he h2
    refine ⟨a, ?_, wa, xs[i], List.getElem?_eq_getElem h3, ?_⟩
    · have h4 : i < cs.length := by rw [hl]; exact h1
      have h5 : (cs.drop i).take 1 = [cs[i]] := by
        rw [List.drop_eq_getElem_cons h4]; rfl
      have e0 : (cs.drop i).take 1 = [.int k a] := by simpa using e0
      rw [h5] at e0
      rw [List.getElem?_eq_getElem h4]
      simpa using e0
    · rw [e1]
  have hex : ∃ f : Nat → Int, ∀ i, i < n → cs[i]? = some (.int k (f i)) ∧ (Lit.int k (f i)).wf = true := by
    refine ⟨fun i => if h : i < n then (key i h).choose else 0, fun i h => ?_⟩
    simp only [h, dif_pos]
    exact ⟨(key i h).choose_spec.1, (key i h).choose_spec.2.1⟩
  obtain ⟨f, hf⟩ := hex
  refine ⟨(List.range n).map f, ?_, by simp, ?_, ?_⟩
  · congr 2
    apply List.ext_getElem?
    intro i
    by_cases h1 : i < n
    · rw [(hf i h1).1]; simp [h1]
    · rw [List.getElem?_eq_none (by omega), List.getElem?_eq_none (by simp; omega)]
  · intro x hx'
    simp only [List.mem_map, List.mem_range] at hx'
    obtain ⟨i, h1, rfl⟩ := hx'
    exact (hf i h1).2
  · simp only [Prod.mk.injEq] at hx
    rw [hx.2, List.flatMap_eq_nil_iff]
    intro y hy
    obtain ⟨i, h1, rfl⟩ := List.mem_iff_getElem.1 hy
    obtain ⟨_, _, _, y, h2, h3⟩ := key i (by omega)
    rw [List.getElem?_eq_getElem h1] at h2
    cases h2
    exact h3

theorem ints8 {cs : List Int} (h : ∀ x ∈ cs, (Lit.int .u8 x).wf = true) : ∃ g : Nat → BitVec 8, cs.map (Value.int .u8) = vB cs.length g := by
  refine ⟨fun i => BitVec.ofInt 8 (cs.getD i 0), ?_⟩
  apply List.ext_getElem
  · simp [vB]
  · intro i h1 h2
    have h3 : i < cs.length := by simpa using h1
    obtain ⟨x, hx⟩ := wf_u8 (h cs[i] (List.getElem_mem h3))
    simp [vB, h3, hx]
    have := x.isLt
    omega

theorem ints32 {cs : List Int} (h : ∀ x ∈ cs, (Lit.int .u32 x).wf = true) : ∃ g : Nat → BitVec 32, cs.map (Value.int .u32) = vW cs.length g := by
  refine ⟨fun i => BitVec.ofInt 32 (cs.getD i 0), ?_⟩
  apply List.ext_getElem
  · simp [vW]
  · intro i h1 h2
    have h3 : i < cs.length := by simpa using h1
    obtain ⟨x, hx⟩ := wf_u32 (h cs[i] (List.getElem_mem h3))
    simp [vW, h3, hx]
    have := x.isLt
    omega

theorem open_arr8 (ht : P.underlying t = some (.array n e)) (he : P.underlying e = some (.int .u8)) (hc : P.cellsOf e = 1) (hct : P.cellsOf t = n)
    (hv : Value.okWide P W .any base t v) (h : DataW.Trod enc P W b sp held t v d p) : ∃ g : Nat → BitVec 8, v = .agg (vB n g).toArray ∧ p = [] := by
  obtain ⟨cs, rfl, hl, hw, hp⟩ := open_ints ht he hc hct hv h
  obtain ⟨g, hg⟩ := ints8 hw
  exact ⟨g, by rw [hg, hl], hp⟩
theorem open_arr32 (ht : P.underlying t = some (.array n e)) (he : P.underlying e = some (.int .u32)) (hc : P.cellsOf e = 1) (hct : P.cellsOf t = n)
    (hv : Value.okWide P W .any base t v) (h : DataW.Trod enc P W b sp held t v d p) : ∃ g : Nat → BitVec 32, v = .agg (vW n g).toArray ∧ p = [] := by
  obtain ⟨cs, rfl, hl, hw, hp⟩ := open_ints ht he hc hct hv h
  obtain ⟨g, hg⟩ := ints32 hw
  exact ⟨g, by rw [hg, hl], hp⟩
end
end Go.LE
