/- Slices of bytes as arguments: opened. -/
import Derived.Test.YtpkifhjlmkbdpaaDoorLeArrArg
import Derived.Test.YtpkifhjlmkbdpaaDoorLeSlices
import Derived.ChangeSlices
set_option linter.unusedVariables false
set_option linter.unusedSimpArgs false
namespace Go.LE
open Go.ChangeShapes Go.WideShapes Go.ChangeAt Go.RowKit

section
variable {H : Type} {enc : TypeId × Value → H} {P : Program} {W : World} {base b : Nat} {sp : Nat → Bool} {held : Bool} {t e : TypeId} {n : Nat} {v : Value} {d : DataW H} {p : List MemPlace}

theorem trod_lt_all (h : DataW.Trod enc P W b sp held t v d p) : ∀ x ∈ p, x.block < W.heap.size := by
  obtain ⟨n, h⟩ := h
  exact DataW.trod_lt n _ _ _ h

/-- how long the data of a slice are -/
def SlLen (d : DataW H) (n : Nat) : Prop := (n = 0 ∧ d = .nil) ∨ ∃ l s, d = .slice l s ∧ l.length = n

theorem cells_at {a : Addr} {n : Nat} (hn : 0 < n) {f : Nat → Value} (h : ∀ i, i < n → W.cell? (a.add i) = some (f i)) :
    ∃ o cs, a = ⟨a.block, o, none⟩ ∧ allImm W a.block = some cs ∧ (cs.drop o).take n = (List.range n).map f := by
  obtain ⟨ab, ao, asp⟩ := a
  have h0 := h 0 hn
  simp only [Addr.add, if_pos, World.cell?] at h0
  split at h0
  · rename_i cs T fz hb
    cases asp with
    | some x => simp at h0
    | none =>
      refine ⟨ao, cs.toList, rfl, by simp [allImm, hb], ?_⟩
      apply List.ext_getElem?
      intro i
      by_cases hi : i < n
      · have h1 := h i hi
        have h2 : (Addr.add ⟨ab, ao, none⟩ i) = ⟨ab, ao + i, none⟩ := by
          unfold Addr.add; split
          · rename_i h3; subst h3; rfl
          · rfl
        rw [h2, World.cell?, hb] at h1
        simp only [Option.isSome_none, Bool.false_eq_true, if_false] at h1
        rw [List.getElem?_take, if_pos hi, List.getElem?_drop, Array.getElem?_toList, h1]
        simp [hi]
      · rw [List.getElem?_take, if_neg hi, List.getElem?_eq_none (by simp; omega)]
  · cases h0

theorem open_slice8 (ht : P.underlying t = some (.slice e)) (he : P.underlying e = some (.int .u8)) (hc : P.cellsOf e = 1)
    (hv : Value.okWide P W .any base t v) (h : DataW.Trod enc P W b sp held t v d p) :
    ∃ l : List (BitVec 8), Rep1 (allImm W) noPlaces (.isl (bs l) l.length) v ∧ SlLen d l.length := by
  obtain ⟨a0, len0, cap0, rfl⟩ := okWide_slice ht hv
  obtain ⟨fuel, hf⟩ := h
  simp only [Value.cells] at hf
  rcases Go.ChangeShapes.open_ints ht he hc hf with ⟨h1, h2⟩ | ⟨a, len, cap, zs, h1, _, hlc, _, hz, hx, hcell, hwf⟩
  · simp at h1
    obtain ⟨rfl, rfl, rfl⟩ := h1
    simp only [Prod.mk.injEq] at h2
    exact ⟨[], .isl0 .nil, .inl ⟨rfl, h2.1⟩⟩
  · simp at h1
    obtain ⟨rfl, rfl, rfl⟩ := h1
    simp only [Prod.mk.injEq] at hx
    have hle : len0 ≤ zs.length := by rw [hz]; split <;> omega
    refine ⟨(zs.take len0).map (BitVec.ofInt 8), ?_, .inr ⟨_, _, hx.1, by simp [lits]⟩⟩
    have hl : ((zs.take len0).map (BitVec.ofInt 8)).length = len0 := by simp; omega
    rw [hl]
    by_cases hn : len0 = 0
    · subst hn; exact .isl0 .nil
    · obtain ⟨o, cs, ea, hi, ht⟩ := cells_at (W := W) (a := a) (n := len0) (by omega) (fun i hi => hcell i (by omega))
      rw [ea]
      refine .isl hi ?_ hlc .nil
      rw [bs_length, hl, ht]
      have e : (bs ((zs.take len0).map (BitVec.ofInt 8))) = ((List.range len0).map fun i => Value.int .u8 (zs.getD i 0)).map .v := by
        apply List.ext_getElem
        · simp [bs]; omega
        · intro i h1 h2
          have h3 : i < len0 := by simpa using h2
          have h4 : i < zs.length := by omega
          simp only [bs, List.getElem_map, List.getElem_take, List.getElem_range, B8]
          have := hwf _ (List.getElem_mem h4)
          simp [Lit.wf, IntKind.min, IntKind.max, IntKind.signed, IntKind.bits] at this
          have e2 : zs.getD i 0 = zs[i] := by simp [List.getD, h4]
          rw [e2]
          congr 2
          rw [BitVec.toNat_ofInt]
          have := this.1
          omega
      rw [e]
      exact Rep.plain _
end
end Go.LE
