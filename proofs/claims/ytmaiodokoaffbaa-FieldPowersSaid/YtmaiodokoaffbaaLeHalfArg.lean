/- A tweak as an argument: opened and shut. -/
import Derived.Test.YtmaiodokoaffbaaRows
import Derived.WalkKit
import Derived.ProofKit
import Derived.OpenShut
import Derived.ChangeOld
import Derived.Below
import Derived.SizedLaws
import Derived.Test.YtmaiodokoaffbaaLeTimesF
import Derived.Test.YtmaiodokoaffbaaLeArgs
set_option linter.unusedVariables false
set_option linter.unusedSimpArgs false
namespace Go.Proofs.Ytmaiodokoaffbaa
open Go.ChangeShapes Go.WideShapes Go.ChangeAt Go.RowKit
theorem cells30 : Try.prog.cellsOf 30 = 2 := by kernel_rfl
theorem cells28 : Try.prog.cellsOf 28 = 1 := by kernel_rfl

theorem open_half {H : Type} {enc : TypeId × Value → H} {W : World} {base : Nat} {v : Value} {d : DataW H} {p : List MemPlace} (hv : Value.okWide Try.prog W .any base 30 v)
    (h : DataW.Trod enc Try.prog W 0 (fun _ => true) true 30 v d p) :
    ∃ x : BitVec 128, v = .agg #[.int .u64 ((Field.lo x).toNat : Int), .int .u64 ((Field.hi x).toNat : Int)] ∧ p = [] ∧ ∀ (W' : World) (sp : Nat → Bool), DataW.Trod enc Try.prog W' 0 sp true 30 v d [] := by
  obtain ⟨cs, rfl, hsz⟩ := okWide_struct Try.underlying30 hv
  rw [cells30] at hsz
  obtain ⟨l⟩ := cs
  match l, hsz with
  | [c0, c1], _ =>
  obtain ⟨fuel, hf⟩ := h
  obtain ⟨y0, y1, m, hx, _, hy0, hy1⟩ := trod_struct2 Try.underlying30 hf
  obtain ⟨a, e0, rfl, wa⟩ := DataW.trod_int Try.underlying28 hy0
  obtain ⟨b, e1, rfl, wb⟩ := DataW.trod_int Try.underlying28 hy1
  simp [Value.cells, cells28] at e0 e1
  subst e0 e1
  simp only [Prod.mk.injEq] at hx
  obtain ⟨rfl, rfl⟩ := hx
  obtain ⟨x, ha⟩ := LE.wf_u64 wa
  obtain ⟨y, hb⟩ := LE.wf_u64 wb
  have hlo : Field.lo (y ++ x) = x := by
    apply BitVec.eq_of_getLsbD_eq; intro i hi
    rw [Field.lo_bit, BitVec.getLsbD_append]
    simp [hi]
  have hhi : Field.hi (y ++ x) = y := by
    apply BitVec.eq_of_getLsbD_eq; intro i hi
    rw [Field.hi_bit, BitVec.getLsbD_append]
    have h1 : ¬ 64 + i < 64 := by omega
    simp [hi, h1]
  refine ⟨y ++ x, by rw [hlo, hhi, ← ha, ← hb], by simp, ?_⟩
  intro W' sp
  refine ⟨2, ?_⟩
  have f0 : DataW.trod enc Try.prog W' 0 sp true 1 28 [.int .u64 a] = some (.lit (.int .u64 a), []) := by simp [DataW.trod, Try.underlying28, wa]
  have f1 : DataW.trod enc Try.prog W' 0 sp true 1 28 [.int .u64 b] = some (.lit (.int .u64 b), []) := by simp [DataW.trod, Try.underlying28, wb]
  have := trod_struct2_mk (enc := enc) (w := W') (base := 0) (spare := sp) (held := true) (n := 1) (cs := [.int .u64 a, .int .u64 b]) Try.underlying30 (by simp [cells30]) (by simpa [cells28] using f0) (by simpa [cells28] using f1)
  simpa [Value.cells] using this

end Go.Proofs.Ytmaiodokoaffbaa
