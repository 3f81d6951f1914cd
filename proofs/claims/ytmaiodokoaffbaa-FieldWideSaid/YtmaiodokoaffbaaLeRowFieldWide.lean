/- FieldWide: for all halves the function answers true and leaves what was there as it was, proved by an evaluator of the program's code that is itself proved right. Conditions: none beyond the row's. -/
import Derived.Test.YtmaiodokoaffbaaRows
import Derived.WalkKit
import Derived.ProofKit
import Derived.OpenShut
import Derived.ShutString
import Derived.ChangeOld
import Derived.Below
import Derived.SizedLaws
import Derived.Test.YtmaiodokoaffbaaLeWide
import Derived.Test.YtmaiodokoaffbaaLeArgs
set_option linter.unusedVariables false
set_option linter.unusedSimpArgs false
namespace Go.Proofs.Ytmaiodokoaffbaa.fieldWide
open Go.ChangeShapes Go.WideShapes Go.ChangeAt Go.RowKit
open Go.ChangeMaps (open_string shut_string)
theorem cells30 : Try.prog.cellsOf 30 = 2 := by kernel_rfl
theorem cells28 : Try.prog.cellsOf 28 = 1 := by kernel_rfl

theorem openHalf {H : Type} {enc : TypeId × Value → H} {W : World} {base : Nat} {v : Value} {d : DataW H} {p : List MemPlace} (hv : Value.okWide Try.prog W .any base 30 v)
    (h : DataW.Trod enc Try.prog W 0 (fun _ => true) true 30 v d p) :
    ∃ x : BitVec 128, v = .agg #[.int .u64 ((Field.lo x).toNat : Int), .int .u64 ((Field.hi x).toNat : Int)] ∧ p = [] ∧ ∀ (W' : World) (sp : Nat → Bool), DataW.Trod enc Try.prog W' 0 sp true 30 v d [] := by
  obtain ⟨cs, rfl, hsz⟩ := okWide_struct Try.underlying30 hv
  rw [cells30] at hsz
  obtain ⟨l⟩ := cs
  match l, hsz with
  | [c0, c1], _ =>
  obtain ⟨fuel, hf⟩ := h
  obtain ⟨y0, y1, m, hx, _, hy0, hy1⟩ := trod_struct2 Try.underlying30 hf
  obtain ⟨a, e0, rfl, wa⟩ := DataW.trod_int Try.underlying28 hy0
  obtain ⟨b, e1, rfl, wb⟩ := DataW.trod_int Try.underlying28 hy1
  simp [Value.cells, cells28] at e0 e1
  subst e0 e1
  simp only [Prod.mk.injEq] at hx
  obtain ⟨rfl, rfl⟩ := hx
  obtain ⟨x, ha⟩ := LE.wf_u64 wa
  obtain ⟨y, hb⟩ := LE.wf_u64 wb
  have hlo : Field.lo (y ++ x) = x := by
    apply BitVec.eq_of_getLsbD_eq; intro i hi
    rw [Field.lo_bit, BitVec.getLsbD_append]
    simp [hi]
  have hhi : Field.hi (y ++ x) = y := by
    apply BitVec.eq_of_getLsbD_eq; intro i hi
    rw [Field.hi_bit, BitVec.getLsbD_append]
    have h1 : ¬ 64 + i < 64 := by omega
    simp [hi, h1]
  refine ⟨y ++ x, by rw [hlo, hhi, ← ha, ← hb], by simp, ?_⟩
  intro W' sp
  refine ⟨2, ?_⟩
  have f0 : DataW.trod enc Try.prog W' 0 sp true 1 28 [.int .u64 a] = some (.lit (.int .u64 a), []) := by simp [DataW.trod, Try.underlying28, wa]
  have f1 : DataW.trod enc Try.prog W' 0 sp true 1 28 [.int .u64 b] = some (.lit (.int .u64 b), []) := by simp [DataW.trod, Try.underlying28, wb]
  have := trod_struct2_mk (enc := enc) (w := W') (base := 0) (spare := sp) (held := true) (n := 1) (cs := [.int .u64 a, .int .u64 b]) Try.underlying30 (by simp [cells30]) (by simpa [cells28] using f0) (by simpa [cells28] using f1)
  simpa [Value.cells] using this

theorem walk (a b c : BitVec 128) (W : World) :
    Calls Try.prog 6 #[.agg #[.int .u64 ((Field.lo a).toNat : Int), .int .u64 ((Field.hi a).toNat : Int)], .agg #[.int .u64 ((Field.lo b).toNat : Int), .int .u64 ((Field.hi b).toNat : Int)], .agg #[.int .u64 ((Field.lo c).toNat : Int), .int .u64 ((Field.hi c).toNat : Int)]] W
      fun e W' => e = .returned (.bool true) ∧ Below W.heap.size W W' :=
  LE.calls_plain Field.C_ok (Field.fieldWide_F a b c) LE.globs_none
    (vals := [.agg #[.int .u64 ((Field.lo a).toNat : Int), .int .u64 ((Field.hi a).toNat : Int)], .agg #[.int .u64 ((Field.lo b).toNat : Int), .int .u64 ((Field.hi b).toNat : Int)], .agg #[.int .u64 ((Field.lo c).toNat : Int), .int .u64 ((Field.hi c).toNat : Int)]])
    (.agg (LE.Rep.plain [.int .u64 ((Field.lo a).toNat : Int), .int .u64 ((Field.hi a).toNat : Int)]) (.agg (LE.Rep.plain [.int .u64 ((Field.lo b).toNat : Int), .int .u64 ((Field.hi b).toNat : Int)]) (.agg (LE.Rep.plain [.int .u64 ((Field.lo c).toNat : Int), .int .u64 ((Field.hi c).toNat : Int)]) .nil)))

theorem own : ownKnob Try.prog.godebug = none := by kernel_rfl
set_option maxRecDepth 100000 in
theorem lifted (os : Os) (started : os.Started) (H : Type) (enc : TypeId × Value → H) :
    ReturnsInHanded {} Try.checked os 6 .any (Rows.fieldWideSpec.pre6 enc Try.prog Try.f6 Rows.fieldWideRow.domain false) (Rows.fieldWideSpec.post enc Try.prog Try.f6 false true false false) := by
  refine returnsInHanded_of_change_sized (C := Try.checked) own started (by kernel_rfl) Try.func6
    (ChangeSpec.witness6 (enc := enc) (C := Try.checked) false ⟨#[], #[.agg #[.int .u64 0, .int .u64 0], .agg #[.int .u64 0, .int .u64 0], .agg #[.int .u64 0, .int .u64 0]], []⟩ 8 (by kernel_rfl) (by kernel_rfl) (by kernel_rfl) (by kernel_rfl)) ?_
  intro W base args ds gs before hval0 hW hcnd hsz0 _
  have hsz : (DataW.weightsEach Try.prog (Try.f6.params.toList ++ Rows.fieldWideSpec.plain.varTypes Try.prog) (ds ++ gs)).all (· ≤ reachBytes) = true := hsz0
  have hval : ∀ (j : Nat) t v, Try.f6.params[j]? = some t → args[j]? = some v → Value.okWide Try.prog W .any base t v := hval0
  have hW' := hW
  obtain ⟨p, q, hA0, hV, rfl, hfz, hnd⟩ := hW
  have hA : DataW.TrodAll enc Try.prog W 0 (fun _ => true) true Try.f6.params.toList args.toList ds p := hA0
  rw [Try.params6] at hA hval hsz
  obtain ⟨v0, vs0, d0, ds0, p0, q0, hargs, rfl, rfl, h0, r0⟩ := trodAll_cons hA
  obtain ⟨v1, vs1, d1, ds1, p1, q1, rfl, rfl, rfl, h1, r1⟩ := trodAll_cons r0
  obtain ⟨v2, vs2, d2, ds2, p2, q2, rfl, rfl, rfl, h2, r2⟩ := trodAll_cons r1
  obtain ⟨rfl, rfl, rfl⟩ := trodAll_nil r2
  obtain rfl : args = #[v0, v1, v2] := by cases args; simp_all
  obtain ⟨rfl, rfl⟩ := trodVars_none hV
  obtain ⟨a0, rfl, rfl, s0⟩ := openHalf (hval 0 30 v0 rfl rfl) h0
  obtain ⟨a1, rfl, rfl, s1⟩ := openHalf (hval 1 30 v1 rfl rfl) h1
  obtain ⟨a2, rfl, rfl, s2⟩ := openHalf (hval 2 30 v2 rfl rfl) h2
  clear hA0 hval0 hsz0 hsz
  refine (walk a0 a1 a2 W).mono fun e W' ⟨he, bel⟩ => ?_
  subst he
  exact ⟨_, rfl, _, _, _, [], _, [], hW', trodAll_mk1 (shut_bool Try.underlying4 _), (trodAll_cons_mk (s0 W' _) (trodAll_cons_mk (s1 W' _) (trodAll_cons_mk (s2 W' _) trodAll_mk0))), rfl, bel.frame _, fun h => by cases h⟩
theorem over : Rows.fieldWideRow.holds Try.pinned (OpenSpec.ofChange Rows.fieldWideSpec) :=
  OpenClaim.holds_of_wide 6 Try.f6 rfl rfl rfl rfl rfl rfl rfl ⟨rfl, rfl, rfl, rfl, rfl⟩ rfl rfl rfl rfl rfl (by kernel_rfl) Try.func6 (by kernel_rfl)
    (of_decide_eq_true (by kernel_rfl)) (by unfold Func.isWrapper; first | (rw [if_pos (by decide +kernel)]; kernel_rfl) | (rw [if_neg (by decide +kernel)]; exact ⟨rfl, rfl⟩))
    (fun os started H enc _ => lifted os started H enc)
theorem proved : Rows.FieldWideSaid := over
#print axioms proved
end Go.Proofs.Ytmaiodokoaffbaa.fieldWide
namespace Go.Proofs.Ytmaiodokoaffbaa
/-- The row, under a short name, for the claim. -/
theorem fieldWide_holds : Rows.FieldWideSaid := fieldWide.proved
end Go.Proofs.Ytmaiodokoaffbaa
