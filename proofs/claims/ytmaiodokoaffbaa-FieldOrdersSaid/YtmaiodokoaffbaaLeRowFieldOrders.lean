/- FieldOrders: for every byte and every tweak the function answers true and leaves what was there as it was, proved by an evaluator of the program's code that is itself proved right. Conditions: none beyond the row's. -/
import Derived.Test.YtmaiodokoaffbaaRows
import Derived.WalkKit
import Derived.ProofKit
import Derived.OpenShut
import Derived.ShutString
import Derived.ChangeOld
import Derived.Below
import Derived.SizedLaws
import Derived.Test.YtmaiodokoaffbaaLeOrdersF
import Derived.Test.YtmaiodokoaffbaaLeArgs
import Derived.Test.YtmaiodokoaffbaaLeHalfArg
set_option linter.unusedVariables false
set_option linter.unusedSimpArgs false
namespace Go.Proofs.Ytmaiodokoaffbaa.fieldOrders
open Go.ChangeShapes Go.WideShapes Go.ChangeAt Go.RowKit
open Go.ChangeMaps (open_string shut_string)

theorem walk (a : Int) (t : BitVec 128) (W : World) (w0 : (Lit.int .u8 a).wf = true) :
    Calls Try.prog 7 #[.int .u8 a, .agg #[.int .u64 ((Field.lo t).toNat : Int), .int .u64 ((Field.hi t).toNat : Int)]] W fun e W' => e = .returned (.bool true) ∧ Below W.heap.size W W' := by
  obtain ⟨x, rfl⟩ := LE.wf_u8 w0
  exact LE.calls_plain Field.C_ok (Field.fieldOrders_F x t) LE.globs_none
    (vals := [.int .u8 x.toNat, .agg #[.int .u64 ((Field.lo t).toNat : Int), .int .u64 ((Field.hi t).toNat : Int)]])
    (.v (.agg (LE.Rep.plain [.int .u64 ((Field.lo t).toNat : Int), .int .u64 ((Field.hi t).toNat : Int)]) .nil))


theorem own : ownKnob Try.prog.godebug = none := by kernel_rfl
set_option maxRecDepth 100000 in
theorem lifted (os : Os) (started : os.Started) (H : Type) (enc : TypeId × Value → H) :
    ReturnsInHanded {} Try.checked os 7 .any (Rows.fieldOrdersSpec.pre6 enc Try.prog Try.f7 Rows.fieldOrdersRow.domain false) (Rows.fieldOrdersSpec.post enc Try.prog Try.f7 false true false false) := by
  refine returnsInHanded_of_change_sized (C := Try.checked) own started (by kernel_rfl) Try.func7
    (ChangeSpec.witness6 (enc := enc) (C := Try.checked) false ⟨#[], #[.int .u8 0, .agg #[.int .u64 0, .int .u64 0]], []⟩ 8 (by kernel_rfl) (by kernel_rfl) (by kernel_rfl) (by kernel_rfl)) ?_
  intro W base args ds gs before hval0 hW hcnd hsz0 _
  have hsz : (DataW.weightsEach Try.prog (Try.f7.params.toList ++ Rows.fieldOrdersSpec.plain.varTypes Try.prog) (ds ++ gs)).all (· ≤ reachBytes) = true := hsz0
  have hval : ∀ (j : Nat) t v, Try.f7.params[j]? = some t → args[j]? = some v → Value.okWide Try.prog W .any base t v := hval0
  have hW' := hW
  obtain ⟨p, q, hA0, hV, rfl, hfz, hnd⟩ := hW
  have hA : DataW.TrodAll enc Try.prog W 0 (fun _ => true) true Try.f7.params.toList args.toList ds p := hA0
  rw [Try.params7] at hA hval hsz
  obtain ⟨v0, vs0, d0, ds0, p0, q0, hargs, rfl, rfl, h0, r0⟩ := trodAll_cons hA
  obtain ⟨v1, vs1, d1, ds1, p1, q1, rfl, rfl, rfl, h1, r1⟩ := trodAll_cons r0
  obtain ⟨rfl, rfl, rfl⟩ := trodAll_nil r1
  obtain rfl : args = #[v0, v1] := by cases args; simp_all
  obtain ⟨rfl, rfl⟩ := trodVars_none hV
  obtain ⟨a0, rfl, rfl, rfl, w0⟩ := open_int Try.underlying5 (hval 0 5 v0 rfl rfl) h0
  obtain ⟨a1, rfl, rfl, s1⟩ := open_half (hval 1 30 v1 rfl rfl) h1
  clear hA0 hval0 hsz0 hsz
  refine (walk a0 a1 W w0).mono fun e W' ⟨he, bel⟩ => ?_
  subst he
  exact ⟨_, rfl, _, _, _, [], _, [], hW', trodAll_mk1 (shut_bool Try.underlying4 _), (trodAll_cons_mk (shut_int Try.underlying5 w0) (trodAll_cons_mk (s1 W' _) trodAll_mk0)), rfl, bel.frame _, fun h => by cases h⟩
theorem over : Rows.fieldOrdersRow.holds Try.pinned (OpenSpec.ofChange Rows.fieldOrdersSpec) :=
  OpenClaim.holds_of_wide 7 Try.f7 rfl rfl rfl rfl rfl rfl rfl ⟨rfl, rfl, rfl, rfl, rfl⟩ rfl rfl rfl rfl rfl (by kernel_rfl) Try.func7 (by kernel_rfl)
    (of_decide_eq_true (by kernel_rfl)) (by unfold Func.isWrapper; first | (rw [if_pos (by decide +kernel)]; kernel_rfl) | (rw [if_neg (by decide +kernel)]; exact ⟨rfl, rfl⟩))
    (fun os started H enc _ => lifted os started H enc)
theorem proved : Rows.FieldOrdersSaid := over
#print axioms proved
end Go.Proofs.Ytmaiodokoaffbaa.fieldOrders
namespace Go.Proofs.Ytmaiodokoaffbaa
/-- The row, under a short name, for the claim. -/
theorem fieldOrders_holds : Rows.FieldOrdersSaid := fieldOrders.proved
end Go.Proofs.Ytmaiodokoaffbaa
