/- FieldTweaks: for all tweaks and all sixteen bytes the function answers true and leaves what was there as it was, proved by an evaluator of the program's code that is itself proved right. Conditions: none beyond the row's. -/
import Derived.Test.YtmaiodokoaffbaaRows
import Derived.WalkKit
import Derived.ProofKit
import Derived.OpenShut
import Derived.ShutString
import Derived.ChangeOld
import Derived.Below
import Derived.SizedLaws
import Derived.Test.YtmaiodokoaffbaaLeTweaksF
import Derived.Test.YtmaiodokoaffbaaLeArgs
import Derived.Test.YtmaiodokoaffbaaLeHalfArg
import Derived.Test.YtmaiodokoaffbaaLeArrArg
set_option linter.unusedVariables false
set_option linter.unusedSimpArgs false
namespace Go.Proofs.Ytmaiodokoaffbaa.fieldTweaks
open Go.ChangeShapes Go.WideShapes Go.ChangeAt Go.RowKit
open Go.ChangeMaps (open_string shut_string)

theorem walk (a b : BitVec 128) (c : Nat → BitVec 8) (W : World) :
    Calls Try.prog 8 #[.agg #[.int .u64 ((Field.lo a).toNat : Int), .int .u64 ((Field.hi a).toNat : Int)], .agg #[.int .u64 ((Field.lo b).toNat : Int), .int .u64 ((Field.hi b).toNat : Int)], .agg (LE.vB 16 c).toArray] W fun e W' => e = .returned (.bool true) ∧ Below W.heap.size W W' :=
  LE.calls_plain Field.C_ok (Field.fieldTweaks_F a b c) LE.globs_none
    (vals := [.agg #[.int .u64 ((Field.lo a).toNat : Int), .int .u64 ((Field.hi a).toNat : Int)], .agg #[.int .u64 ((Field.lo b).toNat : Int), .int .u64 ((Field.hi b).toNat : Int)], .agg (LE.vB 16 c).toArray])
    (.agg (LE.Rep.plain [.int .u64 ((Field.lo a).toNat : Int), .int .u64 ((Field.hi a).toNat : Int)]) (.agg (LE.Rep.plain [.int .u64 ((Field.lo b).toNat : Int), .int .u64 ((Field.hi b).toNat : Int)]) (.agg (LE.rep_vB _ _ 16 c) .nil)))


theorem own : ownKnob Try.prog.godebug = none := by kernel_rfl
set_option maxRecDepth 100000 in
theorem lifted (os : Os) (started : os.Started) (H : Type) (enc : TypeId × Value → H) :
    ReturnsInHanded {} Try.checked os 8 .any (Rows.fieldTweaksSpec.pre6 enc Try.prog Try.f8 Rows.fieldTweaksRow.domain false) (Rows.fieldTweaksSpec.post enc Try.prog Try.f8 false true false false) := by
  refine returnsInHanded_of_change_sized (C := Try.checked) own started (by kernel_rfl) Try.func8
    (ChangeSpec.witness6 (enc := enc) (C := Try.checked) false ⟨#[], #[.agg #[.int .u64 0, .int .u64 0], .agg #[.int .u64 0, .int .u64 0], .agg #[.int .u8 0, .int .u8 0, .int .u8 0, .int .u8 0, .int .u8 0, .int .u8 0, .int .u8 0, .int .u8 0, .int .u8 0, .int .u8 0, .int .u8 0, .int .u8 0, .int .u8 0, .int .u8 0, .int .u8 0, .int .u8 0]], []⟩ 8 (by kernel_rfl) (by kernel_rfl) (by kernel_rfl) (by kernel_rfl)) ?_
  intro W base args ds gs before hval0 hW hcnd hsz0 _
  have hsz : (DataW.weightsEach Try.prog (Try.f8.params.toList ++ Rows.fieldTweaksSpec.plain.varTypes Try.prog) (ds ++ gs)).all (· ≤ reachBytes) = true := hsz0
  have hval : ∀ (j : Nat) t v, Try.f8.params[j]? = some t → args[j]? = some v → Value.okWide Try.prog W .any base t v := hval0
  have hW' := hW
  obtain ⟨p, q, hA0, hV, rfl, hfz, hnd⟩ := hW
  have hA : DataW.TrodAll enc Try.prog W 0 (fun _ => true) true Try.f8.params.toList args.toList ds p := hA0
  rw [Try.params8] at hA hval hsz
  obtain ⟨v0, vs0, d0, ds0, p0, q0, hargs, rfl, rfl, h0, r0⟩ := trodAll_cons hA
  obtain ⟨v1, vs1, d1, ds1, p1, q1, rfl, rfl, rfl, h1, r1⟩ := trodAll_cons r0
  obtain ⟨v2, vs2, d2, ds2, p2, q2, rfl, rfl, rfl, h2, r2⟩ := trodAll_cons r1
  obtain ⟨rfl, rfl, rfl⟩ := trodAll_nil r2
  obtain rfl : args = #[v0, v1, v2] := by cases args; simp_all
  obtain ⟨rfl, rfl⟩ := trodVars_none hV
  obtain ⟨a0, rfl, rfl, s0⟩ := open_half (hval 0 30 v0 rfl rfl) h0
  obtain ⟨a1, rfl, rfl, s1⟩ := open_half (hval 1 30 v1 rfl rfl) h1
  obtain ⟨a2, rfl, rfl⟩ := LE.open_arr8 (n := 16) Try.underlying36 Try.underlying5 (by kernel_rfl) (by kernel_rfl) (hval 2 36 v2 rfl rfl) h2
  clear hA0 hval0 hsz0 hsz
  refine (walk a0 a1 a2 W ).mono fun e W' ⟨he, bel⟩ => ?_
  subst he
  exact ⟨_, rfl, _, _, _, [], _, [], hW', trodAll_mk1 (shut_bool Try.underlying4 _), (trodAll_cons_mk (s0 W' _) (trodAll_cons_mk (s1 W' _) (trodAll_cons_mk (Below.trod (by kernel_rfl) (by kernel_rfl) (of_decide_eq_true (by kernel_rfl)) h2 bel (by simp)) trodAll_mk0))), rfl, bel.frame _, fun h => by cases h⟩
theorem over : Rows.fieldTweaksRow.holds Try.pinned (OpenSpec.ofChange Rows.fieldTweaksSpec) :=
  OpenClaim.holds_of_wide 8 Try.f8 rfl rfl rfl rfl rfl rfl rfl ⟨rfl, rfl, rfl, rfl, rfl⟩ rfl rfl rfl rfl rfl (by kernel_rfl) Try.func8 (by kernel_rfl)
    (of_decide_eq_true (by kernel_rfl)) (by unfold Func.isWrapper; first | (rw [if_pos (by decide +kernel)]; kernel_rfl) | (rw [if_neg (by decide +kernel)]; exact ⟨rfl, rfl⟩))
    (fun os started H enc _ => lifted os started H enc)
theorem proved : Rows.FieldTweaksSaid := over
#print axioms proved
end Go.Proofs.Ytmaiodokoaffbaa.fieldTweaks
namespace Go.Proofs.Ytmaiodokoaffbaa
/-- The row, under a short name, for the claim. -/
theorem fieldTweaks_holds : Rows.FieldTweaksSaid := fieldTweaks.proved
end Go.Proofs.Ytmaiodokoaffbaa
