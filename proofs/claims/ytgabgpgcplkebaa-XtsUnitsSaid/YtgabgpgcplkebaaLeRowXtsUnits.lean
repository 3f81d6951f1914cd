/- XtsUnits: for any bytes as the key, any unit and any bytes the function answers true and leaves what was there as it was: proved by an evaluator of the program's code that is itself proved right. Conditions: none. -/
import Derived.Test.YtgabgpgcplkebaaRows
import Derived.WalkKit
import Derived.ProofKit
import Derived.LaidMore
import Derived.OpenShut
import Derived.Stop.Joined
import Derived.Deep.DeepHandedRow
import Derived.Deep.DeepWitnessRowRef
import Derived.Lib.LaidTab
import Derived.ChangeOld
import Derived.Below
import Derived.SizedLaws
import Derived.ShutString
import Derived.Test.YtgabgpgcplkebaaLeN
import Derived.Test.YtgabgpgcplkebaaLeE
set_option linter.unusedVariables false
set_option linter.unusedSimpArgs false

namespace Go.Proofs.Ytgabgpgcplkebaa.xtsUnits
open Go.ChangeShapes Go.WideShapes Go.ChangeAt Go.WideMaps Go.WideElems Go.RowKit
theorem own : ownKnob Try.prog.godebug = none := by kernel_rfl
abbrev laidL : List (String × DataW Unit) := []
theorem walk {v0 v2 : Value} (a : List (BitVec 8)) (u : Int) (d : List (BitVec 8)) (W : World) (hr0 : LE.Rep1 (LE.allImm W) LE.noPlaces (.isl (LE.bs a) a.length) v0) (hb0 : a.length ≤ 140737488351232) (w1 : (Lit.int .u64 u).wf = true) (hr2 : LE.Rep1 (LE.allImm W) LE.noPlaces (.isl (LE.bs d) d.length) v2) (hb2 : d.length ≤ 140737488351232) :
    Calls Try.prog 9 #[v0, .int .u64 u, v2] W fun e W' => e = .returned (.bool true) ∧ Below W.heap.size W W' := by
  obtain ⟨x, rfl⟩ := LE.wf_u64 w1
  exact LE.calls_plain Aes.C_ok (Aes.xunits_F 0 a (by omega) x d (by omega)) LE.globs_none (hX := by intro f args objs res h; have h1 : (none : Option LE.CallRes) = some res := h; cases h1) (vals := [v0, .int .u64 x.toNat, v2]) (LE.Rep.cons hr0 (.v (LE.Rep.cons hr2 .nil)))

theorem reads (os : Os) {H : Type} (enc : TypeId × Value → H) : DataW.whole enc Try.prog ((World.holding Try.prog os ⟨#[], #[], []⟩).forCall (fun _ _ => 0) ⟨#[], #[.slice none 0 0, .int .u64 0, .slice none 0 0], []⟩).memory Try.f9.params.toList Rows.xtsUnitsSpec.vars false (#[.slice none 0 0, .int .u64 0, .slice none 0 0] : Array Value).toList 8 = some ([.nil, .lit (.int .u64 0), .nil], [], []) := by kernel_rfl
set_option maxRecDepth 100000 in
theorem lifted (os : Os) (started : os.Started) (H : Type) (enc : TypeId × Value → H) (F : Stop.Interp) :
    ReturnsInHanded {} Try.checked os 9 .any ((OpenSpec.ofChange Rows.xtsUnitsSpec).preRow enc Try.prog Try.f9 Rows.xtsUnitsRow.domain false Rows.xtsUnitsRow.laid) (((OpenSpec.ofChange Rows.xtsUnitsSpec).at F).post enc Try.prog Try.f9 false true false false) := by
  refine returnsInHanded_of_row (C := Try.checked) (s := (OpenSpec.ofChange Rows.xtsUnitsSpec)) own started (by kernel_rfl) Try.func9
    (witness_row_atRef (enc := enc) (C := Try.checked) false (World.holding Try.prog os ⟨#[], #[], []⟩) #[.slice none 0 0, .int .u64 0, .slice none 0 0] rfl (by kernel_rfl) (by kernel_rfl) (by kernel_rfl)
      (OpenSpec.preRow_of_cond 8 (reads os enc) (by kernel_rfl) (fun k hk => by cases hk) (by kernel_rfl) (laidMetH_nil _ _))) ?_
  intro W base args ds gs before hval0 hW _ hcond hwt hL _ _
  have hval : ∀ (j : Nat) t v, Try.f9.params[j]? = some t → args[j]? = some v → Value.okWide Try.prog W .any base t v := hval0
  have hW' := hW
  obtain ⟨p, q, hA0, hV, rfl, hfz, hnd⟩ := hW
  have hA : DataW.TrodAll enc Try.prog W 0 (fun _ => true) true Try.f9.params.toList args.toList ds p := hA0
  rw [Try.params9] at hA hval
  obtain ⟨v0, vs0, d0, ds0, p0, q0, hargs, rfl, rfl, h0, r0⟩ := trodAll_cons hA
  obtain ⟨v1, vs1, d1, ds1, p1, q1, rfl, rfl, rfl, h1, r1⟩ := trodAll_cons r0
  obtain ⟨v2, vs2, d2, ds2, p2, q2, rfl, rfl, rfl, h2, r2⟩ := trodAll_cons r1
  obtain ⟨rfl, rfl, rfl⟩ := trodAll_nil r2
  obtain rfl : args = #[v0, v1, v2] := by cases args; simp_all
  obtain ⟨rfl, rfl⟩ := trodVars_none hV
  obtain ⟨a0, e0, l0⟩ := LE.open_slice8 Try.underlying23 Try.underlying5 (by kernel_rfl) (hval 0 23 v0 rfl rfl) h0
  have k0 := LE.weigh_sl hwt 0 (show _ = some 23 by kernel_rfl) rfl Try.underlying23 l0
  rw [show Program.bytesOf Try.checked.prog 5 = 1 by kernel_rfl] at k0
  obtain ⟨a1, rfl, rfl, rfl, w1⟩ := open_int Try.underlying45 (hval 1 45 v1 rfl rfl) h1
  obtain ⟨a2, e2, l2⟩ := LE.open_slice8 Try.underlying23 Try.underlying5 (by kernel_rfl) (hval 2 23 v2 rfl rfl) h2
  have k2 := LE.weigh_sl hwt 2 (show _ = some 23 by kernel_rfl) rfl Try.underlying23 l2
  rw [show Program.bytesOf Try.checked.prog 5 = 1 by kernel_rfl] at k2
  clear hA0 hval0
  refine (walk a0 a1 a2 W  e0 (by omega) w1 e2 (by omega)).mono fun e W' ⟨he, bel⟩ => ?_
  subst he
  exact ⟨_, rfl, _, _, _, [], _, [], hW', trodAll_mk1 (shut_bool Try.underlying4 _), (trodAll_cons_mk (Below.trod (by kernel_rfl) (by kernel_rfl) (of_decide_eq_true (by kernel_rfl)) h0 bel (LE.trod_lt_all h0)) (trodAll_cons_mk (shut_int Try.underlying45 w1) (trodAll_cons_mk (Below.trod (by kernel_rfl) (by kernel_rfl) (of_decide_eq_true (by kernel_rfl)) h2 bel (LE.trod_lt_all h2)) trodAll_mk0))), rfl, bel.frame _, fun h => by cases h⟩
theorem row_holds : Rows.XtsUnitsSaid :=
  OpenClaim.holds_of_cond 9 Try.f9 rfl rfl rfl rfl rfl rfl rfl ⟨rfl, rfl, rfl, rfl, rfl⟩ rfl rfl rfl rfl rfl (by kernel_rfl) Try.func9 (by kernel_rfl)
    (of_decide_eq_true (by kernel_rfl)) (by unfold Func.isWrapper; first | (rw [if_pos (by decide +kernel)]; kernel_rfl) | (rw [if_neg (by decide +kernel)]; exact ⟨rfl, rfl⟩))
    (fun os started H enc _ F => by rw [OpenClaim.pre_eq_preRow]; exact lifted os started H enc F)
theorem proved : Rows.XtsUnitsSaid := row_holds
#print axioms proved
end Go.Proofs.Ytgabgpgcplkebaa.xtsUnits
namespace Go.Proofs.Ytgabgpgcplkebaa
/-- The statement, under a short name, for the claim. -/
theorem xtsUnits_holds : Rows.XtsUnitsSaid := xtsUnits.proved
end Go.Proofs.Ytgabgpgcplkebaa
