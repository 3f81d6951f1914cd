/- More equations: parts of results, least and greatest, lengths, results in several parts. -/
import Derived.Test.YtpkifhjlmkbdpaaDoorLeNum
set_option linter.unusedVariables false
set_option linter.unusedSimpArgs false
namespace Go.LE
variable {E : Env} {tm : List LV} {H : Heap} {b : Nat}

def extV (i : Nat) : LV → Option LV
  | .tup xs => xs[i]?
  | _ => none
theorem op_extV (x : LX) (i : Nat) : opRes E tm H b (.ext x i) = outR (extV i (evX E.gl tm x)) := by
  simp only [opRes, pureOp, heapOp, extV]
  generalize evX E.gl tm x = p
  cases p with
  | tup xs => dsimp only; cases xs[i]? <;> rfl
  | _ => rfl
theorem extV_tup (i : Nat) (xs : List LV) : extV i (.tup xs) = xs[i]? := nf rfl

theorem op_mnmx (m : Bool) (as : List LX) : opRes E tm H b (.mnmx m as) = outR (mnmx m (as.map (evX E.gl tm))) := by
  simp only [opRes, pureOp, heapOp]
  cases mnmx m (as.map (evX E.gl tm)) <;> rfl
theorem mnmx_II (m : Bool) (x y : Int) : mnmx m [I x, I y] = some (I (mn2 m x y)) := nf rfl
theorem mn2_max (x y : Int) : mn2 true x y = max x y := by rw [mn2, if_pos rfl]; split <;> omega
theorem mn2_min (x y : Int) : mn2 false x y = min x y := by rw [mn2, if_neg (by decide)]; split <;> omega

theorem op_lenA (n : Nat) : opRes E tm H b (.lenA n) = outR (some (N n)) := nf rfl

/-! ### results in several parts -/

theorem resVal_ttt (t u w nx np : Nat) : resVal ⟨tm, H, nx, np⟩ [.tmp t, .tmp u, .tmp w] = some (.tup [tm.getD t .undef, tm.getD u .undef, tm.getD w .undef]) := nf rfl

def att (ys : List LV) : Option LV → Option LV
  | some a => some (.tup (a :: ys))
  | none => none
theorem att_some (ys : List LV) (a : LV) : att ys (some a) = some (.tup (a :: ys)) := nf rfl
theorem resVal_att (t n u w nx np : Nat) : resVal ⟨tm, H, nx, np⟩ [.agg t n, .tmp u, .tmp w] = att [tm.getD u .undef, tm.getD w .undef] (aggV (cellAt H n (tm.getD t .undef))) := by
  simp only [resVal, List.map_cons, List.map_nil, resOf]
  cases cellAt H n (tm.getD t .undef) <;> rfl

theorem ren7_I (π : Nm → Option Nm) (x : Int) : ren 7 π (I x) = I x := nf rfl
theorem ren7_N (π : Nm → Option Nm) (x : Nat) : ren 7 π (N x) = N x := nf rfl
theorem ren7_Bo (π : Nm → Option Nm) (x : Bool) : ren 7 π (Bo x) = Bo x := nf rfl
theorem ren7_B8 (π : Nm → Option Nm) (x : BitVec 8) : ren 7 π (B8 x) = B8 x := nf rfl
theorem ren7_B32 (π : Nm → Option Nm) (x : BitVec 32) : ren 7 π (B32 x) = B32 x := nf rfl
theorem ren7_B64 (π : Nm → Option Nm) (x : BitVec 64) : ren 7 π (B64 x) = B64 x := nf rfl
theorem nms7_I (x : Int) : nms 7 (I x) = [] := nf rfl
theorem nms7_N (x : Nat) : nms 7 (N x) = [] := nf rfl
theorem nms7_Bo (x : Bool) : nms 7 (Bo x) = [] := nf rfl
theorem nms7_B8 (x : BitVec 8) : nms 7 (B8 x) = [] := nf rfl
theorem nms7_B32 (x : BitVec 32) : nms 7 (B32 x) = [] := nf rfl
theorem nms7_B64 (x : BitVec 64) : nms 7 (B64 x) = [] := nf rfl
theorem nms_tup (xs : List LV) : nms D (.tup xs) = xs.flatMap (nms 7) := nf rfl
theorem ren_tup (π : Nm → Option Nm) (xs : List LV) : ren D π (.tup xs) = .tup (xs.map (ren 7 π)) := nf rfl
theorem calK_tup (b : Nat) (xs : List LV) (h : ∀ π, xs.map (ren 7 π) = xs) : calK b (some (.tup xs, [], [])) = some ⟨.tup xs, [], []⟩ :=
  calK_plain b fun π => by rw [ren_tup, h]
theorem outOf_tup (st : St) (xs : List LV) (hn : xs.flatMap (nms 7) = []) (h : ∀ π, xs.map (ren 7 π) = xs) : outOf 0 st (.tup xs) = (.tup xs, [], []) :=
  outOf_plain (by rw [nms_tup, hn]) fun π => by rw [ren_tup, h]

end Go.LE
