/- Equations for operations whose order is drawn. -/
import Derived.Test.YtpkifhjlmkbdpaaDoorLeEvalM
set_option linter.unusedVariables false
set_option linter.unusedSimpArgs false
namespace Go.LE
variable {E : Env}

def ordOk (X W : List Nm) (log : List Done) (base0 before : Nat) : Bool :=
  W.all (fun n => X.contains n) && X.all (fun n => decide (n.1 < base0) || before.testBit (n.1 - base0)) && log.all (fun d => before.testBit d.i || (apartFrom d.wrote X && apartFrom W d.saw))

/-- what comes behind an operation whose order is drawn -/
def ordK (E : Env) (b i : Nat) (os : List LOper) (log : List Done) (d : Option Nat) (bf : Nat) (X : List Nm) (tm : List LV) (H : Heap) (nx np : Nat) : Option Out → Option St
  | some r => if ordOk X (r.mods.map (·.1)) log b bf = true then evOpers E b (i + 1) os (⟨i, X, r.mods.map (·.1)⟩ :: log) ⟨put tm d r.val, applyOut (b + i) r H, nx, np⟩ else none
  | none => none

def stepO (E : Env) (b i : Nat) (os : List LOper) (log : List Done) (d : Option Nat) (op : LOp) (bf : Nat) (tm : List LV) (H : Heap) (nx np : Nat) (X : List Nm) : Option St :=
  ordK E b i os log d bf X tm H nx np (opRes E tm (only X H) (b + i) op)

def guardO (E : Env) (b i : Nat) (os : List LOper) (log : List Done) (d : Option Nat) (op : LOp) (bf : Nat) (tm : List LV) (H : Heap) (nx np : Nat) (w : Bool) : LV → Option St
  | .v (.bool t) => if t = w then stepO E b i os log d op bf tm H nx np (touch E.gl tm H op) else evOpers E b (i + 1) os log ⟨put tm d Un, H, nx, np⟩
  | .v _ => evOpers E b (i + 1) os log ⟨put tm d Un, H, nx, np⟩
  | _ => none

theorem ord_aux (b i : Nat) (d : Option Nat) (op : LOp) (bf : Nat) (os : List LOper) (log : List Done) (tm : List LV) (H : Heap) (nx np : Nat) :
    (match (match opRes E tm (only (touch E.gl tm H op) H) (b + i) op with
      | none => none
      | some r =>
        if ((r.mods.map (·.1)).all (fun n => (touch E.gl tm H op).contains n) && (touch E.gl tm H op).all (fun n => decide (n.1 < b) || bf.testBit (n.1 - b)) &&
            log.all (fun d => bf.testBit d.i || (apartFrom d.wrote (touch E.gl tm H op) && apartFrom (r.mods.map (·.1)) d.saw))) = true then
          some ((⟨put tm d r.val, applyOut (b + i) r H, nx, np⟩ : St), (⟨i, touch E.gl tm H op, r.mods.map (·.1)⟩ : Done) :: log)
        else none : Option (St × List Done)) with
      | some (st', log') => evOpers E b (i + 1) os log' st'
      | none => none) = stepO E b i os log d op bf tm H nx np (touch E.gl tm H op) := by
  unfold stepO ordK
  cases opRes E tm (only (touch E.gl tm H op) H) (b + i) op with
  | none => rfl
  | some r =>
    simp only
    split
    · rename_i st' log' h
      split at h
      · rename_i hc
        obtain ⟨rfl, rfl⟩ := Prod.mk.inj (Option.some.inj h)
        have : ordOk (touch E.gl tm H op) (r.mods.map (·.1)) log b bf = true := hc
        rw [if_pos this]
      · cases h
    · rename_i h
      split at h
      · cases h
      · rename_i hc
        have : ¬ ordOk (touch E.gl tm H op) (r.mods.map (·.1)) log b bf = true := hc
        rw [if_neg this]

theorem evOpers_ord (b i : Nat) (d : Option Nat) (op : LOp) (bf : Nat) (os : List LOper) (log : List Done) (tm : List LV) (H : Heap) (nx np : Nat) :
    evOpers E b i ({ dst := d, op := op, guard := none, ord := some bf } :: os) log ⟨tm, H, nx, np⟩ = stepO E b i os log d op bf tm H nx np (touch E.gl tm H op) := by
  rw [← ord_aux, evOpers, evOper]
  rfl

theorem evOpers_ord_g (b i : Nat) (d : Option Nat) (op : LOp) (bf t : Nat) (w : Bool) (os : List LOper) (log : List Done) (tm : List LV) (H : Heap) (nx np : Nat) :
    evOpers E b i ({ dst := d, op := op, guard := some (t, w), ord := some bf } :: os) log ⟨tm, H, nx, np⟩ = guardO E b i os log d op bf tm H nx np w (tm.getD t .undef) := by
  unfold guardO
  rw [evOpers, evOper]
  simp only [wanted]
  generalize tm.getD t .undef = x
  cases x with
  | v y =>
    cases y with
    | bool t =>
      simp only
      cases hw : t == w with
      | true =>
        have : t = w := by simpa using hw
        simp only [this, if_true]
        rw [← ord_aux]
        rfl
      | false =>
        have : ¬ t = w := by simpa using hw
        simp only [this, if_false]
        rfl
    | _ => rfl
  | _ => rfl

theorem guardO_true (b i : Nat) (os : List LOper) (log : List Done) (d : Option Nat) (op : LOp) (bf : Nat) (tm : List LV) (H : Heap) (nx np : Nat) :
    guardO E b i os log d op bf tm H nx np true (Bo true) = stepO E b i os log d op bf tm H nx np (touch E.gl tm H op) := nf rfl
theorem guardO_false (b i : Nat) (os : List LOper) (log : List Done) (d : Option Nat) (op : LOp) (bf : Nat) (tm : List LV) (H : Heap) (nx np : Nat) :
    guardO E b i os log d op bf tm H nx np true (Bo false) = evOpers E b (i + 1) os log ⟨put tm d Un, H, nx, np⟩ := nf rfl
theorem guardO_true' (b i : Nat) (os : List LOper) (log : List Done) (d : Option Nat) (op : LOp) (bf : Nat) (tm : List LV) (H : Heap) (nx np : Nat) :
    guardO E b i os log d op bf tm H nx np false (Bo false) = stepO E b i os log d op bf tm H nx np (touch E.gl tm H op) := nf rfl
theorem guardO_false' (b i : Nat) (os : List LOper) (log : List Done) (d : Option Nat) (op : LOp) (bf : Nat) (tm : List LV) (H : Heap) (nx np : Nat) :
    guardO E b i os log d op bf tm H nx np false (Bo true) = evOpers E b (i + 1) os log ⟨put tm d Un, H, nx, np⟩ := nf rfl
theorem guardO_un (b i : Nat) (os : List LOper) (log : List Done) (d : Option Nat) (op : LOp) (bf : Nat) (tm : List LV) (H : Heap) (nx np : Nat) (w : Bool) :
    guardO E b i os log d op bf tm H nx np w Un = evOpers E b (i + 1) os log ⟨put tm d Un, H, nx, np⟩ := nf rfl
theorem stepO_eq (b i : Nat) (os : List LOper) (log : List Done) (d : Option Nat) (op : LOp) (bf : Nat) (tm : List LV) (H : Heap) (nx np : Nat) (X : List Nm) :
    stepO E b i os log d op bf tm H nx np X = ordK E b i os log d bf X tm H nx np (opRes E tm (only X H) (b + i) op) := nf rfl
theorem ordK_pure (b i : Nat) (os : List LOper) (log : List Done) (d : Option Nat) (bf : Nat) (X : List Nm) (tm : List LV) (H : Heap) (nx np : Nat) (v : LV) :
    ordK E b i os log d bf X tm H nx np (some ⟨v, [], []⟩) = if ordOk X [] log b bf = true then evOpers E b (i + 1) os (⟨i, X, []⟩ :: log) ⟨put tm d v, H, nx, np⟩ else none := by
  simp only [ordK, List.map_nil, applyOut_none]
  rfl
theorem ordK_mod (b i : Nat) (os : List LOper) (log : List Done) (d : Option Nat) (bf : Nat) (X : List Nm) (tm : List LV) (H : Heap) (nx np : Nat) (v : LV) (n : Nm) (z : Option Cells) :
    ordK E b i os log d bf X tm H nx np (some ⟨v, [], [(n, z)]⟩) = if ordOk X [n] log b bf = true then evOpers E b (i + 1) os (⟨i, X, [n]⟩ :: log) ⟨put tm d v, upd H n z, nx, np⟩ else none := by
  simp only [ordK, List.map_nil, List.map_cons, applyOut_none]
  rfl

theorem only_at (X : List Nm) (H : Heap) (n : Nm) : only X H n = if X.contains n = true then H n else none := by
  simp only [only]

variable (gl : Nat → Option Cells) (tm : List LV) (H : Heap)
theorem touch_ld1 (x : LX) : touch gl tm H (.ld1 x) = nms D (evX gl tm x) := by simp [touch, deep, looks]
theorem touch_ld (n : Nat) (x : LX) : touch gl tm H (.ld n x) = nms D (evX gl tm x) := by simp [touch, deep, looks]
theorem touch_st (n : Nat) (x y : LX) : touch gl tm H (.st n x y) = nms D (evX gl tm x) ++ nms D (evX gl tm y) := by simp [touch, deep, looks]
theorem touch_call (f : LX) (as : List LX) : touch gl tm H (.call f as) = reach H FUEL [] ((evX gl tm f :: as.map (evX gl tm)).flatMap (nms D)) := by simp only [touch, deep, looks, if_true]
theorem touch_b2s (x : LX) : touch gl tm H (.b2s x) = nms D (evX gl tm x) := by simp [touch, deep, looks]
theorem touch_cvs (x : LX) : touch gl tm H (.cvs x) = nms D (evX gl tm x) := by simp [touch, deep, looks]
theorem touch_copy (n : Nat) (x y : LX) : touch gl tm H (.copy n x y) = nms D (evX gl tm x) ++ nms D (evX gl tm y) := by simp [touch, deep, looks]
theorem reach_none : reach H FUEL [] [] = [] := nf rfl
theorem nms_fn (g : FuncId) : nms D (.fn (.func g) [] []) = [] := nf rfl

end Go.LE
