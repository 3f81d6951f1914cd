/- Equations by which the reckoner is carried out on values with variables in them. -/
import Derived.Test.YtpkifhjlmkbdpaaDoorLeWords
set_option linter.unusedVariables false
set_option linter.unusedSimpArgs false
namespace Go.LE
variable {E : Env}

def envC (C : Ctx) (k : Nat) : Env := { gl := C.gl, cal := F C k, borrow := C.borrow }
theorem envC_cal (C : Ctx) (k : Nat) : (envC C k).cal = F C k := nf rfl
theorem envC_borrow (C : Ctx) (k : Nat) : (envC C k).borrow = C.borrow := nf rfl

theorem F_succ {C : Ctx} {k : Nat} {f : FuncId} {args : List LV} {objs : List Cells} {lf : LFun} (h : C.fns f = some lf) :
    F C (k + 1) f args objs = funSem (envC C k) k lf args objs := by
  simp only [F, h, envC]

theorem ev_skip (k : Nat) (st : St) : ev E k .skip st = some (.normal, st) := nf rfl
theorem ev_ret (k : Nat) (st : St) : ev E k .ret st = some (.ret, st) := nf rfl
theorem ev_exit (k : Nat) (i : Nat) (st : St) : ev E k (.exit i) st = some (.exit i, st) := nf rfl
theorem ev_seq (k : Nat) (a b : LCode) (st : St) : ev E k (.seq a b) st = andThen (ev E k b) (ev E k a st) := nf rfl
theorem ev_block (k i : Nat) (a : LCode) (st : St) : ev E k (.block i a) st = inBlock i (ev E k a st) := nf rfl
theorem ev_loop (k : Nat) (keep : List Bool) (a : LCode) (st : St) : ev E k (.loop keep a) st = loopN keep (ev E k a) k st := nf rfl
theorem andThen_normal (f : St → Option (Ex × St)) (st : St) : andThen f (some (.normal, st)) = f st := nf rfl
theorem andThen_ret (f : St → Option (Ex × St)) (st : St) : andThen f (some (.ret, st)) = some (.ret, st) := nf rfl
theorem andThen_exit (f : St → Option (Ex × St)) (i : Nat) (st : St) : andThen f (some (.exit i, st)) = some (.exit i, st) := nf rfl
theorem inBlock_normal (i : Nat) (st : St) : inBlock i (some (.normal, st)) = some (.normal, st) := nf rfl
theorem inBlock_ret (i : Nat) (st : St) : inBlock i (some (.ret, st)) = some (.ret, st) := nf rfl
theorem inBlock_exit (i j : Nat) (st : St) : inBlock i (some (.exit j, st)) = if j = i then some (.normal, st) else some (.exit j, st) := nf rfl

/-- what comes behind a condition -/
def condK (f g : St → Option (Ex × St)) (st : St) : LV → Option (Ex × St)
  | .v (.bool t) => if t = true then f st else g st
  | _ => none

theorem ev_cond (k : Nat) (x : LX) (a b : LCode) (tm : List LV) (H : Heap) (nx np : Nat) :
    ev E k (.cond x a b) ⟨tm, H, nx, np⟩ = condK (ev E k a) (ev E k b) ⟨tm, H, nx, np⟩ (evX E.gl tm x) := nf rfl
theorem condK_true (f g : St → Option (Ex × St)) (st : St) : condK f g st (Bo true) = f st := nf rfl
theorem condK_false (f g : St → Option (Ex × St)) (st : St) : condK f g st (Bo false) = g st := nf rfl

/-- what comes behind a region -/
def regK (nx n : Nat) : Option St → Option (Ex × St)
  | some st => some (.normal, ⟨st.tm, st.H, nx + n, st.np⟩)
  | none => none

theorem ev_region (k : Nat) (ops : List LOper) (tm : List LV) (H : Heap) (nx np : Nat) :
    ev E k (.region ops) ⟨tm, H, nx, np⟩ = regK nx ops.length (evOpers E nx 0 ops [] ⟨tm, H, nx, np⟩) := by
  simp only [ev, evRegion, Option.map_map]
  cases evOpers E nx 0 ops [] ⟨tm, H, nx, np⟩ <;> rfl
theorem regK_some (nx n : Nat) (tm : List LV) (H : Heap) (nx' np : Nat) : regK nx n (some ⟨tm, H, nx', np⟩) = some (.normal, ⟨tm, H, nx + n, np⟩) := nf rfl

theorem evOpers_nil (b i : Nat) (log : List Done) (st : St) : evOpers E b i [] log st = some st := nf rfl

/-- what comes behind an operation -/
def stepK (E : Env) (b i : Nat) (os : List LOper) (log : List Done) (d : Option Nat) (tm : List LV) (H : Heap) (nx np : Nat) : Option Out → Option St
  | some r => evOpers E b (i + 1) os log ⟨put tm d r.val, applyOut (b + i) r H, nx, np⟩
  | none => none

def guardK (E : Env) (b i : Nat) (os : List LOper) (log : List Done) (d : Option Nat) (op : LOp) (tm : List LV) (H : Heap) (nx np : Nat) (w : Bool) : LV → Option St
  | .v (.bool t) => if t = w then stepK E b i os log d tm H nx np (opRes E tm H (b + i) op) else evOpers E b (i + 1) os log ⟨put tm d Un, H, nx, np⟩
  | .v _ => evOpers E b (i + 1) os log ⟨put tm d Un, H, nx, np⟩
  | _ => none

theorem evOpers_cons (b i : Nat) (d : Option Nat) (op : LOp) (os : List LOper) (log : List Done) (tm : List LV) (H : Heap) (nx np : Nat) :
    evOpers E b i ({ dst := d, op := op, guard := none, ord := none } :: os) log ⟨tm, H, nx, np⟩ = stepK E b i os log d tm H nx np (opRes E tm H (b + i) op) := by
  rw [evOpers, evOper]
  simp only [wanted]
  cases opRes E tm H (b + i) op <;> rfl

theorem evOpers_cons_g (b i : Nat) (d : Option Nat) (op : LOp) (t : Nat) (w : Bool) (os : List LOper) (log : List Done) (tm : List LV) (H : Heap) (nx np : Nat) :
    evOpers E b i ({ dst := d, op := op, guard := some (t, w), ord := none } :: os) log ⟨tm, H, nx, np⟩ = guardK E b i os log d op tm H nx np w (tm.getD t .undef) := by
  rw [evOpers, evOper]
  simp only [wanted]
  generalize tm.getD t .undef = x
  cases x with
  | v y =>
    cases y with
    | bool t =>
      simp only [guardK]
      cases hw : t == w with
      | true =>
        have : t = w := by simpa using hw
        simp only [this, if_true]
        cases opRes E tm H (b + i) op <;> rfl
      | false =>
        have : ¬ t = w := by simpa using hw
        simp only [this, if_false]
        rfl
    | _ => rfl
  | _ => rfl

theorem stepK_pure (b i : Nat) (os : List LOper) (log : List Done) (d : Option Nat) (tm : List LV) (H : Heap) (nx np : Nat) (x : LV) :
    stepK E b i os log d tm H nx np (some ⟨x, [], []⟩) = evOpers E b (i + 1) os log ⟨put tm d x, H, nx, np⟩ := by
  simp only [stepK, applyOut_none]
  rfl

theorem guardK_true (b i : Nat) (os : List LOper) (log : List Done) (d : Option Nat) (op : LOp) (tm : List LV) (H : Heap) (nx np : Nat) :
    guardK E b i os log d op tm H nx np true (Bo true) = stepK E b i os log d tm H nx np (opRes E tm H (b + i) op) := nf rfl
theorem guardK_false (b i : Nat) (os : List LOper) (log : List Done) (d : Option Nat) (op : LOp) (tm : List LV) (H : Heap) (nx np : Nat) :
    guardK E b i os log d op tm H nx np true (Bo false) = evOpers E b (i + 1) os log ⟨put tm d Un, H, nx, np⟩ := nf rfl
theorem guardK_true' (b i : Nat) (os : List LOper) (log : List Done) (d : Option Nat) (op : LOp) (tm : List LV) (H : Heap) (nx np : Nat) :
    guardK E b i os log d op tm H nx np false (Bo false) = stepK E b i os log d tm H nx np (opRes E tm H (b + i) op) := nf rfl
theorem guardK_false' (b i : Nat) (os : List LOper) (log : List Done) (d : Option Nat) (op : LOp) (tm : List LV) (H : Heap) (nx np : Nat) :
    guardK E b i os log d op tm H nx np false (Bo true) = evOpers E b (i + 1) os log ⟨put tm d Un, H, nx, np⟩ := nf rfl
theorem guardK_un (b i : Nat) (os : List LOper) (log : List Done) (d : Option Nat) (op : LOp) (tm : List LV) (H : Heap) (nx np : Nat) (w : Bool) :
    guardK E b i os log d op tm H nx np w Un = evOpers E b (i + 1) os log ⟨put tm d Un, H, nx, np⟩ := nf rfl

theorem put_some (tm : List LV) (d : Nat) (x : LV) : put tm (some d) x = tm.set d x := nf rfl
theorem put_none (tm : List LV) (x : LV) : put tm none x = tm := nf rfl
theorem evX_t (gl : Nat → Option Cells) (tm : List LV) (n : Nat) : evX gl tm (.t n) = tm.getD n .undef := nf rfl
theorem evX_c (gl : Nat → Option Cells) (tm : List LV) (x : LV) : evX gl tm (.c x) = x := nf rfl

/-! ### operations -/

def outR : Option LV → Option Out
  | some x => some ⟨x, [], []⟩
  | none => none
theorem outR_some (x : LV) : outR (some x) = some ⟨x, [], []⟩ := nf rfl

def pickV (x y : LV) : LV → Option LV
  | .v (.bool t) => some (if t = true then x else y)
  | _ => none
theorem pickV_Bo (x y : LV) (t : Bool) : pickV x y (Bo t) = some (if t = true then x else y) := nf rfl
theorem pickV_true (x y : LV) : pickV x y (Bo true) = some x := nf rfl
theorem pickV_false (x y : LV) : pickV x y (Bo false) = some y := nf rfl

variable (tm : List LV) (H : Heap) (b : Nat)
theorem op_mv (x : LX) : opRes E tm H b (.mv x) = some ⟨evX E.gl tm x, [], []⟩ := nf rfl
theorem op_pick (c x y : LX) : opRes E tm H b (.pick c x y) = outR (pickV (evX E.gl tm x) (evX E.gl tm y) (evX E.gl tm c)) := by
  simp only [opRes, pureOp, heapOp, pickV]; split <;> (split <;> simp_all [outR])
theorem op_bin (op : BinOp) (e : EqT) (x y : LX) : opRes E tm H b (.bin op e x y) = outR (binV op e (evX E.gl tm x) (evX E.gl tm y)) := by
  simp only [opRes, pureOp, heapOp]; cases binV op e (evX E.gl tm x) (evX E.gl tm y) <;> rfl
theorem op_un (op : UnOp) (x : LX) : opRes E tm H b (.un op x) = outR (unV op (evX E.gl tm x)) := by
  simp only [opRes, pureOp, heapOp]; cases unV op (evX E.gl tm x) <;> rfl
theorem op_cvt (k : IntKind) (x : LX) : opRes E tm H b (.cvt k x) = outR (cvtV k (evX E.gl tm x)) := by
  simp only [opRes, pureOp, heapOp, cvtV]; split <;> (split <;> simp_all [outR])
theorem op_ext (x : LX) (i : Nat) (xs : List LV) (h : evX E.gl tm x = .tup xs) : opRes E tm H b (.ext x i) = outR xs[i]? := by
  simp only [opRes, pureOp, heapOp, h]; cases xs[i]? <;> rfl

/-! ### calls -/

def callV (E : Env) (H : Heap) (b : Nat) (args : List LV) : LV → Option Out
  | .fn (.func g) x y => callOp E H b g (x ++ args ++ y)
  | _ => none

theorem op_call (f : LX) (as : List LX) : opRes E tm H b (.call f as) = callV E H b (as.map (evX E.gl tm)) (evX E.gl tm f) := by
  simp only [opRes, pureOp, heapOp]
  generalize evX E.gl tm f = x
  cases x with
  | fn g _ _ => cases g <;> rfl
  | _ => rfl

theorem callV_fn (g : FuncId) (args : List LV) : callV E H b args (.fn (.func g) [] []) = callOp E H b g args := by simp [callV]

theorem lend_none (args : List LV) : ∀ i, lend H (fun _ => false) i args = some (args, []) := by
  induction args with
  | nil => intro i; rfl
  | cons x xs ih => intro i; simp [lend, ih]

def calK (b : Nat) : Option CallRes → Option Out
  | some res => some (backTo [] b res)
  | none => none

/-- a call whose arguments name no object, and that is lent nothing -/
theorem callOp_sc {g : FuncId} {args : List LV} (hb : E.borrow g = fun _ => false) (hn : args.flatMap (nms D) = []) (hr : args.map (ren D (toCallee [])) = args) :
    callOp E H b g args = calK b (E.cal g args []) := by
  unfold callOp
  rw [hb, lend_none]
  simp only [hn]
  have : reach H FUEL [] [] = [] := nf rfl
  simp only [this, List.any_nil, Bool.false_eq_true, if_false, hr, List.filterMap_nil, List.map_nil, List.isEmpty_nil, Bool.true_or, if_true]
  cases E.cal g args [] <;> rfl

theorem calK_plain {r : LV} (hr : ∀ π, ren D π r = r) : calK b (some (r, [], [])) = some ⟨r, [], []⟩ := by
  simp only [calK, backTo, List.map_nil, List.zipWith_nil_left, hr]

/-! ### functions -/

def retK (np : Nat) (rs : List LRes) : Option (Ex × St) → Option CallRes
  | some (.normal, st) => (resVal st rs).map (outOf np st)
  | some (.ret, st) => (resVal st rs).map (outOf np st)
  | _ => none

theorem funSem_eq (k n : Nat) (rs : List LRes) (body : LCode) (args : List LV) (objs : List Cells) :
    funSem E k { ntmps := n, results := rs, body := body } args objs = retK objs.length rs (ev E k body ⟨args ++ List.replicate (n - args.length) Un, inHeap objs, 2, objs.length⟩) := by
  unfold funSem retK
  rfl

theorem retK_ret (np : Nat) (rs : List LRes) (st : St) : retK np rs (some (.ret, st)) = (resVal st rs).map (outOf np st) := nf rfl
theorem retK_normal (np : Nat) (rs : List LRes) (st : St) : retK np rs (some (.normal, st)) = (resVal st rs).map (outOf np st) := nf rfl
theorem resVal_tmp (t : Nat) (tm : List LV) (H : Heap) (nx np : Nat) : resVal ⟨tm, H, nx, np⟩ [.tmp t] = some (tm.getD t .undef) := nf rfl
theorem resVal_none (st : St) : resVal st [] = some (.tup []) := nf rfl

theorem outOf_plain {st : St} {r : LV} (hn : nms D r = []) (hr : ∀ π, ren D π r = r) : outOf 0 st r = (r, [], []) := by
  simp only [outOf, canonNames, List.range_zero, List.map_nil, List.flatMap_cons, List.flatMap_nil, hn, List.append_nil]
  have : reach st.H FUEL [] [] = [] := nf rfl
  simp [this, hr]

/-! ### plain values -/

theorem nms_B8 (x : BitVec 8) : nms D (B8 x) = [] := nf rfl
theorem nms_B32 (x : BitVec 32) : nms D (B32 x) = [] := nf rfl
theorem nms_B64 (x : BitVec 64) : nms D (B64 x) = [] := nf rfl
theorem nms_I (x : Int) : nms D (I x) = [] := nf rfl
theorem nms_Bo (x : Bool) : nms D (Bo x) = [] := nf rfl
theorem nms_Un : nms D Un = [] := nf rfl
theorem ren_B8 (π : Nm → Option Nm) (x : BitVec 8) : ren D π (B8 x) = B8 x := nf rfl
theorem ren_B32 (π : Nm → Option Nm) (x : BitVec 32) : ren D π (B32 x) = B32 x := nf rfl
theorem ren_B64 (π : Nm → Option Nm) (x : BitVec 64) : ren D π (B64 x) = B64 x := nf rfl
theorem ren_I (π : Nm → Option Nm) (x : Int) : ren D π (I x) = I x := nf rfl
theorem ren_Bo (π : Nm → Option Nm) (x : Bool) : ren D π (Bo x) = Bo x := nf rfl
theorem ren_Un (π : Nm → Option Nm) : ren D π Un = Un := nf rfl

/-! ### what plain values come back as -/

theorem calK_B8 (b : Nat) (x : BitVec 8) : calK b (some (B8 x, [], [])) = some ⟨B8 x, [], []⟩ := calK_plain b fun _ => rfl
theorem outOf_B8 (st : St) (x : BitVec 8) : outOf 0 st (B8 x) = (B8 x, [], []) := outOf_plain rfl fun _ => rfl
theorem calK_B32 (b : Nat) (x : BitVec 32) : calK b (some (B32 x, [], [])) = some ⟨B32 x, [], []⟩ := calK_plain b fun _ => rfl
theorem outOf_B32 (st : St) (x : BitVec 32) : outOf 0 st (B32 x) = (B32 x, [], []) := outOf_plain rfl fun _ => rfl
theorem calK_B64 (b : Nat) (x : BitVec 64) : calK b (some (B64 x, [], [])) = some ⟨B64 x, [], []⟩ := calK_plain b fun _ => rfl
theorem outOf_B64 (st : St) (x : BitVec 64) : outOf 0 st (B64 x) = (B64 x, [], []) := outOf_plain rfl fun _ => rfl
theorem calK_I (b : Nat) (x : Int) : calK b (some (I x, [], [])) = some ⟨I x, [], []⟩ := calK_plain b fun _ => rfl
theorem outOf_I (st : St) (x : Int) : outOf 0 st (I x) = (I x, [], []) := outOf_plain rfl fun _ => rfl
theorem calK_Bo (b : Nat) (x : Bool) : calK b (some (Bo x, [], [])) = some ⟨Bo x, [], []⟩ := calK_plain b fun _ => rfl
theorem outOf_Bo (st : St) (x : Bool) : outOf 0 st (Bo x) = (Bo x, [], []) := outOf_plain rfl fun _ => rfl

/-! ### loops -/

theorem loopN_next {keep : List Bool} {f : St → Option (Ex × St)} {k : Nat} {st st1 st' : St} (hc : canon keep st = st1) (h : f st1 = some (.normal, st')) : loopN keep f (k + 1) st = loopN keep f k st' := by
  simp only [loopN, hc, h]

theorem loopN_stop {keep : List Bool} {f : St → Option (Ex × St)} {k : Nat} {st st1 st' : St} {i : Nat} (hc : canon keep st = st1) (h : f st1 = some (.exit i, st')) : loopN keep f (k + 1) st = some (.exit i, st') := by
  simp only [loopN, hc, h]

theorem loopN_ret {keep : List Bool} {f : St → Option (Ex × St)} {k : Nat} {st st1 st' : St} (hc : canon keep st = st1) (h : f st1 = some (.ret, st')) : loopN keep f (k + 1) st = some (.ret, st') := by
  simp only [loopN, hc, h]

/-- memory, where nothing is handed in and nothing is reached -/
def cH (H : Heap) : Heap := fun n => if n.1 = 0 then (H n).map (fun cs => cs.map (ren D (canonMap []))) else none

theorem canon_plain {keep : List Bool} {tm tm' : List LV} {H : Heap} {nx : Nat} (h0 : mask keep tm = tm') (h1 : tm'.flatMap (nms D) = []) (h2 : tm'.map (ren D (canonMap [])) = tm') :
    canon keep ⟨tm, H, nx, 0⟩ = ⟨tm', cH H, 2, 0⟩ := by
  have e : canonNames H 0 tm' = [] := by
    simp only [canonNames, List.range_zero, List.map_nil, List.nil_append, h1]
    rfl
  simp only [canon, h0, e, h2]
  congr 1
  funext n
  simp only [cH]
  by_cases h : n.1 = 0
  · simp only [h, if_true]
  · simp only [h, if_false]
    by_cases h' : n.1 = 1
    · simp only [h', if_true, List.getElem?_nil]
    · simp only [h', if_false]


def afterK (keep : List Bool) (f : St → Option (Ex × St)) (k : Nat) : Option (Ex × St) → Option (Ex × St)
  | some (.normal, st) => loopN keep f k st
  | r => r
theorem loopN_succ (keep : List Bool) (f : St → Option (Ex × St)) (k : Nat) (st : St) : loopN keep f (k + 1) st = afterK keep f k (f (canon keep st)) := by
  simp only [loopN]
  generalize f (canon keep st) = r
  match r with
  | none => rfl
  | some (.normal, st') => rfl
  | some (.exit i, st') => rfl
  | some (.ret, st') => rfl
theorem afterK_normal (keep : List Bool) (f : St → Option (Ex × St)) (k : Nat) (st : St) : afterK keep f k (some (.normal, st)) = loopN keep f k st := nf rfl
theorem afterK_exit (keep : List Bool) (f : St → Option (Ex × St)) (k i : Nat) (st : St) : afterK keep f k (some (.exit i, st)) = some (.exit i, st) := nf rfl
theorem afterK_ret (keep : List Bool) (f : St → Option (Ex × St)) (k : Nat) (st : St) : afterK keep f k (some (.ret, st)) = some (.ret, st) := nf rfl

theorem mask_nil (xs : List Bool) : mask xs [] = [] := by cases xs <;> rfl
theorem mask_true (b : List Bool) (x : LV) (xs : List LV) : mask (true :: b) (x :: xs) = x :: mask b xs := nf rfl
theorem mask_false (b : List Bool) (x : LV) (xs : List LV) : mask (false :: b) (x :: xs) = .undef :: mask b xs := nf rfl
theorem nms_undef : nms D .undef = [] := nf rfl
theorem ren_undef (π : Nm → Option Nm) : ren D π .undef = .undef := nf rfl
theorem canon_sc (keep : List Bool) (tm : List LV) (H : Heap) (nx : Nat) (h1 : (mask keep tm).flatMap (nms D) = []) (h2 : (mask keep tm).map (ren D (canonMap [])) = mask keep tm) :
    canon keep ⟨tm, H, nx, 0⟩ = ⟨mask keep tm, cH H, 2, 0⟩ := canon_plain rfl h1 h2
theorem cH_cH (H : Heap) (h : cH H = H) : cH (cH H) = cH H := by rw [h, h]
theorem cH_empty : cH (inHeap []) = inHeap [] := by
  funext n; simp [cH, inHeap]

end Go.LE
